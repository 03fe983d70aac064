/- Unfolding: the reference's walk. -/
import Derived.Test.YtfcbbahlhjdefaaGreatDoorUSn
import Derived.Test.YtfcbbahlhjdefaaGreatDoorRsQ
import Derived.Test.YtfcbbahlhjdefaaGreatDoorRsR
import Derived.Deep.DeepCutAuto
import Derived.Deep.CutBlock
namespace Go.Proofs.YtfcbbahlhjdefaaGreatDoor
open Go.RowKit
set_option maxHeartbeats 8000000 in
set_option maxRecDepth 100000 in
theorem walk_any {lo:Nat} (cs:List (List Ru)) (hc:CallsIn cs) (hv:∀ l,l∈cs→rusvalid l=true) (acc:Bool) (v:Value) (w0:World) (hs:Rss lo w0 v cs) :
  ∀ (f c:Nat) (inn:List Bx) (out:List Ft) (P:Nat) (Y:Nat→Prop) (ov iv:Value) (w:World),Ht cs f c→c<cs.length→Below w0.heap.size w0 w→(∀ k,Y k→k<w.heap.size)→Ou w0.heap.size P Y w ov out→BxsV (ZS P ov Y) w iv inn→rvalid inn=true→out.length≤60 →
   Calls Tryz.prog 32 #[.agg #[v,.bool acc],.int .i64 (c:Int),iv,.pointer (some ⟨P,0,none⟩)] w (WalkR w0.heap.size (ufWalk cs f c inn out) P Y ov w):=by
 obtain ⟨va,vc,rfl,hlc,hcm⟩:=hs.form
 unfold maxLen at hcm
 obtain ⟨n,hnn⟩:∃ n,cs.length=n:=⟨_,rfl⟩
 have HN:=Lib.hid hnn
 have HCI:=Lib.hid hc
 have HV:=Lib.hid hv
 intro f
 induction f with
 | zero=>intro c inn out P Y ov iv w h;exact h.elim
 | succ f ih =>
  intro c inn out P Y ov iv w hHt hcn hb0 hY hOu hin hvi ho60
  rw [hnn] at ih hcn hs hlc ⊢
  have HIH:=Lib.hid ih
  have HS0:=Lib.hid hs
  obtain ⟨l,hx⟩:∃ l,cs[c]?=some l:=⟨_,List.getElem?_eq_getElem (by omega)⟩
  have HX:=Lib.hid hx
  have HHT:=Lib.hid (show ∀ x,x∈callsAt cs c→Ht cs f x from hHt)
  have HU:=Lib.hid (show ufWalk cs (f+1) c inn out=ufGo (ufWalk cs f) l inn [] out by
   rw [ufWalk,getD_get hx])
  obtain ⟨U,hU⟩:∃ U,ufWalk cs (f+1) c inn out=U:=⟨_,rfl⟩
  rw [hU] at HU ⊢
  obtain ⟨S,hS0⟩:∃ S,w0.heap.size=S:=⟨_,rfl⟩
  have HSS:=Lib.hid hS0
  rw [hS0] at hb0 hOu HIH ⊢
  have HB0:=Lib.hid hb0
  have hSw:S≤w.heap.size:=by rw [← hS0];rw [← hS0] at hb0;exact hb0.size
  obtain ⟨W,hW⟩:∃ W,w.alloc (.cells #[.slice va n vc,.bool acc] 25)=W:=⟨_,rfl⟩
  have hal:Below w.heap.size w W:=by rw [← hW];exact bR.alloc (Nat.le_refl _) _
  have hl:w.heap.size<W.heap.size:=by rw [← hW];simp
  have q0:W.cell? ⟨w.heap.size,0,none⟩=some (.slice va n vc):=by rw [← hW];simp
  have q1:W.cell? ⟨w.heap.size,1,none⟩=some (.bool acc):=by rw [← hW];simp
  have HQ:=Lib.hid (And.intro q0 q1)
  obtain ⟨W1,hW1⟩:∃ W1,W.alloc (.cells #[] 41)=W1:=⟨_,rfl⟩
  have hal1:Below W.heap.size W W1:=by rw [← hW1];exact bR.alloc (Nat.le_refl _) _
  have HAL:=Lib.hid hal
  have hYW:∀ k,Y k→k<W.heap.size:=fun k hk=>by have:=hY k hk;omega
  have HYW:=Lib.hid hYW
  have hP:=hOu.lt
  have hown:∀ z,ov.ownBlock=some z→z<w.heap.size:=fun z hz=>(hOu.o.lt z hz).2
  have HPO:=Lib.hid (show w.heap.size≠P∧some w.heap.size≠ov.ownBlock from ⟨by omega,fun e=>by have:=hown _ e.symm;omega⟩)
  have R0:=Lib.hid (show WS S W P Y ov W1 iv (.slice (some ⟨W.heap.size,0,none⟩) 0 0) ov inn [] out from
   ⟨hOu.older (hal.trans (hal1.mono (by omega))) (fun k hk=>hk.elim (fun e=>.inr (by have h9:k=W.heap.size:=(by simpa [Value.ownBlock] using e);omega)) .inl),
    by
     rw [← hW1]
     exact LX.nil (Nat.le_refl _) (fun k hk=>by
      rcases hk with e | e | e
      ·omega
      ·have:=hown k e.symm;omega
      ·exact hYW k e),
    hin.older (hal.trans (hal1.mono (by omega))) (fun k hk=>by
     rcases hk with e | e | e | e
     ·exact .inr (.inl e)
     ·exact .inr (.inr (.inl e))
     ·exact .inl (by have h9:k=W.heap.size:=(by simpa [Value.ownBlock] using e);omega)
     ·exact .inr (.inr (.inr e))),Tw.of hal1,hal1.mono (by omega)⟩)
  obtain ⟨ia,ic,rfl,hil,him⟩:=hin.form
  obtain ⟨ln,hln⟩:∃ ln,l.length=ln:=⟨_,rfl⟩
  have HLN:=Lib.hid hln
  have HU0:=Lib.hid (show U=ufGo (ufWalk cs f) (l.drop 0) inn [] out from HU.out)
  clear hs hS0 hnn hin hOu hx hHt hU ih hal hal1 q0 q1 hown hY hYW hln HU hb0 hP
  go_enter Tryz.func32,Tryz.ntmps32
  go_wp2_with fail
  go_loopw [2,10,11] (fun iv lv i wr=>∃ (k:Nat) (ov1:Value) (inn1 left:List Bx) (out1:List Ft),k≤ln∧i=.int .i64 k∧Hid (WS S W P Y ov wr iv lv ov1 inn1 left out1)∧Hid (rvalid inn1=true∧rvalid left=true)∧out1.length≤60∧Hid (U=ufGo (ufWalk cs f) (l.drop k) inn1 left out1)) (fun _ _ i _=>ln - (intOf i).toNat)
  case atStart=>exact ⟨0,ov,inn,[],out,by omega,rfl,R0,Lib.hid ⟨hvi,rfl⟩,ho60,HU0⟩
  case round =>
   clear R0 HU0
   obtain ⟨k,ov1,inn1,left,out1,hk,rfl,HR,HVV,ho1,HU⟩:=hrel
   obtain ⟨ia1,ic1,rfl,hi1,hi2⟩:=HR.out.i.form
   obtain ⟨la,lc,rfl⟩:=HR.out.l.form
   unfold maxLen at hi2
   obtain ⟨wq,hwq⟩:∃ wq,wq=wr:=⟨_,rfl⟩
   subst hwq
   have hzW:=HR.out.tw.1
   have hSq:=HR.out.s
   have c9:=(HR.out.tw.cell (p:=⟨w.heap.size,0,none⟩) hl HPO.out.1 HPO.out.2).trans HQ.out.1
   have c9':=(HR.out.tw.cell (p:=⟨w.heap.size,1,none⟩) hl HPO.out.1 HPO.out.2).trans HQ.out.2
   have HSR:=Lib.hid (HS0.out.below (show Below w0.heap.size w0 wq by rw [HSS.out];exact HB0.out.trans ((HAL.out.mono hSw).trans HR.out.bl)))
   obtain ⟨b,o,sv,rfl,hbl,f0,hsv⟩:=HSR.out.at HX.out
   obtain ⟨sa,sc,rfl,hsl,hsm⟩:=hsv.form
   unfold maxLen at hsm
   rw [HLN.out] at f0 hsv hsl
   have HSV:=Lib.hid hsv
   obtain ⟨m,hm⟩:∃ m,inn1.length=m:=⟨_,rfl⟩
   have HM:=Lib.hid hm
   replace HR:=Lib.hid (show WS S W P Y ov wq (.slice ia1 m ic1) (.slice la left.length lc) ov1 inn1 left out1 by have:=HR.out;rwa [hm] at this)
   obtain ⟨q,hq⟩:∃ q,left.length=q:=⟨_,rfl⟩
   have HQL:=Lib.hid hq
   replace HR:=Lib.hid (show WS S W P Y ov wq (.slice ia1 m ic1) (.slice la q lc) ov1 inn1 left out1 by have:=HR.out;rwa [hq] at this)
   rw [hm] at hi1 ⊢
   rw [hq]
   have hm4:m≤400:=by rw [← hm];exact (rvalid_iff.1 HVV.out.1).1
   have hq4:q≤400:=by rw [← hq];exact (rvalid_iff.1 HVV.out.2).1
   have HBV:=Lib.hid (rvalid_iff.1 HVV.out.1).2
   clear hm hq hsv
   by_cases hlt:k<ln
   ·have i1:(k:Int)<(ln:Int):=by omega
    have i2:(0:Int)≤(k:Int):=by omega
    have j0:(0:Int)≤(c:Int):=by omega
    have j1:(c:Int)<(n:Int):=by omega
    obtain ⟨⟨ts,ra,rc⟩,hx2⟩:∃ x,l[k]?=some x:=⟨_,List.getElem?_eq_getElem (by rw [HLN.out];exact hlt)⟩
    obtain ⟨bb,oo,tv,hsb,hbl2,g0,g1,g2,hts⟩:=HSV.out.at hx2
    subst hsb
    obtain ⟨ta,tc,rfl, -, -⟩:=hts.form
    simp only at g0 g1 g2 hts
    have HOKR:=HV.out l (List.mem_of_getElem? HX.out)
    have HTV:=Lib.hid (show tsvalid ts=true from by
     unfold rusvalid at HOKR
     rw [Bool.and_eq_true,List.all_eq_true] at HOKR
     have h:=HOKR.1 _ (List.mem_of_getElem? hx2)
     rw [ruok_eq] at h
     simp only [Bool.and_eq_true] at h
     exact h.1.1)
    have HDR:=Lib.hid (drop_cons hx2)
    have HCI2:=Lib.hid (fun (h3:ra=3)=>(show (0≤rc∧rc<5∧rc<(n:Int))∧∀ q:Nat,rc=q→q∈callsAt cs c from ⟨by have:=HCI.out l (List.mem_of_getElem? HX.out) _ (List.mem_of_getElem? hx2) h3;rw [HN.out] at this;exact this,fun q hq=>by
     have:=HCI.out l (List.mem_of_getElem? HX.out) _ (List.mem_of_getElem? hx2) h3
     simp only at this
     exact callsAt_mem.2 ⟨by omega,⟨ts,ra,rc⟩,by rw [getD_get HX.out];exact List.mem_of_getElem? hx2,h3,hq⟩⟩))
    have HTS:=Lib.hid hts
    obtain ⟨tl,htl⟩:∃ tl,ts.length=tl:=⟨_,rfl⟩
    rw [htl] at g0 HTS
    obtain ⟨W4,hW4⟩:∃ W4,wq.alloc (.cells #[.slice ta tl tc,.int .i64 ra,.int .i64 rc] 101)=W4:=⟨_,rfl⟩
    have hal4:Below wq.heap.size wq W4:=by rw [← hW4];exact bR.alloc (Nat.le_refl _) _
    have hz4:wq.heap.size<W4.heap.size:=by rw [← hW4];simp
    have e0:W4.cell? ⟨wq.heap.size,0,none⟩=some (.slice ta tl tc):=by rw [← hW4];simp
    have e1:W4.cell? ⟨wq.heap.size,1,none⟩=some (.int .i64 ra):=by rw [← hW4];simp
    have e2:W4.cell? ⟨wq.heap.size,2,none⟩=some (.int .i64 rc):=by rw [← hW4];simp
    have HE4:=Lib.hid (And.intro e1 e2)
    obtain ⟨W6,hW6⟩:∃ W6,(W4.alloc (.cells #[] 41)).alloc (.cells #[] 41)=W6:=⟨_,rfl⟩
    have hal6:Below W4.heap.size W4 W6:=by rw [← hW6];exact (bR.alloc (Nat.le_refl _) _).alloc (by simp) _
    have HZ6:=Lib.hid (show W6.heap.size=W4.heap.size+2 by rw [← hW6];simp)
    have HTS6:=Lib.hid (HTS.out.below (hal4.trans (hal6.mono (by omega))))
    have e06:=(hal6.cell (p:=⟨wq.heap.size,0,none⟩) hz4).trans e0
    have HAL4:=Lib.hid (And.intro hal4 hal6)
    clear hts hx2 HOKR htl e0 e1 e2 hal4 hal6
    go_wp2_with fail
    refine (testsBoxE_any HTS6.out HTV.out).mono ?_
    rintro e w7 ⟨v7,rfl,hr7,hb7⟩
    have HBX:=Lib.hid (tbox_valid HTV.out)
    obtain ⟨B,hB⟩:∃ B,tbox ts=B:=⟨_,rfl⟩
    have HB:=Lib.hid hB
    rw [hB] at hr7 HBX
    have hB4:B.length=4:=(bvalid_four HBX.out).1
    obtain ⟨ba,bc,rfl, -, -⟩:=hr7.form
    rw [hB4] at hr7 ⊢
    obtain ⟨W8,hW8⟩:∃ W8,w7.alloc (.cells #[.slice ba 4 bc] 41)=W8:=⟨_,rfl⟩
    have hal8:Below w7.heap.size w7 W8:=by rw [← hW8];exact bR.alloc (Nat.le_refl _) _
    have hz8:w7.heap.size<W8.heap.size:=by rw [← hW8];simp
    have hz7:=hb7.size
    have d15:W8.cell? ⟨w7.heap.size,0,none⟩=some (.slice ba 4 bc):=by rw [← hW8];simp
    have HD15:=Lib.hid d15
    have HRB:=Lib.hid (hr7.below hal8)
    have HB68:=Lib.hid (show Below W6.heap.size W6 W8 from hb7.trans (hal8.mono hz7))
    obtain ⟨XX,hXX⟩:∃ XX:Nat→Prop,XX=fun z=>ZS P ov1 (YL (.slice la q lc) Y) z∨(W6.heap.size≤z∧z<W8.heap.size):=⟨_,rfl⟩
    have HXL:=Lib.hid (show ∀ z,ZS P ov1 (YL (.slice la q lc) Y) z→z<wq.heap.size from ZS.lt HR.out.ou (HR.out.yl HYW.out))
    have HXX:=Lib.hid (show ∀ z,XX z→z<W8.heap.size∧(z<wq.heap.size∨W6.heap.size≤z) from fun z hz=>by
     rw [hXX] at hz
     rcases hz with e | e
     ·have h9:=HXL.out z e
      have h8:=HAL4.out.2.size
      have h7:=HAL4.out.1.size
      have h6:=HB68.out.size
      exact ⟨by omega,.inl h9⟩
     ·exact ⟨e.2,.inr e.1⟩)
    have HXS:=Lib.hid (show (∀ z,ZS P ov1 (YL (.slice la q lc) Y) z→XX z)∧(∀ z,W6.heap.size≤z→z<W8.heap.size→XX z)∧(∀ z,XX z→ZS P ov1 (YL (.slice la q lc) Y) z∨W6.heap.size≤z) from by
     rw [hXX]
     exact ⟨fun z h=>.inl h,fun z h1 h2=>.inr ⟨h1,h2⟩,fun z h=>h.imp id (fun e=>e.1)⟩)
    have HT0:=Lib.hid (show Twl XX W4.heap.size W8 (.slice (some ⟨W4.heap.size,0,none⟩) 0 0) (.slice (some ⟨W4.heap.size+1,0,none⟩) 0 0) (ufit (inn1.take 0) B) (umiss (inn1.take 0) B) from
     Twl.nil (by rw [hW6];exact HB68.out) (fun z hz=>by
      have:=(HXX.out z hz).2
      have:=HZ6.out
      omega))
    have HB48:=Lib.hid (show Below W4.heap.size W4 W8 from HAL4.out.2.trans (HB68.out.mono HAL4.out.2.size))
    clear hr7 hb7 hal8 d15 hXX hB
    go_wp2_with fail
    go_loopw [13,14,16] (fun fv mv i wr=>∃ j:Nat,j≤m∧i=.int .i64 j∧Hid (Twl XX W4.heap.size wr fv mv (ufit (inn1.take j) B) (umiss (inn1.take j) B))∧Below W4.heap.size W4 wr∧Hid (Kp W6.heap.size W8 wr)) (fun _ _ i _=>m - (intOf i).toNat)
    case atStart=>exact ⟨0,by omega,rfl,HT0,HB48.out,Lib.hid (Kp.refl _ _)⟩
    case round =>
     clear HT0 hW8
     obtain ⟨j,hj,rfl,HT,hb4,HK⟩:=hrel
     obtain ⟨fa,fc,rfl⟩:=HT.out.a.form
     obtain ⟨ma,mc,rfl⟩:=HT.out.b.form
     have hbq:Below wq.heap.size wq wr:=HAL4.out.1.trans (hb4.mono (by omega))
     have hzr:=hb4.size
     have hz8r:=HK.out.size
     have hZ6:=HAL4.out.2.size
     by_cases hjm:j<m
     ·have j3:(j:Int)<(m:Int):=by omega
      have j4:(0:Int)≤(j:Int):=by omega
      obtain ⟨p,hp⟩:∃ p,inn1[j]?=some p:=⟨_,List.getElem?_eq_getElem (by rw [HM.out];exact hjm)⟩
      obtain ⟨b1,o1,sv,rfl,hbl1,d0,hps⟩:=HR.out.i.at hp
      have HPS:=Lib.hid hps
      have d0q:=d0
      have HPV:=Lib.hid (HBV.out p (List.mem_of_getElem? hp))
      have HSUF:=Lib.hid (And.intro (ufit_take (W:=B) hp) (umiss_take (W:=B) hp))
      have d1:=(hbq.cell (p:=⟨b1,o1+j,none⟩) hbl1).trans d0
      have hbl1r:b1<wr.heap.size:=Nat.lt_of_lt_of_le hbl1 hbq.size
      have hq15:w7.heap.size<wr.heap.size:=by omega
      have e15:wr.cell? ⟨w7.heap.size,0,none⟩=some (.slice ba 4 bc):=(World.cell?_of_block (a:=⟨w7.heap.size,0,none⟩) (HK.out.block w7.heap.size hz7 hz8)).trans HD15.out
      have HRBr:=Lib.hid (HRB.out.keep HK.out)
      obtain ⟨F,hF⟩:∃ F,ufit (inn1.take j) B=F:=⟨_,rfl⟩
      obtain ⟨Mi,hMi⟩:∃ Mi,umiss (inn1.take j) B=Mi:=⟨_,rfl⟩
      have hFl:F.length≤400:=by rw [← hF];exact Nat.le_trans (ufit_len _ _) (by rw [List.length_take];omega)
      have hMl:Mi.length≤1600:=by rw [← hMi];exact Nat.le_trans (umiss_len _ _) (by rw [List.length_take];omega)
      rw [hF,hMi] at HT HSUF ⊢
      obtain ⟨M,hM⟩:∃ M,bmeet p B=M:=⟨_,rfl⟩
      have HMM:=Lib.hid hM
      rw [hM] at HSUF
      have HLEN:=Lib.hid (show M=[]∨2≤M.length from .inr (by rw [← hM,bmeet_len (bvalid_iff.1 HPV.out).1 hB4];omega))
      obtain ⟨PX,hPX⟩:∃ PX:Nat→Prop,PX=fun z=>some z=(Value.slice fa F.length fc).ownBlock∨some z=(Value.slice ma Mi.length mc).ownBlock∨XX z:=⟨_,rfl⟩
      have HPX:=Lib.hid hPX
      have HPL:=Lib.hid (show ∀ z,PX z→z<wr.heap.size from fun z hz=>by
       rw [hPX] at hz
       rcases hz with e | e | e
       ·exact (HT.out.a.1.lt z e.symm).2
       ·exact (HT.out.b.1.lt z e.symm).2
       ·have:=(HXX.out z e).1
        omega)
      clear hp hps d0 hF hMi hM hPX
      go_wp2_with fail
      refine wp_region_turn2 (W:=wr) 7 [BIs (.slice (some ⟨b1,o1,none⟩) m ic1),BIs (.int .i64 (j:Int)),BIs (.pointer (some ⟨b1,o1+j,none⟩)),BIs (.agg #[sv]),BIs (.agg #[.slice ba 4 bc]),(fun w v=>∃ z,v=.agg #[z]∧RwV PX w z M),(BP wr)] (bof [BIs (.slice (some ⟨b1,o1,none⟩) m ic1),BIs (.int .i64 (j:Int)),BIs (.pointer (some ⟨b1,o1+j,none⟩)),BIs (.agg #[sv]),BIs (.agg #[.slice ba 4 bc]),(fun _ _=>True),(BQV PX M wr),(fun _ _=>True)]) (by kernel_rfl) (by decide) (fun u=>by simp only [frU,Act.put,List.setIfInBounds_toArray,List.set_cons_succ,List.set_cons_zero,Nat.zero_add,Nat.reduceAdd];exact rfl) (by kernel_rfl) ⟨bst_is _,bst_is _,bst_is _,bst_is _,bst_is _,(fun _ _ _ hb ⟨z,h1,h2⟩=>⟨z,h1,h2.below hb⟩),(bst_bp _),trivial⟩ ?_ ?_;(exact ⟨stT rfl (by decide) (by kernel_rfl) (fun u w3 hC hd hI Q K hK=>by (go_step;exact hK _ _ rfl bR rfl)),stT rfl (by decide) (by kernel_rfl) (fun u w3 hC hd hI Q K hK=>by (go_step;exact hK _ _ rfl bR rfl)),stT rfl (by decide) (by kernel_rfl) (fun u w3 hC hd hI Q K hK=>by (rw [bis (w:=w3) (hd 0 rfl)] at hK ⊢;rw [bis (w:=w3) (hd 1 rfl)] at hK ⊢;go_step;exact hK _ _ rfl bR rfl)),stT rfl (by decide) (by kernel_rfl) (fun u w3 hC hd hI Q K hK=>by (rw [bis (w:=w3) (hd 2 rfl)] at hK ⊢;have z0:=(hC.cell (p:=⟨b1,o1+j,none⟩) hbl1r).trans d1;go_step;exact hK _ _ rfl bR rfl)),stT rfl (by decide) (by kernel_rfl) (fun u w3 hC hd hI Q K hK=>by (have z0:=(hC.cell (p:=⟨w7.heap.size,0,none⟩) hq15).trans e15;go_step;exact hK _ _ rfl bR rfl)),stT rfl (by decide) (by kernel_rfl) (fun u w3 hC hd hI Q K hK=>by (rw [bis (w:=w3) (hd 3 rfl)] at hK ⊢;rw [bis (w:=w3) (hd 4 rfl)] at hK ⊢;go_step;refine (l10Meet_u HMM.out (HPS.out.rws.below (hbq.trans (hC.mono hbq.size))) (HRBr.out.below hC) HPV.out HBX.out).mono ?_;rintro e w4 ⟨z4,rfl,ho4,hb4'⟩;exact hK _ _ rfl hb4' ⟨z4,rfl,RwV.high ho4 (fun q hq=>Nat.lt_of_lt_of_le (HPL.out q hq) hC.size)⟩)),stT rfl (by decide) (by kernel_rfl) (fun u w3 hC hd hI Q K hK=>by (go_step;exact hK _ _ rfl (bR.alloc (Nat.le_refl _) _) (BP.new _ hC.size))),stTt rfl (by decide) (fun u w3 hC hd Q K hK=>by (dsimp only at hK ⊢;obtain ⟨qq,hu,hq1,hq2,hqf,hqo⟩:=hd 6 rfl;rw [hu] at hK ⊢;have hkeep:=hu;clear hu;obtain ⟨z,hu,hz⟩:=hd 5 rfl;rw [hu] at hK ⊢;clear hu;have e0:=hqf 0;have e1:=hqo.1;obtain ⟨a0,c0,rfl, -, -⟩:=hz.rws.form;go_step;have hQ:=BQV.mk1 hC hq1 hq2 hqf hqo HLEN.out hz;refine hK _ _ rfl (fun j hj h=>?_) ?_;(match j,hj,h with | 0,_,h=>exact h | 1,_,h=>exact h | 2,_,h=>exact h | 3,_,h=>exact h | 4,_,h=>exact h | 5,_,_=>exact trivial | 6,_,h=>exact (show BQV PX M wr _ _ by rw [hkeep];exact hQ) | j+7,hj,_=>exact absurd hj (by omega));exact trivial)),trivial⟩);intro u w3 hF;rw [bis (w:=w3) (hF 0 (by decide))];rw [bis (w:=w3) (hF 1 (by decide))];rw [bis (w:=w3) (hF 2 (by decide))];rw [bis (w:=w3) (hF 3 (by decide))];rw [bis (w:=w3) (hF 4 (by decide))];have h8:=hF 6 (by decide);generalize u 6=v8 at *;generalize u 5=vx5 at *;generalize u 7=vx7 at *;clear hF
      obtain ⟨q9,a9,n9,p9,rfl,hq1,hq2,g0',gf,hr3,hb3⟩:=h8
      have HR3:=Lib.hid hr3
      have hz3:=hb3.size
      obtain ⟨em,hem⟩:∃ em,bempty M=em:=⟨_,rfl⟩
      have HEM:=Lib.hid hem
      clear hr3
      go_wp2_with fail
      refine (l10Empty_b HR3.out.rws hem).mono ?_
      rintro e w4 ⟨rfl,hb44⟩
      have hb34:=hb3.trans (hb44.mono hz3)
      have hz34:=hb34.size
      have HR4:=Lib.hid (HR3.out.below hb44)
      have k0:=(hb44.cell (p:=⟨q9,0,none⟩) hq2).trans g0'
      have HT4:=Lib.hid (HT.out.below hb34)
      have hbq4:=hbq.trans (hb34.mono hbq.size)
      have hb44':=hb4.trans (hb34.mono hzr)
      have HK4:=Lib.hid (HK.out.trans (Kp.of hb34))
      have hXw4:∀ z,XX z→z<w4.heap.size:=fun z hz=>by have:=(HXX.out z hz).1;omega
      clear hem g0' gf hb44
      cases em
      ·obtain ⟨v5,w5,hrun,hT5,hx5,hB5⟩:=Twl.push 35 HT4.out (by rw [HPX.out] at HR4;exact HR4.out) (by omega) (by have:=hb44'.size;omega) hXw4
       have HT5:=Lib.hid hT5
       have hb5:=hb44'.trans hB5
       have hz5:=hB5.size
       have HK5:=Lib.hid (show Kp W6.heap.size W8 w5 from ⟨by have:=hb5.size;have:=HK4.out.size;omega,fun z z1 z2=>(hx5 z (HXS.out.2.1 z z1 z2)).trans (HK4.out.block z z1 z2)⟩)
       have hbq5:Below wq.heap.size wq w5:=HAL4.out.1.trans (hb5.mono (by omega))
       have HFF:=Lib.hid (show ufit (inn1.take (j+1)) B=F++[M] by rw [HSUF.out.1,HEM.out];rfl)
       have hFl5:(F++[M]).length≤401:=by simp;omega
       clear hT5 hx5 hB5
       go_wp2_with (at_builtin;refine wpList_append_run rfl _ _ 35 rfl rfl rfl hrun ?_)
       have d1':=(hbq5.cell (p:=⟨b1,o1+j,none⟩) hbl1).trans d0q
       have hbl1':b1<w5.heap.size:=Nat.lt_of_lt_of_le hbl1 hbq5.size
       have hq15':w7.heap.size<w5.heap.size:=by have:=HK5.out.size;omega
       have e15':w5.cell? ⟨w7.heap.size,0,none⟩=some (.slice ba 4 bc):=(World.cell?_of_block (a:=⟨w7.heap.size,0,none⟩) (HK5.out.block w7.heap.size hz7 hz8)).trans HD15.out
       have HRB5:=Lib.hid (HRB.out.keep HK5.out)
       obtain ⟨PM,hPM⟩:∃ PM:Nat→Prop,PM=fun z=>some z=(Value.slice ma Mi.length mc).ownBlock∨some z=(v5).ownBlock∨XX z:=⟨_,rfl⟩
       have HPM:=Lib.hid hPM
       have HPML:=Lib.hid (show ∀ z,PM z→z<w5.heap.size from fun z hz=>by
        rw [hPM] at hz
        rcases hz with e | e | e
        ·exact (HT5.out.b.1.lt z e.symm).2
        ·exact (HT5.out.a.1.lt z e.symm).2
        ·have:=(HXX.out z e).1
         have:=HK5.out.size
         omega)
       have HPMO:=Lib.hid (show ∀ z,PM z→wq.heap.size≤z∨ZS P ov1 (YL (.slice la q lc) Y) z from fun z hz=>by
        rw [hPM] at hz
        rcases hz with e | e | e
        ·exact .inl (by have:=(HT5.out.b.1.lt z e.symm).1;omega)
        ·exact .inl (by have:=(HT5.out.a.1.lt z e.symm).1;omega)
        ·exact (HXS.out.2.2 z e).elim .inr (fun e=>.inl (by omega)))
       have hz49:=hb5.size
       clear hPM
       refine wp_region_turn (W:=w5) 7 [BIs (.slice ma Mi.length mc),BIs (.slice (some ⟨b1,o1,none⟩) m ic1),BIs (.int .i64 (j:Int)),BIs (.pointer (some ⟨b1,o1+j,none⟩)),BIs (.agg #[sv]),BIs (.agg #[.slice ba 4 bc]),(fun w v=>∃ lo,BxX PM lo w v (bcut p B)∧∀ z,PM z→lo > z)] (fun w7' v7=>Twl XX W4.heap.size w7' (v5) v7 (F++[M]) (Mi++bcut p B)∧Below W4.heap.size W4 w7'∧Kp W6.heap.size W8 w7') (by kernel_rfl) (by decide) (fun u=>by simp only [frU,Act.put,List.setIfInBounds_toArray,List.set_cons_succ,List.set_cons_zero,Nat.zero_add,Nat.reduceAdd];exact rfl) (by kernel_rfl) ⟨bst_is _,bst_is _,bst_is _,bst_is _,bst_is _,bst_is _,(fun _ _ _ hb ⟨lo,h,h2⟩=>⟨lo,h.below hb,h2⟩),trivial⟩ ?_ ?_;(exact ⟨stT rfl (by decide) (by kernel_rfl) (fun u w3 hC hd hI Q K hK=>by (rw [show u 8=.slice ma Mi.length mc from hI 8 _ rfl (by kernel_rfl)] at hK ⊢;go_step;exact hK _ _ rfl bR rfl)),stT rfl (by decide) (by kernel_rfl) (fun u w3 hC hd hI Q K hK=>by (go_step;exact hK _ _ rfl bR rfl)),stT rfl (by decide) (by kernel_rfl) (fun u w3 hC hd hI Q K hK=>by (go_step;exact hK _ _ rfl bR rfl)),stT rfl (by decide) (by kernel_rfl) (fun u w3 hC hd hI Q K hK=>by (rw [bis (w:=w3) (hd 1 rfl)] at hK ⊢;rw [bis (w:=w3) (hd 2 rfl)] at hK ⊢;go_step;exact hK _ _ rfl bR rfl)),stT rfl (by decide) (by kernel_rfl) (fun u w3 hC hd hI Q K hK=>by (rw [bis (w:=w3) (hd 3 rfl)] at hK ⊢;have z1:=(hC.cell (p:=⟨b1,o1+j,none⟩) hbl1').trans d1';go_step;exact hK _ _ rfl bR rfl)),stT rfl (by decide) (by kernel_rfl) (fun u w3 hC hd hI Q K hK=>by (have z1:=(hC.cell (p:=⟨w7.heap.size,0,none⟩) hq15').trans e15';go_step;exact hK _ _ rfl bR rfl)),stT rfl (by decide) (by kernel_rfl) (fun u w3 hC hd hI Q K hK=>by (rw [bis (w:=w3) (hd 4 rfl)] at hK ⊢;rw [bis (w:=w3) (hd 5 rfl)] at hK ⊢;go_step;refine (l11Cut_any PM p B _ _ _ (fun z hz=>Nat.lt_of_lt_of_le (HPML.out z hz) hC.size) (RwV.older HPS.out (hbq5.trans (hC.mono hbq5.size)) HPMO.out) (HRB5.out.below hC) HPV.out HBX.out).mono ?_;rintro e w4 ⟨z4,rfl,ho4,hb4⟩;exact hK _ _ rfl hb4 ⟨_,ho4,fun z hz=>Nat.lt_of_lt_of_le (HPML.out z hz) hC.size⟩)),stTa rfl (by decide) (fun u w3 hC hd Q K hK=>by (dsimp only at hK ⊢;rw [bis (w:=w3) (hd 0 rfl)] at hK ⊢;have ho1:=hd 6 rfl;generalize u 6=v1 at *;obtain ⟨lo1,ho1,hp1⟩:=ho1;have hbd:=hMl;have hbe:=bcut_len p B;obtain ⟨v7,w7',hrun,hG,hkk,hBB⟩:=Twl.push2 35 (HT5.out.below hC) (by rw [← HPM.out];exact ho1.bv hp1) (by omega) (by have:=hC.size;omega) (fun z hz=>by have:=(HXX.out z hz).1;have:=HK5.out.size;have:=hC.size;omega);refine wp_append_run (.tmp 64) (.tmp 70) 35 rfl rfl rfl hrun ?_;exact hK _ _ rfl ⟨hG,(hb5.trans (hC.mono hz49)).trans hBB,by have:=hBB.size;have:=hC.size;have:=HK5.out.size;omega,fun z z1 z2=>(hkk z (HXS.out.2.1 z z1 z2)).trans ((hC.block z (by have:=HK5.out.size;omega)).trans (HK5.out.block z z1 z2))⟩)),stTe rfl (by decide) (by kernel_rfl) (fun u w3 hG Q K hK=>by (dsimp only at hK ⊢;go_step;exact hK _ rfl hG)),trivial⟩);intro u w9 hG;have h8:=hG 8 (by decide) (by decide);clear hG;generalize u 0=vx0 at *;generalize u 1=vx1 at *;generalize u 2=vx2 at *;generalize u 3=vx3 at *;generalize u 4=vx4 at *;generalize u 5=vx5 at *;generalize u 6=vx6 at *;generalize u 7=vx7 at *;generalize u 8=v8 at *
       obtain ⟨hT8,hB8,hK8⟩:=h8
       have HT8:=Lib.hid (show Twl XX W4.heap.size w9 (v5) v8 (ufit (inn1.take (j+1)) B) (umiss (inn1.take (j+1)) B) by rw [HFF.out,HSUF.out.2];exact hT8)
       clear hT8
       go_wp2
       go_roundw
       case rel=>exact ⟨j+1,by omega,by go_num,HT8,hB8,Lib.hid hK8⟩
       case measure=>simp [intOf];omega
      ·have HFF:=Lib.hid (show ufit (inn1.take (j+1)) B=F by rw [HSUF.out.1,HEM.out];simp)
       go_wp2_with fail
       have d1':=(hbq4.cell (p:=⟨b1,o1+j,none⟩) hbl1).trans d0q
       have hbl1':b1<w4.heap.size:=Nat.lt_of_lt_of_le hbl1 hbq4.size
       have hq15':w7.heap.size<w4.heap.size:=by have:=HK4.out.size;omega
       have e15':w4.cell? ⟨w7.heap.size,0,none⟩=some (.slice ba 4 bc):=(World.cell?_of_block (a:=⟨w7.heap.size,0,none⟩) (HK4.out.block w7.heap.size hz7 hz8)).trans HD15.out
       have HRB5:=Lib.hid (HRB.out.keep HK4.out)
       obtain ⟨PM,hPM⟩:∃ PM:Nat→Prop,PM=fun z=>some z=(Value.slice ma Mi.length mc).ownBlock∨some z=(Value.slice fa F.length fc).ownBlock∨XX z:=⟨_,rfl⟩
       have HPM:=Lib.hid hPM
       have HPML:=Lib.hid (show ∀ z,PM z→z<w4.heap.size from fun z hz=>by
        rw [hPM] at hz
        rcases hz with e | e | e
        ·exact (HT4.out.b.1.lt z e.symm).2
        ·exact (HT4.out.a.1.lt z e.symm).2
        ·have:=(HXX.out z e).1
         have:=HK4.out.size
         omega)
       have HPMO:=Lib.hid (show ∀ z,PM z→wq.heap.size≤z∨ZS P ov1 (YL (.slice la q lc) Y) z from fun z hz=>by
        rw [hPM] at hz
        rcases hz with e | e | e
        ·exact .inl (by have:=(HT4.out.b.1.lt z e.symm).1;omega)
        ·exact .inl (by have:=(HT4.out.a.1.lt z e.symm).1;omega)
        ·exact (HXS.out.2.2 z e).elim .inr (fun e=>.inl (by omega)))
       have hz49:=hb44'.size
       clear hPM
       refine wp_region_turn (W:=w4) 7 [BIs (.slice ma Mi.length mc),BIs (.slice (some ⟨b1,o1,none⟩) m ic1),BIs (.int .i64 (j:Int)),BIs (.pointer (some ⟨b1,o1+j,none⟩)),BIs (.agg #[sv]),BIs (.agg #[.slice ba 4 bc]),(fun w v=>∃ lo,BxX PM lo w v (bcut p B)∧∀ z,PM z→lo > z)] (fun w7' v7=>Twl XX W4.heap.size w7' (Value.slice fa F.length fc) v7 F (Mi++bcut p B)∧Below W4.heap.size W4 w7'∧Kp W6.heap.size W8 w7') (by kernel_rfl) (by decide) (fun u=>by simp only [frU,Act.put,List.setIfInBounds_toArray,List.set_cons_succ,List.set_cons_zero,Nat.zero_add,Nat.reduceAdd];exact rfl) (by kernel_rfl) ⟨bst_is _,bst_is _,bst_is _,bst_is _,bst_is _,bst_is _,(fun _ _ _ hb ⟨lo,h,h2⟩=>⟨lo,h.below hb,h2⟩),trivial⟩ ?_ ?_;(exact ⟨stT rfl (by decide) (by kernel_rfl) (fun u w3 hC hd hI Q K hK=>by (rw [show u 8=.slice ma Mi.length mc from hI 8 _ rfl (by kernel_rfl)] at hK ⊢;go_step;exact hK _ _ rfl bR rfl)),stT rfl (by decide) (by kernel_rfl) (fun u w3 hC hd hI Q K hK=>by (go_step;exact hK _ _ rfl bR rfl)),stT rfl (by decide) (by kernel_rfl) (fun u w3 hC hd hI Q K hK=>by (go_step;exact hK _ _ rfl bR rfl)),stT rfl (by decide) (by kernel_rfl) (fun u w3 hC hd hI Q K hK=>by (rw [bis (w:=w3) (hd 1 rfl)] at hK ⊢;rw [bis (w:=w3) (hd 2 rfl)] at hK ⊢;go_step;exact hK _ _ rfl bR rfl)),stT rfl (by decide) (by kernel_rfl) (fun u w3 hC hd hI Q K hK=>by (rw [bis (w:=w3) (hd 3 rfl)] at hK ⊢;have z1:=(hC.cell (p:=⟨b1,o1+j,none⟩) hbl1').trans d1';go_step;exact hK _ _ rfl bR rfl)),stT rfl (by decide) (by kernel_rfl) (fun u w3 hC hd hI Q K hK=>by (have z1:=(hC.cell (p:=⟨w7.heap.size,0,none⟩) hq15').trans e15';go_step;exact hK _ _ rfl bR rfl)),stT rfl (by decide) (by kernel_rfl) (fun u w3 hC hd hI Q K hK=>by (rw [bis (w:=w3) (hd 4 rfl)] at hK ⊢;rw [bis (w:=w3) (hd 5 rfl)] at hK ⊢;go_step;refine (l11Cut_any PM p B _ _ _ (fun z hz=>Nat.lt_of_lt_of_le (HPML.out z hz) hC.size) (RwV.older HPS.out (hbq4.trans (hC.mono hbq4.size)) HPMO.out) (HRB5.out.below hC) HPV.out HBX.out).mono ?_;rintro e w4 ⟨z4,rfl,ho4,hb4⟩;exact hK _ _ rfl hb4 ⟨_,ho4,fun z hz=>Nat.lt_of_lt_of_le (HPML.out z hz) hC.size⟩)),stTa rfl (by decide) (fun u w3 hC hd Q K hK=>by (dsimp only at hK ⊢;rw [bis (w:=w3) (hd 0 rfl)] at hK ⊢;have ho1:=hd 6 rfl;generalize u 6=v1 at *;obtain ⟨lo1,ho1,hp1⟩:=ho1;have hbd:=hMl;have hbe:=bcut_len p B;obtain ⟨v7,w7',hrun,hG,hkk,hBB⟩:=Twl.push2 35 (HT4.out.below hC) (by rw [← HPM.out];exact ho1.bv hp1) (by omega) (by have:=hC.size;omega) (fun z hz=>by have:=(HXX.out z hz).1;have:=HK4.out.size;have:=hC.size;omega);refine wp_append_run (.tmp 64) (.tmp 70) 35 rfl rfl rfl hrun ?_;exact hK _ _ rfl ⟨hG,(hb44'.trans (hC.mono hz49)).trans hBB,by have:=hBB.size;have:=hC.size;have:=HK4.out.size;omega,fun z z1 z2=>(hkk z (HXS.out.2.1 z z1 z2)).trans ((hC.block z (by have:=HK4.out.size;omega)).trans (HK4.out.block z z1 z2))⟩)),stTe rfl (by decide) (by kernel_rfl) (fun u w3 hG Q K hK=>by (dsimp only at hK ⊢;go_step;exact hK _ rfl hG)),trivial⟩);intro u w9 hG;have h8:=hG 8 (by decide) (by decide);clear hG;generalize u 0=vx0 at *;generalize u 1=vx1 at *;generalize u 2=vx2 at *;generalize u 3=vx3 at *;generalize u 4=vx4 at *;generalize u 5=vx5 at *;generalize u 6=vx6 at *;generalize u 7=vx7 at *;generalize u 8=v8 at *
       obtain ⟨hT8,hB8,hK8⟩:=h8
       have HT8:=Lib.hid (show Twl XX W4.heap.size w9 (Value.slice fa F.length fc) v8 (ufit (inn1.take (j+1)) B) (umiss (inn1.take (j+1)) B) by rw [HFF.out,HSUF.out.2];exact hT8)
       clear hT8
       go_wp2
       go_roundw
       case rel=>exact ⟨j+1,by omega,by go_num,HT8,hB8,Lib.hid hK8⟩
       case measure=>simp [intOf];omega
     ·have HTK:=Lib.hid (show inn1.take j=inn1 from List.take_of_length_le (by rw [HM.out];omega))
      rw [HTK.out] at HT ⊢
      obtain ⟨F,hF⟩:∃ F,ufit inn1 B=F:=⟨_,rfl⟩
      obtain ⟨Mi,hMi⟩:∃ Mi,umiss inn1 B=Mi:=⟨_,rfl⟩
      have hFl:F.length≤400:=by rw [← hF];exact Nat.le_trans (ufit_len _ _) (by rw [HM.out];omega)
      have hMl:Mi.length≤1600:=by rw [← hMi];exact Nat.le_trans (umiss_len _ _) (by rw [HM.out];omega)
      have HFM:=Lib.hid (And.intro hF hMi)
      rw [hF,hMi] at HT ⊢
      obtain ⟨rf,hrf⟩:∃ rf,rvalid F=rf:=⟨_,rfl⟩
      obtain ⟨rm,hrm⟩:∃ rm,rvalid Mi=rm:=⟨_,rfl⟩
      have HRF:=Lib.hid hrf
      have HRM:=Lib.hid hrm
      obtain ⟨nf,hnf⟩:∃ nf,F.length=nf:=⟨_,rfl⟩
      obtain ⟨nm,hnm⟩:∃ nm,Mi.length=nm:=⟨_,rfl⟩
      have HNF:=Lib.hid (And.intro hnf hnm)
      rw [hnf,hnm] at HT ⊢
      rw [hnf] at hFl
      rw [hnm] at hMl
      have hTB:=HT.out.b.v.bxs
      clear hF hMi hnf hnm hrf hrm
      go_wp2_with fail
      refine (specRV_b HT.out.a.v.bxs HRF.out).mono ?_
      rintro e w9 ⟨rfl,hb9⟩
      have HTB:=Lib.hid (hTB.below hb9)
      have hbq9:=hbq.trans (hb9.mono hbq.size)
      have hb49:=hb4.trans (hb9.mono hzr)
      have HT9:=Lib.hid (HT.out.below hb9)
      clear hTB hb9
      cases rf
      ·have HN2:=Lib.hid (show U=none by rw [HU.out,HDR.out];exact ufGo_bad (.inl (by rw [HB.out,HFM.out.1];exact HRF.out)))
       go_wp2
       go_ret2
       exact ⟨_,_,_,by rw [HN2.out];rfl,(HAL.out.mono hSw).trans (HR.out.bl.trans (hbq9.mono hSq)),fun L o h=>by rw [HN2.out] at h;cases h⟩
      ·go_wp2_with fail
       refine (specRV_b HTB.out HRM.out).mono ?_
       rintro e wt ⟨rfl,hb10⟩
       have hbqt:=hbq9.trans (hb10.mono hbq9.size)
       have hb4t:=hb49.trans (hb10.mono hb49.size)
       have HTT:=Lib.hid (show Twl (ZS P ov1 (YL (.slice la q lc) Y)) W4.heap.size wt (.slice fa nf fc) (.slice ma nm mc) F Mi from
        ⟨(HT9.out.below hb10).a.sub (fun z hz=>hz.imp id (HXS.out.1 z)),(HT9.out.below hb10).b.sub (fun z hz=>hz.imp id (HXS.out.1 z))⟩)
       have HRT:=Lib.hid (HR.out.below hbqt)
       have hzt:=hb4t.size
       have c1t:=(hb4t.cell (p:=⟨wq.heap.size,1,none⟩) hz4).trans HE4.out.1
       have c2t:=(hb4t.cell (p:=⟨wq.heap.size,2,none⟩) hz4).trans HE4.out.2
       have hzqt:wq.heap.size<wt.heap.size:=by omega
       have HHB:=Lib.hid (And.intro hbqt hb4t)
       clear HTB HT9 HT HK hb10 hbq9 hb49 hbqt hb4t hbq hb4
       cases rm
       ·have HN2:=Lib.hid (show U=none by rw [HU.out,HDR.out];exact ufGo_bad (.inr (by rw [HB.out,HFM.out.2];exact HRM.out)))
        go_wp2
        go_ret2
        exact ⟨_,_,_,by rw [HN2.out];rfl,(HAL.out.mono hSw).trans (HR.out.bl.trans (HHB.out.1.mono hSq)),fun L o h=>by rw [HN2.out] at h;cases h⟩
       ·have HUA:=Lib.hid (show (∀ i l' o',ufAct (ufWalk cs f) ⟨ts,ra,rc⟩ F Mi left out1=some (i,l',o')→U=if rvalid i && decide (o'.length≤60) then ufGo (ufWalk cs f) (l.drop (k+1)) i l' o' else none)∧(ufAct (ufWalk cs f) ⟨ts,ra,rc⟩ F Mi left out1=none→U=none) from by
         have hF:=HFM.out.1
         have hMi:=HFM.out.2
         subst hF hMi
         rw [← HB.out] at HRF HRM ⊢
         exact ⟨fun i l' o' h=>by rw [HU.out,HDR.out,ufGo_step HRF.out HRM.out h],fun h=>by rw [HU.out,HDR.out,ufGo_none h]⟩)
        have HFV:=Lib.hid (show ∀ z,z∈F→bvalid z=true from (rvalid_iff.1 HRF.out).2)
        go_upto_block 4 with fail
        go_cut [10,14] (fun lv mv wx=>∃ (ov2:Value) (inn2 left2:List Bx) (out2:List Ft),Hid (ufAct (ufWalk cs f) ⟨ts,ra,rc⟩ F Mi left out1=some (inn2,left2,out2))∧Hid (WS S W P Y ov wx mv lv ov2 inn2 left2 out2)∧inn2.length≤3000∧left2.length≤900∧out2.length≤500)
        case first =>
         by_cases h1:ra=1
         ·subst h1
          have HAC:=Lib.hid (show ufAct (ufWalk cs f) ⟨ts,1,rc⟩ F Mi left out1=some (Mi,left,out1++F.map (fun b=>⟨b,true⟩)) by
           unfold ufAct
           simp)
          go_wp2_with fail
          go_loopw [18] (fun i wr=>∃ (j:Nat) (ov2:Value),j≤nf∧i=.int .i64 j∧Hid (Ou S P (YL (.slice la q lc) Y) wr ov2 (out1++(F.take j).map (fun b=>⟨b,true⟩))∧Tw P ov1 ov2 wt wr∧Below S wt wr)) (fun i _=>nf - (intOf i).toNat)
          case atStart=>exact ⟨0,ov1,by omega,rfl,Lib.hid ⟨by simpa using HRT.out.ou,Tw.refl _ _ _,Below.refl _ _⟩⟩
          case round =>
           obtain ⟨j,ov2,hj,rfl,HJ⟩:=hrel
           have hztr:=HJ.out.2.1.1
           by_cases hjm2:j<nf
           ·have j3:(j:Int)<(nf:Int):=by omega
            have j4:(0:Int)≤(j:Int):=by omega
            obtain ⟨p,hp⟩:∃ p,F[j]?=some p:=⟨_,List.getElem?_eq_getElem (by rw [HNF.out.1];exact hjm2)⟩
            have HFJ:=Lib.hid ((HTT.out.a.v.sub (fun z hz=>.inr hz)).tw HJ.out.2.1)
            obtain ⟨b1,o1,sv,rfl,hbl1,d0,hps⟩:=HFJ.out.at hp
            have HPS:=Lib.hid hps
            have HSU:=Lib.hid (show (F.take (j+1)).map (fun b=>(⟨b,true⟩:Ft))=(F.take j).map (fun b=>⟨b,true⟩)++[⟨p,true⟩] by rw [List.take_add_one,hp,Option.toList_some,List.map_append];rfl)
            have hPq:wq.heap.size≠P∧some wq.heap.size≠ov1.ownBlock:=by
             have h1:=HR.out.ou.lt
             exact ⟨by omega,fun e=>by have:=(HR.out.ou.o.lt _ e.symm).2;omega⟩
            have c1r:=(HJ.out.2.1.cell (p:=⟨wq.heap.size,1,none⟩) hzqt hPq.1 hPq.2).trans c1t
            have hzqr:wq.heap.size<wr.heap.size:=by omega
            have y0:=HJ.out.1.c
            have hPl:=HJ.out.1.lt
            obtain ⟨oa2,oc2,rfl⟩:=HJ.out.1.o.form
            obtain ⟨O,hO⟩:∃ O,out1++(F.take j).map (fun b=>(⟨b,true⟩:Ft))=O:=⟨_,rfl⟩
            have HO:=Lib.hid hO
            have hOl:O.length≤500:=by rw [← hO,List.length_append,List.length_map,List.length_take];omega
            rw [hO] at HJ y0 HPS
            obtain ⟨sva,svc,rfl, -, -⟩:=hps.rws.form
            have hYr:∀ z,YL (.slice la q lc) Y z→z<wr.heap.size:=fun z hz=>by have:=HRT.out.yl HYW.out z hz;omega
            clear hp hps hO
            go_wp2_with fail
            refine wp_region_u (W:=wr) 13 16 [BIs (.pointer (some ⟨P,0,none⟩)),BIs (.pointer (some ⟨P,0,none⟩)),BIs (.pointer (some ⟨P,0,none⟩)),BIs (.slice oa2 O.length oc2),BIs (.slice (some ⟨b1,o1,none⟩) nf fc),BIs (.int .i64 (j:Int)),BIs (.pointer (some ⟨b1,o1+j,none⟩)),BIs (.agg #[.slice sva p.length svc]),BIs (.pointer (some ⟨wq.heap.size,1,none⟩)),BIs (.int .i64 1),BIs (.bool true),BIs (.agg #[.slice sva p.length svc,.bool true]),(LitU ⟨.slice sva p.length svc,true⟩)] (bof [BIs (.pointer (some ⟨P,0,none⟩)),BIs (.pointer (some ⟨P,0,none⟩)),BIs (.pointer (some ⟨P,0,none⟩)),BIs (.slice oa2 O.length oc2),BIs (.slice (some ⟨b1,o1,none⟩) nf fc),BIs (.int .i64 (j:Int)),BIs (.pointer (some ⟨b1,o1+j,none⟩)),BIs (.agg #[.slice sva p.length svc]),BIs (.pointer (some ⟨wq.heap.size,1,none⟩)),BIs (.int .i64 1),BIs (.bool true),BIs (.agg #[.slice sva p.length svc,.bool true]),(fun _ _=>True),(fun w v=>w.cell? ⟨P,0,none⟩=some (.slice oa2 O.length oc2)∧w.frozen? ⟨P,0,none⟩=false∧Ou S P (YL (.slice la q lc) Y) (w.setCell ⟨P,0,none⟩ v) v (O++[⟨p,true⟩])∧Tw P (.slice oa2 O.length oc2) v wr (w.setCell ⟨P,0,none⟩ v)∧Below S wr (w.setCell ⟨P,0,none⟩ v)),BIs (.pointer (some ⟨P,0,none⟩))]) (fun w9=>∃ v,Ou S P (YL (.slice la q lc) Y) w9 v (O++[⟨p,true⟩])∧Tw P (.slice oa2 O.length oc2) v wr w9∧Below S wr w9) (by kernel_rfl) (by decide) rfl (fun u=>by simp only [frU,Act.put,List.setIfInBounds_toArray,List.set_cons_succ,List.set_cons_zero,Nat.zero_add,Nat.reduceAdd];exact rfl) (by kernel_rfl) (by kernel_rfl) ⟨bst_is _,bst_is _,bst_is _,bst_is _,bst_is _,bst_is _,bst_is _,bst_is _,bst_is _,bst_is _,bst_is _,bst_is _,(litU_st _),trivial⟩ ?_ ?_;(exact ⟨stUf rfl (by decide) (fun u w3 hC hd Q K hK=>by (go_step;exact hK _ _ rfl bR rfl)) (fun u w3 hd Q K hK=>by (dsimp only at hK ⊢;go_step;exact hK _ rfl rfl)),stU rfl (by decide) (by kernel_rfl) (fun u w3 hC hd Q K hK=>by (go_step;exact hK _ _ rfl bR rfl)),stU rfl (by decide) (by kernel_rfl) (fun u w3 hC hd Q K hK=>by (rw [bis (w:=w3) (hd 1 rfl)] at hK ⊢;go_step;exact hK _ _ rfl bR rfl)),stU rfl (by decide) (by kernel_rfl) (fun u w3 hC hd Q K hK=>by (rw [bis (w:=w3) (hd 2 rfl)] at hK ⊢;have z0:=(hC.cell (p:=⟨P,0,none⟩) hPl).trans y0;go_step;exact hK _ _ rfl bR rfl)),stU rfl (by decide) (by kernel_rfl) (fun u w3 hC hd Q K hK=>by (go_step;exact hK _ _ rfl bR rfl)),stU rfl (by decide) (by kernel_rfl) (fun u w3 hC hd Q K hK=>by (go_step;exact hK _ _ rfl bR rfl)),stU rfl (by decide) (by kernel_rfl) (fun u w3 hC hd Q K hK=>by (rw [bis (w:=w3) (hd 4 rfl)] at hK ⊢;rw [bis (w:=w3) (hd 5 rfl)] at hK ⊢;go_step;exact hK _ _ rfl bR rfl)),stU rfl (by decide) (by kernel_rfl) (fun u w3 hC hd Q K hK=>by (rw [bis (w:=w3) (hd 6 rfl)] at hK ⊢;have z0:=(hC.cell (p:=⟨b1,o1+j,none⟩) hbl1).trans d0;go_step;exact hK _ _ rfl bR rfl)),stU rfl (by decide) (by kernel_rfl) (fun u w3 hC hd Q K hK=>by (go_step;exact hK _ _ rfl bR rfl)),stU rfl (by decide) (by kernel_rfl) (fun u w3 hC hd Q K hK=>by (rw [bis (w:=w3) (hd 8 rfl)] at hK ⊢;have z0:=(hC.cell (p:=⟨wq.heap.size,1,none⟩) hzqr).trans c1r;go_step;exact hK _ _ rfl bR rfl)),stU rfl (by decide) (by kernel_rfl) (fun u w3 hC hd Q K hK=>by (rw [bis (w:=w3) (hd 9 rfl)] at hK ⊢;go_step;exact hK _ _ rfl bR rfl)),stU rfl (by decide) (by kernel_rfl) (fun u w3 hC hd Q K hK=>by (rw [bis (w:=w3) (hd 7 rfl)] at hK ⊢;rw [bis (w:=w3) (hd 10 rfl)] at hK ⊢;go_step;exact hK _ _ rfl bR rfl)),stU rfl (by decide) (by kernel_rfl) (fun u w3 hC hd Q K hK=>by (rw [bis (w:=w3) (hd 11 rfl)] at hK ⊢;go_step;exact hK _ _ rfl (bR.alloc (Nat.le_refl _) _) (litU_new _ _ _))),stUt rfl (by decide) (fun u w3 hC hd Q K hK=>by (dsimp only at hK ⊢;rw [bis (w:=w3) (hd 3 rfl)] at hK ⊢;obtain ⟨gg,hu,hlt5⟩:=hd 12 rfl;rw [hu] at hK ⊢;have hkeep:=hu;clear hu;rw [hkeep] at hlt5;obtain ⟨v5,w5,hrun,hc5,hf5,hO5,hT5,hB5⟩:=Ou.push 27 (HJ.out.1.below hC) hlt5 (HPS.out.below hC) (by omega) (by have:=HJ.out.2.2.size;have:=hC.size;have:=HR.out.s;omega) (fun z hz=>Nat.lt_of_lt_of_le (hYr z hz) hC.size);refine wp_append_run (.tmp 98) (.tmp 107) 27 rfl rfl rfl hrun ?_;refine hK _ _ rfl (fun j hj h=>?_) ?_;(match j,hj,h with | 0,_,h=>exact h | 1,_,h=>exact h | 2,_,h=>exact h | 3,_,h=>exact h | 4,_,h=>exact h | 5,_,h=>exact h | 6,_,h=>exact h | 7,_,h=>exact h | 8,_,h=>exact h | 9,_,h=>exact h | 10,_,h=>exact h | 11,_,h=>exact h | 12,_,_=>exact trivial | j+13,hj,_=>exact absurd hj (by omega));exact ⟨hc5,hf5,hO5,(Tw.of hC).trans hT5,(hC.mono (by have:=HR.out.s;omega)).trans hB5⟩)),stUb rfl (by decide) (by decide) (by kernel_rfl) (fun u w3 hd Q K hK=>by (dsimp only at hK ⊢;rw [bis (w:=w3) (hd 0 rfl)] at hK ⊢;go_step;exact hK _ rfl rfl)),stUl rfl (by decide) rfl (fun u w3 hd Q K hK=>by (dsimp only at hK ⊢;rw [bis (w:=w3) (hd 14 rfl)] at hK ⊢;have h5:=hd 13 rfl;generalize u 13=v5 at *;obtain ⟨qa,qn,qc,hqq⟩:∃ a n c,v5=Value.slice a n c:=(let ⟨a,c,h⟩:=h5.2.2.1.o.form;⟨a,_,c,h⟩);subst hqq;have e0:=h5.1;have e1:=h5.2.1;go_step;exact hK _ _ rfl ⟨_,h5.2.2.1,h5.2.2.2.1,h5.2.2.2.2⟩)),trivial⟩);intro u w9 hD
            obtain ⟨v9,hO9,hT9,hB9⟩:=hD
            have HJ9:=Lib.hid (show Ou S P (YL (.slice la q lc) Y) w9 v9 (out1++(F.take (j+1)).map (fun b=>⟨b,true⟩))∧Tw P ov1 v9 wt w9∧Below S wt w9 from ⟨by rw [HSU.out,← List.append_assoc,HO.out];exact hO9,HJ.out.2.1.trans hT9,HJ.out.2.2.trans hB9⟩)
            clear hO9 hT9 hB9
            go_wp2
            go_roundw
            case rel=>exact ⟨j+1,v9,by omega,by go_num,HJ9⟩
            case measure=>simp [intOf];omega
           ·have hjn:F.take j=F:=List.take_of_length_le (by rw [HNF.out.1];omega)
            rw [hjn] at HJ
            have HW5:=Lib.hid ((HRT.out.on (HTT.out.b.v.sub (fun z hz=>.inr hz))).to HJ.out.1 HJ.out.2.1 HJ.out.2.2)
            go_wp2_with fail
            go_meet
            exact ⟨ov2,Mi,left,_,HAC,HW5,by rw [HNF.out.2];omega,by rw [HQL.out];omega,by rw [List.length_append,List.length_map,HNF.out.1];omega⟩
         ·by_cases h2:ra=2
          ·subst h2
           have HAC:=Lib.hid (show ufAct (ufWalk cs f) ⟨ts,2,rc⟩ F Mi left out1=some (Mi,left,out1++F.map (fun b=>⟨b,false⟩)) by
            unfold ufAct
            simp)
           go_wp2_with fail
           go_loopw [18] (fun i wr=>∃ (j:Nat) (ov2:Value),j≤nf∧i=.int .i64 j∧Hid (Ou S P (YL (.slice la q lc) Y) wr ov2 (out1++(F.take j).map (fun b=>⟨b,false⟩))∧Tw P ov1 ov2 wt wr∧Below S wt wr)) (fun i _=>nf - (intOf i).toNat)
           case atStart=>exact ⟨0,ov1,by omega,rfl,Lib.hid ⟨by simpa using HRT.out.ou,Tw.refl _ _ _,Below.refl _ _⟩⟩
           case round =>
            obtain ⟨j,ov2,hj,rfl,HJ⟩:=hrel
            have hztr:=HJ.out.2.1.1
            by_cases hjm2:j<nf
            ·have j3:(j:Int)<(nf:Int):=by omega
             have j4:(0:Int)≤(j:Int):=by omega
             obtain ⟨p,hp⟩:∃ p,F[j]?=some p:=⟨_,List.getElem?_eq_getElem (by rw [HNF.out.1];exact hjm2)⟩
             have HFJ:=Lib.hid ((HTT.out.a.v.sub (fun z hz=>.inr hz)).tw HJ.out.2.1)
             obtain ⟨b1,o1,sv,rfl,hbl1,d0,hps⟩:=HFJ.out.at hp
             have HPS:=Lib.hid hps
             have HSU:=Lib.hid (show (F.take (j+1)).map (fun b=>(⟨b,false⟩:Ft))=(F.take j).map (fun b=>⟨b,false⟩)++[⟨p,false⟩] by rw [List.take_add_one,hp,Option.toList_some,List.map_append];rfl)
             have hPq:wq.heap.size≠P∧some wq.heap.size≠ov1.ownBlock:=by
              have h1:=HR.out.ou.lt
              exact ⟨by omega,fun e=>by have:=(HR.out.ou.o.lt _ e.symm).2;omega⟩
             have c1r:=(HJ.out.2.1.cell (p:=⟨wq.heap.size,1,none⟩) hzqt hPq.1 hPq.2).trans c1t
             have hzqr:wq.heap.size<wr.heap.size:=by omega
             have y0:=HJ.out.1.c
             have hPl:=HJ.out.1.lt
             obtain ⟨oa2,oc2,rfl⟩:=HJ.out.1.o.form
             obtain ⟨O,hO⟩:∃ O,out1++(F.take j).map (fun b=>(⟨b,false⟩:Ft))=O:=⟨_,rfl⟩
             have HO:=Lib.hid hO
             have hOl:O.length≤500:=by rw [← hO,List.length_append,List.length_map,List.length_take];omega
             rw [hO] at HJ y0 HPS
             obtain ⟨sva,svc,rfl, -, -⟩:=hps.rws.form
             have hYr:∀ z,YL (.slice la q lc) Y z→z<wr.heap.size:=fun z hz=>by have:=HRT.out.yl HYW.out z hz;omega
             clear hp hps hO
             go_wp2_with fail
             refine wp_region_u (W:=wr) 13 16 [BIs (.pointer (some ⟨P,0,none⟩)),BIs (.pointer (some ⟨P,0,none⟩)),BIs (.pointer (some ⟨P,0,none⟩)),BIs (.slice oa2 O.length oc2),BIs (.slice (some ⟨b1,o1,none⟩) nf fc),BIs (.int .i64 (j:Int)),BIs (.pointer (some ⟨b1,o1+j,none⟩)),BIs (.agg #[.slice sva p.length svc]),BIs (.pointer (some ⟨wq.heap.size,1,none⟩)),BIs (.int .i64 2),BIs (.bool false),BIs (.agg #[.slice sva p.length svc,.bool false]),(LitU ⟨.slice sva p.length svc,false⟩)] (bof [BIs (.pointer (some ⟨P,0,none⟩)),BIs (.pointer (some ⟨P,0,none⟩)),BIs (.pointer (some ⟨P,0,none⟩)),BIs (.slice oa2 O.length oc2),BIs (.slice (some ⟨b1,o1,none⟩) nf fc),BIs (.int .i64 (j:Int)),BIs (.pointer (some ⟨b1,o1+j,none⟩)),BIs (.agg #[.slice sva p.length svc]),BIs (.pointer (some ⟨wq.heap.size,1,none⟩)),BIs (.int .i64 2),BIs (.bool false),BIs (.agg #[.slice sva p.length svc,.bool false]),(fun _ _=>True),(fun w v=>w.cell? ⟨P,0,none⟩=some (.slice oa2 O.length oc2)∧w.frozen? ⟨P,0,none⟩=false∧Ou S P (YL (.slice la q lc) Y) (w.setCell ⟨P,0,none⟩ v) v (O++[⟨p,false⟩])∧Tw P (.slice oa2 O.length oc2) v wr (w.setCell ⟨P,0,none⟩ v)∧Below S wr (w.setCell ⟨P,0,none⟩ v)),BIs (.pointer (some ⟨P,0,none⟩))]) (fun w9=>∃ v,Ou S P (YL (.slice la q lc) Y) w9 v (O++[⟨p,false⟩])∧Tw P (.slice oa2 O.length oc2) v wr w9∧Below S wr w9) (by kernel_rfl) (by decide) rfl (fun u=>by simp only [frU,Act.put,List.setIfInBounds_toArray,List.set_cons_succ,List.set_cons_zero,Nat.zero_add,Nat.reduceAdd];exact rfl) (by kernel_rfl) (by kernel_rfl) ⟨bst_is _,bst_is _,bst_is _,bst_is _,bst_is _,bst_is _,bst_is _,bst_is _,bst_is _,bst_is _,bst_is _,bst_is _,(litU_st _),trivial⟩ ?_ ?_;(exact ⟨stUf rfl (by decide) (fun u w3 hC hd Q K hK=>by (go_step;exact hK _ _ rfl bR rfl)) (fun u w3 hd Q K hK=>by (dsimp only at hK ⊢;go_step;exact hK _ rfl rfl)),stU rfl (by decide) (by kernel_rfl) (fun u w3 hC hd Q K hK=>by (go_step;exact hK _ _ rfl bR rfl)),stU rfl (by decide) (by kernel_rfl) (fun u w3 hC hd Q K hK=>by (rw [bis (w:=w3) (hd 1 rfl)] at hK ⊢;go_step;exact hK _ _ rfl bR rfl)),stU rfl (by decide) (by kernel_rfl) (fun u w3 hC hd Q K hK=>by (rw [bis (w:=w3) (hd 2 rfl)] at hK ⊢;have z0:=(hC.cell (p:=⟨P,0,none⟩) hPl).trans y0;go_step;exact hK _ _ rfl bR rfl)),stU rfl (by decide) (by kernel_rfl) (fun u w3 hC hd Q K hK=>by (go_step;exact hK _ _ rfl bR rfl)),stU rfl (by decide) (by kernel_rfl) (fun u w3 hC hd Q K hK=>by (go_step;exact hK _ _ rfl bR rfl)),stU rfl (by decide) (by kernel_rfl) (fun u w3 hC hd Q K hK=>by (rw [bis (w:=w3) (hd 4 rfl)] at hK ⊢;rw [bis (w:=w3) (hd 5 rfl)] at hK ⊢;go_step;exact hK _ _ rfl bR rfl)),stU rfl (by decide) (by kernel_rfl) (fun u w3 hC hd Q K hK=>by (rw [bis (w:=w3) (hd 6 rfl)] at hK ⊢;have z0:=(hC.cell (p:=⟨b1,o1+j,none⟩) hbl1).trans d0;go_step;exact hK _ _ rfl bR rfl)),stU rfl (by decide) (by kernel_rfl) (fun u w3 hC hd Q K hK=>by (go_step;exact hK _ _ rfl bR rfl)),stU rfl (by decide) (by kernel_rfl) (fun u w3 hC hd Q K hK=>by (rw [bis (w:=w3) (hd 8 rfl)] at hK ⊢;have z0:=(hC.cell (p:=⟨wq.heap.size,1,none⟩) hzqr).trans c1r;go_step;exact hK _ _ rfl bR rfl)),stU rfl (by decide) (by kernel_rfl) (fun u w3 hC hd Q K hK=>by (rw [bis (w:=w3) (hd 9 rfl)] at hK ⊢;go_step;exact hK _ _ rfl bR rfl)),stU rfl (by decide) (by kernel_rfl) (fun u w3 hC hd Q K hK=>by (rw [bis (w:=w3) (hd 7 rfl)] at hK ⊢;rw [bis (w:=w3) (hd 10 rfl)] at hK ⊢;go_step;exact hK _ _ rfl bR rfl)),stU rfl (by decide) (by kernel_rfl) (fun u w3 hC hd Q K hK=>by (rw [bis (w:=w3) (hd 11 rfl)] at hK ⊢;go_step;exact hK _ _ rfl (bR.alloc (Nat.le_refl _) _) (litU_new _ _ _))),stUt rfl (by decide) (fun u w3 hC hd Q K hK=>by (dsimp only at hK ⊢;rw [bis (w:=w3) (hd 3 rfl)] at hK ⊢;obtain ⟨gg,hu,hlt5⟩:=hd 12 rfl;rw [hu] at hK ⊢;have hkeep:=hu;clear hu;rw [hkeep] at hlt5;obtain ⟨v5,w5,hrun,hc5,hf5,hO5,hT5,hB5⟩:=Ou.push 27 (HJ.out.1.below hC) hlt5 (HPS.out.below hC) (by omega) (by have:=HJ.out.2.2.size;have:=hC.size;have:=HR.out.s;omega) (fun z hz=>Nat.lt_of_lt_of_le (hYr z hz) hC.size);refine wp_append_run (.tmp 98) (.tmp 107) 27 rfl rfl rfl hrun ?_;refine hK _ _ rfl (fun j hj h=>?_) ?_;(match j,hj,h with | 0,_,h=>exact h | 1,_,h=>exact h | 2,_,h=>exact h | 3,_,h=>exact h | 4,_,h=>exact h | 5,_,h=>exact h | 6,_,h=>exact h | 7,_,h=>exact h | 8,_,h=>exact h | 9,_,h=>exact h | 10,_,h=>exact h | 11,_,h=>exact h | 12,_,_=>exact trivial | j+13,hj,_=>exact absurd hj (by omega));exact ⟨hc5,hf5,hO5,(Tw.of hC).trans hT5,(hC.mono (by have:=HR.out.s;omega)).trans hB5⟩)),stUb rfl (by decide) (by decide) (by kernel_rfl) (fun u w3 hd Q K hK=>by (dsimp only at hK ⊢;rw [bis (w:=w3) (hd 0 rfl)] at hK ⊢;go_step;exact hK _ rfl rfl)),stUl rfl (by decide) rfl (fun u w3 hd Q K hK=>by (dsimp only at hK ⊢;rw [bis (w:=w3) (hd 14 rfl)] at hK ⊢;have h5:=hd 13 rfl;generalize u 13=v5 at *;obtain ⟨qa,qn,qc,hqq⟩:∃ a n c,v5=Value.slice a n c:=(let ⟨a,c,h⟩:=h5.2.2.1.o.form;⟨a,_,c,h⟩);subst hqq;have e0:=h5.1;have e1:=h5.2.1;go_step;exact hK _ _ rfl ⟨_,h5.2.2.1,h5.2.2.2.1,h5.2.2.2.2⟩)),trivial⟩);intro u w9 hD
             obtain ⟨v9,hO9,hT9,hB9⟩:=hD
             have HJ9:=Lib.hid (show Ou S P (YL (.slice la q lc) Y) w9 v9 (out1++(F.take (j+1)).map (fun b=>⟨b,false⟩))∧Tw P ov1 v9 wt w9∧Below S wt w9 from ⟨by rw [HSU.out,← List.append_assoc,HO.out];exact hO9,HJ.out.2.1.trans hT9,HJ.out.2.2.trans hB9⟩)
             clear hO9 hT9 hB9
             go_wp2
             go_roundw
             case rel=>exact ⟨j+1,v9,by omega,by go_num,HJ9⟩
             case measure=>simp [intOf];omega
            ·have hjn:F.take j=F:=List.take_of_length_le (by rw [HNF.out.1];omega)
             rw [hjn] at HJ
             have HW5:=Lib.hid ((HRT.out.on (HTT.out.b.v.sub (fun z hz=>.inr hz))).to HJ.out.1 HJ.out.2.1 HJ.out.2.2)
             go_wp2_with fail
             go_meet
             exact ⟨ov2,Mi,left,_,HAC,HW5,by rw [HNF.out.2];omega,by rw [HQL.out];omega,by rw [List.length_append,List.length_map,HNF.out.1];omega⟩
          ·have h1b:(ra==1)=false:=by simpa using h1
           have h2b:(ra==2)=false:=by simpa using h2
           by_cases h4:ra=4
           ·subst h4
            have HAC:=Lib.hid (show ufAct (ufWalk cs f) ⟨ts,4,rc⟩ F Mi left out1=some (Mi,left++F,out1) by
             unfold ufAct
             simp)
            obtain ⟨v5,w5,hrun,hW5⟩:=HRT.out.leave (HTT.out.a.v.sub (fun z hz=>.inr hz)) (HTT.out.b.v.sub (fun z hz=>.inr hz)) (by rw [HNF.out.1,HQL.out];omega) HYW.out (by omega)
            have HW5:=Lib.hid hW5
            clear hW5
            go_wp2_with (at_builtin;refine wpList_append_run rfl _ _ 35 rfl rfl rfl hrun ?_)
            go_meet
            exact ⟨ov1,Mi,left++F,out1,HAC,HW5,by rw [HNF.out.2];omega,by rw [List.length_append,HQL.out,HNF.out.1];omega,by omega⟩
           ·have h4b:(ra==4)=false:=by simpa using h4
            by_cases h3:ra=3
            ·subst h3
             obtain ⟨⟨p0,p5,pn⟩,hcall⟩:=HCI2.out rfl
             obtain ⟨qc,rfl⟩:=Int.eq_ofNat_of_zero_le p0
             have hqn:qc<n:=by omega
             have HHq:=HHT.out qc (hcall qc rfl)
             obtain ⟨UC,hUC⟩:∃ UC,ufWalk cs f qc F out1=UC:=⟨_,rfl⟩
             have HUC:=Lib.hid hUC
             have HAC:=Lib.hid (show ufAct (ufWalk cs f) ⟨ts,3,(qc:Int)⟩ F Mi left out1=UC.map (fun q=>(Mi++q.1,left,q.2)) by
              unfold ufAct
              simp [hUC])
             have hmv:∀ z,some z=(Value.slice ma nm mc).ownBlock→wq.heap.size≤z∧z<wt.heap.size:=fun z hz=>by have:=HTT.out.b.1.lt z hz.symm;omega
             have HRC:=HIH.out qc F out1 P (YL (.slice ma nm mc) (YL (.slice la q lc) Y)) ov1 (.slice fa nf fc) wt HHq hqn (show Below S w0 wt from HB0.out.trans ((HAL.out.mono hSw).trans HRT.out.bl))
              (fun z hz=>hz.elim (fun e=>(hmv z e).2) (HRT.out.yl HYW.out z))
              (HR.out.ou.older HHB.out.1 (fun z hz=>hz.elim (fun e=>.inr (hmv z e).1) .inl))
              (HTT.out.a.v.sub (fun z hz=>by
               rcases hz with e | e | e | e
               ·exact .inr (.inl e)
               ·exact .inr (.inr (.inl e))
               ·exact .inl e
               ·exact .inr (.inr (.inr e)))) HRF.out ho1
             rw [hUC] at HRC
             have HRCC:=Lib.hid HRC
             have c9t:wt.cell? ⟨w.heap.size,0,none⟩=some (.slice (some ⟨b,o,none⟩) n vc):=(HHB.out.1.cell (p:=⟨w.heap.size,0,none⟩) (by simp only;omega)).trans c9
             have c9t':wt.cell? ⟨w.heap.size,1,none⟩=some (.bool acc):=(HHB.out.1.cell (p:=⟨w.heap.size,1,none⟩) (by simp only;omega)).trans c9'
             clear HRC hUC hmv
             go_wp2_with fail
             refine HRCC.out.mono ?_
             rintro e w5 ⟨xa,xm,xc,rfl,hb5,hres⟩
             have HRES:=Lib.hid hres
             cases hUC:UC with
             | none =>
              have HN2:=Lib.hid (show U=none from HUA.out.2 (by rw [HAC.out,hUC];rfl))
              simp only [Option.isSome_none]
              clear hres hUC
              go_wp2
              go_ret2
              exact ⟨_,_,_,by rw [HN2.out];rfl,((HAL.out.mono hSw).trans HRT.out.bl).trans hb5,fun L o h=>by rw [HN2.out] at h;cases h⟩
             | some Q =>
              obtain ⟨QL,QO⟩:=Q
              obtain ⟨ov2,hO2,hL2,hT2⟩:=hres QL QO hUC
              obtain ⟨hq1,hq2⟩:=ufWalk_len (HUC.out.trans hUC) ho1
              obtain ⟨v6,w6,hrun,hW6⟩:=HR.out.back HHB.out.1 HTT.out (by omega) hzt hO2 hL2 hT2 hb5 (by rw [HNF.out.2];omega) HYW.out
              have HW6:=Lib.hid hW6
              have HAC2:=Lib.hid (show ufAct (ufWalk cs f) ⟨ts,3,(qc:Int)⟩ F Mi left out1=some (Mi++QL,left,QO) by rw [HAC.out,hUC];rfl)
              simp only [Option.isSome_some]
              clear hres hUC hO2 hL2 hT2 hW6
              go_wp2_with (at_builtin;refine wpList_append_run rfl _ _ 35 rfl rfl rfl hrun ?_)
              go_meet
              exact ⟨ov2,_,left,QO,HAC2,HW6,by rw [List.length_append,HNF.out.2];omega,by rw [HQL.out];omega,by omega⟩
            ·have h3b:(ra==3)=false:=by simpa using h3
             have HAC:=Lib.hid (show ufAct (ufWalk cs f) ⟨ts,ra,rc⟩ F Mi left out1=some (Mi++F,left,out1) by
              unfold ufAct
              simp [h1,h2,h3,h4])
             obtain ⟨v5,w5,hrun,hW5⟩:=HR.out.miss HHB.out.1 HTT.out (by omega) hzt (by rw [HNF.out.1,HNF.out.2];omega) HYW.out
             have HW5:=Lib.hid hW5
             clear hW5
             go_wp2_with (at_builtin;refine wpList_append_run rfl _ _ 35 rfl rfl rfl hrun ?_)
             go_meet
             exact ⟨ov1,Mi++F,left,out1,HAC,HW5,by rw [List.length_append,HNF.out.1,HNF.out.2];omega,by rw [HQL.out];omega,by omega⟩
        case rest =>
         obtain ⟨ov2,inn2,left2,out2,HA2,HW2,hl1,hl2,hl3⟩:=hcut
         obtain ⟨na,nc,rfl,hn1,hn2⟩:=HW2.out.i.form
         obtain ⟨la2,lc2,rfl⟩:=HW2.out.l.form
         unfold maxLen at hn2
         have HU2:=Lib.hid (HUA.out.1 _ _ _ HA2.out)
         obtain ⟨r1,hr1⟩:∃ r,rvalid inn2=r:=⟨_,rfl⟩
         obtain ⟨r2,hr2⟩:∃ r,rvalid left2=r:=⟨_,rfl⟩
         have HR1:=Lib.hid hr1
         have HR2:=Lib.hid hr2
         clear hr1 hr2 HRT HTT
         go_wp2_with fail
         refine (specRV_b HW2.out.i.bxs HR1.out).mono ?_
         rintro e w11 ⟨rfl,hb11⟩
         have HW3:=Lib.hid (HW2.out.below hb11)
         clear hb11
         cases r1
         ·have HN2:=Lib.hid (show U=none by rw [HU2.out,HR1.out];rfl)
          go_wp2
          go_ret2
          exact ⟨_,_,_,by rw [HN2.out];rfl,(HAL.out.mono hSw).trans HW3.out.bl,fun L o h=>by rw [HN2.out] at h;cases h⟩
         ·go_wp2_with fail
          refine (specRV_b HW3.out.l.v.bxs HR2.out).mono ?_
          rintro e w12 ⟨rfl,hb12⟩
          have HW4:=Lib.hid (HW3.out.below hb12)
          clear hb12
          cases r2
          ·have HN2:=Lib.hid (show U=none by
            rw [HU2.out]
            split
            ·exact ufGo_left _ _ _ _ HR2.out
            ·rfl)
           go_wp2
           go_ret2
           exact ⟨_,_,_,by rw [HN2.out];rfl,(HAL.out.mono hSw).trans HW4.out.bl,fun L o h=>by rw [HN2.out] at h;cases h⟩
          ·have y0:=HW4.out.ou.c
           obtain ⟨oa2,oc2,rfl⟩:=HW4.out.ou.o.form
           have hPl:=HW4.out.ou.lt
           obtain ⟨no,hno⟩:∃ no,out2.length=no:=⟨_,rfl⟩
           have HNO:=Lib.hid hno
           rw [hno] at y0 hl3 HW4
           clear hno
           by_cases h60:60<no
           ·have hi60:(60:Int)<(no:Int):=by omega
            have HN2:=Lib.hid (show U=none by rw [HU2.out,HNO.out,decide_eq_false (show ¬ no≤60 by omega),Bool.and_false];rfl)
            go_wp2
            go_ret2
            exact ⟨_,_,_,by rw [HN2.out];rfl,(HAL.out.mono hSw).trans HW4.out.bl,fun L o h=>by rw [HN2.out] at h;cases h⟩
           ·have hi60:¬ (60:Int)<(no:Int):=by omega
            have HU3:=Lib.hid (show U=ufGo (ufWalk cs f) (l.drop (k+1)) inn2 left2 out2 by rw [HU2.out,HNO.out,decide_eq_true (show no≤60 by omega),HR1.out];rfl)
            go_wp2
            go_roundw
            case rel=>exact ⟨k+1,_,inn2,left2,out2,by omega,by go_num,HW4,Lib.hid ⟨HR1.out,HR2.out⟩,by rw [HNO.out];omega,HU3⟩
            case measure=>simp [intOf];omega
   ·have hkn:k=ln:=by omega
    subst hkn
    have i1:¬ (k:Int)<(k:Int):=by omega
    have j0:(0:Int)≤(c:Int):=by omega
    have j1:(c:Int)<(n:Int):=by omega
    have HU2:=Lib.hid (show U=if rvalid (left++inn1) then some (left++inn1,out1) else none by
     rw [HU.out,List.drop_of_length_le (by rw [HLN.out];exact Nat.le_refl _)];rfl)
    obtain ⟨v5,w5,hrun,hW5⟩:=HR.out.leave HR.out.i HR.out.i (by rw [HM.out,HQL.out];omega) HYW.out (by omega)
    obtain ⟨la5,lc5,hv5⟩:=hW5.l.form
    obtain ⟨nl,hnl⟩:∃ nl,(left++inn1).length=nl:=⟨_,rfl⟩
    rw [hnl] at hv5
    subst hv5
    have HW5:=Lib.hid hW5
    clear hnl
    obtain ⟨r1,hr1⟩:∃ r,rvalid (left++inn1)=r:=⟨_,rfl⟩
    have HR1:=Lib.hid hr1
    clear hr1 hW5
    go_wp2_with (at_builtin;refine wpList_append_run rfl _ _ 35 rfl rfl rfl hrun ?_)
    refine (specRV_b HW5.out.l.v.bxs HR1.out).mono ?_
    rintro e w6 ⟨rfl,hb6⟩
    have HW6:=Lib.hid (HW5.out.below hb6)
    clear hb6
    go_wp2
    go_ret2
    refine ⟨_,_,_,by rw [HU2.out,HR1.out];cases r1<;>rfl,(HAL.out.mono hSw).trans HW6.out.bl,fun L o h=>?_⟩
    rw [HU2.out,HR1.out] at h
    cases r1
    ·cases h
    ·cases h
     exact ⟨ov1,HW6.out.ou.sub (fun z hz=>.inr hz),HW6.out.l.v,(Tw.of HAL.out).trans HW6.out.tw⟩
end Go.Proofs.YtfcbbahlhjdefaaGreatDoor
