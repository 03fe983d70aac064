/- The reference's l8Order and RulesetValid; both answers are the same. -/
import Derived.Test.YtfcbbahlhjdefaaGreatDoorUSn
import Derived.Test.YtfcbbahlhjdefaaGreatDoorRsZ
namespace Go.Proofs.YtfcbbahlhjdefaaGreatDoor
open Go.RowKit
set_option maxHeartbeats 2000000 in
theorem testSpansE_any (f:Nat) (lo hi:Int) (q:Bool) (w:World) (hf:f<4) (h:tvalid1 f lo hi=true) :
  Calls Tryz.prog 101 #[.agg #[.int .i64 f,.int .i64 lo,.int .i64 hi,.bool q]] w (RetSp (tspans ⟨f,lo,hi,q⟩) w):=by
 have hal:Below w.heap.size w (w.alloc (.cells #[.int .i64 f,.int .i64 lo,.int .i64 hi,.bool q] 159)):=bR.alloc (Nat.le_refl _) _
 go_enter Tryz.func101,Tryz.ntmps101
 go_wp2_with fail
 refine (specTV_b h _).mono ?_
 rintro e w1 ⟨rfl,hb1⟩
 have hw1:=hal.trans (hb1.mono hal.size)
 have hz1:=hb1.size
 simp at hz1
 replace hz1:w.heap.size<w1.heap.size:=by omega
 have c0:=(hb1.cell (p:=⟨w.heap.size,0,none⟩) (by simp)).trans (show (w.alloc (.cells #[.int .i64 f,.int .i64 lo,.int .i64 hi,.bool q] 159)).cell? ⟨w.heap.size,0,none⟩=some (.int .i64 f) by simp)
 have c1:=(hb1.cell (p:=⟨w.heap.size,1,none⟩) (by simp)).trans (show (w.alloc (.cells #[.int .i64 f,.int .i64 lo,.int .i64 hi,.bool q] 159)).cell? ⟨w.heap.size,1,none⟩=some (.int .i64 lo) by simp)
 have c2:=(hb1.cell (p:=⟨w.heap.size,2,none⟩) (by simp)).trans (show (w.alloc (.cells #[.int .i64 f,.int .i64 lo,.int .i64 hi,.bool q] 159)).cell? ⟨w.heap.size,2,none⟩=some (.int .i64 hi) by simp)
 have c3:=(hb1.cell (p:=⟨w.heap.size,3,none⟩) (by simp)).trans (show (w.alloc (.cells #[.int .i64 f,.int .i64 lo,.int .i64 hi,.bool q] 159)).cell? ⟨w.heap.size,3,none⟩=some (.bool q) by simp)
 clear hb1
 have hO:OwnSp w.heap.size (w1.alloc (.cells #[.int .i64 lo,.int .i64 hi] 74)) (.slice (some ⟨w1.heap.size,0,none⟩) 1 1) [⟨lo,hi⟩]:=litSp1 (by omega)
 have hal1:Below w.heap.size w (w1.alloc (.cells #[.int .i64 lo,.int .i64 hi] 74)):=hw1.alloc (by omega) _
 cases q
 ·go_wp2
  go_ret
  exact ⟨_,rfl,hO,hal1⟩
 ·go_wp2_with fail
  refine (specFTop_any f hf _).mono ?_
  rintro e _ ⟨rfl,rfl⟩
  obtain ⟨g0,g1,g2⟩:=tvalid1_iff h
  go_wp2_with fail
  refine (l2Other_any [⟨lo,hi⟩] _ _ _ (OwnSp.sps hO) (by simp) (sgood_cons.2 ⟨g0,g1,g2,rfl⟩) (top_le hf).2).mono ?_
  rintro e w2 ⟨v2,rfl,ho2,hb2⟩
  have hz2:=hal1.size
  go_wp2
  go_ret
  exact ⟨_,rfl,OwnSl.mono ho2 hz2,hal1.trans (hb2.mono hz2)⟩
set_option maxHeartbeats 4000000 in
set_option maxRecDepth 100000 in
theorem testsBoxE_any {lo:Nat} {ts:List Te} {v:Value} {w:World} (hs:Tss lo w v ts) (hv:tsvalid ts=true) :
  Calls Tryz.prog 67 #[v] w fun e w'=>∃ v',e=.returned (.agg #[v'])∧Rws w.heap.size w' v' (tbox ts)∧Below w.heap.size w w':=by
 obtain ⟨ha,hl⟩:(∀ (k:Nat) t,ts[k]?=some t→t.ok=true)∧ts.length≤6:=by
  unfold tsvalid at hv
  rw [Bool.and_eq_true,List.all_eq_true,decide_eq_true_eq] at hv
  exact ⟨fun k t hk=>hv.1 t (List.mem_of_getElem? hk),hv.2⟩
 obtain ⟨a,cap,rfl,hlc,hcm⟩:=hs.form
 unfold maxLen at hcm
 generalize hn:ts.length=n at *
 have HN:=Lib.hid hn
 have HA:=Lib.hid ha
 have HV:=Lib.hid hv
 obtain ⟨W,hW⟩:∃ W,(w.alloc (.cells #[.slice none 0 0] 41))=W:=⟨_,rfl⟩
 have hal:Below w.heap.size w W:=by rw [← hW];(repeat' (first | with_reducible exact Below.refl _ _ | with_reducible assumption | with_reducible refine Below.setCell ?_ ?_ _ | with_reducible refine Below.alloc ?_ ?_ _ | with_reducible refine Below.drew ?_ | with_reducible refine belDrewN ?_ _ | with_reducible refine Below.trans ?_ (Below.mono (by assumption) ?_) | omega | (simp;omega) | (simp;done)))
 have qs:W.heap.size=w.heap.size+1:=by rw [← hW];simp
 have g2:W.cell? ⟨w.heap.size,0,none⟩=some (.slice none 0 0):=by rw [← hW];simp
 have m2:W.frozen? ⟨w.heap.size,0,none⟩=false:=by rw [← hW];exact frz_new w _ _ 0
 have hsW:=hs.below hal
 clear hn hs ha hv
 go_enter Tryz.func67,Tryz.ntmps67
 go_wp2_with fail
 refine (specTsG_b hsW HV.out).mono ?_
 rintro e w1 ⟨rfl,hb1⟩
 go_wp2_with fail
 refine (boxAll_any _).mono ?_
 rintro e w2 ⟨v2,rfl,ho2,hb2⟩
 have hz1:=hb1.size
 have hz2:=hb2.size
 have hw1:=hal.trans (hb1.mono hal.size)
 have hw2:=hw1.trans (hb2.mono hw1.size)
 have hB2:BxP none (w.heap.size+1) w2 v2 ball:=(GRw.bx ho2).mono (by omega)
 obtain ⟨g,vc,rfl,hg1,hg2, -, -, -⟩:=hB2.ptr (by decide)
 obtain ⟨V,hV⟩:∃ V,w2.alloc (.cells #[.slice (some ⟨g,0,none⟩) 4 vc] 41)=V:=⟨_,rfl⟩
 have hb3:Below w2.heap.size w2 V:=by rw [← hV];exact bR.alloc (Nat.le_refl _) _
 have hzV:V.heap.size=w2.heap.size+1:=by rw [← hV];simp
 have q0:V.cell? ⟨w2.heap.size,0,none⟩=some (.slice (some ⟨g,0,none⟩) 4 vc):=by rw [← hV];simp
 have hBV:=Lib.hid (hB2.below hb3)
 have hVb:Below w.heap.size w V:=hw2.trans (hb3.mono hw2.size)
 have hW2:Below W.heap.size W V:=(hb1.trans (hb2.mono hb1.size)).trans (hb3.mono (by omega))
 have hl4:ball.length=4:=rfl
 have HSW:=Lib.hid hsW
 clear hB2 ho2 hb1 hb2 hb3
 go_wp2_with fail
 go_loopw [4] (fun i wr=>∃ (k:Nat) (bx:Bx),k≤n∧Hid (bx=(ts.take k).foldl tbox1 ball)∧i=.int .i64 k∧Below w.heap.size w wr∧Below W.heap.size W wr∧w2.heap.size<wr.heap.size∧wr.cell? ⟨w2.heap.size,0,none⟩=some (.slice (some ⟨g,0,none⟩) 4 vc)∧Hid (BxP none (w.heap.size+1) wr (.slice (some ⟨g,0,none⟩) 4 vc) bx)∧bx.length=4∧Hid (BGood (1+k) bx)) (fun i _=>n - (intOf i).toNat)
 case atStart=>exact ⟨0,ball,by omega,Lib.hid rfl,rfl,hVb,hW2,by omega,q0,hBV,rfl,Lib.hid BGood.ball⟩
 case round =>
  obtain ⟨k,bx,hk,HE,rfl,hbr,hWr,hzr2,c0,HB,hb4,HX⟩:=hrel
  have hzr:=hbr.size
  clear q0 hBV hVb hW2 hzV
  by_cases hlt:k<n
  ·have i1:(k:Int)<(n:Int):=by omega
   have i2:(0:Int)≤(k:Int):=by omega
   obtain ⟨b',o,f,lo',hi,q,rfl,hbl,hx,e0,e1,e2,e3⟩:=HSW.out.z.at (show k<ts.length by rw [HN.out];exact hlt)
   have hok:tvalid1 f lo' hi=true:=HA.out k _ hx
   have hx9:=hx
   obtain ⟨fk,rfl,hf4⟩:=tvalid1_fld hok
   obtain ⟨s0,xs0,d0,hx0,hs0⟩:=HB.out.at (show fk<bx.length by rw [hb4];exact hf4)
   have hl0:xs0.length≤7:=by
    have:=(HX.out.2 fk hf4).2
    rw [getD_get hx0] at this
    omega
   obtain ⟨tg1,tg2⟩:=tspans_good (t:=⟨fk,lo',hi,q⟩) hok
   obtain ⟨TS,hTS⟩:∃ TS,tspans ⟨fk,lo',hi,q⟩=TS:=⟨_,rfl⟩
   have HTE:=fun w=>testSpansE_any fk lo' hi q w hf4 hok
   rw [hTS] at HTE tg2
   obtain ⟨NN,hNN⟩:∃ NN,smeet xs0 TS=NN:=⟨_,rfl⟩
   have HSTEP:=Lib.hid (show (ts.take (k+1)).foldl tbox1 ball=bx.set fk NN by
    rw [List.take_add_one,hx,Option.toList_some,List.foldl_append,← HE.out]
    show tbox1 bx ⟨fk,lo',hi,q⟩=_
    unfold tbox1
    rw [hTS,show ((⟨(fk:Int),lo',hi,q⟩:Te).fld.toNat)=fk from by simp,getD_get hx0,hNN])
   have HG2:=Lib.hid (show BGood (1+(k+1)) (bx.set fk NN) by
    have h1:=HX.out.step (t:=⟨fk,lo',hi,q⟩) hok
    unfold tbox1 at h1
    rw [hTS,show ((⟨(fk:Int),lo',hi,q⟩:Te).fld.toNat)=fk from by simp,getD_get hx0,hNN] at h1
    exact h1)
   have a0:=(hWr.cell (p:=⟨b',o+k*4,none⟩) hbl).trans e0
   have a1:=(hWr.cell (p:=⟨b',o+k*4+1,none⟩) hbl).trans e1
   have a2:=(hWr.cell (p:=⟨b',o+k*4+2,none⟩) hbl).trans e2
   have a3:=(hWr.cell (p:=⟨b',o+k*4+3,none⟩) hbl).trans e3
   have hblr:b'<wr.heap.size:=Nat.lt_of_lt_of_le hbl hWr.size
   have hgr:g<wr.heap.size:=by omega
   have hfr:∀ j,wr.frozen? ⟨g,j,none⟩=false:=by
    obtain ⟨q',c',he, -, -, -, -,hf⟩:=HB.out.ptr (by omega)
    obtain ⟨he, -, -⟩:=Value.slice.inj he
    cases he;exact hf
   go_wp2_with fail
   refine wp_region_last (fun _ w=>Below wr.heap.size wr w) (fun a b=>Below a.heap.size a b) (bof [BIs (.pointer (some ⟨w2.heap.size,0,none⟩)),BIs (.slice (some ⟨g,0,none⟩) 4 vc),BIs (.int .i64 (fk:Int)),BIs (.pointer (some ⟨w2.heap.size,0,none⟩)),BIs (.slice (some ⟨g,0,none⟩) 4 vc),BIs (.int .i64 (fk:Int)),BIs (.pointer (some ⟨g,fk,none⟩)),BIs (s0),BIs (.slice (some ⟨b',o,none⟩) n cap),BIs (.int .i64 (k:Int)),BIs (.pointer (some ⟨b',o+k*4,none⟩)),BIs (.agg #[.int .i64 fk,.int .i64 lo',.int .i64 hi,.bool q]),(fun w v=>OwnSp wr.heap.size w v TS),(fun w v=>∃ a c,v=.slice a NN.length c∧OwnSp wr.heap.size w (.slice a NN.length c) NN),BIs (.pointer (some ⟨g,fk,none⟩))]) (fun _ _ _=>True) (fun w9=>∃ w6 a c,Below wr.heap.size wr w6∧OwnSp wr.heap.size w6 (.slice a NN.length c) NN∧w9=w6.setCell ⟨g,fk,none⟩ (.slice a NN.length c)) 15 (by kernel_rfl) rfl (fun u=>by simp only [frU,Act.put,List.setIfInBounds_toArray,List.set_cons_succ,List.set_cons_zero,Nat.zero_add,Nat.reduceAdd];exact rfl) (by kernel_rfl) (by kernel_rfl) (fun iz wz wy vz hbz hz=>bof_stb [BIs (.pointer (some ⟨w2.heap.size,0,none⟩)),BIs (.slice (some ⟨g,0,none⟩) 4 vc),BIs (.int .i64 (fk:Int)),BIs (.pointer (some ⟨w2.heap.size,0,none⟩)),BIs (.slice (some ⟨g,0,none⟩) 4 vc),BIs (.int .i64 (fk:Int)),BIs (.pointer (some ⟨g,fk,none⟩)),BIs (s0),BIs (.slice (some ⟨b',o,none⟩) n cap),BIs (.int .i64 (k:Int)),BIs (.pointer (some ⟨b',o+k*4,none⟩)),BIs (.agg #[.int .i64 fk,.int .i64 lo',.int .i64 hi,.bool q]),(fun w v=>OwnSp wr.heap.size w v TS),(fun w v=>∃ a c,v=.slice a NN.length c∧OwnSp wr.heap.size w (.slice a NN.length c) NN),BIs (.pointer (some ⟨g,fk,none⟩))] ⟨bst_is _,bst_is _,bst_is _,bst_is _,bst_is _,bst_is _,bst_is _,bst_is _,bst_is _,bst_is _,bst_is _,bst_is _,(fun _ _ _ hb h=>OwnSl.kept h hb),(fun _ _ _ hb h=>(let ⟨a,c,h0,h1⟩:=h;⟨a,c,h0,OwnSl.kept h1 hb⟩)),bst_is _,trivial⟩ iz wz wy vz hbz hz) ⟨rfl,rfl,rfl,Nat.le_refl _,fun _ _=>rfl⟩ ?_ ?_;(exact ⟨stSb rfl (fun u w3 hC hd Q K hK=>by (go_step;exact hK _ _ rfl bR rfl)),stSb rfl (fun u w3 hC hd Q K hK=>by (rw [bis (w:=w3) (hd 0 rfl)] at hK ⊢;have z1:=(hC.cell (p:=⟨w2.heap.size,0,none⟩) hzr2).trans c0;go_step;exact hK _ _ rfl bR rfl)),stSb rfl (fun u w3 hC hd Q K hK=>by (go_step;exact hK _ _ rfl bR rfl)),stSb rfl (fun u w3 hC hd Q K hK=>by (go_step;exact hK _ _ rfl bR rfl)),stSb rfl (fun u w3 hC hd Q K hK=>by (rw [bis (w:=w3) (hd 3 rfl)] at hK ⊢;have z1:=(hC.cell (p:=⟨w2.heap.size,0,none⟩) hzr2).trans c0;go_step;exact hK _ _ rfl bR rfl)),stSb rfl (fun u w3 hC hd Q K hK=>by (go_step;exact hK _ _ rfl bR rfl)),stSb rfl (fun u w3 hC hd Q K hK=>by (rw [bis (w:=w3) (hd 4 rfl)] at hK ⊢;rw [bis (w:=w3) (hd 5 rfl)] at hK ⊢;go_step;exact hK _ _ rfl bR rfl)),stSb rfl (fun u w3 hC hd Q K hK=>by (rw [bis (w:=w3) (hd 6 rfl)] at hK ⊢;have z1:=(hC.cell (p:=⟨g,fk,none⟩) hgr).trans d0;go_step;exact hK _ _ rfl bR rfl)),stSb rfl (fun u w3 hC hd Q K hK=>by (go_step;exact hK _ _ rfl bR rfl)),stSb rfl (fun u w3 hC hd Q K hK=>by (go_step;exact hK _ _ rfl bR rfl)),stSb rfl (fun u w3 hC hd Q K hK=>by (rw [bis (w:=w3) (hd 8 rfl)] at hK ⊢;rw [bis (w:=w3) (hd 9 rfl)] at hK ⊢;go_step;exact hK _ _ rfl bR rfl)),stSb rfl (fun u w3 hC hd Q K hK=>by (rw [bis (w:=w3) (hd 10 rfl)] at hK ⊢;have z0:=(hC.cell (p:=⟨b',o+k*4,none⟩) hblr).trans a0;have z1:=(hC.cell (p:=⟨b',o+k*4+1,none⟩) hblr).trans a1;have z2:=(hC.cell (p:=⟨b',o+k*4+2,none⟩) hblr).trans a2;have z3:=(hC.cell (p:=⟨b',o+k*4+3,none⟩) hblr).trans a3;go_step;exact hK _ _ rfl bR rfl)),stSb rfl (fun u w3 hC hd Q K hK=>by (rw [bis (w:=w3) (hd 11 rfl)] at hK ⊢;go_step;refine (HTE _).mono ?_;rintro e w4 ⟨v4,rfl,ho4,hb4⟩;exact hK _ _ rfl hb4 (OwnSl.mono ho4 hC.size))),stSb rfl (fun u w3 hC hd Q K hK=>by (rw [bis (w:=w3) (hd 7 rfl)] at hK ⊢;have h5:=hd 12 rfl;generalize u 12=v5 at *;go_step;refine ((l2Meet_any xs0 TS _ _ _ (hs0.sub ((Sb.hole (g:=some g) (g':=none) (Nat.le_refl _) (fun _ _ _ _=>⟨by simp,hole_block (by simp)⟩)).trans (Sb.of hC.size (fun j _ h2=>hC.block j h2)))) (OwnSp.sps h5) (by omega) (by omega))).mono ?_;rintro e w4 ⟨v4,rfl,ho4,hb4⟩;exact hK _ _ rfl hb4 (by rw [hNN] at ho4;obtain ⟨a,c,rfl, -, -⟩:=(OwnSp.sps ho4).form;exact ⟨a,c,rfl,OwnSl.mono ho4 hC.size⟩))),stSb rfl (fun u w3 hC hd Q K hK=>by (rw [bis (w:=w3) (hd 1 rfl)] at hK ⊢;rw [bis (w:=w3) (hd 2 rfl)] at hK ⊢;go_step;exact hK _ _ rfl bR rfl)),⟨rfl,fun m u w3 hm hC hF Q K hK=>by (dsimp only at hK ⊢;have hu:=bis (w:=w3) (hF 14 (by decide));rw [hu] at hK ⊢;clear hu;obtain ⟨a6,c6,hu,h6⟩:=hF 13 (by decide);rw [hu] at hK ⊢;clear hu;have z0:=(hC.cell (p:=⟨g,fk,none⟩) hgr).trans d0;have z1:=(hC.frozen (p:=⟨g,fk,none⟩) hgr).trans (hfr fk);go_step;exact hK _ _ rfl ⟨w3,a6,c6,hC,h6,rfl⟩ (fun _ _=>trivial))⟩⟩);intro u w9 hD _
   obtain ⟨w6,a6,c6,hb6,h6,rfl⟩:=hD
   have hz6:=hb6.size
   have hB6:BxP none (w.heap.size+1) (w6.setCell ⟨g,fk,none⟩ (.slice a6 NN.length c6)) (.slice (some ⟨g,0,none⟩) 4 vc) (bx.set fk NN):=(HB.out.below hb6).set (by omega) ((((OwnSp.sps h6).sub (Sb.into2 hgr)).mono (by omega)))
   have hW6:Below W.heap.size W w6:=hWr.trans (hb6.mono hWr.size)
   have hB7:Below w.heap.size w (w6.setCell ⟨g,fk,none⟩ (.slice a6 NN.length c6)):=(hbr.trans (hb6.mono hzr)).setCell (by simp only;omega) _
   have hW7:Below W.heap.size W (w6.setCell ⟨g,fk,none⟩ (.slice a6 NN.length c6)):=hW6.setCell (by simp only;omega) _
   have c7:(w6.setCell ⟨g,fk,none⟩ (.slice a6 NN.length c6)).cell? ⟨w2.heap.size,0,none⟩=some (.slice (some ⟨g,0,none⟩) 4 vc):=by
    rw [World.cell?_setCell_other _ _ _ _ (by intro e;have:=(Addr.mk.inj e).1;omega)]
    exact (hb6.cell (p:=⟨w2.heap.size,0,none⟩) hzr2).trans c0
   have HB7:=Lib.hid hB6
   clear hB6 h6 hb6 hW6
   go_wp2
   go_roundw
   case rel=>exact ⟨k+1,_,by omega,Lib.hid HSTEP.out.symm,by go_num,hB7,hW7,by simp;omega,c7,HB7,by simpa using hb4,HG2⟩
   case measure=>simp [intOf];omega
  ·have hkn:k=n:=by omega
   have HEX:=Lib.hid (show bx=tbox ts by rw [HE.out,List.take_of_length_le (by rw [HN.out];omega)];rfl)
   have r0:=(hWr.cell (p:=⟨w.heap.size,0,none⟩) (by simp only;omega)).trans g2
   have r1:=(hWr.frozen (p:=⟨w.heap.size,0,none⟩) (by simp only;omega)).trans m2
   go_wp2_with fail
   refine bodyPost_ret (v:=.agg #[.slice (some ⟨g,0,none⟩) 4 vc]) ?_ rfl ⟨_,rfl,?_,hbr.setCell (by simp only;omega) _⟩
   ·simp [results,Tryz.results67,go_sem,r0]
   ·rw [← HEX.out]
    exact BxP.rws0 ((HB.out.keep (by simp) (fun k k1 k2 _=>Below.heap_setCell _ _ _ _ (by simp only;omega)) (fun z hz=>.inl hz)).mono (by omega))
end Go.Proofs.YtfcbbahlhjdefaaGreatDoor
namespace Go.Proofs.YtfcbbahlhjdefaaGreatDoor
open Go.RowKit
abbrev encBl (b:Bool):List Value:=[.bool b]
abbrev OwnBl (base:Nat) (w:World) (v:Value) (ys:List Bool):Prop:=OwnSl base 4 1 encBl w v ys
theorem infoBl:(Tryz.prog.info? 4).map (fun i=>(i.zero,i.size,i.bytes))=some (some (.bool false),1,1):=by kernel_rfl
def specOk (cs:List (List Ru)):Bool:=cs.all rusvalid && cs.all (fun l=>l.all (fun r=>decide (r.ch<(cs.length:Int)))) && inB cs.length 1 5 && decide (kcount (kfin cs)=cs.length)
theorem specOk_eq (cs:List (List Ru)):specOk cs=rsvalid cs:=by
 unfold specOk rsvalid
 cases hA:cs.all rusvalid
 ·simp
 ·cases hI:inB cs.length 1 5
  ·simp
  ·rw [inB_iff] at hI
   have hn:cs.length≤5:=by omega
   have hok:∀ l,l∈cs→∀ r,r∈l→r.ok=true:=fun l hl r hr=>by
    have h:=List.all_eq_true.1 hA l hl
    unfold rusvalid at h
    rw [Bool.and_eq_true,List.all_eq_true] at h
    exact h.1 r hr
   have hcall:∀ l,l∈cs→∀ r,r∈l→r.act=3→0≤r.ch∧r.ch<5:=fun l hl r hr ha=>by
    have h:=hok l hl r hr
    obtain ⟨ts,a,c⟩:=r
    exact ruok_call h ha
   have hno:∀ l,l∈cs→∀ r,r∈l→r.act≠3→r.ch=0:=fun l hl r hr ha=>by
    have h:=hok l hl r hr
    obtain ⟨ts,a,c⟩:=r
    rw [ruok_eq] at h
    have hb:(a==3)=false:=by simpa using ha
    simp [hb] at h
    exact h.2.2
   have hiff:cs.all (fun l=>l.all (fun r=>decide (r.ch<(cs.length:Int))))=callsOk cs:=by
    rw [Bool.eq_iff_iff]
    unfold callsOk
    rw [List.all_eq_true,List.all_eq_true]
    constructor
    ·intro h l hl
     rw [List.all_eq_true]
     intro c hc
     unfold calls at hc
     rw [List.mem_filter,List.any_eq_true] at hc
     obtain ⟨_,r,hr,hrc⟩:=hc
     simp only [Bool.and_eq_true,beq_iff_eq] at hrc
     have:=of_decide_eq_true (List.all_eq_true.1 (h l hl) r hr)
     exact decide_eq_true (by omega)
    ·intro h l hl
     rw [List.all_eq_true]
     intro r hr
     by_cases ha:r.act=3
     ·obtain ⟨h0,h5⟩:=hcall l hl r hr ha
      have hm:r.ch.toNat∈calls l:=by
       unfold calls
       rw [List.mem_filter,List.mem_range,List.any_eq_true]
       refine ⟨by omega,r,hr,?_⟩
       simp only [Bool.and_eq_true,beq_iff_eq]
       exact ⟨ha,by omega⟩
      have:=of_decide_eq_true (List.all_eq_true.1 (h l hl) _ hm)
      exact decide_eq_true (by omega)
     ·exact decide_eq_true (by rw [hno l hl r hr ha];omega)
   rw [hiff]
   cases hC:callsOk cs
   ·simp
   ·have hin:CallsIn cs:=fun l hl r hr ha=>by
     obtain ⟨h0,h5⟩:=hcall l hl r hr ha
     have h1:=List.all_eq_true.1 (hiff.trans hC) l hl
     exact ⟨h0,h5,of_decide_eq_true (List.all_eq_true.1 h1 r hr)⟩
    rw [acycl_kfin hin hn]
theorem rsvalid_in {cs:List (List Ru)} (h:rsvalid cs=true):CallsIn cs∧1≤cs.length∧cs.length≤5∧(∀ l,l∈cs→rusvalid l=true)∧∃ f,Ht cs f 0:=by
 have h2:=h
 rw [← specOk_eq] at h2
 unfold specOk at h2
 unfold rsvalid at h
 simp only [Bool.and_eq_true] at h h2
 obtain ⟨⟨⟨hI,hA⟩,hC⟩,hY⟩:=h
 rw [inB_iff] at hI
 have hcin:CallsIn cs:=fun l hl r hr ha=>by
  have hv:=List.all_eq_true.1 hA l hl
  unfold rusvalid at hv
  rw [Bool.and_eq_true,List.all_eq_true] at hv
  have h:=hv.1 r hr
  have h3:=of_decide_eq_true (List.all_eq_true.1 (List.all_eq_true.1 h2.1.1.2 l hl) r hr)
  obtain ⟨ts,a,c⟩:=r
  obtain ⟨h0,h5⟩:=ruok_call h ha
  exact ⟨h0,h5,h3⟩
 exact ⟨hcin,by omega,by omega,fun l hl=>List.all_eq_true.1 hA l hl,((acycl_iff (by omega)).1 hY 0 (by omega)).ht⟩
theorem kcount_set:∀ (d:List Bool) (c:Nat),c<d.length→d.getD c false=false→kcount (d.set c true)=kcount d+1
 | [],_,h,_=>by simp at h
 | b::d,0,_,h=>by
  simp at h
  subst h
  unfold kcount
  simp
 | b::d,c+1,hl,h=>by
  have ih:=kcount_set d c (by simpa using hl) (by simpa using h)
  unfold kcount at *
  rw [List.set_cons_succ,List.countP_cons,List.countP_cons,ih]
  omega
theorem kready_succ {l:List Ru} {d:List Bool} {k:Nat} {r:Ru} (h:l[k]?=some r):(l.take (k+1)).all (fun r=>r.act != 3 || d.getD r.ch.toNat false)=((l.take k).all (fun r=>r.act != 3 || d.getD r.ch.toNat false) && (r.act != 3 || d.getD r.ch.toNat false)):=by
 rw [List.take_add_one,h,Option.toList_some,List.all_append]
 simp
theorem litOwnJ {base:Nat} {w:World} (h:base≤w.heap.size):OwnIn base (w.alloc (.cells #[] 3)) (.slice (some ⟨w.heap.size,0,none⟩) 0 0) []:=by
 have:=World.ownsRow_made (e:=3) (size:=1) w #[] 0 h (by simp) (by simp)
 simpa [OwnIn,OwnSl] using this
structure Ord (w:World) (g n:Nat) (o:Value) (d:List Bool):Prop where
 blk:OwnBl g w (.slice (some ⟨g,0,none⟩) n n) d
 len:d.length=n
 lt:g<w.heap.size
 ord:∃ ys:List Int,OwnIn (g+1) w o ys∧ys.length=kcount d
theorem Ord.below {w w':World} {g n:Nat} {o:Value} {d:List Bool} (h:Ord w g n o d) (hb:Below w.heap.size w w'):Ord w' g n o d :=
 let ⟨ys,h1,h2⟩:=h.ord
 ⟨OwnSl.kept h.blk hb,h.len,Nat.lt_of_lt_of_le h.lt hb.size,ys,OwnSl.kept h1 hb,h2⟩
theorem Ord.form {w:World} {g n:Nat} {o:Value} {d:List Bool} (h:Ord w g n o d):∃ a c,o=.slice a (kcount d) c:=by
 obtain ⟨ys,h1,h2⟩:=h.ord
 rcases OwnSl.form h1 with ⟨h,h'⟩ | ⟨g,c,h,_⟩
 ·exact ⟨_,_,by rw [h,← h2,h'];rfl⟩
 ·exact ⟨_,_,by rw [h,← h2]⟩
theorem Ord.at {w:World} {g n:Nat} {o:Value} {d:List Bool} (h:Ord w g n o d) {c:Nat} (hc:c<n):w.cell? ⟨g,c,none⟩=some (.bool (d.getD c false)):=by
 have hl:=h.len
 have hg:d[c]?=some (d.getD c false):=by rw [List.getD_eq_getElem?_getD,List.getElem?_eq_getElem (by omega)];rfl
 have:=OwnSl.cell (sz:=1) (enc:=encBl) (fun _=>rfl) h.blk hg 0 _ rfl
 simpa using this
theorem Ord.frz {w:World} {g n:Nat} {o:Value} {d:List Bool} (h:Ord w g n o d) (c:Nat):w.frozen? ⟨g,c,none⟩=false:=OwnSl.frz h.blk c
theorem kcount_le (d:List Bool):kcount d≤d.length:=List.countP_le_length
theorem Ord.step {w:World} {g n:Nat} {o:Value} {d:List Bool} (h:Ord w g n o d) {c:Nat} (hn:n≤5) (hc:c<n) (hd:d.getD c false=false) :
  ∃ v' w',(Builtin.append_ #[76,76] 76 #[o,.slice (some ⟨w.heap.size,0,none⟩) 1 1]).run Tryz.prog ((w.setCell ⟨g,c,none⟩ (.bool true)).alloc (.cells #[.int .i64 (c:Int)] 3))=.ok v' w'∧Ord w' g n v' (d.set c true)∧Below g w w':=by
 obtain ⟨i0,hi,hy0,hy1,hy2⟩:=info_parts infoInt
 have hl:=h.len
 obtain ⟨ys,h1,h2⟩:=h.ord
 have hlt:=h.lt
 have hk:=kcount_le d
 obtain ⟨hst,hgr⟩:=OwnSl.store (sz:=1) (enc:=encBl) (fun _=>rfl) hl.symm h.blk (k:=c) (by omega) true
 simp only [Nat.mul_one,wSet] at hst hgr
 obtain ⟨W1,hW1⟩:∃ W1,w.setCell ⟨g,c,none⟩ (.bool true)=W1:=⟨_,rfl⟩
 have hz1:W1.heap.size=w.heap.size:=by rw [← hW1];simp
 have b1:Below g w W1:=by rw [← hW1];exact bR.setCell (by simp) _
 rw [hW1] at hst hgr ⊢
 have o1:OwnIn (g+1) W1 o ys:=OwnSl.keepB h1 (fun z z1 z2 z3=>hgr.block z z3 (fun e=>by cases e;omega))
 obtain ⟨W5,hW5⟩:∃ W5,W1.alloc (.cells #[.int .i64 (c:Int)] 3)=W5:=⟨_,rfl⟩
 have hal5:Below W1.heap.size W1 W5:=by rw [← hW5];exact bR.alloc (Nat.le_refl _) _
 have hlit:SlAt 1 encI W5 (.slice (some ⟨W1.heap.size,0,none⟩) 1 1) [(c:Int)]:=by
  rw [← hW5]
  refine ⟨_,1,rfl,by simp,by simp [maxLen],fun k x hk=>?_⟩
  match k,hk with
  | 0,hk =>
   cases hk
   refine ⟨W1.heap.size,0,rfl,by simp,fun j u hj=>?_⟩
   have:=cellsNew W1 (encI (c:Int)) 3 j u hj
   rwa [Addr.add_lit] at this
  | k+1,hk=>simp at hk
 rw [← hz1,hW5]
 have hz5:=hal5.size
 obtain ⟨v',w',hrun,hown,hg2,hat⟩:=own_append_all (sz:=1) (enc:=encI) (by omega) (fun _=>rfl) (P:=Tryz.prog) (w:=W5) 76 76 3 i0 _ 8 Tryz.underlying76 hi hy0 hy1 hy2 rfl (zs:=[(c:Int)]) (by simp [Value.oneCell']) (OwnSl.kept o1 hal5) hlit (by simp;omega) (by simp only [maxLen,List.length_singleton];omega) (by omega)
 have hlow:∀ z,o.ownBlock=some z→g+1≤z:=fun z hz=>(World.ownsRow.lt o1 z hz).1
 refine ⟨v',w',hrun,⟨?_,by rw [List.length_set,hl],?_,_,hown,?_⟩,?_⟩
 ·refine OwnSl.keepB (OwnSl.kept hst hal5) (fun z z1 z2 z3=>hg2.block z z3 (fun e=>?_))
  cases z1
  have:=hlow g e.symm
  omega
 ·have:=hg2.size
  omega
 ·rw [List.length_append,List.length_singleton,h2,kcount_set _ _ (by omega) hd]
 ·exact (b1.trans (hal5.mono (by omega))).grown hg2 (by omega) (fun z hz=>by have:=hlow z hz;omega)
theorem krounds_succ (cs:List (List Ru)) (k:Nat) (d:List Bool):krounds cs (k+1) d=(List.range cs.length).foldl (kstep cs) (krounds cs k d):=rfl
def kpart (cs:List (List Ru)) (d:List Bool) (c:Nat):List Bool:=(List.range c).foldl (kstep cs) d
theorem kpart_succ (cs:List (List Ru)) (d:List Bool) (c:Nat):kpart cs d (c+1)=kstep cs (kpart cs d c) c:=by
 unfold kpart
 rw [List.range_succ,List.foldl_append]
 rfl
set_option maxHeartbeats 4000000 in
set_option maxRecDepth 100000 in
theorem l8Order_any {lo:Nat} (cs:List (List Ru)) (hc:CallsIn cs) (hn5:cs.length≤5) (acc:Bool) (v:Value) (w:World) (hs:Rss lo w v cs) :
  Calls Tryz.prog 66 #[.agg #[v,.bool acc]] w fun e w'=>∃ a c,e=.returned (.slice a (kcount (kfin cs)) c)∧Below w.heap.size w w':=by
 obtain ⟨va,vc,rfl,hlc,hcm⟩:=hs.form
 unfold maxLen at hcm
 obtain ⟨n,hnn⟩:∃ n,cs.length=n:=⟨_,rfl⟩
 have HN:=Lib.hid hnn
 have HCI:=Lib.hid hc
 rw [hnn] at hs hlc hn5 ⊢
 obtain ⟨W,hW⟩:∃ W,w.alloc (.cells #[.slice va n vc,.bool acc] 25)=W:=⟨_,rfl⟩
 have hal:Below w.heap.size w W:=by rw [← hW];exact bR.alloc (Nat.le_refl _) _
 have hl:w.heap.size<W.heap.size:=by rw [← hW];simp
 have q0:W.cell? ⟨w.heap.size,0,none⟩=some (.slice va n vc):=by rw [← hW];simp
 have HQ:=Lib.hid q0
 have HS:=Lib.hid (hs.below hal)
 obtain ⟨i0,hi,hz0,hz1,hz2⟩:=info_parts infoBl
 clear hs hnn hc
 go_enter Tryz.func66,Tryz.ntmps66
 go_wp2_with (at_make;refine wpList_make_full _ rfl _ _ 156 rfl W.heap.size 4 i0 _ 1 Tryz.underlying156 hi hz0 hz1 _ _ _ _ n rfl rfl rfl rfl ?b1 ?b2 ?b3 ?_)
 case b1=>rw [hz2];omega
 case b2=>simp only [maxLen];omega
 case b3=>omega
 intro w2 hown2 hgrow2
 have hb2:Below W.heap.size W w2:=bR.grown hgrow2 (Nat.le_refl _) (fun k hk=>by cases hk)
 have hO2:OwnBl W.heap.size w2 (.slice (some ⟨W.heap.size,0,none⟩) n n) (List.replicate n false):=by
  unfold OwnBl OwnSl
  rw [List.length_replicate,← madeFlat (sz:=1) (enc:=encBl) (fun _=>rfl) (by omega) (.bool false) (false:Bool) rfl,Nat.mul_one]
  exact hown2
 have hz2w:W.heap.size<w2.heap.size:=by
  rcases OwnSl.form hO2 with ⟨h,_⟩ | ⟨g,cp,h,_,h2,_⟩
  ·cases h
  ·obtain ⟨h3,_,_⟩:=Value.slice.inj h;cases h3;exact h2
 obtain ⟨g,hg⟩:∃ g,W.heap.size=g:=⟨_,rfl⟩
 obtain ⟨W3,hW3⟩:∃ W3,w2.alloc (.cells #[] 3)=W3:=⟨_,rfl⟩
 have hb3:Below w2.heap.size w2 W3:=by rw [← hW3];exact bR.alloc (Nat.le_refl _) _
 have HO3:=Lib.hid (show Ord W3 g n (.slice (some ⟨w2.heap.size,0,none⟩) 0 0) (krounds cs 0 (List.replicate n false)) by
  rw [hg] at hO2 hz2w
  refine ⟨OwnSl.kept hO2 hb3,by simp [krounds],Nat.lt_of_lt_of_le hz2w hb3.size,[],?_,?_⟩
  ·rw [← hW3]
   exact OwnSl.mono (litOwnJ (Nat.le_refl _)) (by omega)
  ·unfold krounds kcount
   simp [List.countP_replicate])
 have hbW3:Below W.heap.size W W3:=hb2.trans (hb3.mono (by omega))
 rw [hg] at hbW3
 have HNL:=Lib.hid (show ∀ k,(krounds cs k (List.replicate n false)).length=n from fun k=>by rw [krounds_len];simp)
 have hlg:w.heap.size<g:=by omega
 clear hown2 hgrow2 hb2 hO2 hz2w hb3 q0
 rw [hg]
 go_wp2_with fail
 go_loopw [4,5,6,7,8,9] (fun o i _ _ _ _ wr=>∃ k:Nat,k≤n∧i=.int .i64 k∧Hid (Ord wr g n o (krounds cs k (List.replicate n false)))∧Below g W wr) (fun _ i _ _ _ _ _=>n - (intOf i).toNat)
 case atStart=>exact ⟨0,by omega,rfl,HO3,hbW3⟩
 case round =>
  obtain ⟨k,hk,rfl,HO,hbr⟩:=hrel
  have hzr:g≤wr.heap.size:=by have:=hbr.size;omega
  have c9:=(hbr.cell (p:=⟨w.heap.size,0,none⟩) hlg).trans HQ.out
  obtain ⟨oa,oc,rfl⟩:=HO.out.form
  by_cases hlt:k<n
  ·have i1:(k:Int)<(n:Int):=by omega
   obtain ⟨d0,hd0⟩:∃ d0,krounds cs k (List.replicate n false)=d0:=⟨_,rfl⟩
   have HD0:=Lib.hid hd0
   rw [hd0] at HO ⊢
   obtain ⟨W0,hW0⟩:∃ W0,W0=wr:=⟨_,rfl⟩
   subst hW0
   clear hd0
   go_wp2_with fail
   go_loopw [4,6,7,8,9] (fun o i _ _ _ wr=>∃ c:Nat,c≤n∧i=.int .i64 c∧Hid (Ord wr g n o (kpart cs d0 c))∧Below g W wr) (fun _ i _ _ _ _=>n - (intOf i).toNat)
   case atStart=>exact ⟨0,by omega,rfl,HO,hbr⟩
   case round =>
    obtain ⟨c,hcn,rfl,HO,hbr⟩:=hrel
    have hzr:g≤wr.heap.size:=by have:=hbr.size;omega
    have c9:=(hbr.cell (p:=⟨w.heap.size,0,none⟩) hlg).trans HQ.out
    obtain ⟨oa,oc,rfl⟩:=HO.out.form
    by_cases hlt:c<n
    ·have i1:(c:Int)<(n:Int):=by omega
     have i2:(0:Int)≤(c:Int):=by omega
     have HKS:=Lib.hid (kpart_succ cs d0 c)
     obtain ⟨d,hd⟩:∃ d,kpart cs d0 c=d:=⟨_,rfl⟩
     rw [hd] at HO HKS ⊢
     obtain ⟨m,hm⟩:∃ m,kcount d=m:=⟨_,rfl⟩
     rw [hm]
     rw [hm] at HO
     have e0:=HO.out.at hlt
     obtain ⟨dc,hdc⟩:∃ dc,d.getD c false=dc:=⟨_,rfl⟩
     have HDC:=Lib.hid hdc
     rw [hdc] at e0
     obtain ⟨l,hx⟩:∃ l,cs[c]?=some l:=⟨_,List.getElem?_eq_getElem (by rw [HN.out];exact hlt)⟩
     have HX:=Lib.hid hx
     have HSW:=Lib.hid (HS.out.below (hbr.mono (by omega)))
     obtain ⟨b,o,sv,rfl,hbl,f0,hsv⟩:=HSW.out.at hx
     obtain ⟨sa,sc,rfl,hsl,hsm⟩:=hsv.form
     unfold maxLen at hsm
     have HSV:=Lib.hid hsv
     obtain ⟨ln,hln⟩:∃ ln,l.length=ln:=⟨_,rfl⟩
     have HLN:=Lib.hid hln
     rw [hln] at f0 HSV hsl
     have HE:=Lib.hid (show kstep cs d c=if (!dc && l.all (fun r=>r.act != 3 || d.getD r.ch.toNat false))=true then d.set c true else d by
      unfold kstep kready
      rw [hdc,getD_get hx])
     clear hx hsv hln hdc hd hm
     obtain ⟨W1,hW1⟩:∃ W1,W1=wr:=⟨_,rfl⟩
     subst hW1
     go_wp2_with fail
     go_loopw [7,8,9] (fun fr i _ wr=>∃ j:Nat,j≤ln∧i=.int .i64 j∧fr=.bool (!dc && (l.take j).all (fun r=>r.act != 3 || d.getD r.ch.toNat false))∧Below W1.heap.size W1 wr) (fun _ i _ _=>ln - (intOf i).toNat)
     case atStart=>exact ⟨0,by omega,rfl,by simp,Below.refl _ _⟩
     case round =>
      obtain ⟨j,hj,rfl,rfl,hbs⟩:=hrel
      have hzs:=hbs.size
      have HOr:=Lib.hid (HO.out.below hbs)
      have hbt:Below g W wr:=hbr.trans (hbs.mono hzr)
      have c9:=(hbt.cell (p:=⟨w.heap.size,0,none⟩) hlg).trans HQ.out
      have f0:=(hbs.cell (p:=⟨b,o+c,none⟩) hbl).trans f0
      by_cases hlj:j<ln
      ·have j1:(j:Int)<(ln:Int):=by omega
       have j2:(0:Int)≤(j:Int):=by omega
       obtain ⟨⟨ts,ra,rc⟩,hx⟩:∃ x,l[j]?=some x:=⟨_,List.getElem?_eq_getElem (by rw [HLN.out];exact hlj)⟩
       obtain ⟨bb,oo,tv,hsb,hbl2,g0,g1,g2,hsv⟩:=(HSV.out.below hbs).at hx
       obtain ⟨ta,tc,rfl, -, -⟩:=hsv.form
       cases hsb
       simp only at g0 g1 g2
       have HSC:=Lib.hid (kready_succ (d:=d) hx)
       have HCL:=Lib.hid (HCI.out l (List.mem_of_getElem? HX.out) _ (List.mem_of_getElem? hx))
       obtain ⟨fl,hfl⟩:∃ fl,(!dc && (l.take j).all (fun r=>r.act != 3 || d.getD r.ch.toNat false))=fl:=⟨_,rfl⟩
       have HFL:=Lib.hid hfl
       rw [hfl]
       generalize ts.length=tl at *
       obtain ⟨W4,hW4⟩:∃ W4,wr.alloc (.cells #[.slice ta tl tc,.int .i64 ra,.int .i64 rc] 101)=W4:=⟨_,rfl⟩
       have hal4:Below wr.heap.size wr W4:=by rw [← hW4];exact bR.alloc (Nat.le_refl _) _
       have r1:W4.cell? ⟨wr.heap.size,1,none⟩=some (.int .i64 ra):=by rw [← hW4];simp
       have r2:W4.cell? ⟨wr.heap.size,2,none⟩=some (.int .i64 rc):=by rw [← hW4];simp
       have hw4:Below W1.heap.size W1 W4:=hbs.trans (hal4.mono hzs)
       clear hx hsv hfl
       cases fl
       ·go_wp2
        go_roundw
        case rel=>exact ⟨j+1,by omega,by go_num,by rw [HSC.out,← Bool.and_assoc,HFL.out];rfl,hw4⟩
        case measure=>simp [intOf];omega
       ·by_cases h3:ra=3
        ·subst h3
         obtain ⟨p0,p5,pn⟩:=HCL.out rfl
         simp only at p0 p5 pn
         rw [HN.out] at pn
         obtain ⟨q,rfl⟩:=Int.eq_ofNat_of_zero_le p0
         have hqn:q<n:=by omega
         have e4:=(HOr.out.below hal4).at hqn
         go_wp2
         go_roundw
         case rel=>exact ⟨j+1,by omega,by go_num,by rw [HSC.out,← Bool.and_assoc,HFL.out];simp,hw4⟩
         case measure=>simp [intOf];omega
        ·have h3b:(ra==3)=false:=by simpa using h3
         have h3c:(ra != 3)=true:=by simpa using h3
         go_wp2
         go_roundw
         case rel=>exact ⟨j+1,by omega,by go_num,by rw [HSC.out,← Bool.and_assoc,HFL.out];simp [h3c],hw4⟩
         case measure=>simp [intOf];omega
      ·have hjl:j=ln:=by omega
       subst hjl
       have HTK:=Lib.hid (show l.take j=l by rw [List.take_of_length_le (by rw [HLN.out];omega)])
       rw [HTK.out]
       obtain ⟨fl,hfl⟩:∃ fl,(!dc && l.all (fun r=>r.act != 3 || d.getD r.ch.toNat false))=fl:=⟨_,rfl⟩
       rw [hfl]
       rw [hfl] at HE
       cases fl
       ·have HO2:=Lib.hid (show Ord wr g n (.slice oa m oc) (kpart cs d0 (c+1)) by rw [HKS.out,HE.out];exact HOr.out)
        go_wp2
        go_roundw
        case rel=>exact ⟨c+1,by omega,by go_num,HO2,hbt⟩
        case measure=>simp [intOf];omega
       ·have hd0:dc=false:=by cases dc;rfl;simp at hfl
        obtain ⟨v',w',hrun,ho,hbo⟩:=HOr.out.step hn5 hlt (HDC.out.trans hd0)
        have HO2:=Lib.hid (show Ord w' g n v' (kpart cs d0 (c+1)) by rw [HKS.out,HE.out];exact ho)
        have hbx:Below g W w':=hbt.trans hbo
        have e5:=HOr.out.at hlt
        have e6:=HOr.out.frz c
        clear ho hbo
        go_wp2_with (at_builtin;refine wpList_append_run rfl _ _ 76 rfl rfl rfl hrun ?_)
        go_wp2
        go_roundw
        case rel=>exact ⟨c+1,by omega,by go_num,HO2,hbx⟩
        case measure=>simp [intOf];omega
    ·have hcn':c=n:=by omega
     subst hcn'
     have HO2:=Lib.hid (show Ord wr g c (.slice oa (kcount (kpart cs d0 c)) oc) (krounds cs (k+1) (List.replicate c false)) by
      rw [krounds_succ,HD0.out,HN.out];exact HO.out)
     go_wp2
     go_roundw
     case rel=>exact ⟨k+1,by omega,by go_num,HO2,hbr⟩
     case measure=>simp [intOf];omega
  ·have hkn:k=n:=by omega
   subst hkn
   have HF:=Lib.hid (show krounds cs k (List.replicate k false)=kfin cs by unfold kfin;rw [HN.out])
   rw [HF.out]
   go_wp2
   go_ret
   exact ⟨_,_,rfl,hal.trans (hbr.mono (by omega))⟩
end Go.Proofs.YtfcbbahlhjdefaaGreatDoor
