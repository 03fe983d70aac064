/- A region that draws its order and turns the world by one operation; those behind wait for it through others. -/
import Derived.Test.YtfcbbahlhjdefaaGreatDoorRsH
import Derived.Test.YtfcbbahlhjdefaaGreatDoorFnX
import Derived.Test.YtfcbbahlhjdefaaGreatDoorRgX
namespace Go.Proofs.YtfcbbahlhjdefaaGreatDoor
open Go.RowKit
theorem PTe.keepSet {w:World} {lo hi:Nat} {v u:Value} {ts:List Te} {p:Addr} (h:PTe w lo hi v ts) (hp:p.block<lo):PTe (w.setCell p u) lo hi v ts :=
 PTe.keep h ⟨by simp,fun k k1 _ _=>Below.heap_setCell _ _ _ _ (by omega)⟩
set_option maxHeartbeats 2000000 in
set_option maxRecDepth 100000 in
theorem ownRule_any {lo:Nat} (ts:List Te) (c d:Int) (v:Value) (w:World) (hs:Tss lo w v ts) (hN:ts.length≤1048576) :
  Calls Tryz.prog 122 #[.agg #[v,.int .i64 c,.int .i64 d]] w fun e w'=>∃ v',e=.returned (.agg #[v',.int .i64 c,.int .i64 d])∧PTe w' w.heap.size w'.heap.size v' ts∧Below w.heap.size w w':=by
 obtain ⟨a,cap,rfl,hlc,hcm⟩:=hs.form
 obtain ⟨W,hW⟩:∃ W,(((w.alloc (.cells #[.slice a ts.length cap,.int .i64 c,.int .i64 d] 101)).alloc (.cells #[.slice none 0 0,.int .i64 0,.int .i64 0] 101)).alloc (.cells #[.slice none 0 0,.int .i64 0,.int .i64 0] 101))=W:=⟨_,rfl⟩
 have hal:Below w.heap.size w W:=by rw [← hW];(repeat' (first | with_reducible exact Below.refl _ _ | with_reducible assumption | with_reducible refine Below.setCell ?_ ?_ _ | with_reducible refine Below.alloc ?_ ?_ _ | with_reducible refine Below.drew ?_ | with_reducible refine belDrewN ?_ _ | with_reducible refine Below.trans ?_ (Below.mono (by assumption) ?_) | omega | (simp;omega) | (simp;done)))
 have qs:W.heap.size=w.heap.size+1+1+1:=by rw [← hW];simp
 have HA:=alloc3_cells w #[.slice a ts.length cap,.int .i64 c,.int .i64 d] #[.slice none 0 0,.int .i64 0,.int .i64 0] #[.slice none 0 0,.int .i64 0,.int .i64 0] 101 101 101
 rw [hW] at HA
 have g0:W.cell? ⟨w.heap.size,0,none⟩=some (.slice a ts.length cap):=by rw [HA.1 0];rfl
 have g01:W.cell? ⟨w.heap.size,1,none⟩=some (.int .i64 c):=by rw [HA.1 1];rfl
 have g02:W.cell? ⟨w.heap.size,2,none⟩=some (.int .i64 d):=by rw [HA.1 2];rfl
 have g10:W.cell? ⟨w.heap.size+1,0,none⟩=some (.slice none 0 0):=by rw [(HA.2.1 0).1];rfl
 have m10:W.frozen? ⟨w.heap.size+1,0,none⟩=false:=(HA.2.1 0).2
 have g20:W.cell? ⟨w.heap.size+1+1,0,none⟩=some (.slice none 0 0):=by rw [(HA.2.2 0).1];rfl
 have m20:W.frozen? ⟨w.heap.size+1+1,0,none⟩=false:=(HA.2.2 0).2
 have g11:W.cell? ⟨w.heap.size+1,1,none⟩=some (.int .i64 0):=by rw [(HA.2.1 1).1];rfl
 have m11:W.frozen? ⟨w.heap.size+1,1,none⟩=false:=(HA.2.1 1).2
 have g21:W.cell? ⟨w.heap.size+1+1,1,none⟩=some (.int .i64 0):=by rw [(HA.2.2 1).1];rfl
 have m21:W.frozen? ⟨w.heap.size+1+1,1,none⟩=false:=(HA.2.2 1).2
 have g12:W.cell? ⟨w.heap.size+1,2,none⟩=some (.int .i64 0):=by rw [(HA.2.1 2).1];rfl
 have m12:W.frozen? ⟨w.heap.size+1,2,none⟩=false:=(HA.2.1 2).2
 have g22:W.cell? ⟨w.heap.size+1+1,2,none⟩=some (.int .i64 0):=by rw [(HA.2.2 2).1];rfl
 have m22:W.frozen? ⟨w.heap.size+1+1,2,none⟩=false:=(HA.2.2 2).2
 have HS:=Lib.hid hs
 obtain ⟨j0,hj,hj0,hj1,hj2⟩:=info_parts infoTeq
 clear HA hs
 generalize hn:ts.length=n at *
 have HN:=Lib.hid hn
 clear hn
 obtain ⟨W2,hW2⟩:∃ W2,((W.setCell ⟨w.heap.size+1+1,0,none⟩ (.slice a n cap)).setCell ⟨w.heap.size+1+1,1,none⟩ (.int .i64 c)).setCell ⟨w.heap.size+1+1,2,none⟩ (.int .i64 d)=W2:=⟨_,rfl⟩
 have hB2:Below w.heap.size w W2:=by rw [← hW2];exact ((hal.setCell (by simp only;omega) _).setCell (by simp only;omega) _).setCell (by simp only;omega) _
 have hz2:W2.heap.size=w.heap.size+1+1+1:=by rw [← hW2];simp [qs]
 have hk2:∀ k,k≠w.heap.size+1+1→W2.heap[k]?=W.heap[k]?:=fun k h=>by
  rw [← hW2]
  exact (Below.heap_setCell _ _ _ _ (by simpa using h)).trans ((Below.heap_setCell _ _ _ _ (by simpa using h)).trans (Below.heap_setCell _ _ _ _ (by simpa using h)))
 have b0:W2.cell? ⟨w.heap.size,0,none⟩=some (.slice a n cap):=(World.cell?_of_block (a:=⟨w.heap.size,0,none⟩) (hk2 _ (by simp only;omega))).trans g0
 have c10:=(World.cell?_of_block (a:=⟨w.heap.size+1,0,none⟩) (hk2 _ (by simp only;omega))).trans g10
 have f10:=(World.frozen?_of_block (a:=⟨w.heap.size+1,0,none⟩) (hk2 _ (by simp only;omega))).trans m10
 have c11:=(World.cell?_of_block (a:=⟨w.heap.size+1,1,none⟩) (hk2 _ (by simp only;omega))).trans g11
 have f11:=(World.frozen?_of_block (a:=⟨w.heap.size+1,1,none⟩) (hk2 _ (by simp only;omega))).trans m11
 have c12:=(World.cell?_of_block (a:=⟨w.heap.size+1,2,none⟩) (hk2 _ (by simp only;omega))).trans g12
 have f12:=(World.frozen?_of_block (a:=⟨w.heap.size+1,2,none⟩) (hk2 _ (by simp only;omega))).trans m12
 have c20:W2.cell? ⟨w.heap.size+1+1,0,none⟩=some (.slice a n cap):=by rw [← hW2,World.cell?_setCell_other _ _ _ _ (by simp),World.cell?_setCell_other _ _ _ _ (by simp)];exact World.cell?_setCell_same' _ _ _ (by rw [g20];rfl)
 have c21:W2.cell? ⟨w.heap.size+1+1,1,none⟩=some (.int .i64 c):=by rw [← hW2,World.cell?_setCell_other _ _ _ _ (by simp)];exact World.cell?_setCell_same' _ _ _ (by rw [World.cell?_setCell_other _ _ _ _ (by simp),g21];rfl)
 have c22:W2.cell? ⟨w.heap.size+1+1,2,none⟩=some (.int .i64 d):=by rw [← hW2];exact World.cell?_setCell_same' _ _ _ (by rw [World.cell?_setCell_other _ _ _ _ (by simp),World.cell?_setCell_other _ _ _ _ (by simp),g22];rfl)
 have f20:W2.frozen? ⟨w.heap.size+1+1,0,none⟩=false:=by rw [← hW2,World.frozen?_setCell,World.frozen?_setCell,World.frozen?_setCell];exact m20
 have hq:Below W2.heap.size W2 (W2.alloc (.cells #[] 159)):=bR.alloc (Nat.le_refl _) _
 obtain ⟨v5,w5,hrun,ho5,hb5⟩:=run_append_copy (sz:=4) (enc:=Te.enc) (by omega) (fun _=>rfl) (P:=Tryz.prog) (w:=W2.alloc (.cells #[] 159)) 99 99 159 j0 _ 32 Tryz.underlying99 hj hj0 hj1 hj2 rfl ⟨W2.heap.size,0,none⟩ (litOwn 159 4 Te.enc (base:=W2.heap.size) (w:=W2) (Nat.le_refl _)) hq.size (v:=.slice a n cap) (xs:=ts) (SlFr.at ((HS.out.below hB2).below hq)) (by rw [HN.out];omega)
 replace hb5:Below W2.heap.size W2 w5:=hq.trans (hb5.mono hq.size)
 have hz5:=hb5.size
 have hP5:PTe w5 W2.heap.size w5.heap.size v5 ts:=⟨ho5,fun x hx=>(World.ownsRow.lt ho5 x hx).2,hz5⟩
 obtain ⟨va,vc,hva, -, -⟩:=hP5.tss.form
 rw [HN.out] at hva
 subst hva
 have bq:=(hq.cell (p:=⟨w.heap.size,0,none⟩) (by rw [hz2];simp only;omega)).trans b0
 have d10:=(hb5.cell (p:=⟨w.heap.size+1,0,none⟩) (by rw [hz2];simp only;omega)).trans c10
 have e10:=(hb5.frozen (p:=⟨w.heap.size+1,0,none⟩) (by rw [hz2];simp only;omega)).trans f10
 have d20:=(hb5.cell (p:=⟨w.heap.size+1+1,0,none⟩) (by rw [hz2];simp only;omega)).trans c20
 have d11:=(hb5.cell (p:=⟨w.heap.size+1,1,none⟩) (by rw [hz2];simp only;omega)).trans c11
 have e11:=(hb5.frozen (p:=⟨w.heap.size+1,1,none⟩) (by rw [hz2];simp only;omega)).trans f11
 have d21:=(hb5.cell (p:=⟨w.heap.size+1+1,1,none⟩) (by rw [hz2];simp only;omega)).trans c21
 have d12:=(hb5.cell (p:=⟨w.heap.size+1,2,none⟩) (by rw [hz2];simp only;omega)).trans c12
 have e12:=(hb5.frozen (p:=⟨w.heap.size+1,2,none⟩) (by rw [hz2];simp only;omega)).trans f12
 have d22:=(hb5.cell (p:=⟨w.heap.size+1+1,2,none⟩) (by rw [hz2];simp only;omega)).trans c22
 have e20:=(hb5.frozen (p:=⟨w.heap.size+1+1,0,none⟩) (by rw [hz2];simp only;omega)).trans f20
 rw [hz2] at hrun
 have hw5:Below w.heap.size w w5:=hB2.trans (hb5.mono hB2.size)
 have HP5:=Lib.hid hP5
 have hzz:w.heap.size+1+1<w5.heap.size:=by omega
 go_enter Tryz.func122,Tryz.ntmps122
 go_wp2_with (at_builtin;refine wpList_append_run rfl _ _ 99 rfl rfl rfl hrun ?_)
 clear hrun hq hb5 ho5 hP5 hk2 b0 bq
 go_wp2
 refine bodyPost_ret (v:=.agg #[.slice va n vc,.int .i64 c,.int .i64 d]) ?_ rfl ⟨_,rfl,?_,(((hw5.setCell (p:=⟨w.heap.size+1+1,0,none⟩) (by simp only;omega) _).setCell (p:=⟨w.heap.size+1,0,none⟩) (by simp only;omega) _).setCell (p:=⟨w.heap.size+1,1,none⟩) (by simp only;omega) _).setCell (p:=⟨w.heap.size+1,2,none⟩) (by simp only;omega) _⟩
 ·simp [results,Tryz.results122,go_sem,d10,d11,d12]
 ·have h1:=PTe.keepSet (u:=.slice va n vc) (p:=⟨w.heap.size+1+1,0,none⟩) HP5.out (by simp only;omega)
  have h2:=PTe.keepSet (u:=.slice va n vc) (p:=⟨w.heap.size+1,0,none⟩) h1 (by simp only;omega)
  have h3:=PTe.keepSet (u:=.int .i64 c) (p:=⟨w.heap.size+1,1,none⟩) h2 (by simp only;omega)
  have h4:=PTe.keepSet (u:=.int .i64 d) (p:=⟨w.heap.size+1,2,none⟩) h3 (by simp only;omega)
  exact PTe.mono h4 (by omega) (by simp)
set_option maxHeartbeats 2000000 in
set_option maxRecDepth 100000 in
theorem ownRules_any {lo:Nat} (fs:List Ru) (v:Value) (w:World) (hs:Rus lo w v fs) (hN:ruN fs≤1048576) :
  Calls Tryz.prog 97 #[v] w fun e w'=>∃ v',e=.returned v'∧GRu w' w.heap.size w'.heap.size v' fs∧Below w.heap.size w w':=by
 obtain ⟨a,cap,rfl,hlc,hcm⟩:=hs.form
 unfold maxLen at hcm
 obtain ⟨hn6,he⟩:=ruN_bound hN
 generalize hn:fs.length=n at *
 have HN:=Lib.hid hn
 have HS:=Lib.hid hs
 have HE:=Lib.hid he
 obtain ⟨i0,hi,hy0,hy1,hy2⟩:=info_parts infoRu
 have HO0:=Lib.hid (litOwn 101 3 RR.enc (base:=w.heap.size) (w:=w) (Nat.le_refl _))
 have hal:Below w.heap.size w (w.alloc (.cells #[] 101)):=bR.alloc (Nat.le_refl _) _
 clear hn hs he
 go_enter Tryz.func97,Tryz.ntmps97
 go_wp2_with fail
 go_loopw [3,4] (fun o i wr=>∃ (k:Nat) (rs:List RR),k≤n∧i=.int .i64 k∧Hid (OwnSl w.heap.size 101 3 RR.enc wr o rs)∧Hid (∀ z,o.ownBlock=some z→z<wr.heap.size)∧Hid (OwnD (fun l h y z=>PRg wr l h y z∧Off o.ownBlock l h) w.heap.size wr.heap.size rs (fs.take k))∧Below w.heap.size w wr) (fun _ i _=>n - (intOf i).toNat)
 case atStart=>exact ⟨0,[],by omega,rfl,HO0,Lib.hid (fun z hz=>(World.ownsRow.lt HO0.out z hz).2),Lib.hid hal.size,hal⟩
 case round =>
  obtain ⟨k,rs,hk,rfl,HO,HX,HD,hbr⟩:=hrel
  have hzr:=hbr.size
  by_cases hlt:k<n
  ·have i1:(k:Int)<(n:Int):=by omega
   have i2:(0:Int)≤(k:Int):=by omega
   obtain ⟨f,hx⟩:∃ f,fs[k]?=some f:=⟨_,List.getElem?_eq_getElem (by rw [HN.out];exact hlt)⟩
   obtain ⟨b',o,sv,rfl,hbl,c0,c1,c2,hsv⟩:=(HS.out.below hbr).at hx
   have hf1:=HE.out k f hx
   have HXX:=Lib.hid hx
   have HSV:=Lib.hid hsv
   have HV:=Lib.hid (show rs.length≤1048576 by have:=HD.out.len;rw [List.length_take] at this;omega)
   clear hx hsv
   go_wp2_with fail
   refine (ownRule_any f.ts f.act f.ch sv wr HSV.out hf1).mono ?_
   rintro e w5 ⟨v5,rfl,ho5,hb5⟩
   have hz5:=hb5.size
   obtain ⟨va,vc,rfl, -, -⟩:=ho5.tss.form
   have HB5:=Lib.hid hb5
   have HP5:=Lib.hid (show PRg w5 wr.heap.size w5.heap.size ⟨.slice va f.ts.length vc,f.act,f.ch⟩ f from ⟨ho5,rfl,rfl⟩)
   clear ho5 hb5
   go_wp2_with (at_builtin;refine wpList_append_lies _ rfl _ _ 96 rfl w.heap.size 101 i0 _ 3 40 Tryz.underlying96 hi hy0 hy1 hy2 rfl (by decide) _ rs.length (rs.flatMap RR.enc) rfl (World.ownsRow.alloc (OwnSl.kept HO.out HB5.out) _) ⟨w5.heap.size,0,none⟩ 1 1 (RR.enc ⟨.slice va f.ts.length vc,f.act,f.ch⟩) rfl rfl (cellsNew w5 (RR.enc ⟨.slice va f.ts.length vc,f.act,f.ch⟩) _) ?c2 (by decide) ?c3 ?c4 ?c5 _ rfl ?_)
   case c2=>simp [Value.oneCell']
   case c3=>have:=HV.out;simp only [maxLen];omega
   case c4=>have:=HV.out;omega
   case c5=>simp;omega
   intro g6 cap6 w6 hown6 hgrow6 hlies6 hlt6
   have hp6:=OwnG.push (P:=PRg) (e:=101) (sz:=3) (enc:=RR.enc) PRg.kind (w:=wr) (w1:=w5) HD.out HX.out (by omega) HB5.out HP5.out (grown_old hgrow6) (OwnSl.pushed rfl hown6) hlies6 hlt6 (by simp)
   have hB:Below w.heap.size w w6:=belGrown ((hbr.trans (HB5.out.mono hzr)).alloc (by omega) _) (World.ownsRow.alloc (OwnSl.kept HO.out HB5.out) _) hgrow6 (by simp;omega)
   have HP6:=Lib.hid hp6
   clear hown6 hgrow6 hlies6 hlt6 hp6
   go_wp2
   go_roundw
   case rel =>
    obtain ⟨vs6,ho6,hv6,hl6,hd6⟩:=HP6.out
    refine ⟨k+1,vs6,by omega,by go_num,Lib.hid ho6,Lib.hid hv6,Lib.hid ?_,hB⟩
    rw [List.take_add_one,HXX.out]
    exact hd6
   case measure=>simp [intOf];omega
  ·have hkn:k=n:=by omega
   go_wp2
   go_ret
   refine ⟨u3,rfl,⟨rs,HO.out,HX.out,hzr,?_⟩,hbr⟩
   have:=HD.out
   rwa [List.take_of_length_le (by rw [HN.out];omega)] at this
set_option maxHeartbeats 2000000 in
set_option maxRecDepth 100000 in
theorem ownRc_any {lo:Nat} (fs:List (List Ru)) (v:Value) (w:World) (hs:Rss lo w v fs) (hN:rcN fs≤1048576) :
  Calls Tryz.prog 63 #[v] w fun e w'=>∃ v',e=.returned v'∧GRc w' w.heap.size w'.heap.size v' fs∧Below w.heap.size w w':=by
 obtain ⟨a,cap,rfl,hlc,hcm⟩:=hs.form
 unfold maxLen at hcm
 obtain ⟨hn6,he⟩:=rcN_bound hN
 generalize hn:fs.length=n at *
 have HN:=Lib.hid hn
 have HS:=Lib.hid hs
 have HE:=Lib.hid he
 obtain ⟨i0,hi,hy0,hy1,hy2⟩:=info_parts infoRl
 have HO0:=Lib.hid (litOwn 96 1 enc1 (base:=w.heap.size) (w:=w) (Nat.le_refl _))
 have hal:Below w.heap.size w (w.alloc (.cells #[] 96)):=bR.alloc (Nat.le_refl _) _
 clear hn hs he
 go_enter Tryz.func63,Tryz.ntmps63
 go_wp2_with fail
 go_loopw [3,4] (fun o i wr=>∃ (k:Nat) (rs:List Value),k≤n∧i=.int .i64 k∧Hid (OwnSl w.heap.size 96 1 enc1 wr o rs)∧Hid (∀ z,o.ownBlock=some z→z<wr.heap.size)∧Hid (OwnD (fun l h y z=>GRu wr l h y z∧Off o.ownBlock l h) w.heap.size wr.heap.size rs (fs.take k))∧Below w.heap.size w wr) (fun _ i _=>n - (intOf i).toNat)
 case atStart=>exact ⟨0,[],by omega,rfl,HO0,Lib.hid (fun z hz=>(World.ownsRow.lt HO0.out z hz).2),Lib.hid hal.size,hal⟩
 case round =>
  obtain ⟨k,rs,hk,rfl,HO,HX,HD,hbr⟩:=hrel
  have hzr:=hbr.size
  by_cases hlt:k<n
  ·have i1:(k:Int)<(n:Int):=by omega
   have i2:(0:Int)≤(k:Int):=by omega
   obtain ⟨f,hx⟩:∃ f,fs[k]?=some f:=⟨_,List.getElem?_eq_getElem (by rw [HN.out];exact hlt)⟩
   obtain ⟨b',o,sv,rfl,hbl,c0,hsv⟩:=(HS.out.below hbr).at hx
   have hf1:=HE.out k f hx
   have HXX:=Lib.hid hx
   have HSV:=Lib.hid hsv
   have HV:=Lib.hid (show rs.length≤1048576 by have:=HD.out.len;rw [List.length_take] at this;omega)
   clear hx hsv
   go_wp2_with fail
   refine (ownRules_any f sv wr HSV.out hf1).mono ?_
   rintro e w5 ⟨v5,rfl,ho5,hb5⟩
   have hz5:=hb5.size
   obtain ⟨va,vc,rfl, -, -⟩:=ho5.form
   have HB5:=Lib.hid hb5
   have HP5:=Lib.hid (show GRu w5 wr.heap.size w5.heap.size (.slice va f.length vc) f from ho5)
   clear ho5 hb5
   go_wp2_with (at_builtin;refine wpList_append_lies _ rfl _ _ 23 rfl w.heap.size 96 i0 _ 1 24 Tryz.underlying23 hi hy0 hy1 hy2 rfl (by decide) _ rs.length (rs.flatMap enc1) rfl (World.ownsRow.alloc (OwnSl.kept HO.out HB5.out) _) ⟨w5.heap.size,0,none⟩ 1 1 (enc1 (.slice va f.length vc)) rfl rfl (cellsNew w5 (enc1 (.slice va f.length vc)) _) ?c2 (by decide) ?c3 ?c4 ?c5 _ rfl ?_)
   case c2=>simp [Value.oneCell']
   case c3=>have:=HV.out;simp only [maxLen];omega
   case c4=>have:=HV.out;omega
   case c5=>simp;omega
   intro g6 cap6 w6 hown6 hgrow6 hlies6 hlt6
   have hp6:=OwnG.push (P:=GRu) (e:=96) (sz:=1) (enc:=enc1) GRu.kind (w:=wr) (w1:=w5) HD.out HX.out (by omega) HB5.out HP5.out (grown_old hgrow6) (show OwnSl w.heap.size 96 1 enc1 w6 (.slice (some ⟨g6,0,none⟩) (rs.length+1) cap6) (rs++[.slice va f.length vc]) by unfold OwnSl;simpa using hown6) hlies6 hlt6 (by simp)
   have hB:Below w.heap.size w w6:=belGrown ((hbr.trans (HB5.out.mono hzr)).alloc (by omega) _) (World.ownsRow.alloc (OwnSl.kept HO.out HB5.out) _) hgrow6 (by simp;omega)
   have HP6:=Lib.hid hp6
   clear hown6 hgrow6 hlies6 hlt6 hp6
   go_wp2
   go_roundw
   case rel =>
    obtain ⟨vs6,ho6,hv6,hl6,hd6⟩:=HP6.out
    refine ⟨k+1,vs6,by omega,by go_num,Lib.hid ho6,Lib.hid hv6,Lib.hid ?_,hB⟩
    rw [List.take_add_one,HXX.out]
    exact hd6
   case measure=>simp [intOf];omega
  ·have hkn:k=n:=by omega
   go_wp2
   go_ret
   refine ⟨u3,rfl,⟨rs,HO.out,HX.out,hzr,?_⟩,hbr⟩
   have:=HD.out
   rwa [List.take_of_length_le (by rw [HN.out];omega)] at this
set_option maxHeartbeats 1000000 in
set_option maxRecDepth 100000 in
theorem ownRs_any {lo:Nat} (b:List (List Ru)) (p:Bool) (v:Value) (w:World) (hs:Rss lo w v b) (hN:rcN b≤1048576) :
  Calls Tryz.prog 30 #[.agg #[v,.bool p]] w fun e w'=>∃ v',e=.returned (.agg #[v',.bool p])∧GRc w' w.heap.size w'.heap.size v' b∧Below w.heap.size w w':=by
 obtain ⟨a,cap,rfl,hlc,hcm⟩:=hs.form
 obtain ⟨W,hW⟩:∃ W,(((w.alloc (.cells #[.slice a b.length cap,.bool p] 25)).alloc (.cells #[.slice none 0 0,.bool false] 25)).alloc (.cells #[.slice none 0 0,.bool false] 25))=W:=⟨_,rfl⟩
 have hal:Below w.heap.size w W:=by rw [← hW];(repeat' (first | with_reducible exact Below.refl _ _ | with_reducible assumption | with_reducible refine Below.setCell ?_ ?_ _ | with_reducible refine Below.alloc ?_ ?_ _ | with_reducible refine Below.drew ?_ | with_reducible refine belDrewN ?_ _ | with_reducible refine Below.trans ?_ (Below.mono (by assumption) ?_) | omega | (simp;omega) | (simp;done)))
 have qs:W.heap.size=w.heap.size+1+1+1:=by rw [← hW];simp
 have HA:=alloc3_cells w #[.slice a b.length cap,.bool p] #[.slice none 0 0,.bool false] #[.slice none 0 0,.bool false] 25 25 25
 rw [hW] at HA
 have g0:W.cell? ⟨w.heap.size,0,none⟩=some (.slice a b.length cap):=by rw [HA.1 0];rfl
 have g1:W.cell? ⟨w.heap.size+1,0,none⟩=some (.slice none 0 0):=by rw [(HA.2.1 0).1];rfl
 have m1:W.frozen? ⟨w.heap.size+1,0,none⟩=false:=(HA.2.1 0).2
 have g2:W.cell? ⟨w.heap.size+1+1,0,none⟩=some (.slice none 0 0):=by rw [(HA.2.2 0).1];rfl
 have m2:W.frozen? ⟨w.heap.size+1+1,0,none⟩=false:=(HA.2.2 0).2
 have g0':W.cell? ⟨w.heap.size,1,none⟩=some (.bool p):=by rw [HA.1 1];rfl
 have g1':W.cell? ⟨w.heap.size+1,1,none⟩=some (.bool false):=by rw [(HA.2.1 1).1];rfl
 have m1':W.frozen? ⟨w.heap.size+1,1,none⟩=false:=(HA.2.1 1).2
 have g2':W.cell? ⟨w.heap.size+1+1,1,none⟩=some (.bool false):=by rw [(HA.2.2 1).1];rfl
 have m2':W.frozen? ⟨w.heap.size+1+1,1,none⟩=false:=(HA.2.2 1).2
 have HS:=Lib.hid hs
 clear HA hs
 generalize hn:b.length=n at *
 have HN:=Lib.hid hn
 clear hn
 go_enter Tryz.func30,Tryz.ntmps30
 go_wp2_with fail
 obtain ⟨W2,hW2⟩:∃ W2,(W.setCell ⟨w.heap.size+1+1,0,none⟩ (.slice a n cap)).setCell ⟨w.heap.size+1+1,1,none⟩ (.bool p)=W2:=⟨_,rfl⟩
 have hB2:Below w.heap.size w W2:=by rw [← hW2];exact (hal.setCell (by simp only;omega) _).setCell (by simp only;omega) _
 have hz2:W2.heap.size=w.heap.size+1+1+1:=by rw [← hW2];simp [qs]
 have c1:W2.cell? ⟨w.heap.size+1,0,none⟩=some (.slice none 0 0):=by rw [← hW2,World.cell?_setCell_other _ _ _ _ (by simp),World.cell?_setCell_other _ _ _ _ (by simp)];exact g1
 have c1':W2.cell? ⟨w.heap.size+1,1,none⟩=some (.bool false):=by rw [← hW2,World.cell?_setCell_other _ _ _ _ (by simp),World.cell?_setCell_other _ _ _ _ (by simp)];exact g1'
 have c2:W2.cell? ⟨w.heap.size+1+1,0,none⟩=some (.slice a n cap):=by rw [← hW2,World.cell?_setCell_other _ _ _ _ (by simp)];exact World.cell?_setCell_same' _ _ _ (by rw [g2];rfl)
 have c2':W2.cell? ⟨w.heap.size+1+1,1,none⟩=some (.bool p):=by rw [← hW2];exact World.cell?_setCell_same' _ _ _ (by rw [World.cell?_setCell_other _ _ _ _ (by simp),g2'];rfl)
 have f1:∀ j,j<2→W2.frozen? ⟨w.heap.size+1,j,none⟩=false:=fun j hj=>by
  rw [← hW2,World.frozen?_setCell,World.frozen?_setCell]
  rcases (by omega:j=0∨j=1) with rfl | rfl
  ·exact m1
  ·exact m1'
 have f2:∀ j,j<2→W2.frozen? ⟨w.heap.size+1+1,j,none⟩=false:=fun j hj=>by
  rw [← hW2,World.frozen?_setCell,World.frozen?_setCell]
  rcases (by omega:j=0∨j=1) with rfl | rfl
  ·exact m2
  ·exact m2'
 rw [hW2]
 refine (ownRc_any b _ _ (HS.out.below hB2) hN).mono ?_
 rintro e w3 ⟨v3,rfl,ho3,hb3⟩
 rw [hz2] at ho3
 have hz3:=hb3.size
 rw [hz2] at hz3
 have d1:=(hb3.cell (p:=⟨w.heap.size+1,0,none⟩) (by rw [hz2];simp only;omega)).trans c1
 have d1':=(hb3.cell (p:=⟨w.heap.size+1,1,none⟩) (by rw [hz2];simp only;omega)).trans c1'
 have e1:=(hb3.frozen (p:=⟨w.heap.size+1,0,none⟩) (by rw [hz2];simp only;omega)).trans (f1 0 (by omega))
 have e1':=(hb3.frozen (p:=⟨w.heap.size+1,1,none⟩) (by rw [hz2];simp only;omega)).trans (f1 1 (by omega))
 have d2:=(hb3.cell (p:=⟨w.heap.size+1+1,0,none⟩) (by rw [hz2];simp only;omega)).trans c2
 have d2':=(hb3.cell (p:=⟨w.heap.size+1+1,1,none⟩) (by rw [hz2];simp only;omega)).trans c2'
 have e2:=(hb3.frozen (p:=⟨w.heap.size+1+1,0,none⟩) (by rw [hz2];simp only;omega)).trans (f2 0 (by omega))
 obtain ⟨va,vc,hva, -, -⟩:=GRc.form ho3
 rw [HN.out] at hva
 subst hva
 have hw3:Below w.heap.size w w3:=hB2.trans (hb3.mono (by rw [hz2];omega))
 have HO3:=Lib.hid ho3
 clear hb3 c1 c2 c1' c2' g0 g0' g1 g1' m1 m1' g2 g2' m2 m2' hz2 hW2 hB2 hal hW ho3 f1 f2
 go_wp2
 refine bodyPost_ret (v:=.agg #[.slice va n vc,.bool p]) ?_ rfl ⟨_,rfl,?_,((hw3.setCell (p:=⟨w.heap.size+1+1,0,none⟩) (by simp only;omega) _).setCell (p:=⟨w.heap.size+1,0,none⟩) (by simp only;omega) _).setCell (p:=⟨w.heap.size+1,1,none⟩) (by simp only;omega) _⟩
 ·simp [results,Tryz.results30,go_sem,d1,d1']
 ·have h1:=OwnG.keepSet (u:=.slice va n vc) (p:=⟨w.heap.size+1+1,0,none⟩) GRu.kind HO3.out (by simp only;omega)
  have h2:=OwnG.keepSet (u:=.slice va n vc) (p:=⟨w.heap.size+1,0,none⟩) GRu.kind h1 (by simp only;omega)
  have h3:=OwnG.keepSet (u:=.bool p) (p:=⟨w.heap.size+1,1,none⟩) GRu.kind h2 (by simp only;omega)
  rw [show (((w3.setCell ⟨w.heap.size+1+1,0,none⟩ (.slice va n vc)).setCell ⟨w.heap.size+1,0,none⟩ (.slice va n vc)).setCell ⟨w.heap.size+1,1,none⟩ (.bool p)).heap.size=w3.heap.size from by simp]
  exact OwnG.low h3 (by omega)
end Go.Proofs.YtfcbbahlhjdefaaGreatDoor
namespace Go.Proofs.YtfcbbahlhjdefaaGreatDoor
open Go.RowKit
theorem reach_dep {l:List Oper} {L:List Bool} (hcl:∀ (j:Nat) o,l[j]?=some o→L[j]?=some true→∀ k,depOn o k=true→L[k]?=some true) {i n:Nat} {o:Oper} (hi:l[i]?=some o) (hd:∀ j,depOn o j=true→L[j]?=some true):∀ f,reachB l f i n=true→L[n]?=some true
 | 0,h=>by simp [reachB] at h
 | f+1,h=>by
  unfold reachB at h
  rw [hi] at h
  simp only [Bool.or_eq_true,List.any_eq_true,Bool.and_eq_true] at h
  rcases h with h | ⟨j,_,h1,h2⟩
  ·exact hd n h
  ·exact reach_done hcl f j n h2 (hd j h1)
section
variable (P : Program) (l : List Oper) (n : Nat) (W : World) (Fs : List (World → Value → Prop)) (Gp : Nat → World → Value → Prop) (fr : (Nat → Value) → Act) (u0 : Nat → Value)
def StepV (i:Nat) (o:Oper):Prop:=o.guard=none ∧
 (i<n→(∀ (u:Nat→Value) (w:World),Below W.heap.size W w→(∀ j,depOn o j=true→bof Fs j w (u j))→(∀ (j:Nat) o',l[j]?=some o'→depOn o' i=true→u j=u0 j) →
  ∀ (Q:Exit→Act→World→Prop) (K:Act→World→Prop),(∀ a' w',a'=(fr u).put o.dst (slotOf o.dst a')→Below w.heap.size w w'→bof Fs i w' (slotOf o.dst a')→K a' w')→o.wp P (fr u) w K Q) ∧
  (reachB l (n+1) n i=true∨∀ (u:Nat→Value) (w:World),(∀ j,depOn o j=true→Gp j w (u j))→∀ (Q:Exit→Act→World→Prop) (K:Act→World→Prop),(∀ a',a'=(fr u).put o.dst (slotOf o.dst a')→Gp i w (slotOf o.dst a')→K a' w)→o.wp P (fr u) w K Q)) ∧
 (i=n→(∀ j,depOn o j=true→j<n)∧∀ (u:Nat→Value) (w:World),Below W.heap.size W w→(∀ j,depOn o j=true→bof Fs j w (u j)) →
  ∀ (Q:Exit→Act→World→Prop) (K:Act→World→Prop),(∀ a' w',a'=(fr u).put o.dst (slotOf o.dst a')→(∀ j,j<n→bof Fs j w (u j)→Gp j w' (u j))→Gp n w' (slotOf o.dst a')→K a' w')→o.wp P (fr u) w K Q) ∧
 (n<i→reachB l l.length i n=true∧∀ (u:Nat→Value) (w:World),(∀ j,depOn o j=true→Gp j w (u j)) →
  ∀ (Q:Exit→Act→World→Prop) (K:Act→World→Prop),(∀ a',a'=(fr u).put o.dst (slotOf o.dst a')→Gp i w (slotOf o.dst a')→K a' w)→o.wp P (fr u) w K Q)
def StepsV:List Oper→Nat→Prop
 | [],_=>True
 | o::r,i=>StepV P l n W Fs Gp fr u0 i o∧StepsV r (i+1)
end
section
variable {P : Program} {l : List Oper} {n : Nat} {W : World} {Fs : List (World → Value → Prop)} {Gp : Nat → World → Value → Prop} {fr : (Nat → Value) → Act} {u0 : Nat → Value}
theorem stepsV_at:∀ (r:List Oper) (m k:Nat) (p:Oper),r[k]?=some p→StepsV P l n W Fs Gp fr u0 r m→StepV P l n W Fs Gp fr u0 (m+k) p
 | [],_,_,_,h,_=>by simp at h
 | q::r,m,0,p,h,hs=>by
  simp at h
  subst h
  exact hs.1
 | q::r,m,k+1,p,h,hs=>by
  have:=stepsV_at r (m+1) k p (by simpa using h) hs.2
  rwa [show m+1+k=m+(k+1) by omega] at this
theorem stepsV_ok (hn:n<l.length) (hst:∀ i w w' v,Below w.heap.size w w'→bof Fs i w v→bof Fs i w' v) (hdb:∀ (i:Nat) o,l[i]?=some o→∀ j,depOn o j=true→j<i) (hsA:StepsV P l n W Fs Gp fr u0 l 0) :
  ∀ (r:List Oper) (i:Nat),(∀ k,l[i+k]?=r[k]?)→StepsV P l n W Fs Gp fr u0 r i→StepsOk2I P l (CT n l.length W) (FT n Fs Gp) fr u0 r i
 | [],_,_,_=>trivial
 | o::r,i,hl,h=>by
  have hio:l[i]?=some o:=hl 0
  refine ⟨fun L u w h1 h2 h3 h4 h5=>⟨fun _ Q K hK=>?_,fun hw=>by simp [Region.wanted,h.1.1] at hw⟩,stepsV_ok hn hst hdb hsA r (i+1) (fun k=>by have:=hl (k+1);rw [List.getElem?_cons_succ] at this;rw [← this];congr 1;omega) h.2⟩
  have hset:∀ k,k≠i→(L.set i true)[k]?=L[k]?:=fun k hk=>List.getElem?_set_ne (fun e=>hk e.symm)
  have hLn:L[n]?=some true∨L[n]?=some false:=by
   have:n<L.length:=by rw [h2.1];exact hn
   rw [List.getElem?_eq_getElem this]
   cases L[n]<;>simp
  have hno:L[n]?=some false→∀ j,n≤j→L[j]?=some true→False:=fun hf j hle hLj=>by
   rcases Nat.lt_or_eq_of_le hle with hlt | he
   ·have hj2:j<l.length:=by
     have:=(List.getElem?_eq_some_iff.1 hLj).1
     rw [h2.1] at this;exact this
    obtain ⟨p,hp⟩:∃ p,l[j]?=some p:=⟨_,List.getElem?_eq_getElem hj2⟩
    have hsp:=stepsV_at l 0 j p hp hsA
    rw [Nat.zero_add] at hsp
    have:=reach_done h4 _ _ _ (hsp.2.2.2 hlt).1 hLj
    rw [hf] at this;cases this
   ·subst he
    rw [hf] at hLj;cases hLj
  rcases Nat.lt_trichotomy i n with hin | hin | hin
  ·rcases hLn with ht | hf
   ·rcases (h.1.2.1 hin).2 with hr | hstep
    ·have:=reach_done h4 _ _ _ hr ht
     rw [h1] at this;cases this
    ·have hnt:(L.set i true)[n]?=some true:=by rw [hset n (by omega)];exact ht
     refine hstep u w (fun j hj=>(h3 j hj).2.2 ht) Q K (fun a' ha hG=>?_)
     exact hK a' w ha ⟨by rw [List.length_set];exact h2.1,(fun hf=>by rw [hnt] at hf;cases hf)⟩ ⟨fun _ hf=>(by rw [hnt] at hf;cases hf),fun _=>hG⟩ (fun j hj hLj hx=>⟨fun _ hf=>(by rw [hnt] at hf;cases hf),fun _=>hx.2 ht⟩)
   have hB:=h2.2 hf
   have hnf:(L.set i true)[n]?=some false:=by rw [hset n (by omega)];exact hf
   refine (h.1.2.1 hin).1 u w hB (fun j hj=>(h3 j hj).2.1 (Nat.lt_trans (hdb i o hio j hj) hin) hf) h5 Q K (fun a' w' ha hb hF=>?_)
   exact hK a' w' ha ⟨by rw [List.length_set];exact h2.1,fun _=>hB.trans (hb.mono hB.size)⟩ ⟨fun _ _=>hF,fun ht=>by rw [hnf] at ht;cases ht⟩ (fun j hj hLj hx=>⟨fun hjn _=>hst j _ _ _ hb (hx.1 hjn hf),fun ht=>by rw [hnf] at ht;cases ht⟩)
  ·subst hin
   have hB:=h2.2 h1
   obtain ⟨hd,hstep⟩:=h.1.2.2.1 rfl
   refine hstep u w hB (fun j hj=>(h3 j hj).2.1 (hd j hj) h1) Q K (fun a' w' ha hGs hG=>?_)
   have hnt:(L.set i true)[i]?=some true:=List.getElem?_set_self (List.getElem?_eq_some_iff.1 h1).1
   refine hK a' w' ha ⟨by rw [List.length_set];exact h2.1,(fun hf=>by rw [hnt] at hf;cases hf)⟩ ⟨fun hlt=>absurd hlt (by omega),fun _=>hG⟩ (fun j hj hLj hx=>⟨fun _ hf=>(by rw [hnt] at hf;cases hf),fun _=>?_⟩)
   by_cases hji:j<i
   ·exact hGs j hji (hx.1 hji h1)
   ·exact (hno h1 j (by omega) hLj).elim
  ·obtain ⟨hd,hstep⟩:=h.1.2.2.2 hin
   have ht:=reach_dep h4 hio (fun j hj=>(h3 j hj).1) _ hd
   refine hstep u w (fun j hj=>(h3 j hj).2.2 ht) Q K (fun a' ha hG=>?_)
   have hnt:(L.set i true)[n]?=some true:=by rw [hset n (by omega)];exact ht
   exact hK a' w ha ⟨by rw [List.length_set];exact h2.1,(fun hf=>by rw [hnt] at hf;cases hf)⟩ ⟨fun hlt=>absurd hlt (by omega),fun _=>hG⟩ (fun j hj hLj hx=>⟨fun _ hf=>(by rw [hnt] at hf;cases hf),fun _=>hx.2 ht⟩)
theorem wp_region_turn3 {id:Nat} {Q:Exit→Act→World→Prop} {a0:Act} (n:Nat) (Fs:List (World→Value→Prop)) (Gp:Nat→World→Value→Prop)
  (hm:P.follows .mixedOrders=true) (hn:n<l.length) (hfr:∀ u,frU u l 0 a0=fr u) (hd:(dstsApart l && depsBefore l 0)=true)
  (hst:BAll Fs) (hs:StepsV P l n W Fs Gp fr (fun i=>slotOf ((l[i]?).bind (·.dst)) a0) l 0)
  (hend:∀ u w',(∀ i,i<l.length→Gp i w' (u i))→Q .normal (fr u) w'):(Code.region id l.toArray true).wp P Q a0 W:=by
 have hdb:=hd
 rw [Bool.and_eq_true] at hdb
 refine wp_region_rel2I (CT n l.length W) (FT n Fs Gp) hm hfr hd ⟨by simp,fun _=>⟨rfl,rfl,rfl,Nat.le_refl _,fun _ _=>rfl⟩⟩ (stepsV_ok hn (fun i w w' v hb h=>bof_stb Fs hst i w w' v hb h) (fun i o hio j hj=>by have:=depsBefore_at l 0 hdb.2 i o hio j hj;omega) hs l 0 (fun k=>by rw [Nat.zero_add]) hs) (fun L u w' hL _ hF=>hend u w' (fun i h2=>(hF i h2).2 (hL n hn)))
end
section
variable {P : Program} {l : List Oper} {n : Nat} {W : World} {Fs : List (World → Value → Prop)} {G : World → Value → Prop} {Gp : Nat → World → Value → Prop} {fr : (Nat → Value) → Act} {u0 : Nat → Value} {i : Nat} {o : Oper}
theorem stV (hg:o.guard=none) (hin:i<n) (hr:reachB l (n+1) n i=true)
  (h:∀ (u:Nat→Value) (w:World),Below W.heap.size W w→(∀ j,depOn o j=true→bof Fs j w (u j))→(∀ (j:Nat) o',l[j]?=some o'→depOn o' i=true→u j=u0 j) →
   ∀ (Q:Exit→Act→World→Prop) (K:Act→World→Prop),(∀ a' w',a'=(fr u).put o.dst (slotOf o.dst a')→Below w.heap.size w w'→bof Fs i w' (slotOf o.dst a')→K a' w')→o.wp P (fr u) w K Q) :
  StepV P l n W Fs Gp fr u0 i o:=⟨hg,fun _=>⟨h,.inl hr⟩,fun e=>absurd e (by omega),fun e=>absurd e (by omega)⟩
theorem stVt (hg:o.guard=none) (hd:(o.after.toList.all fun e=>decide (e.on<n))=true)
  (h:∀ (u:Nat→Value) (w:World),Below W.heap.size W w→(∀ j,depOn o j=true→bof Fs j w (u j)) →
   ∀ (Q:Exit→Act→World→Prop) (K:Act→World→Prop),(∀ a' w',a'=(fr u).put o.dst (slotOf o.dst a')→(∀ j,j<n→bof Fs j w (u j)→Gp j w' (u j))→Gp n w' (slotOf o.dst a')→K a' w')→o.wp P (fr u) w K Q) :
  StepV P l n W Fs Gp fr u0 n o:=⟨hg,fun e=>absurd e (by omega),fun _=>⟨depsBelow hd,h⟩,fun e=>absurd e (by omega)⟩
theorem stVb (hg:o.guard=none) (hin:n<i) (hd:reachB l l.length i n=true)
  (h:∀ (u:Nat→Value) (w:World),(∀ j,depOn o j=true→Gp j w (u j))→∀ (Q:Exit→Act→World→Prop) (K:Act→World→Prop),(∀ a',a'=(fr u).put o.dst (slotOf o.dst a')→Gp i w (slotOf o.dst a')→K a' w)→o.wp P (fr u) w K Q) :
  StepV P l n W Fs Gp fr u0 i o:=⟨hg,fun e=>absurd e (by omega),fun e=>absurd e (by omega),fun _=>⟨hd,h⟩⟩
end
end Go.Proofs.YtfcbbahlhjdefaaGreatDoor
