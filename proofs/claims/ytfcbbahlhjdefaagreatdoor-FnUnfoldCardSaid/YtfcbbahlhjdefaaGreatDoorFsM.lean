/- The common packets of two boxes: the reference's walk. -/
import Derived.Test.YtfcbbahlhjdefaaGreatDoorCuW
import Derived.Test.YtfcbbahlhjdefaaGreatDoorFnX
import Derived.Test.YtfcbbahlhjdefaaGreatDoorFmZ
namespace Go.Proofs.YtfcbbahlhjdefaaGreatDoor
open Go.RowKit
theorem l2Meet_e {lo lo':Nat} {xs ys zs:List Sp} {u v:Value} {w:World} (hs:Sps lo w u xs) (ht:Sps lo' w v ys) (hx:xs.length≤2000) (hy:ys.length≤2000) (h:smeet xs ys=zs) :
  Calls Tryz.prog 100 #[u,v] w (RetSp zs w):=by
 subst h
 exact l2Meet_any xs ys u v w hs ht hx hy
set_option maxHeartbeats 4000000 in
set_option maxRecDepth 100000 in
theorem l10Meet_any {lo lo':Nat} (a b:Bx) (u v:Value) (w:World) (hs:Rws lo w u a) (ht:Rws lo' w v b) (ha:a.length=4) (hb:b.length=4) (la:∀ (k:Nat) xs,a[k]?=some xs→xs.length≤2000) (lb:∀ (k:Nat) xs,b[k]?=some xs→xs.length≤2000) :
  Calls Tryz.prog 68 #[.agg #[u],.agg #[v]] w fun e w'=>∃ v',e=.returned (.agg #[v'])∧GRw w' w.heap.size w'.heap.size v' (bmeet a b)∧Below w.heap.size w w':=by
 obtain ⟨ua,uc,rfl,hlc,hcm⟩:=hs.form
 obtain ⟨va,vc,rfl,hlc',hcm'⟩:=ht.form
 unfold maxLen at hcm hcm'
 rw [ha] at hs hlc ⊢
 rw [hb] at ht hlc' ⊢
 obtain ⟨W,hW⟩:∃ W,((((w.alloc (.cells #[.slice ua 4 uc] 41)).alloc (.cells #[.slice va 4 vc] 41)).alloc (.cells #[.slice none 0 0] 41)).alloc (.cells #[.slice none 0 0] 41))=W:=⟨_,rfl⟩
 have hal:Below w.heap.size w W:=by rw [← hW];(repeat' (first | with_reducible exact Below.refl _ _ | with_reducible assumption | with_reducible refine Below.setCell ?_ ?_ _ | with_reducible refine Below.alloc ?_ ?_ _ | with_reducible refine Below.drew ?_ | with_reducible refine belDrewN ?_ _ | with_reducible refine Below.trans ?_ (Below.mono (by assumption) ?_) | omega | (simp;omega) | (simp;done)))
 have qs:W.heap.size=w.heap.size+1+1+1+1:=by rw [← hW];simp
 have HA4:=alloc4_cells w #[.slice ua 4 uc] #[.slice va 4 vc] #[.slice none 0 0] #[.slice none 0 0] 41 41 41 41
 rw [hW] at HA4
 have g0:W.cell? ⟨w.heap.size,0,none⟩=some (.slice ua 4 uc):=by rw [HA4.1 0];rfl
 have g1:W.cell? ⟨w.heap.size+1,0,none⟩=some (.slice va 4 vc):=by rw [HA4.2.1 0];rfl
 have g2:W.cell? ⟨w.heap.size+1+1,0,none⟩=some (.slice none 0 0):=by rw [(HA4.2.2.1 0).1];rfl
 have m2:W.frozen? ⟨w.heap.size+1+1,0,none⟩=false:=(HA4.2.2.1 0).2
 have g3:W.cell? ⟨w.heap.size+1+1+1,0,none⟩=some (.slice none 0 0):=by rw [(HA4.2.2.2 0).1];rfl
 have m3:W.frozen? ⟨w.heap.size+1+1+1,0,none⟩=false:=(HA4.2.2.2 0).2
 clear HA4
 obtain ⟨i0,hi,hy0,hy1,hy2⟩:=info_parts infoSl
 have HS:=Lib.hid hs
 have HT:=Lib.hid ht
 have LA:=Lib.hid la
 have LB:=Lib.hid lb
 clear hs ht la lb
 go_enter Tryz.func68,Tryz.ntmps68
 go_wp2_with fail
 go_loopw [6] (fun i wr=>∃ (k:Nat) (vs:List Value) (x:Value),k≤4∧i=.int .i64 k∧Below (w.heap.size+1+1+1) W wr∧wr.cell? ⟨w.heap.size+1+1+1,0,none⟩=some x∧wr.frozen? ⟨w.heap.size+1+1+1,0,none⟩=false ∧
  Hid (OwnSl (w.heap.size+1+1+1+1) 75 1 enc1 wr x vs)∧Hid (∀ z,x.ownBlock=some z→z<wr.heap.size)∧Hid (OwnD (fun l h y z=>PSp wr l h y z∧Off x.ownBlock l h) (w.heap.size+1+1+1+1) wr.heap.size vs ((bmeet a b).take k))) (fun i _=>4 - (intOf i).toNat)
 case atStart =>
  refine ⟨0,[],.slice none 0 0,by omega,rfl,Below.setCell (p:=⟨w.heap.size+1+1+1,0,none⟩) bR (Nat.le_refl _) _,World.cell?_setCell_same' _ _ _ (by rw [g3];rfl),by rw [World.frozen?_setCell];exact m3,Lib.hid (OwnSl.nil _ _ _ _ _),Lib.hid (fun z hz=>by cases hz),Lib.hid ?_⟩
  show _≤_
  simp;omega
 case round =>
  obtain ⟨k,vs,x,hk4,rfl,hbr,cx,fx,HO,HX,HD⟩:=hrel
  have hzr:=hbr.size
  have hwr:Below w.heap.size w wr:=hal.trans (hbr.mono (by omega))
  have c0:=(hbr.cell (p:=⟨w.heap.size,0,none⟩) (by simp only;omega)).trans g0
  have c1:=(hbr.cell (p:=⟨w.heap.size+1,0,none⟩) (by simp only;omega)).trans g1
  have c2:=(hbr.cell (p:=⟨w.heap.size+1+1,0,none⟩) (by simp only;omega)).trans g2
  have f2:=(hbr.frozen (p:=⟨w.heap.size+1+1,0,none⟩) (by simp only;omega)).trans m2
  by_cases hlt:k<4
  ·have i1:(k:Int)<4:=by omega
   have i2:(0:Int)≤(k:Int):=by omega
   obtain ⟨p,hp⟩:∃ p,a[k]?=some p:=⟨_,List.getElem?_eq_getElem (by rw [ha];exact hlt)⟩
   obtain ⟨q,hq⟩:∃ q,b[k]?=some q:=⟨_,List.getElem?_eq_getElem (by rw [hb];exact hlt)⟩
   obtain ⟨b1,o1,s1,rfl,hl1,d0,hs1⟩:=(HS.out.below hwr).at hp
   obtain ⟨b2,o2,s2,rfl,hl2,d1,hs2⟩:=(HT.out.below hwr).at hq
   have HP:=Lib.hid (bmeet_get hp hq)
   have LP:=Lib.hid (And.intro (LA.out k p hp) (LB.out k q hq))
   have HS1:=Lib.hid hs1
   have HS2:=Lib.hid hs2
   obtain ⟨z,hz⟩:∃ z,smeet p q=z:=⟨_,rfl⟩
   have HZ:=Lib.hid hz
   have HC:=Lib.hid (And.intro cx fx)
   have HV:=Lib.hid (show vs.length≤4 by have:=HD.out.len;rw [List.length_take] at this;omega)
   clear hp hq hs1 hs2 hz g0 g1 g2 m2 g3 m3 hW
   have z3:w.heap.size+1+1+1<wr.heap.size:=by omega
   go_wp2_with fail
   go_region_law (first | ((fail_if_success have:=hb4);go_simp;go_wp2_with (go_at_call 100;refine (l2Meet_e (HS1.out.below (by (repeat' (first | with_reducible exact Below.refl _ _ | with_reducible assumption | with_reducible refine Below.setCell ?_ ?_ _ | with_reducible refine Below.alloc ?_ ?_ _ | with_reducible refine Below.drew ?_ | with_reducible refine belDrewN ?_ _ | with_reducible refine Below.trans ?_ (Below.mono (by assumption) ?_) | omega | (simp;omega) | (simp;done))))) (HS2.out.below (by (repeat' (first | with_reducible exact Below.refl _ _ | with_reducible assumption | with_reducible refine Below.setCell ?_ ?_ _ | with_reducible refine Below.alloc ?_ ?_ _ | with_reducible refine Below.drew ?_ | with_reducible refine belDrewN ?_ _ | with_reducible refine Below.trans ?_ (Below.mono (by assumption) ?_) | omega | (simp;omega) | (simp;done))))) LP.out.1 LP.out.2 HZ.out).mono ?_;rintro e w4 ⟨v4,rfl,ho4,hb4⟩;replace hb4:Below wr.heap.size wr w4:=(Below.drew bR).trans hb4;have hz4:=hb4.size;obtain ⟨va4,vc4,rfl, -, -⟩:=ho4.sps.form;have e1:=(hb4.cell (p:=⟨w.heap.size+1+1+1,0,none⟩) z3).trans HC.out.1;have e2:∀ o,(w4.alloc o).cell? ⟨w.heap.size+1+1+1,0,none⟩=some x:=fun o=>(World.cell?_alloc_lt _ _ ⟨w.heap.size+1+1+1,0,none⟩ (by simp;omega)).trans e1)) | (refine step_append_lies _ rfl (.tmp 13) (.tmp 25) 39 rfl (w.heap.size+1+1+1+1) 75 i0 _ 1 24 Tryz.underlying39 hi hy0 hy1 hy2 rfl (by decide) x vs.length (vs.flatMap enc1) (by simp [Act.eval]) (World.ownsRow.alloc (OwnSl.kept HO.out hb4) _) ⟨w4.heap.size,0,none⟩ 1 1 (enc1 (.slice va4 z.length vc4)) (by simp [Act.eval]) rfl (cellsNew w4 (enc1 (.slice va4 z.length vc4)) _) (by simp [Value.oneCell']) (by decide) (by have:=HV.out;simp only [maxLen];omega) (by have:=HV.out;omega) (by simp;omega) _ rfl ?_;intro g5 cap5 w5 hown5 hgrow5 hlies5 hlt5;have e5:=(hgrow5.cell_far ⟨w.heap.size+1+1+1,0,none⟩ (by simp;omega) (fun h=>by have:=World.ownsRow.lt HO.out _ h.symm;simp only at this;omega)).trans ((World.cell?_alloc_lt _ _ ⟨w.heap.size+1+1+1,0,none⟩ (by simp;omega)).trans e1);have f5:=(hgrow5.frozen_far ⟨w.heap.size+1+1+1,0,none⟩ (by simp;omega) (fun h=>by have:=World.ownsRow.lt HO.out _ h.symm;simp only at this;omega)).trans ((World.frozen?_alloc_old _ _ ⟨w.heap.size+1+1+1,0,none⟩ (by simp;omega)).trans ((hb4.frozen (p:=⟨w.heap.size+1+1+1,0,none⟩) z3).trans HC.out.2))))
   all_goals
    have hp5:=OwnG.push (P:=PSp) (e:=75) (sz:=1) (enc:=enc1) PSp.kind (w:=wr) (w1:=w4) (y:=z) HD.out HX.out (by omega) hb4 (PSp.of ho4 (Nat.le_refl _) hz4) (grown_old hgrow5) (OwnSl.pushed rfl hown5) hlies5 hlt5 (by simp)
    have hB5:Below (w.heap.size+1+1+1) W w5:=hbr.trans (((hb4.mono (by omega)).alloc (by omega) _).grown hgrow5 (by simp;omega) (fun h hh=>by have:=World.ownsRow.lt HO.out _ hh;omega))
    have HP5:=Lib.hid hp5
    clear hp5 hown5 hgrow5 hlies5 hlt5 e1 ho4 hb4
    go_wp2
    go_roundw
    case rel =>
     obtain ⟨vs6,ho6,hv6,hl6,hd6⟩:=OwnG.keepSet (u:=.slice (some ⟨g5,0,none⟩) (vs.length+1) cap5) (p:=⟨w.heap.size+1+1+1,0,none⟩) PSp.kind HP5.out (by simp)
     refine ⟨k+1,vs6,_,by omega,by go_num,hB5.setCell (Nat.le_refl _) _,World.cell?_setCell_same' _ _ _ (by rw [e5];rfl),by rw [World.frozen?_setCell];exact f5,Lib.hid ho6,Lib.hid (by simpa using hv6),Lib.hid ?_⟩
     rw [List.take_add_one,HP.out,HZ.out]
     simpa using hd6
    case measure=>simp [intOf];omega
  ·have hkn:k=4:=by omega
   subst hkn
   obtain ⟨xa,xn,xc,rfl⟩:∃ xa xn xc,x=.slice xa xn xc:=by
    rcases OwnSl.form HO.out with ⟨h,_⟩ | ⟨g,cp,h,_⟩
    ·exact ⟨_,_,_,h⟩
    ·exact ⟨_,_,_,h⟩
   have HG:=Lib.hid (show GRw wr (w.heap.size+1+1+1+1) wr.heap.size (.slice xa xn xc) (bmeet a b) from ⟨vs,HO.out,HX.out,by omega,by have:=HD.out;rwa [List.take_of_length_le (by simp [bmeet,ha,hb])] at this⟩)
   go_wp2_with fail
   refine bodyPost_ret (v:=.agg #[.slice xa xn xc]) ?_ rfl ⟨_,rfl,?_,hwr.setCell (by simp only;omega) _⟩
   ·simp [results,Tryz.results68,go_sem,c2]
   ·have:=OwnG.keepSet (u:=.slice xa xn xc) (p:=⟨w.heap.size+1+1,0,none⟩) PSp.kind HG.out (by simp only;omega)
    rw [show (wr.setCell ⟨w.heap.size+1+1,0,none⟩ (.slice xa xn xc)).heap.size=wr.heap.size from by simp]
    exact OwnG.low this (by omega)
end Go.Proofs.YtfcbbahlhjdefaaGreatDoor
