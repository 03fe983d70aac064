/- Unfolding: the program's Unfold and the reference's. -/
import Derived.Test.YtfcbbahlhjdefaaGreatDoorUQd
import Derived.Test.YtfcbbahlhjdefaaGreatDoorUSw
import Derived.Test.YtfcbbahlhjdefaaGreatDoorRgV
import Derived.Test.YtfcbbahlhjdefaaGreatDoorFtQ
namespace Go.Proofs.YtfcbbahlhjdefaaGreatDoor
open Go.RowKit
def ufRes (cs:List (List Ru)) (f:Nat):Option (List Ft):=if rsvalid cs then (ufWalk cs f 0 [ball] []).map (fun q=>q.2) else none
theorem ufRes_valid {cs:List (List Ru)} {f:Nat}:fvalid ((ufRes cs f).getD [])=true:=by
 unfold ufRes
 split
 ·cases h:ufWalk cs f 0 [ball] [] with
  | none=>rfl
  | some q =>
   obtain ⟨i,o⟩:=q
   obtain ⟨-,h1,h2⟩:=ufWalk_out f 0 _ _ _ _ h (rvalid_iff.2 ⟨by simp,fun z hz=>by rw [List.mem_singleton.1 hz];exact BGood.ball.valid (by omega)⟩) ⟨by simp,fun f hf=>by cases hf⟩
   exact fvalid_all.2 ⟨h1,h2⟩
 ·rfl
theorem FdX.ifs {X:Nat→Prop} {lo:Nat} {w:World} {v:Value} {fs:List Ft} (h:FdX X lo w v fs):Ifs 0 w v fs:=by
 obtain ⟨rs,h1,h2⟩:=h
 exact ⟨rs,SlFr.mono (OwnSl.fr (sz:=5) (enc:=R5.enc) (fun _=>rfl) h1) (Nat.zero_le _),h2.mono (fun _ _ g=>⟨(All2.mono g.1 (fun _ _ q=>q.1):All2 _ _ _),g.2⟩)⟩
theorem ball_rv:rvalid [ball]=true:=rvalid_iff.2 ⟨by simp,fun z hz=>by rw [List.mem_singleton.1 hz];exact BGood.ball.valid (by omega)⟩
set_option maxHeartbeats 4000000 in
set_option maxRecDepth 100000 in
theorem unfoldValid_any {lo:Nat} (cs:List (List Ru)) (f:Nat) (acc:Bool) (v:Value) (w:World) (hs:Rss lo w v cs) (ht:Tab w) (hr:rsvalid cs=true) (hf:Ht cs f 0) {q:Bool} (hq:(ufWalk cs f 0 [ball] []).isSome=q) :
  Calls Tryz.prog 28 #[.agg #[v,.bool acc]] w fun e w'=>∃ a n c,e=.returned (.tuple #[.slice a n c,.bool q])∧(∀ L o,ufWalk cs f 0 [ball] []=some (L,o)→Ifs 0 w' (.slice a n c) o)∧Below w.heap.size w w':=by
 obtain ⟨hc,hn1, -,hv, -⟩:=rsvalid_in hr
 obtain ⟨va,vc,rfl,hlc,hcm⟩:=hs.form
 obtain ⟨n,hn⟩:∃ n,cs.length=n:=⟨_,rfl⟩
 rw [hn] at hs hn1 ⊢
 obtain ⟨W,hW⟩:∃ W,(w.alloc (.cells #[.slice va n vc,.bool acc] 25)).alloc (.cells #[.slice va n vc,.slice none 0 0,.bool false] 109)=W:=⟨_,rfl⟩
 have hal:Below w.heap.size w W:=by rw [← hW];(repeat' (first | with_reducible exact Below.refl _ _ | with_reducible assumption | with_reducible refine Below.setCell ?_ ?_ _ | with_reducible refine Below.alloc ?_ ?_ _ | with_reducible refine Below.drew ?_ | with_reducible refine belDrewN ?_ _ | with_reducible refine Below.trans ?_ (Below.mono (by assumption) ?_) | omega | (simp;omega) | (simp;done)))
 have hzW:w.heap.size+1<W.heap.size:=by rw [← hW];simp
 have HA:=alloc2_cells w #[.slice va n vc,.bool acc] #[.slice va n vc,.slice none 0 0,.bool false] 25 109
 rw [hW] at HA
 have u0:W.cell? ⟨w.heap.size+1,0,none⟩=some (.slice va n vc):=(HA.2 0).1.trans rfl
 have u1:W.cell? ⟨w.heap.size+1,1,none⟩=some (.slice none 0 0):=(HA.2 1).1.trans rfl
 have u2:W.cell? ⟨w.heap.size+1,2,none⟩=some (.bool false):=(HA.2 2).1.trans rfl
 have HUI:=Lib.hid (show Ui w.heap.size (w.heap.size+1) (fun _=>False) (.slice va n vc) false W (.slice none 0 0) [] from
  ⟨hzW,by omega,u0,u1,u2,(HA.2 1).2,(HA.2 2).2,FdX.nil,fun z hz=>by simp [Value.ownBlock] at hz⟩)
 have HS:=Lib.hid hs
 have HTW:=Lib.hid (ht.below hal)
 have HAL:=Lib.hid hal
 have HCH:=Lib.hid (fun (iv:Value) (w1:World)=>chain_any cs hc hv (.slice va n vc) w hs ht f 0 [ball] [] (w.heap.size+1) (fun _=>False) (.slice none 0 0) iv w1 hf (by omega))
 have HQ:=Lib.hid hq
 clear hal HA u0 u1 u2 hs ht hc hv hf hr hlc hcm hq hn
 go_enter Tryz.func28,Tryz.ntmps28
 go_wp2_with fail
 refine (allSides_any W HTW.out).mono ?_
 rintro e w1 ⟨s0,s1,s2,s3,rfl,hsd,hb1⟩
 clear hW
 obtain ⟨a0,n0,p0,a1,n1,p1,a2,n2,p2,a3,n3,p3,rfl,rfl,rfl,rfl⟩:=sl4_form hsd
 obtain ⟨V,hV⟩:∃ V,w1.alloc (.cells #[.slice a0 n0 p0,.slice a1 n1 p1,.slice a2 n2 p2,.slice a3 n3 p3] 83)=V:=⟨_,rfl⟩
 have halV:Below w1.heap.size w1 V:=by rw [← hV];exact bR.alloc (Nat.le_refl _) _
 have hz1:=hb1.size
 have HIN:=Lib.hid (show SxV (ZS (w.heap.size+1) (.slice none 0 0) (fun _=>False)) V (.slice (some ⟨w1.heap.size,0,none⟩) 1 1) [ball] from by
  rw [← hV]
  refine ⟨[⟨.slice a0 n0 p0,.slice a1 n1 p1,.slice a2 n2 p2,.slice a3 n3 p3⟩],⟨SlFr.of (lit4_at w1 _ _ _ _ _),fun q n c e hne hp=>?_⟩,rfl,fun i x y hx hy=>?_⟩
  ·obtain ⟨e1, -, -⟩:=Value.slice.inj e
   cases e1
   rcases hp with hp | hp | hp
   ·simp only at hp;omega
   ·simp [Value.ownBlock] at hp
   ·exact hp
  ·match i,hx,hy with
   | 0,hx,hy =>
    cases hx;cases hy
    rw [hV]
    exact hsd.mono (fun _ _ g=>SpV.highX (g.below halV) (fun k hk=>by
     rcases hk with e | e | e
     ·omega
     ·simp [Value.ownBlock] at e
     ·exact e.elim))
   | i+1,hx,hy=>simp at hx)
 have hWV:=hb1.trans (halV.mono hz1)
 have hwV:=HAL.out.trans (hWV.mono HAL.out.size)
 have HUV:=Lib.hid (HUI.out.below hWV)
 have HRC:=Lib.hid (HCH.out (.slice (some ⟨w1.heap.size,0,none⟩) 1 1) V hwV (fun _ h=>h.elim) HUV.out HIN.out ball_rv (by simp))
 clear hsd halV hb1 hWV
 go_wp2_with fail
 refine HRC.out.mono ?_
 rintro e w4 ⟨z,L,o,ov',q4,rfl,hb4,hu4,hz4,hl4,ht4,hq4⟩
 obtain ⟨oa,oc,hov⟩:=hu4.o.form
 obtain ⟨on,hon⟩:∃ on,o.length=on:=⟨_,rfl⟩
 rw [hon] at hov
 subst hov
 have c1:=hu4.c1
 have c2:=hu4.c2
 have hU4:=hu4.lt
 have hw4:Below w.heap.size w w4:=hwV.trans hb4
 have HEQ:q=!q4:=by
  rw [← HQ.out]
  rcases hq4 with ⟨rfl,h⟩ | ⟨rfl,h⟩
  ·rw [h];rfl
  ·rw [h];rfl
 have HIF:=Lib.hid (show ∀ L o,ufWalk cs f 0 [ball] []=some (L,o)→Ifs 0 w4 (.slice oa on oc) o from fun L' o' h=>by
  rcases hq4 with ⟨-,h2⟩ | ⟨-,h2⟩
  ·rw [h] at h2
   cases h2
   exact hu4.o.ifs
  ·rw [h] at h2;cases h2)
 subst HEQ
 clear hu4 hz4 hl4 ht4 hq4 hb4 hon
 go_wp2_with fail
 (refine wp_region_bel (W:=w4) [BIs (.pointer (some ⟨w.heap.size+1,0,none⟩)),BIs (.pointer (some ⟨w.heap.size+1,0,none⟩)),BIs (.pointer (some ⟨w.heap.size+1,1,none⟩)),BIs (.slice oa on oc),BIs (.pointer (some ⟨w.heap.size+1,0,none⟩)),BIs (.pointer (some ⟨w.heap.size+1,0,none⟩)),BIs (.pointer (some ⟨w.heap.size+1,2,none⟩)),BIs (.bool q4),BIs (.bool (!q4)),BIs (.slice oa on oc),BIs (.bool (!q4))] (by kernel_rfl) (fun u=>by simp only [frU,Act.put,List.setIfInBounds_toArray,List.set_cons_succ,List.set_cons_zero,Nat.zero_add,Nat.reduceAdd];exact rfl) (by kernel_rfl) ⟨bst_is _,bst_is _,bst_is _,bst_is _,bst_is _,bst_is _,bst_is _,bst_is _,bst_is _,bst_is _,bst_is _,trivial⟩ ?_ ?_;exact ⟨stB rfl (fun u w3 hC hd Q K hK=>by (go_step;exact hK _ _ rfl bR rfl)),stB rfl (fun u w3 hC hd Q K hK=>by (rw [bis (w:=w3) (hd 0 rfl)] at hK ⊢;go_step;exact hK _ _ rfl bR rfl)),stB rfl (fun u w3 hC hd Q K hK=>by (rw [bis (w:=w3) (hd 1 rfl)] at hK ⊢;go_step;exact hK _ _ rfl bR rfl)),stB rfl (fun u w3 hC hd Q K hK=>by (rw [bis (w:=w3) (hd 2 rfl)] at hK ⊢;have z0:=(hC.cell (p:=⟨w.heap.size+1,1,none⟩) hU4).trans c1;go_step;exact hK _ _ rfl bR rfl)),stB rfl (fun u w3 hC hd Q K hK=>by (go_step;exact hK _ _ rfl bR rfl)),stB rfl (fun u w3 hC hd Q K hK=>by (rw [bis (w:=w3) (hd 4 rfl)] at hK ⊢;go_step;exact hK _ _ rfl bR rfl)),stB rfl (fun u w3 hC hd Q K hK=>by (rw [bis (w:=w3) (hd 5 rfl)] at hK ⊢;go_step;exact hK _ _ rfl bR rfl)),stB rfl (fun u w3 hC hd Q K hK=>by (rw [bis (w:=w3) (hd 6 rfl)] at hK ⊢;have z0:=(hC.cell (p:=⟨w.heap.size+1,2,none⟩) hU4).trans c2;go_step;exact hK _ _ rfl bR rfl)),stB rfl (fun u w3 hC hd Q K hK=>by (rw [bis (w:=w3) (hd 7 rfl)] at hK ⊢;go_step;exact hK _ _ rfl bR rfl)),stB rfl (fun u w3 hC hd Q K hK=>by (rw [bis (w:=w3) (hd 3 rfl)] at hK ⊢;go_step;exact hK _ _ rfl bR rfl)),stB rfl (fun u w3 hC hd Q K hK=>by (rw [bis (w:=w3) (hd 8 rfl)] at hK ⊢;go_step;exact hK _ _ rfl bR rfl)),trivial⟩);intro u w9 hb_w9 hF;rw [bis (w:=w9) (hF 0 (by decide))];rw [bis (w:=w9) (hF 1 (by decide))];rw [bis (w:=w9) (hF 2 (by decide))];rw [bis (w:=w9) (hF 3 (by decide))];rw [bis (w:=w9) (hF 4 (by decide))];rw [bis (w:=w9) (hF 5 (by decide))];rw [bis (w:=w9) (hF 6 (by decide))];rw [bis (w:=w9) (hF 7 (by decide))];rw [bis (w:=w9) (hF 8 (by decide))];rw [bis (w:=w9) (hF 9 (by decide))];rw [bis (w:=w9) (hF 10 (by decide))];clear hF
 go_wp2
 go_ret2
 exact ⟨_,_,_,rfl,fun L o h=>(HIF.out L o h).below hb_w9,hw4.trans (hb_w9.mono hw4.size)⟩
set_option maxHeartbeats 4000000 in
set_option maxRecDepth 100000 in
theorem implUf_any {lo:Nat} (cs:List (List Ru)) (f:Nat) (acc:Bool) (v:Value) (w:World) (hs:Rss lo w v cs) (ht:Tab w) (hf:rsvalid cs=true→Ht cs f 0) {q:Bool} (hq:(ufRes cs f).isSome=q) :
  Calls Tryz.prog 6 #[.agg #[v,.bool acc]] w fun e w'=>∃ v',e=.returned (.tuple #[v',.bool q])∧GFs w' w.heap.size w'.heap.size v' ((ufRes cs f).getD [])∧Below w.heap.size w w':=by
 obtain ⟨va,vc,rfl,hlc,hcm⟩:=hs.form
 obtain ⟨n,hn⟩:∃ n,cs.length=n:=⟨_,rfl⟩
 rw [hn] at hs ⊢
 obtain ⟨W,hW⟩:∃ W,w.alloc (.cells #[.slice va n vc,.bool acc] 25)=W:=⟨_,rfl⟩
 have hal:Below w.heap.size w W:=by rw [← hW];exact bR.alloc (Nat.le_refl _) _
 have hzW:w.heap.size<W.heap.size:=by rw [← hW];simp
 have c0:W.cell? ⟨w.heap.size,0,none⟩=some (.slice va n vc):=by rw [← hW];simp
 have c1:W.cell? ⟨w.heap.size,1,none⟩=some (.bool acc):=by rw [← hW];simp
 have HS:=Lib.hid (hs.below hal)
 have HTW:=Lib.hid (ht.below hal)
 have HF:=Lib.hid hf
 have HQ:=Lib.hid hq
 obtain ⟨rv,hrv⟩:∃ rv,rsvalid cs=rv:=⟨_,rfl⟩
 have HRV:=Lib.hid hrv
 clear hs ht hf hq hlc hcm hn hrv
 go_enter Tryz.func6,Tryz.ntmps6
 go_wp2_with fail
 refine (implRstV_b HS.out HTW.out HRV.out).mono ?_
 rintro e w1 ⟨rfl,hb1⟩
 have hz1:=hb1.size
 have hw1:=hal.trans (hb1.mono hal.size)
 cases rv
 ·have HR:=Lib.hid (show ufRes cs f=none by unfold ufRes;rw [HRV.out];rfl)
  have hq0:q=false:=by rw [← HQ.out,HR.out];rfl
  subst hq0
  go_wp2
  go_ret2
  refine ⟨_,rfl,?_,hw1⟩
  rw [HR.out]
  exact OwnG.nil (OwnSl.nil _ _ _ _ _) (fun z hz=>by cases hz) hw1.size
 ·have HR:=Lib.hid (show ufRes cs f=(ufWalk cs f 0 [ball] []).map (fun q=>q.2) by unfold ufRes;rw [HRV.out];rfl)
  have HQ2:=Lib.hid (show (ufWalk cs f 0 [ball] []).isSome=q by rw [← HQ.out,HR.out,Option.isSome_map])
  have k0:=(hb1.cell (p:=⟨w.heap.size,0,none⟩) hzW).trans c0
  have k1:=(hb1.cell (p:=⟨w.heap.size,1,none⟩) hzW).trans c1
  go_wp2_with fail
  refine (unfoldValid_any cs f acc _ w1 (HS.out.below hb1) (HTW.out.below hb1) HRV.out (HF.out HRV.out) HQ2.out).mono ?_
  rintro e w2 ⟨a2,n2,p2,rfl,hif,hb2⟩
  have hw2:=hw1.trans (hb2.mono hw1.size)
  have HIF:=Lib.hid hif
  clear hif k0 k1
  cases q
  ·have HN:=Lib.hid (show ufRes cs f=none by
    have h:=HQ.out
    cases e:ufRes cs f with
    | none=>rfl
    | some x=>rw [e] at h;cases h)
   go_wp2
   go_ret2
   refine ⟨_,rfl,?_,hw2⟩
   rw [HN.out]
   exact OwnG.nil (OwnSl.nil _ _ _ _ _) (fun z hz=>by cases hz) hw2.size
  ·obtain ⟨⟨L,o⟩,hLo⟩:∃ x,ufWalk cs f 0 [ball] []=some x:=Option.isSome_iff_exists.1 HQ2.out
   have HO:=Lib.hid (show (ufRes cs f).getD []=o by rw [HR.out,hLo];rfl)
   have HOV:=Lib.hid (show fvalid o=true by rw [← HO.out];exact ufRes_valid)
   have HI2:=Lib.hid (HIF.out L o hLo)
   have HW2:=Lib.hid hw2
   clear hLo
   go_wp2_with fail
   refine (newFlats_e HI2.out HOV.out HW2.out).mono ?_
   rintro e w3 ⟨v3,rfl,hg3,hb3⟩
   go_wp2
   go_ret2
   exact ⟨_,rfl,by rw [HO.out];exact hg3,hb3⟩
def LitB (X:Nat→Prop) (b:Bx) (w:World) (v:Value):Prop:=∃ g,v=.slice (some ⟨g,0,none⟩) 1 1∧BxsV X w v [b]
theorem litB_st (X:Nat→Prop) (b:Bx):BStb (LitB X b):=fun _ _ _ hb ⟨g,h1,h2⟩=>⟨g,h1,h2.below hb⟩
theorem litB_new {X:Nat→Prop} {w:World} {s:Value} {b:Bx} (h:RwV X w s b) (hX:∀ k,X k→k<w.heap.size):LitB X b (w.alloc (.cells #[s] 41)) (.slice (some ⟨w.heap.size,0,none⟩) 1 1) :=
 ⟨_,rfl,[s],⟨SlFr.of (litBx_at w s 41),fun q n c e _ hp=>by
  obtain ⟨e1, -, -⟩:=Value.slice.inj e
  cases e1
  have:=hX _ hp
  simp only at this
  omega⟩,(All2.nil).snoc (h.below (bR.alloc (Nat.le_refl _) _))⟩
set_option maxHeartbeats 4000000 in
set_option maxRecDepth 100000 in
theorem specUf_any {lo:Nat} (cs:List (List Ru)) (f:Nat) (acc:Bool) (v:Value) (w:World) (hs:Rss lo w v cs) (hN:rcN cs≤1048576) (hf:rsvalid cs=true→Ht cs f 0) {q:Bool} (hq:(ufRes cs f).isSome=q) :
  Calls Tryz.prog 7 #[.agg #[v,.bool acc]] w fun e w'=>∃ v',e=.returned (.tuple #[v',.bool q])∧Fts 0 w' v' ((ufRes cs f).getD [])∧Below w.heap.size w w':=by
 obtain ⟨va,vc,rfl,hlc,hcm⟩:=hs.form
 obtain ⟨n,hn⟩:∃ n,cs.length=n:=⟨_,rfl⟩
 rw [hn] at hs ⊢
 obtain ⟨W,hW⟩:∃ W,w.alloc (.cells #[.slice va n vc,.bool acc] 25)=W:=⟨_,rfl⟩
 have hal:Below w.heap.size w W:=by rw [← hW];exact bR.alloc (Nat.le_refl _) _
 have hzW:w.heap.size<W.heap.size:=by rw [← hW];simp
 have c0:W.cell? ⟨w.heap.size,0,none⟩=some (.slice va n vc):=by rw [← hW];simp
 have c1:W.cell? ⟨w.heap.size,1,none⟩=some (.bool acc):=by rw [← hW];simp
 have cf:∀ j,W.frozen? ⟨w.heap.size,j,none⟩=false:=fun j=>by rw [← hW];exact frz_new w _ _ j
 have HS:=Lib.hid (hs.below hal)
 have HF:=Lib.hid hf
 have HQ:=Lib.hid hq
 have HN:=Lib.hid hn
 have HNN:=Lib.hid hN
 clear hs hf hq hlc hcm hn hN
 go_enter Tryz.func7,Tryz.ntmps7
 go_wp2_with fail
 refine (ownRs_any cs acc _ W HS.out HNN.out).mono ?_
 rintro e w1 ⟨v1,rfl,ho1,hb1⟩
 have hz1:=hb1.size
 obtain ⟨v1a,v1c,hv1, -, -⟩:=ho1.rss.form
 rw [HN.out] at hv1
 subst hv1
 have k0:=(hb1.cell (p:=⟨w.heap.size,0,none⟩) hzW).trans c0
 have k1:=(hb1.cell (p:=⟨w.heap.size,1,none⟩) hzW).trans c1
 have f0:=(hb1.frozen (p:=⟨w.heap.size,0,none⟩) hzW).trans (cf 0)
 have f1:=(hb1.frozen (p:=⟨w.heap.size,1,none⟩) hzW).trans (cf 1)
 obtain ⟨W2,hW2⟩:∃ W2,(w1.setCell ⟨w.heap.size,0,none⟩ (.slice v1a n v1c)).setCell ⟨w.heap.size,1,none⟩ (.bool acc)=W2:=⟨_,rfl⟩
 have hz2:W2.heap.size=w1.heap.size:=by rw [← hW2];simp
 have hK2:Kp W.heap.size w1 W2:=⟨by omega,fun k k1 _=>by rw [← hW2,Below.heap_setCell _ _ _ _ (by simp only;omega),Below.heap_setCell _ _ _ _ (by simp only;omega)]⟩
 have hS2:Rss 0 W2 (.slice v1a n v1c) cs:=(ho1.rss.keep hK2).mono (Nat.zero_le _)
 have hb2:Below w.heap.size w W2:=by rw [← hW2];exact ((hal.trans (hb1.mono hal.size)).setCell (Nat.le_refl _) _).setCell (Nat.le_refl _) _
 have k0:W2.cell? ⟨w.heap.size,0,none⟩=some (.slice v1a n v1c):=by rw [← hW2,World.cell?_setCell_other _ _ _ _ (by simp)];exact World.cell?_setCell_same' _ _ _ (by rw [k0];rfl)
 have k1:W2.cell? ⟨w.heap.size,1,none⟩=some (.bool acc):=by rw [← hW2];exact World.cell?_setCell_same' _ _ _ (by rw [World.cell?_setCell_other _ _ _ _ (by simp),k1];rfl)
 obtain ⟨W3,hW3⟩:∃ W3,(W2.alloc (.cells #[] 44)).alloc (.cells #[.slice (some ⟨w1.heap.size,0,none⟩) 0 0] 27)=W3:=⟨_,rfl⟩
 have hb3:Below W2.heap.size W2 W3:=by rw [← hW3];(repeat' (first | with_reducible exact Below.refl _ _ | with_reducible assumption | with_reducible refine Below.setCell ?_ ?_ _ | with_reducible refine Below.alloc ?_ ?_ _ | with_reducible refine Below.drew ?_ | with_reducible refine belDrewN ?_ _ | with_reducible refine Below.trans ?_ (Below.mono (by assumption) ?_) | omega | (simp;omega) | (simp;done)))
 have hz3:w1.heap.size+1<W3.heap.size:=by rw [← hz2,← hW3];simp
 have HA:=alloc2_cells W2 #[] #[.slice (some ⟨w1.heap.size,0,none⟩) 0 0] 44 27
 have HLO:=litOwn 44 2 RF.enc (base:=W2.heap.size) (w:=W2) (Nat.le_refl _)
 rw [hz2] at HA
 rw [show ((some ⟨W2.heap.size,0,none⟩:Option Addr))=some ⟨w1.heap.size,0,none⟩ by rw [hz2]] at HLO
 have HP0:=Lib.hid (show Ou W2.heap.size (w1.heap.size+1) (fun _=>False) W3 (.slice (some ⟨w1.heap.size,0,none⟩) 0 0) [] from
  ⟨hz3,by omega,by rw [← hW3];exact (HA.2 0).1.trans rfl,by rw [← hW3];exact (HA.2 0).2,⟨[],by rw [← hW3];exact OwnSl.kept HLO (bR.alloc (Nat.le_refl _) _),All2.nil⟩,fun z hz=>⟨by have h9:z=w1.heap.size:=(by simpa [Value.ownBlock] using hz.symm);omega,id⟩⟩)
 have HS2:=Lib.hid hS2
 have HB2:=Lib.hid (And.intro hb2 hb3)
 have hwl:w.heap.size<W2.heap.size:=by omega
 have hw3:Below w.heap.size w W3:=hb2.trans (hb3.mono hb2.size)
 have d0:=(hb3.cell (p:=⟨w.heap.size,0,none⟩) hwl).trans k0
 have d1:=(hb3.cell (p:=⟨w.heap.size,1,none⟩) hwl).trans k1
 obtain ⟨rv,hrv⟩:∃ rv,rsvalid cs=rv:=⟨_,rfl⟩
 have HRV:=Lib.hid hrv
 clear ho1 hK2 hS2 hb2 HA HLO hrv c0 c1 cf HS
 go_wp2_with fail
 refine (specRstV_b (HS2.out.below hb3) HRV.out).mono ?_
 rintro e w4 ⟨rfl,hb4⟩
 clear hW3
 have hz4:=hb4.size
 have hw4:=hw3.trans (hb4.mono hw3.size)
 have HP4:=Lib.hid (HP0.out.below hb4)
 have q0:=HP4.out.c
 cases rv
 ·have HR:=Lib.hid (show ufRes cs f=none by unfold ufRes;rw [HRV.out];rfl)
  have hq0:q=false:=by rw [← HQ.out,HR.out];rfl
  subst hq0
  go_wp2
  go_ret2
  refine ⟨_,rfl,?_,hw4⟩
  rw [HR.out]
  exact HP4.out.o.fts
 ·obtain ⟨hc,hn1, -,hv, -⟩:=rsvalid_in HRV.out
  have HR:=Lib.hid (show ufRes cs f=(ufWalk cs f 0 [ball] []).map (fun q=>q.2) by unfold ufRes;rw [HRV.out];rfl)
  obtain ⟨R,hR⟩:∃ R,ufWalk cs f 0 [ball] []=R:=⟨_,rfl⟩
  have HRR:=Lib.hid hR
  have HQ2:=Lib.hid (show R.isSome=q by rw [← HQ.out,HR.out,hR,Option.isSome_map])
  have HWK:=Lib.hid (fun (iv:Value) (w':World)=>walk_any cs hc hv acc _ W2 HS2.out f 0 [ball] [] (w1.heap.size+1) (fun _=>False) (.slice (some ⟨w1.heap.size,0,none⟩) 0 0) iv w' (HF.out HRV.out) (by rw [HN.out] at hn1 ⊢;omega))
  have hw4l:w.heap.size<w4.heap.size:=by omega
  have e0:=(hb4.cell (p:=⟨w.heap.size,0,none⟩) (by simp only;omega)).trans d0
  have e1:=(hb4.cell (p:=⟨w.heap.size,1,none⟩) (by simp only;omega)).trans d1
  have HX4:=Lib.hid (show ∀ k,ZS (w1.heap.size+1) (.slice (some ⟨w1.heap.size,0,none⟩) 0 0) (fun _=>False) k→k<w4.heap.size from fun k hk=>by
   rcases hk with h | h | h
   ·omega
   ·have h9:k=w1.heap.size:=(by simpa [Value.ownBlock] using h);omega
   ·exact h.elim)
  have hb24:=HB2.out.2.trans (hb4.mono (by omega))
  obtain ⟨XX,hXX⟩:∃ XX,ZS (w1.heap.size+1) (.slice (some ⟨w1.heap.size,0,none⟩) 0 0) (fun _=>False)=XX:=⟨_,rfl⟩
  have HXX:=Lib.hid hXX
  rw [hXX] at HX4
  clear hR hc hv hn1 d0 d1 hXX
  go_wp2_with fail
  refine wp_region_turn3 (W:=w4) 3 [BIs (.agg #[.slice v1a n v1c,.bool acc]),(fun w v=>∃ z,v=.agg #[z]∧RwV XX w z ball),(LitB XX ball)] (bof [BIs (.agg #[.slice v1a n v1c,.bool acc]),(fun _ _=>True),(fun _ _=>True),(fun w v=>∃ z,v=.tuple #[z,.bool q]∧Below W2.heap.size w4 w∧∀ L o,R=some (L,o)→∃ ov',Ou W2.heap.size (w1.heap.size+1) (fun _=>False) w ov' o),(fun _ v=>∃ z,v=.tuple #[z,.bool q]),(fun _ _=>True),BIs (.bool q),(fun _ _=>True),BIs (.bool q)]) (by kernel_rfl) (by decide) (fun u=>by simp only [frU,Act.put,List.setIfInBounds_toArray,List.set_cons_succ,List.set_cons_zero,Nat.zero_add,Nat.reduceAdd];exact rfl) (by kernel_rfl) ⟨bst_is _,(fun _ _ _ hb ⟨z,h1,h2⟩=>⟨z,h1,h2.below hb⟩),(litB_st _ _),trivial⟩ ?_ ?_;(exact ⟨stV rfl (by decide) (by kernel_rfl) (fun u w3 hC hd hI Q K hK=>by (have z0:=(hC.cell (p:=⟨w.heap.size,0,none⟩) hw4l).trans e0;have z1:=(hC.cell (p:=⟨w.heap.size,1,none⟩) hw4l).trans e1;go_step;exact hK _ _ rfl bR rfl)),stV rfl (by decide) (by kernel_rfl) (fun u w3 hC hd hI Q K hK=>by (go_step;refine (boxAll_any _).mono ?_;rintro e w5 ⟨z4,rfl,ho4,hb4'⟩;exact hK _ _ rfl hb4' ⟨z4,rfl,RwV.high ho4.rws (fun k hk=>by have:=HX4.out k hk;have:=hC.size;omega)⟩)),stV rfl (by decide) (by kernel_rfl) (fun u w3 hC hd hI Q K hK=>by (obtain ⟨z,hu,hz⟩:=hd 1 rfl;rw [hu] at hK ⊢;clear hu;obtain ⟨a0,c0,rfl, -, -⟩:=hz.rws.form;go_step;exact hK _ _ rfl (bR.alloc (Nat.le_refl _) _) (litB_new hz (fun k hk=>by have:=HX4.out k hk;have:=hC.size;omega)))),stVt rfl (by decide) (fun u w3 hC hd Q K hK=>by (dsimp only at hK ⊢;rw [bis (w:=w3) (hd 0 rfl)] at hK ⊢;obtain ⟨g,hu,hz⟩:=hd 2 rfl;rw [hu] at hK ⊢;have hkeep:=hu;clear hu;rw [hkeep] at hz;go_step;refine (HWK.out _ w3 (hb24.trans (hC.mono (by omega))) (fun _ h=>h.elim) (HP4.out.below hC) (by rw [HXX.out];exact hz) ball_rv (by simp)).mono ?_;rintro e w5 ⟨xa,xm,xc,rfl,hb5,hres⟩;rw [HRR.out] at hres;rw [HRR.out,HQ2.out] at *;refine hK _ _ rfl (fun j hj h=>?_) ?_;(match j,hj,h with | 0,_,h=>exact h | 1,_,_=>exact trivial | 2,_,_=>exact trivial | j+3,hj,_=>exact absurd hj (by omega));exact ⟨_,rfl,(hC.mono (by omega)).trans hb5,fun L o h=>(let ⟨ov',g1,_⟩:=hres L o h;⟨ov',g1⟩)⟩)),stVb rfl (by decide) (by kernel_rfl) (fun u w3 hd Q K hK=>by (dsimp only at hK ⊢;obtain ⟨z,hu,h1,h2⟩:=hd 3 rfl;rw [hu] at hK ⊢;clear hu;go_step;exact hK _ rfl ⟨z,rfl⟩)),stVb rfl (by decide) (by kernel_rfl) (fun u w3 hd Q K hK=>by (dsimp only at hK ⊢;obtain ⟨z,hu⟩:=hd 4 rfl;rw [hu] at hK ⊢;clear hu;go_step;exact hK _ rfl trivial)),stVb rfl (by decide) (by kernel_rfl) (fun u w3 hd Q K hK=>by (dsimp only at hK ⊢;obtain ⟨z,hu⟩:=hd 4 rfl;rw [hu] at hK ⊢;clear hu;go_step;exact hK _ rfl rfl)),stVb rfl (by decide) (by kernel_rfl) (fun u w3 hd Q K hK=>by (dsimp only at hK ⊢;go_step;exact hK _ rfl trivial)),stVb rfl (by decide) (by kernel_rfl) (fun u w3 hd Q K hK=>by (dsimp only at hK ⊢;rw [bis (w:=w3) (hd 6 rfl)] at hK ⊢;go_step;exact hK _ rfl rfl)),trivial⟩);intro u w9 hF;rw [bis (w:=w9) (hF 0 (by decide))];have h8:=hF 3 (by decide);generalize u 3=v8 at *;rw [bis (w:=w9) (hF 6 (by decide))];rw [bis (w:=w9) (hF 8 (by decide))];generalize u 1=vx1 at *;generalize u 2=vx2 at *;generalize u 4=vx4 at *;generalize u 5=vx5 at *;generalize u 7=vx7 at *;clear hF
  obtain ⟨z8,hv8,hb9,hres⟩:=h8
  have hw9:Below w.heap.size w w9:=hw4.trans (hb9.mono (by omega))
  have HRES:=Lib.hid hres
  clear hres
  cases q
  ·have HN2:=Lib.hid (show ufRes cs f=none by
    have h:=HQ.out
    cases e:ufRes cs f with
    | none=>rfl
    | some x=>rw [e] at h;cases h)
   have hal9:Below w.heap.size w (w9.alloc (.cells #[] 44)):=hw9.alloc hw9.size _
   go_wp2
   go_ret2
   refine ⟨_,rfl,?_,hal9⟩
   rw [HN2.out]
   exact ⟨[],OwnSl.fr (sz:=2) (enc:=RF.enc) (fun _=>rfl) (litOwn 44 2 RF.enc (Nat.zero_le _)),All2.nil⟩
  ·obtain ⟨⟨L,o⟩,hLo⟩:∃ x,R=some x:=Option.isSome_iff_exists.1 HQ2.out
   obtain ⟨ov',hou⟩:=HRES.out L o hLo
   have HO:=Lib.hid (show (ufRes cs f).getD []=o by rw [HR.out,HRR.out,hLo];rfl)
   have q9:=hou.c
   obtain ⟨oa,oc,hov⟩:=hou.o.form
   obtain ⟨on,hon⟩:∃ on,o.length=on:=⟨_,rfl⟩
   rw [hon] at hov
   subst hov
   have HOU:=Lib.hid hou
   clear hLo hon hou
   go_wp2
   go_ret2
   exact ⟨_,rfl,by rw [HO.out];exact HOU.out.o.fts,hw9⟩
end Go.Proofs.YtfcbbahlhjdefaaGreatDoor
