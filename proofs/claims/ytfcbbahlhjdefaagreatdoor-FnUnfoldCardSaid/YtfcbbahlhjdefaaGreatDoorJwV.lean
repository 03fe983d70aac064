/- The walk of a packet: a visit is put down. -/
import Derived.Test.YtfcbbahlhjdefaaGreatDoorRgX
import Derived.Test.YtfcbbahlhjdefaaGreatDoorJwH
import Derived.Test.YtfcbbahlhjdefaaGreatDoorRgM
namespace Go.Proofs.YtfcbbahlhjdefaaGreatDoor
open Go.RowKit
section
variable (P : Program) (N : Nat) (C : Nat → World → Prop) (E : World → World → Prop) (F : Nat → World → Value → Prop) (D : World → Prop) (fr : (Nat → Value) → Act)
def StepsL:List Oper→Nat→Prop
 | [],_=>True
 | [o],_=>o.guard=none∧∀ (m:Nat) (u:Nat→Value) (w:World),m<N→C m w→(∀ j,depOn o j=true→F j w (u j)) →
   ∀ (Q:Exit→Act→World→Prop) (K:Act→World→Prop),(∀ a' w',a'=(fr u).put o.dst (slotOf o.dst a')→D w'→K a' w')→o.wp P (fr u) w K Q
 | o::r,i=>StepS P N C E F fr i o∧StepsL r (i+1)
end
section
variable {P : Program} {l : List Oper} {C : Nat → World → Prop} {E : World → World → Prop} {F : Nat → World → Value → Prop} {D : World → Prop} {fr : (Nat → Value) → Act}
def allReach (l:List Oper):Bool:=(List.range (l.length - 1)).all fun i=>reachB l l.length (l.length - 1) i
theorem stepsL_ok (n:Nat) (hst:∀ i w w' v,E w w'→F i w v→F i w' v) (hall:∀ i,i<n→reachB l (n+1) n i=true):∀ (r:List Oper) (i:Nat),i+r.length=n+1→StepsL P (n+1) C E F D fr r i→StepsOk2 P l (CS n C D) (FSk2 n F (fun _ _ _=>True)) fr r i
 | [],_,_,_=>trivial
 | [o],i,hi,h=>by
  simp only [List.length_singleton] at hi
  obtain rfl:i=n:=by omega
  refine ⟨fun L u w h1 h2 h3 h4=>⟨fun _ Q K hK=>?_,fun hw=>by simp [Region.wanted,h.1] at hw⟩,trivial⟩
  have hC:C (L.count true) w:=by
   rcases h2.2 with h5 | h5
   ·rw [h1] at h5;simp at h5
   ·exact h5.2
  have hnt:L[i]?≠some true:=by rw [h1];simp
  have hset:(L.set i true)[i]?=some true:=List.getElem?_set_self (List.getElem?_eq_some_iff.1 h1).1
  have hnt2:∀ {p:Prop},¬ (L[i]?=some true∧p):=fun h=>hnt h.1
  exact h.2 (L.count true) u w (by have:=count_true_lt h1;have:=h2.1;omega) hC (fun j hj=>(((h3 j hj).2).resolve_left hnt2).2) Q K
   (fun a' w' ha hD=>hK a' w' ha ⟨by rw [List.length_set];exact h2.1,.inl ⟨hset,hD⟩⟩ (.inl ⟨hset,fun _=>trivial⟩) (fun j _ _ _=>.inl ⟨hset,fun _=>trivial⟩))
 | o::p::r,i,hi,h=>by
  refine ⟨fun L u w h1 h2 h3 h4=>⟨fun _ Q K hK=>?_,fun hw=>by simp [Region.wanted,h.1.1] at hw⟩,stepsL_ok n hst hall (p::r) (i+1) (by simp only [List.length_cons] at hi ⊢;omega) h.2⟩
  have hin:i<n:=by simp only [List.length_cons] at hi;omega
  have hC:L[n]?=some false∧C (L.count true) w:=by
   rcases h2.2 with h5 | h5
   ·have:=reach_done h4 _ _ _ (hall i hin) h5.1
    rw [h1] at this;cases this
   ·exact h5
  have hnt:L[n]?≠some true:=by rw [hC.1];simp
  refine h.1.2 (L.count true) u w (by have:=count_true_lt hC.1;have:=h2.1;omega) hC.2 (fun j hj=>(((h3 j hj).2).resolve_left (fun h=>hnt h.1)).2) Q K (fun a' w' ha hC' hE hF=>?_)
  refine hK a' w' ha ⟨by rw [List.length_set];exact h2.1,.inr ⟨by rw [List.getElem?_set_ne (by omega)];exact hC.1,by rw [count_true_set h1];exact hC'⟩⟩ (.inr ⟨by rw [List.getElem?_set_ne (by omega)];exact hC.1,hF⟩) (fun j hj hLj hx=>.inr ⟨by rw [List.getElem?_set_ne (by omega)];exact hC.1,hst j _ _ _ hE (hx.resolve_left (fun h=>hnt h.1)).2⟩)
theorem wp_region_lastR {id:Nat} {Q:Exit→Act→World→Prop} {a0:Act} {w:World} (C:Nat→World→Prop) (E:World→World→Prop) (F:Nat→World→Value→Prop) (D:World→Prop) (n:Nat)
  (hm:P.follows .mixedOrders=true) (hn:l.length=n+1) (hfr:∀ u,frU u l 0 a0=fr u) (hd:(dstsApart l && depsBefore l 0)=true) (hla:allReach l=true)
  (hst:∀ i w w' v,E w w'→F i w v→F i w' v) (h0:C 0 { w with drawn:=w.drawn+1 }) (hs:StepsL P (n+1) C E F D fr l 0)
  (hend:∀ u w',D w'→Q .normal (fr u) w'):(Code.region id l.toArray true).wp P Q a0 w:=by
 have hall:∀ i,i<n→reachB l (n+1) n i=true:=by
  intro i hi
  unfold allReach at hla
  rw [hn] at hla
  exact (List.all_eq_true.1 hla) i (List.mem_range.2 (by omega))
 refine wp_region_rel2 (CS n C D) (FSk2 n F (fun _ _ _=>True)) hm hfr hd ⟨by simp [hn],.inr ⟨by simp [hn],by rw [show (List.replicate l.length false).count true=0 from by simp [List.count_replicate]];exact h0⟩⟩ (stepsL_ok n hst hall l 0 (by omega) hs) (fun L u w' hL hC _=>hend u w' ?_)
 rcases hC.2 with h | h
 ·exact h.2
 ·have:=hL n (by omega)
  rw [h.1] at this;simp at this
end
end Go.Proofs.YtfcbbahlhjdefaaGreatDoor
namespace Go.Proofs.YtfcbbahlhjdefaaGreatDoor
open Go.RowKit
abbrev encP (x:Nat × Nat):List Value:=[.int .i64 (x.1:Int),.int .i64 (x.2:Int)]
structure Wk (S U:Nat) (w:World) (sv vv:Value) (st vs:List (Nat × Nat)) (dec:Int):Prop where
 s:S≤U
 lt:U<w.heap.size
 c0:w.cell? ⟨U,0,none⟩=some sv
 c1:w.cell? ⟨U,1,none⟩=some vv
 c2:w.cell? ⟨U,2,none⟩=some (.int .i64 dec)
 fz:∀ j,w.frozen? ⟨U,j,none⟩=false
 st:OwnSl S 171 2 encP w sv st.reverse
 su:sv.ownBlock≠some U
 vs:OwnSl S 175 2 encP w vv vs
 vu:vv.ownBlock≠some U
 sw:∀ z,sv.ownBlock=some z→vv.ownBlock≠some z
theorem Wk.below {S U:Nat} {w w':World} {sv vv:Value} {st vs:List (Nat × Nat)} {dec:Int} (h:Wk S U w sv vv st vs dec) (hb:Below w.heap.size w w'):Wk S U w' sv vv st vs dec :=
 ⟨h.s,Nat.lt_of_lt_of_le h.lt hb.size,(hb.cell (p:=⟨U,0,none⟩) h.lt).trans h.c0,(hb.cell (p:=⟨U,1,none⟩) h.lt).trans h.c1,(hb.cell (p:=⟨U,2,none⟩) h.lt).trans h.c2,fun j=>(hb.frozen (p:=⟨U,j,none⟩) h.lt).trans (h.fz j),h.st.kept hb,h.su,h.vs.kept hb,h.vu,h.sw⟩
theorem Wk.block {S U:Nat} {w:World} {sv vv sv':Value} {st vs st':List (Nat × Nat)} {dec:Int} (h:Wk S U w sv vv st vs dec) (hst:OwnSl S 171 2 encP w sv' st'.reverse) (hown:sv'.ownBlock=sv.ownBlock):Wk S U (w.setCell ⟨U,0,none⟩ sv') sv' vv st' vs dec:=by
 have hk:∀ k,k≠U→(w.setCell ⟨U,0,none⟩ sv').heap[k]?=w.heap[k]?:=fun k hk=>Below.heap_setCell _ _ _ _ hk
 refine ⟨h.s,by simpa using h.lt,World.cell?_setCell_same' _ _ _ (by rw [h.c0];rfl),by rw [World.cell?_setCell_other _ _ _ _ (by simp)];exact h.c1,by rw [World.cell?_setCell_other _ _ _ _ (by simp)];exact h.c2,fun j=>by rw [World.frozen?_setCell];exact h.fz j,OwnSl.keepB hst (fun z z1 _ _=>hk z (fun e=>h.su (by rw [← hown,z1,e]))),by rw [hown];exact h.su,OwnSl.keepB h.vs (fun z z1 _ _=>hk z (fun e=>h.vu (by rw [z1,e]))),h.vu,by rw [hown];exact h.sw⟩
theorem ownsRow_less {base e sz g n m cap:Nat} {w:World} {L:List Value} (h:w.ownsRow base e sz (.slice (some ⟨g,0,none⟩) n cap) n L) (hm:m≤n):w.ownsRow base e sz (.slice (some ⟨g,0,none⟩) m cap) m (L.take (m*sz)):=by
 obtain ⟨h1,h2 | ⟨g',cap',cur,he,hb,hh,hn,hc,hs,ht⟩⟩:=h
 ·cases h2.1
 ·obtain ⟨e1, -,rfl⟩:=Value.slice.inj he
  obtain ⟨rfl, -, -⟩:=Addr.mk.inj (Option.some.inj e1)
  have hle:m*sz≤n*sz:=Nat.mul_le_mul_right _ hm
  refine ⟨by rw [List.length_take,h1,Nat.min_eq_left hle],.inr ⟨g,cap,cur,rfl,hb,hh,by omega,hc,hs,?_⟩⟩
  rw [← ht,List.take_take,Nat.min_eq_left hle]
theorem encP_len (l:List (Nat × Nat)) (m:Nat):(l.flatMap encP).take (m*2)=(l.take m).flatMap encP:=by
 induction l generalizing m with
 | nil=>simp
 | cons x l ih =>
  cases m with
  | zero=>simp
  | succ m =>
   rw [List.flatMap_cons,List.take_succ_cons,List.flatMap_cons,← ih m,Nat.succ_mul]
   simp [encP]
theorem Wk.leave {S U:Nat} {w:World} {sv vv:Value} {x:Nat × Nat} {st vs:List (Nat × Nat)} {dec:Int} (h:Wk S U w sv vv (x::st) vs dec) :
  ∃ g c,sv=.slice (some ⟨g,0,none⟩) (st.length+1) c∧st.length+1≤c∧c≤maxLen∧Wk S U (w.setCell ⟨U,0,none⟩ (.slice (some ⟨g,0,none⟩) st.length c)) (.slice (some ⟨g,0,none⟩) st.length c) vv st vs dec:=by
 have h1:=h.st
 rcases OwnSl.form h1 with ⟨_,h'⟩ | ⟨g,c,h',hg,hx,hc,hm,_⟩
 ·simp at h'
 ·subst h'
  rw [List.length_reverse,List.length_cons] at hc h1 ⊢
  refine ⟨g,c,rfl,hc,hm,h.block ?_ rfl⟩
  unfold OwnSl at h1 ⊢
  rw [List.length_reverse,List.length_cons] at h1
  have h2:=ownsRow_less h1 (Nat.le_succ st.length)
  rw [encP_len,List.reverse_cons,List.take_append_of_le_length (by simp),List.take_of_length_le (by simp)] at h2
  rw [List.length_reverse]
  exact h2
def LeftR (S U:Nat) (vv:Value) (st vs:List (Nat × Nat)) (dec:Int) (w:World) (e:Ending) (w':World):Prop:=∃ sv,e=.returned (.tuple #[])∧Wk S U w' sv vv st vs dec∧Below S w w'
set_option maxHeartbeats 2000000 in
set_option maxRecDepth 100000 in
theorem leave_any {S U:Nat} {W:World} {sv vv:Value} {x:Nat × Nat} {st vs:List (Nat × Nat)} {dec:Int} (h:Wk S U W sv vv (x::st) vs dec) :
  Calls Tryz.prog 109 #[.pointer (some ⟨U,0,none⟩)] W (LeftR S U vv st vs dec W):=by
 obtain ⟨g,c,rfl,hc,hm, -⟩:=h.leave
 unfold maxLen at hm
 obtain ⟨m,hmm⟩:∃ m,st.length=m:=⟨_,rfl⟩
 rw [hmm] at h hc
 have HM:=Lib.hid hmm
 have HH:=Lib.hid h
 have hU:=h.lt
 have hS:=h.s
 have c0:=h.c0
 clear h hmm
 go_enter Tryz.func109,Tryz.ntmps109
 go_wp2_with fail
 refine wp_region_lastR (fun _ w=>Below W.heap.size W w) (fun a b=>Below a.heap.size a b) (bof [BIs (.pointer (some ⟨U,0,none⟩)),BIs (.pointer (some ⟨U,0,none⟩)),BIs (.pointer (some ⟨U,0,none⟩)),BIs (.pointer (some ⟨U,0,none⟩)),BIs (.slice (some ⟨g,0,none⟩) (m+1) c),BIs (.pointer (some ⟨U,0,none⟩)),BIs (.pointer (some ⟨U,0,none⟩)),BIs (.pointer (some ⟨U,0,none⟩)),BIs (.slice (some ⟨g,0,none⟩) (m+1) c),BIs (.int .i64 ((m:Int)+1)),BIs (.int .i64 (m:Int)),BIs (.slice (some ⟨g,0,none⟩) m c),BIs (.pointer (some ⟨U,0,none⟩)),BIs (.pointer (some ⟨U,0,none⟩))]) (fun w9=>∃ w3,Below W.heap.size W w3∧w9=w3.setCell ⟨U,0,none⟩ (.slice (some ⟨g,0,none⟩) m c)) 14 (by kernel_rfl) rfl (fun u=>by simp only [frU,Act.put,List.setIfInBounds_toArray,List.set_cons_succ,List.set_cons_zero,Nat.zero_add,Nat.reduceAdd];exact rfl) (by kernel_rfl) (by kernel_rfl) (fun iz wz wy vz hbz hz=>bof_stb [BIs (.pointer (some ⟨U,0,none⟩)),BIs (.pointer (some ⟨U,0,none⟩)),BIs (.pointer (some ⟨U,0,none⟩)),BIs (.pointer (some ⟨U,0,none⟩)),BIs (.slice (some ⟨g,0,none⟩) (m+1) c),BIs (.pointer (some ⟨U,0,none⟩)),BIs (.pointer (some ⟨U,0,none⟩)),BIs (.pointer (some ⟨U,0,none⟩)),BIs (.slice (some ⟨g,0,none⟩) (m+1) c),BIs (.int .i64 ((m:Int)+1)),BIs (.int .i64 (m:Int)),BIs (.slice (some ⟨g,0,none⟩) m c),BIs (.pointer (some ⟨U,0,none⟩)),BIs (.pointer (some ⟨U,0,none⟩))] ⟨bst_is _,bst_is _,bst_is _,bst_is _,bst_is _,bst_is _,bst_is _,bst_is _,bst_is _,bst_is _,bst_is _,bst_is _,bst_is _,bst_is _,trivial⟩ iz wz wy vz hbz hz) ⟨rfl,rfl,rfl,Nat.le_refl _,fun _ _=>rfl⟩ ?_ ?_;(exact ⟨stSb rfl (fun u w3 hC hd Q K hK=>by (go_step;exact hK _ _ rfl bR rfl)),stSb rfl (fun u w3 hC hd Q K hK=>by (go_step;exact hK _ _ rfl bR rfl)),stSb rfl (fun u w3 hC hd Q K hK=>by (rw [bis (w:=w3) (hd 1 rfl)] at hK ⊢;go_step;exact hK _ _ rfl bR rfl)),stSb rfl (fun u w3 hC hd Q K hK=>by (rw [bis (w:=w3) (hd 2 rfl)] at hK ⊢;go_step;exact hK _ _ rfl bR rfl)),stSb rfl (fun u w3 hC hd Q K hK=>by (rw [bis (w:=w3) (hd 3 rfl)] at hK ⊢;have z0:=(hC.cell (p:=⟨U,0,none⟩) hU).trans c0;go_step;exact hK _ _ rfl bR rfl)),stSb rfl (fun u w3 hC hd Q K hK=>by (go_step;exact hK _ _ rfl bR rfl)),stSb rfl (fun u w3 hC hd Q K hK=>by (rw [bis (w:=w3) (hd 5 rfl)] at hK ⊢;go_step;exact hK _ _ rfl bR rfl)),stSb rfl (fun u w3 hC hd Q K hK=>by (rw [bis (w:=w3) (hd 6 rfl)] at hK ⊢;go_step;exact hK _ _ rfl bR rfl)),stSb rfl (fun u w3 hC hd Q K hK=>by (rw [bis (w:=w3) (hd 7 rfl)] at hK ⊢;have z0:=(hC.cell (p:=⟨U,0,none⟩) hU).trans c0;go_step;exact hK _ _ rfl bR rfl)),stSb rfl (fun u w3 hC hd Q K hK=>by (rw [bis (w:=w3) (hd 8 rfl)] at hK ⊢;go_step;exact hK _ _ rfl bR rfl)),stSb rfl (fun u w3 hC hd Q K hK=>by (rw [bis (w:=w3) (hd 9 rfl)] at hK ⊢;go_step;exact hK _ _ rfl bR rfl)),stSb rfl (fun u w3 hC hd Q K hK=>by (rw [bis (w:=w3) (hd 4 rfl)] at hK ⊢;rw [bis (w:=w3) (hd 10 rfl)] at hK ⊢;go_step;exact hK _ _ rfl bR rfl)),stSb rfl (fun u w3 hC hd Q K hK=>by (rw [bis (w:=w3) (hd 0 rfl)] at hK ⊢;go_step;exact hK _ _ rfl bR rfl)),stSb rfl (fun u w3 hC hd Q K hK=>by (rw [bis (w:=w3) (hd 12 rfl)] at hK ⊢;go_step;exact hK _ _ rfl bR rfl)),⟨rfl,fun m u w3 hm hC hd Q K hK=>by (dsimp only at hK ⊢;rw [bis (w:=w3) (hd 13 rfl)] at hK ⊢;rw [bis (w:=w3) (hd 11 rfl)] at hK ⊢;have z0:=(hC.cell (p:=⟨U,0,none⟩) hU).trans c0;have z1:=(HH.out.below hC).fz 0;go_step;exact hK _ _ rfl ⟨w3,hC,rfl⟩)⟩⟩);intro u w9 hD
 obtain ⟨w3,hb,rfl⟩:=hD
 obtain ⟨g',c',hg, -, -,hw⟩:=(HH.out.below hb).leave
 obtain ⟨e1, -,e3⟩:=Value.slice.inj hg
 cases e1
 subst e3
 rw [HM.out] at hw
 have HW:=Lib.hid (show LeftR S U vv st vs dec W (.returned (.tuple #[])) _ from ⟨_,rfl,hw,(hb.mono (by omega)).trans (Below.setCell (p:=⟨U,0,none⟩) bR hS _)⟩)
 clear hw hb hg
 go_wp2_with fail
 refine bodyPost_end (results_none rfl _ _ _) rfl ?_
 exact HW.out
set_option maxHeartbeats 1000000 in
theorem returning_walk {S U:Nat} {w:World} {sv vv:Value} {x:Nat × Nat} {st vs:List (Nat × Nat)} {dec:Int} (h:Wk S U w sv vv (x::st) vs dec) :
  Calls Tryz.prog 168 #[.agg #[],.pointer (some ⟨U,0,none⟩)] w (LeftR S U vv st vs dec w):=by
 obtain ⟨W,hW⟩:∃ W,w.alloc (.cells #[] 195)=W:=⟨_,rfl⟩
 have hal:Below w.heap.size w W:=by rw [← hW];exact bR.alloc (Nat.le_refl _) _
 have hU:=h.lt
 have hS:=h.s
 have HA:=Lib.hid (hal.mono (show S≤w.heap.size by omega))
 have HH:=Lib.hid (h.below hal)
 clear h hal
 go_enter Tryz.func168,Tryz.ntmps168
 go_wp2_with fail
 clear hW
 refine (leave_any HH.out).mono ?_
 rintro e w2 ⟨sv2,rfl,h2,hb2⟩
 have HD:=Lib.hid (show LeftR S U vv st vs dec w (.returned (.tuple #[])) w2 from ⟨sv2,rfl,h2,HA.out.trans hb2⟩)
 clear h2 hb2
 go_wp2
 go_end0
 exact HD.out
theorem Wk.decide {S U:Nat} {w:World} {sv vv:Value} {st vs:List (Nat × Nat)} {dec:Int} (h:Wk S U w sv vv st vs dec) (d:Int):Wk S U (w.setCell ⟨U,2,none⟩ (.int .i64 d)) sv vv st vs d:=by
 have hk:∀ k,k≠U→(w.setCell ⟨U,2,none⟩ (.int .i64 d)).heap[k]?=w.heap[k]?:=fun k hk=>Below.heap_setCell _ _ _ _ hk
 exact ⟨h.s,by simpa using h.lt,by rw [World.cell?_setCell_other _ _ _ _ (by simp)];exact h.c0,by rw [World.cell?_setCell_other _ _ _ _ (by simp)];exact h.c1,World.cell?_setCell_same' _ _ _ (by rw [h.c2];rfl),fun j=>by rw [World.frozen?_setCell];exact h.fz j,OwnSl.keepB h.st (fun z z1 _ _=>hk z (fun e=>h.su (by rw [z1,e]))),h.su,OwnSl.keepB h.vs (fun z z1 _ _=>hk z (fun e=>h.vu (by rw [z1,e]))),h.vu,h.sw⟩
set_option maxHeartbeats 1000000 in
theorem passing_walk {S U:Nat} {w:World} {sv vv:Value} {st vs:List (Nat × Nat)} {dec:Int} (h:Wk S U w sv vv st vs dec) :
  Calls Tryz.prog 171 #[.agg #[],.pointer (some ⟨U,0,none⟩)] w (LeftR S U vv st vs dec w):=by
 obtain ⟨W,hW⟩:∃ W,w.alloc (.cells #[] 196)=W:=⟨_,rfl⟩
 have hal:Below w.heap.size w W:=by rw [← hW];exact bR.alloc (Nat.le_refl _) _
 have hU:=h.lt
 have hS:=h.s
 have HD:=Lib.hid (show LeftR S U vv st vs dec w (.returned (.tuple #[])) W from ⟨sv,rfl,h.below hal,hal.mono (by omega)⟩)
 clear h hal
 go_enter Tryz.func171,Tryz.ntmps171
 go_wp2
 go_end0
 exact HD.out
set_option maxHeartbeats 1000000 in
theorem deciding_walk {S U:Nat} {w:World} {sv vv:Value} {st vs:List (Nat × Nat)} {dec:Int} (acc:Bool) (h:Wk S U w sv vv st vs dec) :
  Calls Tryz.prog 162 #[.agg #[.bool acc],.pointer (some ⟨U,0,none⟩)] w (LeftR S U vv st vs (if acc=true then 1 else 2) w):=by
 obtain ⟨W,hW⟩:∃ W,w.alloc (.cells #[.bool acc] 191)=W:=⟨_,rfl⟩
 have hal:Below w.heap.size w W:=by rw [← hW];exact bR.alloc (Nat.le_refl _) _
 have hU:=h.lt
 have hS:=h.s
 have b0:W.cell? ⟨w.heap.size,0,none⟩=some (.bool acc):=by rw [← hW];simp
 have hh:=h.below hal
 have c2:=hh.c2
 have f2:=hh.fz 2
 have HD:=Lib.hid (show ∀ d,LeftR S U vv st vs d w (.returned (.tuple #[])) (W.setCell ⟨U,2,none⟩ (.int .i64 d)) from fun d=>⟨sv,rfl,hh.decide d,(hal.mono (by omega)).trans (Below.setCell (p:=⟨U,2,none⟩) bR hS _)⟩)
 clear h hal hh
 cases acc
 ·go_enter Tryz.func162,Tryz.ntmps162
  go_wp2
  go_end0
  exact HD.out 2
 ·go_enter Tryz.func162,Tryz.ntmps162
  go_wp2
  go_end0
  exact HD.out 1
end Go.Proofs.YtfcbbahlhjdefaaGreatDoor
namespace Go.Proofs.YtfcbbahlhjdefaaGreatDoor
open Go.RowKit
theorem infoPl:(Tryz.prog.info? 171).map (fun i=>(i.zero,i.size,i.bytes))=some (some (.agg #[.int .i64 0,.int .i64 0]),2,16):=by kernel_rfl
theorem Wk.push {S U:Nat} {w:World} {sv vv vx:Value} {st vs:List (Nat × Nat)} {dec:Int} (h:Wk S U w sv vv st vs dec) (ty:TypeId) (y:Nat × Nat) (hx:SlAt 2 encP w vx [y]) (hb:st.length≤100000) :
  ∃ v' w',(Builtin.append_ #[127,127] ty #[sv,vx]).run Tryz.prog w=.ok v' w'∧w'.cell? ⟨U,0,none⟩=some sv∧w'.frozen? ⟨U,0,none⟩=false∧(∃ a n c,v'=.slice a n c)∧Wk S U (w'.setCell ⟨U,0,none⟩ v') v' vv (y::st) vs dec∧Below S w (w'.setCell ⟨U,0,none⟩ v'):=by
 obtain ⟨i0,hi,hy0,hy1,hy2⟩:=info_parts infoPl
 have hU:=h.lt;have hS:=h.s
 have hone:∀ z∈[y].flatMap encP,z.oneCell'=true:=fun z hz=>by
  simp only [List.flatMap_cons,List.flatMap_nil,List.append_nil,encP,List.mem_cons,List.not_mem_nil,or_false] at hz
  rcases hz with rfl | rfl<;>rfl
 obtain ⟨v',w',hrun,hown,hgr,hat⟩:=own_append_all (sz:=2) (enc:=encP) (by omega) (fun _=>rfl) (P:=Tryz.prog) 127 ty 171 i0 _ 16 Tryz.underlying127 hi hy0 hy1 hy2 rfl hone h.st hx (by simp;omega) (by simp only [maxLen,List.length_cons,List.length_nil,List.length_reverse];omega) (by omega)
 have hz:=hgr.size
 have kU:=hgr.block U hU (fun e=>h.su e.symm)
 have cU:∀ j,w'.cell? ⟨U,j,none⟩=w.cell? ⟨U,j,none⟩:=fun j=>World.cell?_of_block (a:=⟨U,j,none⟩) kU
 have fU:∀ j,w'.frozen? ⟨U,j,none⟩=false:=fun j=>(World.frozen?_of_block (a:=⟨U,j,none⟩) kU).trans (h.fz j)
 have hat2:∀ z,v'.ownBlock=some z→sv.ownBlock=some z∨w.heap.size≤z:=fun z hz2=>(hat z hz2).imp id (fun e=>by omega)
 have hk:∀ k,k≠U→(w'.setCell ⟨U,0,none⟩ v').heap[k]?=w'.heap[k]?:=fun k hk=>Below.heap_setCell _ _ _ _ hk
 have hvU:v'.ownBlock≠some U:=fun e=>by
  rcases hat2 U e with h1 | h1
  ·exact h.su h1
  ·omega
 have hform:∃ a n c,v'=.slice a n c:=by
  rcases OwnSl.form hown with ⟨h1,_⟩ | ⟨g,c,h1,_⟩
  ·exact ⟨_,_,_,h1⟩
  ·exact ⟨_,_,_,h1⟩
 refine ⟨v',w',hrun,(cU 0).trans h.c0,fU 0,hform,⟨hS,by simp;omega,World.cell?_setCell_same' _ _ _ (by rw [cU 0,h.c0];rfl),by rw [World.cell?_setCell_other _ _ _ _ (by simp),cU 1];exact h.c1,by rw [World.cell?_setCell_other _ _ _ _ (by simp),cU 2];exact h.c2,fun j=>by rw [World.frozen?_setCell];exact fU j,
  OwnSl.keepB (by rw [List.reverse_cons];exact hown) (fun z z1 _ _=>hk z (fun e=>hvU (by rw [z1,e]))),hvU,OwnSl.keepB h.vs (fun z z1 _ z3=>(hk z (fun e=>h.vu (by rw [z1,e]))).trans (hgr.block z z3 (fun e=>h.sw z e.symm z1))),h.vu,fun z z1 z2=>?_⟩,?_⟩
 ·rcases hat2 z z1 with h1 | h1
  ·exact h.sw z h1 z2
  ·have:=(World.ownsRow.lt h.vs z z2).2;omega
 ·exact Below.setCell (p:=⟨U,0,none⟩) (bR.grown hgr (by omega) (fun z hz=>(World.ownsRow.lt h.st z hz).1)) hS _
def LitP (a b:Int) (w:World) (v:Value):Prop:=∃ g,v=.slice (some ⟨g,0,none⟩) 1 1∧g<w.heap.size∧w.cell? ⟨g,0,none⟩=some (.int .i64 a)∧w.cell? ⟨g,1,none⟩=some (.int .i64 b)
theorem litP_b {a b:Int}:BStb (LitP a b):=fun _ _ _ hb ⟨g,h1,h2,h3,h4⟩=>⟨g,h1,Nat.lt_of_lt_of_le h2 hb.size,(hb.cell (p:=⟨g,0,none⟩) h2).trans h3,(hb.cell (p:=⟨g,1,none⟩) h2).trans h4⟩
theorem slP {w:World} {g:Nat} {y:Nat × Nat} (hg:g<w.heap.size) (h0:w.cell? ⟨g,0,none⟩=some (.int .i64 (y.1:Int))) (h1:w.cell? ⟨g,1,none⟩=some (.int .i64 (y.2:Int))):SlAt 2 encP w (.slice (some ⟨g,0,none⟩) 1 1) [y]:=by
 refine ⟨_,1,rfl,by simp,by simp [maxLen],fun k x hk=>?_⟩
 match k,hk with
 | 0,hk =>
  cases hk
  refine ⟨g,0,rfl,hg,fun j u hj=>?_⟩
  match j,hj with
  | 0,hj=>cases hj;exact h0
  | 1,hj=>cases hj;exact h1
  | j+2,hj=>simp [encP] at hj
 | k+1,hk=>simp at hk
def PushF (S U:Nat) (sv vv:Value) (st vs:List (Nat × Nat)) (dec:Int) (W w9:World) (v:Value):Prop:=w9.cell? ⟨U,0,none⟩=some sv∧w9.frozen? ⟨U,0,none⟩=false∧(∃ a n c,v=.slice a n c)∧Wk S U (w9.setCell ⟨U,0,none⟩ v) v vv st vs dec∧Below S W (w9.setCell ⟨U,0,none⟩ v)
set_option maxHeartbeats 2000000 in
set_option maxRecDepth 100000 in
theorem calling_walk {S U:Nat} {w:World} {sv vv:Value} {st vs:List (Nat × Nat)} {dec:Int} (ch:Nat) (h:Wk S U w sv vv st vs dec) (hb:st.length≤100000) :
  Calls Tryz.prog 165 #[.agg #[.int .i64 ch],.pointer (some ⟨U,0,none⟩)] w (LeftR S U vv ((ch,0)::st) vs dec w):=by
 obtain ⟨W,hW⟩:∃ W,w.alloc (.cells #[.int .i64 ch] 193)=W:=⟨_,rfl⟩
 have hal:Below w.heap.size w W:=by rw [← hW];exact bR.alloc (Nat.le_refl _) _
 have hz0:w.heap.size<W.heap.size:=by rw [← hW];simp
 have b0:W.cell? ⟨w.heap.size,0,none⟩=some (.int .i64 ch):=by rw [← hW];simp
 have hU0:=h.lt
 have hS:=h.s
 have hh:=h.below hal
 have hU:=hh.lt
 obtain ⟨sa,sn,sc,hsv⟩:∃ a n c,sv=Value.slice a n c:=by
  rcases OwnSl.form h.st with ⟨h1,_⟩ | ⟨g,c,h1,_⟩
  ·exact ⟨_,_,_,h1⟩
  ·exact ⟨_,_,_,h1⟩
 subst hsv
 have c0:=hh.c0
 have HH:=Lib.hid hh
 have HA:=Lib.hid (hal.mono (show S≤w.heap.size by omega))
 have hSW:S≤W.heap.size:=by omega
 clear h hal hh
 go_enter Tryz.func165,Tryz.ntmps165
 go_wp2_with fail
 clear hW
 refine wp_region_u (W:=W) 9 13 [BIs (.pointer (some ⟨U,0,none⟩)),BIs (.pointer (some ⟨U,0,none⟩)),BIs (.pointer (some ⟨U,0,none⟩)),BIs (.pointer (some ⟨U,0,none⟩)),BIs (.slice sa sn sc),BIs (.pointer (some ⟨w.heap.size,0,none⟩)),BIs (.int .i64 ch),BIs (.agg #[.int .i64 ch,.int .i64 0]),(LitP ch 0)] (bof [BIs (.pointer (some ⟨U,0,none⟩)),BIs (.pointer (some ⟨U,0,none⟩)),BIs (.pointer (some ⟨U,0,none⟩)),BIs (.pointer (some ⟨U,0,none⟩)),BIs (.slice sa sn sc),BIs (.pointer (some ⟨w.heap.size,0,none⟩)),BIs (.int .i64 ch),BIs (.agg #[.int .i64 ch,.int .i64 0]),(fun _ _=>True),(PushF S U (.slice sa sn sc) vv (List.cons (ch,0) st) vs dec W),BIs (.pointer (some ⟨U,0,none⟩)),BIs (.pointer (some ⟨U,0,none⟩))]) (fun w9=>∃ v,Wk S U w9 v vv (List.cons (ch,0) st) vs dec∧Below S W w9) (by kernel_rfl) (by decide) rfl (fun u=>by simp only [frU,Act.put,List.setIfInBounds_toArray,List.set_cons_succ,List.set_cons_zero,Nat.zero_add,Nat.reduceAdd];exact rfl) (by kernel_rfl) (by kernel_rfl) ⟨bst_is _,bst_is _,bst_is _,bst_is _,bst_is _,bst_is _,bst_is _,bst_is _,(litP_b),trivial⟩ ?_ ?_;(exact ⟨stUf rfl (by decide) (fun u w3 hC hd Q K hK=>by (go_step;exact hK _ _ rfl bR rfl)) (fun u w3 hd Q K hK=>by (dsimp only at hK ⊢;go_step;exact hK _ rfl rfl)),stU rfl (by decide) (by kernel_rfl) (fun u w3 hC hd Q K hK=>by (go_step;exact hK _ _ rfl bR rfl)),stU rfl (by decide) (by kernel_rfl) (fun u w3 hC hd Q K hK=>by (rw [bis (w:=w3) (hd 1 rfl)] at hK ⊢;go_step;exact hK _ _ rfl bR rfl)),stU rfl (by decide) (by kernel_rfl) (fun u w3 hC hd Q K hK=>by (rw [bis (w:=w3) (hd 2 rfl)] at hK ⊢;go_step;exact hK _ _ rfl bR rfl)),stU rfl (by decide) (by kernel_rfl) (fun u w3 hC hd Q K hK=>by (rw [bis (w:=w3) (hd 3 rfl)] at hK ⊢;have z0:=(hC.cell (p:=⟨U,0,none⟩) hU).trans c0;go_step;exact hK _ _ rfl bR rfl)),stU rfl (by decide) (by kernel_rfl) (fun u w3 hC hd Q K hK=>by (go_step;exact hK _ _ rfl bR rfl)),stU rfl (by decide) (by kernel_rfl) (fun u w3 hC hd Q K hK=>by (rw [bis (w:=w3) (hd 5 rfl)] at hK ⊢;have z0:=(hC.cell (p:=⟨w.heap.size,0,none⟩) hz0).trans b0;go_step;exact hK _ _ rfl bR rfl)),stU rfl (by decide) (by kernel_rfl) (fun u w3 hC hd Q K hK=>by (rw [bis (w:=w3) (hd 6 rfl)] at hK ⊢;go_step;exact hK _ _ rfl bR rfl)),stU rfl (by decide) (by kernel_rfl) (fun u w3 hC hd Q K hK=>by (rw [bis (w:=w3) (hd 7 rfl)] at hK ⊢;go_step;exact hK _ _ rfl (bR.alloc (Nat.le_refl _) _) ⟨_,rfl,by simp,by simp,by simp⟩)),stUt rfl (by decide) (fun u w3 hC hd Q K hK=>by (dsimp only at hK ⊢;rw [bis (w:=w3) (hd 4 rfl)] at hK ⊢;obtain ⟨gg,hu,hg,k0,k1⟩:=hd 8 rfl;rw [hu] at hK ⊢;clear hu;obtain ⟨v5,w5,hrun,hc5,hf5,hfm5,hk5,hb5⟩:=(HH.out.below hC).push 127 (ch,0) (slP hg k0 k1) hb;refine wp_append_run (.tmp 8) (.tmp 12) 127 rfl rfl rfl hrun ?_;refine hK _ _ rfl (fun j hj h=>?_) ?_;(match j,hj,h with | 0,_,h=>exact h | 1,_,h=>exact h | 2,_,h=>exact h | 3,_,h=>exact h | 4,_,h=>exact h | 5,_,h=>exact h | 6,_,h=>exact h | 7,_,h=>exact h | 8,_,_=>exact trivial | j+9,hj,_=>exact absurd hj (by omega));exact ⟨hc5,hf5,hfm5,hk5,(hC.mono hSW).trans hb5⟩)),stUb rfl (by decide) (by decide) (by kernel_rfl) (fun u w3 hd Q K hK=>by (dsimp only at hK ⊢;rw [bis (w:=w3) (hd 0 rfl)] at hK ⊢;go_step;exact hK _ rfl rfl)),stUb rfl (by decide) (by decide) (by kernel_rfl) (fun u w3 hd Q K hK=>by (dsimp only at hK ⊢;rw [bis (w:=w3) (hd 10 rfl)] at hK ⊢;go_step;exact hK _ rfl rfl)),stUl rfl (by decide) rfl (fun u w3 hd Q K hK=>by (dsimp only at hK ⊢;rw [bis (w:=w3) (hd 11 rfl)] at hK ⊢;have h5:=hd 9 rfl;generalize u 9=v5 at *;obtain ⟨z0,z1,⟨qa,qn,qc,hqq⟩,hk5,hb5⟩:=h5;subst hqq;go_step;exact hK _ _ rfl ⟨_,hk5,hb5⟩)),trivial⟩);intro u w9 hD
 obtain ⟨v9,hk9,hb9⟩:=hD
 have HD:=Lib.hid (show LeftR S U vv ((ch,0)::st) vs dec w (.returned (.tuple #[])) w9 from ⟨v9,rfl,hk9,HA.out.trans hb9⟩)
 clear hk9 hb9
 go_wp2
 go_end0
 exact HD.out
end Go.Proofs.YtfcbbahlhjdefaaGreatDoor
namespace Go.Proofs.YtfcbbahlhjdefaaGreatDoor
open Go.RowKit
theorem infoVi:(Tryz.prog.info? 175).map (fun i=>(i.zero,i.size,i.bytes))=some (some (.agg #[.int .i64 0,.int .i64 0]),2,16):=by kernel_rfl
theorem Wk.visit {S U:Nat} {w:World} {sv vv vx:Value} {st vs:List (Nat × Nat)} {dec:Int} (h:Wk S U w sv vv st vs dec) (ty:TypeId) (y:Nat × Nat) (hx:SlAt 2 encP w vx [y]) (hb:vs.length≤100000) :
  ∃ v' w',(Builtin.append_ #[128,128] ty #[vv,vx]).run Tryz.prog w=.ok v' w'∧w'.cell? ⟨U,1,none⟩=some vv∧w'.frozen? ⟨U,1,none⟩=false∧(∃ a n c,v'=.slice a n c)∧Wk S U (w'.setCell ⟨U,1,none⟩ v') sv v' st (vs++[y]) dec∧Below S w (w'.setCell ⟨U,1,none⟩ v'):=by
 obtain ⟨i0,hi,hy0,hy1,hy2⟩:=info_parts infoVi
 have hU:=h.lt;have hS:=h.s
 have hone:∀ z∈[y].flatMap encP,z.oneCell'=true:=fun z hz=>by
  simp only [List.flatMap_cons,List.flatMap_nil,List.append_nil,encP,List.mem_cons,List.not_mem_nil,or_false] at hz
  rcases hz with rfl | rfl<;>rfl
 obtain ⟨v',w',hrun,hown,hgr,hat⟩:=own_append_all (sz:=2) (enc:=encP) (by omega) (fun _=>rfl) (P:=Tryz.prog) 128 ty 175 i0 _ 16 Tryz.underlying128 hi hy0 hy1 hy2 rfl hone h.vs hx (by simp;omega) (by simp only [maxLen,List.length_cons,List.length_nil];omega) (by omega)
 have hz:=hgr.size
 have kU:=hgr.block U hU (fun e=>h.vu e.symm)
 have cU:∀ j,w'.cell? ⟨U,j,none⟩=w.cell? ⟨U,j,none⟩:=fun j=>World.cell?_of_block (a:=⟨U,j,none⟩) kU
 have fU:∀ j,w'.frozen? ⟨U,j,none⟩=false:=fun j=>(World.frozen?_of_block (a:=⟨U,j,none⟩) kU).trans (h.fz j)
 have hat2:∀ z,v'.ownBlock=some z→vv.ownBlock=some z∨w.heap.size≤z:=fun z hz2=>(hat z hz2).imp id (fun e=>by omega)
 have hk:∀ k,k≠U→(w'.setCell ⟨U,1,none⟩ v').heap[k]?=w'.heap[k]?:=fun k hk=>Below.heap_setCell _ _ _ _ hk
 have hvU:v'.ownBlock≠some U:=fun e=>by
  rcases hat2 U e with h1 | h1
  ·exact h.vu h1
  ·omega
 have hform:∃ a n c,v'=.slice a n c:=by
  rcases OwnSl.form hown with ⟨h1,_⟩ | ⟨g,c,h1,_⟩
  ·exact ⟨_,_,_,h1⟩
  ·exact ⟨_,_,_,h1⟩
 refine ⟨v',w',hrun,(cU 1).trans h.c1,fU 1,hform,⟨hS,by simp;omega,by rw [World.cell?_setCell_other _ _ _ _ (by simp),cU 0];exact h.c0,World.cell?_setCell_same' _ _ _ (by rw [cU 1,h.c1];rfl),by rw [World.cell?_setCell_other _ _ _ _ (by simp),cU 2];exact h.c2,fun j=>by rw [World.frozen?_setCell];exact fU j,
  OwnSl.keepB h.st (fun z z1 _ z3=>(hk z (fun e=>h.su (by rw [z1,e]))).trans (hgr.block z z3 (fun e=>h.sw z z1 e.symm))),h.su,OwnSl.keepB hown (fun z z1 _ _=>hk z (fun e=>hvU (by rw [z1,e]))),hvU,fun z z1 z2=>?_⟩,?_⟩
 ·rcases hat2 z z2 with h1 | h1
  ·exact h.sw z z1 h1
  ·have:=(World.ownsRow.lt h.st z z1).2;omega
 ·exact Below.setCell (p:=⟨U,1,none⟩) (bR.grown hgr (by omega) (fun z hz=>(World.ownsRow.lt h.vs z hz).1)) hS _
end Go.Proofs.YtfcbbahlhjdefaaGreatDoor
