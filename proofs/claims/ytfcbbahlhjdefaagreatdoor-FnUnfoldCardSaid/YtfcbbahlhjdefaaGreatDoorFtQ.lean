/- Rules in a list of the call's own under way. -/
import Derived.Test.YtfcbbahlhjdefaaGreatDoorUfQ
import Derived.Test.YtfcbbahlhjdefaaGreatDoorRsH
import Derived.Test.YtfcbbahlhjdefaaGreatDoorCuW
import Derived.Test.YtfcbbahlhjdefaaGreatDoorRgI
import Derived.Test.YtfcbbahlhjdefaaGreatDoorRdRs
import Derived.Test.YtfcbbahlhjdefaaGreatDoorRgA
import Derived.Test.YtfcbbahlhjdefaaGreatDoorDxAJ
import Derived.Test.YtfcbbahlhjdefaaGreatDoorDt
import Derived.Test.YtfcbbahlhjdefaaGreatDoorRgCL
import Derived.Test.YtfcbbahlhjdefaaGreatDoorRsC
import Derived.Test.YtfcbbahlhjdefaaGreatDoorFnX
namespace Go.Proofs.YtfcbbahlhjdefaaGreatDoor
open Go.RowKit
theorem mem_callsAt {cs:List (List Ru)} (hv:∀ c r,r∈cs.getD c []→r.ok=true) {c:Nat} {r:Ru} (hr:r∈cs.getD c []) (h3:r.act=3):r.ch.toNat∈callsAt cs c:=by
 have h:=hv c r hr
 unfold Ru.ok at h
 rw [h3] at h
 simp [inB] at h
 exact callsAt_mem.2 ⟨by omega,r,hr,h3,by omega⟩
theorem jgo_eq {F G:Nat→Option Bool} {p:Pk}:∀ (rs:List Ru),(∀ r,r∈rs→r.act=3→F r.ch.toNat=G r.ch.toNat)→jgo F p rs=jgo G p rs
 | [],_=>rfl
 | r::rs,h=>by
  have ih:=jgo_eq (p:=p) rs (fun x hx=>h x (List.mem_cons_of_mem _ hx))
  unfold jgo
  rw [ih]
  by_cases h3:r.act=3
  ·rw [h r List.mem_cons_self h3]
  ·simp only [if_neg h3]
theorem jwalk_stable {cs:List (List Ru)} {p:Pk} (hv:∀ c r,r∈cs.getD c []→r.ok=true):∀ {f c:Nat},Ht cs f c→jwalk cs p (f+1) c=jwalk cs p f c
 | 0,_,h=>h.elim
 | f+1,c,h=>by
  show jgo (jwalk cs p (f+1)) p _=jgo (jwalk cs p f) p _
  exact jgo_eq _ (fun r hr h3=>jwalk_stable hv (h _ (mem_callsAt hv hr h3)))
def tgo (rec:Nat→Nat):List Ru→Nat
 | []=>1
 | r::rs=>1+(if r.act=3 then rec r.ch.toNat else 0)+tgo rec rs
def tw (cs:List (List Ru)):Nat→Nat→Nat
 | 0,_=>0
 | f+1,c=>tgo (tw cs f) (cs.getD c [])
theorem tgo_eq {F G:Nat→Nat}:∀ (rs:List Ru),(∀ r,r∈rs→r.act=3→F r.ch.toNat=G r.ch.toNat)→tgo F rs=tgo G rs
 | [],_=>rfl
 | r::rs,h=>by
  have ih:=tgo_eq rs (fun x hx=>h x (List.mem_cons_of_mem _ hx))
  unfold tgo
  rw [ih]
  by_cases h3:r.act=3
  ·rw [h r List.mem_cons_self h3]
  ·simp only [if_neg h3]
theorem tw_stable {cs:List (List Ru)} (hv:∀ c r,r∈cs.getD c []→r.ok=true):∀ {f c:Nat},Ht cs f c→tw cs (f+1) c=tw cs f c
 | 0,_,h=>h.elim
 | f+1,c,h=>by
  show tgo (tw cs (f+1)) _=tgo (tw cs f) _
  exact tgo_eq _ (fun r hr h3=>tw_stable hv (h _ (mem_callsAt hv hr h3)))
def jval (cs:List (List Ru)) (p:Pk) (F:Nat):List (Nat × Nat)→Option Bool
 | []=>none
 | (c,n)::st=>match jgo (jwalk cs p F) p ((cs.getD c []).drop n) with
  | some b=>some b
  | none=>jval cs p F st
def jtime (cs:List (List Ru)) (F:Nat):List (Nat × Nat)→Nat
 | []=>0
 | (c,n)::st=>tgo (tw cs F) ((cs.getD c []).drop n)+jtime cs F st
def jturn (cs:List (List Ru)) (p:Pk) (c n:Nat) (st:List (Nat × Nat)):List (Nat × Nat) × Option Bool :=
 match (cs.getD c [])[n]? with
 | none=>(st,none)
 | some r =>
  if thold r.ts p=false then ((c,n+1)::st,none)
  else if r.act=1 then ((c,n+1)::st,some true)
  else if r.act=2 then ((c,n+1)::st,some false)
  else if r.act=4 then (st,none)
  else if r.act=3 then ((r.ch.toNat,0)::(c,n+1)::st,none)
  else ((c,n+1)::st,none)
theorem jturn_val {cs:List (List Ru)} {p:Pk} {F c n:Nat} {st:List (Nat × Nat)} (hv:∀ c r,r∈cs.getD c []→r.ok=true) (hc:Ht cs (F+1) c) :
  jval cs p F ((c,n)::st)=(match (jturn cs p c n st).2 with | some b=>some b | none=>jval cs p F (jturn cs p c n st).1) ∧
  jtime cs F (jturn cs p c n st).1<jtime cs F ((c,n)::st):=by
 unfold jturn
 cases hr:(cs.getD c [])[n]? with
 | none =>
  have hd:(cs.getD c []).drop n=[]:=List.drop_eq_nil_of_le (List.getElem?_eq_none_iff.1 hr)
  refine ⟨?_,?_⟩
  ·show (match jgo (jwalk cs p F) p ((cs.getD c []).drop n) with | some b=>some b | none=>jval cs p F st)=_
   rw [hd];rfl
  ·show jtime cs F st<tgo (tw cs F) ((cs.getD c []).drop n)+jtime cs F st
   rw [hd];simp [tgo]
 | some r =>
  have hl:=(List.getElem?_eq_some_iff.1 hr).1
  have hd:(cs.getD c []).drop n=r::(cs.getD c []).drop (n+1):=by
   rw [List.drop_eq_getElem_cons hl,(List.getElem?_eq_some_iff.1 hr).2]
  have hm:r∈cs.getD c []:=List.mem_of_getElem? hr
  have hjv:jval cs p F ((c,n)::st)=(match jgo (jwalk cs p F) p (r::(cs.getD c []).drop (n+1)) with | some b=>some b | none=>jval cs p F st):=by
   show (match jgo (jwalk cs p F) p ((cs.getD c []).drop n) with | some b=>some b | none=>jval cs p F st)=_
   rw [hd]
  have hjt:jtime cs F ((c,n)::st)=1+(if r.act=3 then tw cs F r.ch.toNat else 0)+tgo (tw cs F) ((cs.getD c []).drop (n+1))+jtime cs F st:=by
   show tgo (tw cs F) ((cs.getD c []).drop n)+jtime cs F st=_
   rw [hd];rfl
  have hnx:jval cs p F ((c,n+1)::st)=(match jgo (jwalk cs p F) p ((cs.getD c []).drop (n+1)) with | some b=>some b | none=>jval cs p F st):=rfl
  have hnt:jtime cs F ((c,n+1)::st)=tgo (tw cs F) ((cs.getD c []).drop (n+1))+jtime cs F st:=rfl
  rw [hjv,hjt]
  simp only [jgo]
  by_cases ht:thold r.ts p=false
  ·simp only [if_pos ht]
   exact ⟨hnx.symm,by rw [hnt];omega⟩
  ·simp only [if_neg ht]
   by_cases h1:r.act=1
   ·simp only [if_pos h1]
    exact ⟨trivial,by rw [hnt];omega⟩
   ·simp only [if_neg h1]
    by_cases h2:r.act=2
    ·simp only [if_pos h2]
     exact ⟨trivial,by rw [hnt];omega⟩
    ·simp only [if_neg h2]
     by_cases h4:r.act=4
     ·simp only [if_pos h4]
      exact ⟨trivial,by omega⟩
     ·simp only [if_neg h4]
      by_cases h3:r.act=3
      ·have hch:=hc _ (mem_callsAt hv hm h3)
       have e1:jgo (jwalk cs p F) p ((cs.getD r.ch.toNat []).drop 0)=jwalk cs p F r.ch.toNat:=jwalk_stable hv hch
       have e2:tgo (tw cs F) ((cs.getD r.ch.toNat []).drop 0)=tw cs F r.ch.toNat:=tw_stable hv hch
       simp only [if_pos h3]
       refine ⟨?_,?_⟩
       ·show _=(match jgo (jwalk cs p F) p ((cs.getD r.ch.toNat []).drop 0) with | some b=>some b | none=>jval cs p F ((c,n+1)::st))
        rw [e1,hnx]
        cases jwalk cs p F r.ch.toNat<;>rfl
       ·show tgo (tw cs F) ((cs.getD r.ch.toNat []).drop 0)+jtime cs F ((c,n+1)::st)<_
        rw [e2,hnt];omega
      ·simp only [if_neg h3]
       exact ⟨hnx.symm,by rw [hnt];omega⟩
theorem jval_start {cs:List (List Ru)} {p:Pk} {F:Nat} (hv:∀ c r,r∈cs.getD c []→r.ok=true) (h:Ht cs F 0):jval cs p F [(0,0)]=jwalk cs p F 0:=by
 have e1:jgo (jwalk cs p F) p ((cs.getD 0 []).drop 0)=jwalk cs p F 0:=jwalk_stable hv h
 show (match jgo (jwalk cs p F) p ((cs.getD 0 []).drop 0) with | some b=>some b | none=>none)=_
 rw [e1]
 cases jwalk cs p F 0<;>rfl
noncomputable def htn (cs:List (List Ru)) (k:Nat):Nat:=(List.range 5).countP (fun c=>@decide (Ht cs k c) (Classical.propDecidable _))
theorem htn_lt {cs:List (List Ru)} {k c:Nat} (hc:c<5) (h:Ht cs (k+1) c) (hn:¬ Ht cs k c):htn cs k<htn cs (k+1):=by
 unfold htn
 have aux:∀ (l:List Nat),c∈l→l.countP (fun c=>@decide (Ht cs k c) (Classical.propDecidable _))<l.countP (fun c=>@decide (Ht cs (k+1) c) (Classical.propDecidable _)):=by
  intro l
  have mono:∀ (l:List Nat),l.countP (fun c=>@decide (Ht cs k c) (Classical.propDecidable _))≤l.countP (fun c=>@decide (Ht cs (k+1) c) (Classical.propDecidable _)):=fun l =>
   List.countP_mono_left (fun x _ hx=>by
    simp only [decide_eq_true_eq] at hx ⊢
    exact hx.mono (by omega))
  induction l with
  | nil=>intro h;cases h
  | cons x l ih =>
   intro hm
   rw [List.countP_cons,List.countP_cons]
   rcases List.mem_cons.1 hm with e | e
   ·subst e
    have:=mono l
    simp [h,hn]
    omega
   ·have:=ih e
    by_cases hx:Ht cs k x
    ·have hx2:Ht cs (k+1) x:=hx.mono (by omega)
     simp [hx,hx2];exact this
    ·by_cases hx2:Ht cs (k+1) x
     ·simp [hx,hx2];omega
     ·simp [hx,hx2];exact this
 exact aux _ (List.mem_range.2 hc)
theorem ht_six {cs:List (List Ru)} {f c:Nat} (h:Ht cs f c) (hc:c<5):Ht cs 6 c:=by
 have key:∀ k,k≤htn cs k∨∀ c,c<5→Ht cs (k+1) c→Ht cs k c:=by
  intro k
  induction k with
  | zero=>exact .inl (Nat.zero_le _)
  | succ k ih =>
   by_cases hs:∀ c,c<5→Ht cs (k+1) c→Ht cs k c
   ·exact .inr (fun c _ h x hx=>hs x (callsAt_mem.1 hx).1 (h x hx))
   ·rcases ih with h1 | h1
    ·have:∃ c,c<5∧Ht cs (k+1) c∧¬ Ht cs k c:=by
      apply Classical.byContradiction
      intro hno
      exact hs (fun c h2 h3=>Classical.byContradiction (fun h4=>hno ⟨c,h2,h3,h4⟩))
     obtain ⟨c,h2,h3,h4⟩:=this
     have:=htn_lt h2 h3 h4
     exact .inl (by omega)
    ·exact absurd h1 hs
 have h6:∀ c,c<5→Ht cs 7 c→Ht cs 6 c:=by
  rcases key 6 with h1 | h1
  ·have:htn cs 6≤5:=by unfold htn;exact Nat.le_trans List.countP_le_length (by simp)
   omega
  ·exact h1
 have hall:∀ j c,c<5→Ht cs (6+j) c→Ht cs 6 c:=by
  intro j
  induction j with
  | zero=>exact fun c _ h=>h
  | succ j ih=>exact fun c h1 h2=>h6 c h1 (fun x hx=>ih x (callsAt_mem.1 hx).1 (h2 x hx))
 exact hall f c hc (h.mono (by omega))
def StOk (cs:List (List Ru)) (F:Nat):List (Nat × Nat)→Prop
 | []=>True
 | x::r=>Ht cs (F+1 - r.length) x.1∧x.1<cs.length∧x.2≤(cs.getD x.1 []).length∧StOk cs F r
theorem StOk.len {cs:List (List Ru)} {F:Nat}:∀ {st:List (Nat × Nat)},StOk cs F st→st.length≤F+1
 | [],_=>Nat.zero_le _
 | x::r,⟨h1,_,_,_⟩=>by
  by_cases h:r.length≤F
  ·simp only [List.length_cons];omega
  ·rw [show F+1 - r.length=0 by omega] at h1
   exact h1.elim
theorem jturn_ok {cs:List (List Ru)} {p:Pk} {F c n:Nat} {st:List (Nat × Nat)} (hv:∀ c r,r∈cs.getD c []→r.ok=true) (hc:CallsIn cs) (h:StOk cs F ((c,n)::st)):StOk cs F (jturn cs p c n st).1:=by
 obtain ⟨h1,h2,h3,h4⟩:=h
 unfold jturn
 cases hr:(cs.getD c [])[n]? with
 | none=>exact h4
 | some r =>
  have hl:=(List.getElem?_eq_some_iff.1 hr).1
  have hm:r∈cs.getD c []:=List.mem_of_getElem? hr
  have hn:StOk cs F ((c,n+1)::st):=⟨h1,h2,hl,h4⟩
  dsimp only
  split
  ·exact hn
  ·split
   ·exact hn
   ·split
    ·exact hn
    ·split
     ·exact h4
     ·split
      ·rename_i h3
       have hlen:st.length≤F:=by
        have:=StOk.len hn
        simp only [List.length_cons] at this
        omega
       have h1':Ht cs ((F - st.length)+1) c:=by rw [show F - st.length+1=F+1 - st.length by omega];exact h1
       have hch:=h1' _ (mem_callsAt hv hm h3)
       obtain ⟨g1,g2,g3⟩:=hc _ (getD_mem hm) r hm h3
       refine ⟨?_,by simp only;omega,Nat.zero_le _,hn⟩
       simp only [List.length_cons]
       rw [show F+1 - (st.length+1)=F - st.length by omega]
       exact hch
      ·exact hn
end Go.Proofs.YtfcbbahlhjdefaaGreatDoor
namespace Go.Proofs.YtfcbbahlhjdefaaGreatDoor
open Go.RowKit
theorem fvalid_all {fs:List Ft}:fvalid fs=true↔fs.length≤60∧∀ f∈fs,bvalid f.box=true:=by
 unfold fvalid
 rw [Bool.and_eq_true,decide_eq_true_eq,List.all_eq_true]
end Go.Proofs.YtfcbbahlhjdefaaGreatDoor
namespace Go.Proofs.YtfcbbahlhjdefaaGreatDoor
open Go.RowKit
theorem ball_has {p:Pk} (hp:p.ok=true):bhas ball p=true:=by
 refine bhas_iff.2 (fun n hn=>?_)
 have h:=fld_top hp hn
 rw [getD_get (ball_at hn),shas_cons,inB_iff.2 h]
 rfl
end Go.Proofs.YtfcbbahlhjdefaaGreatDoor
namespace Go.Proofs.YtfcbbahlhjdefaaGreatDoor
open Go.RowKit
theorem SpV.highX {X:Nat→Prop} {lo:Nat} {w:World} {v:Value} {xs:List Sp} (h:Sps lo w v xs) (hX:∀ k,X k→k<lo):SpV X w v xs:=by
 refine ⟨h.mono (Nat.zero_le _),fun q n c e hne hp=>?_⟩
 obtain ⟨a,cap,rfl,h1,h2,hx⟩:=h
 obtain ⟨x,hx0⟩:∃ x,xs[0]?=some x:=⟨_,List.getElem?_eq_getElem (List.length_pos_iff.2 hne)⟩
 obtain ⟨b,o,ha,h3,h4,hc⟩:=hx 0 x hx0
 subst ha
 obtain ⟨e1, -, -⟩:=Value.slice.inj e
 cases e1
 have:=hX _ hp
 simp only at this
 omega
theorem nx_append {X:Nat→Prop} {lo:Nat} {w:World} {v vx:Value} {bs cs:List Bx} (ty:TypeId) (ho:NX X lo w v bs) (hs:IssX (fun k=>some k=v.ownBlock∨X k) w vx cs) (hb:bs.length+cs.length≤1000000) (hlo:lo≤w.heap.size) :
  ∃ v' w',(Builtin.append_ #[78,78] ty #[v,vx]).run Tryz.prog w=.ok v' w'∧NX X lo w' v' (bs++cs)∧w.grownBy w' v.ownBlock∧∀ z,v'.ownBlock=some z→v.ownBlock=some z∨z=w.heap.size:=by
 obtain ⟨i0,hi,hy0,hy1,hy2⟩:=info_parts infoSd
 obtain ⟨vs,g1,g2⟩:=ho
 obtain ⟨ws,k1,k2⟩:=hs
 have e1:=g2.1
 have e2:=k2.1
 have hone:∀ u∈ws.flatMap R4.enc,u.oneCell'=true:=fun u hu=>by
  obtain ⟨r,hr,hu2⟩:=List.mem_flatMap.1 hu
  obtain ⟨k',hk'⟩:=List.getElem?_of_mem hr
  obtain ⟨bx,hbx⟩:∃ bx,cs[k']?=some bx:=⟨_,List.getElem?_eq_getElem (by rw [← e2];exact (List.getElem?_eq_some_iff.1 hk').1)⟩
  have hall:=k2.2 k' r bx hk' hbx
  obtain ⟨F0,G0,H0,F1,G1,H1,F2,G2,H2,F3,G3,H3,h0,h1,h2,h3⟩:=sl4_form (hall.mono (fun _ _ g=>g.1))
  simp only [R4.enc,List.mem_cons,List.not_mem_nil,or_false] at hu2
  rcases hu2 with rfl | rfl | rfl | rfl
  ·rw [h0];rfl
  ·rw [h1];rfl
  ·rw [h2];rfl
  ·rw [h3];rfl
 obtain ⟨v',w',hrun,hown,hgr,hat⟩:=own_append_all (sz:=4) (enc:=R4.enc) (by omega) (fun _=>rfl) (P:=Tryz.prog) 78 ty 83 i0 _ 96 Tryz.underlying78 hi hy0 hy1 hy2 rfl hone g1 (SlFr.at k1) (by omega) (by simp only [maxLen];omega) hlo
 exact ⟨v',w',hrun,NX.push (H:=w.heap.size) k2 (grown_self hgr) hat (Nat.le_refl _) g2 hown,hgr,hat⟩
theorem NX.keepX {X X':Nat→Prop} {lo:Nat} {w w':World} {v:Value} {bs:List Bx} (h:NX X lo w v bs) (hz:w.heap.size≤w'.heap.size) (hk:∀ k,k<w.heap.size→some k=v.ownBlock∨¬ X k→w'.heap[k]?=w.heap[k]?) (hX:∀ k,k<w.heap.size→¬ X k→¬ X' k):NX X' lo w' v bs:=by
 obtain ⟨rs,h1,h2⟩:=h
 refine ⟨rs,OwnSl.keepB h1 (fun g g1 _ g3=>hk g g3 (.inl g1.symm)),h2.mono (fun _ _ g=>(All2.mono g (fun _ _ q=>q.keep hz (fun k k1 k2=>⟨hk k k1 (.inr (fun e=>k2 (.inr e))),fun e=>?_⟩)):All2 _ _ _))⟩
 rcases e with e | e
 ·exact k2 (.inl e)
 ·exact hX k k1 (fun e'=>k2 (.inr e')) e
theorem NX.lt {X:Nat→Prop} {lo:Nat} {w:World} {v:Value} {bs:List Bx} (h:NX X lo w v bs):∀ z,v.ownBlock=some z→lo≤z∧z<w.heap.size:=by
 obtain ⟨rs,h1,_⟩:=h
 exact fun z hz=>World.ownsRow.lt h1 z hz
end Go.Proofs.YtfcbbahlhjdefaaGreatDoor
namespace Go.Proofs.YtfcbbahlhjdefaaGreatDoor
open Go.RowKit
def One (w:World) (q:Nat):Prop:=w.cell? ⟨q,0,none⟩=some (.slice none 0 0)∧∀ j,w.cell? ⟨q,j+1,none⟩=none
theorem One.below {w w':World} {q:Nat} (h:One w q) (hq:q<w.heap.size) (hb:Below w.heap.size w w'):One w' q :=
 ⟨(hb.cell (p:=⟨q,0,none⟩) hq).trans h.1,fun j=>(hb.cell (p:=⟨q,j+1,none⟩) hq).trans (h.2 j)⟩
theorem One.new (w:World) (ty:TypeId):One (w.alloc (.cells #[.slice none 0 0] ty)) w.heap.size:=⟨by simp,fun j=>by simp⟩
def BP (W w:World) (v:Value):Prop:=∃ q,v=.pointer (some ⟨q,0,none⟩)∧W.heap.size≤q∧q<w.heap.size∧(∀ j,w.frozen? ⟨q,j,none⟩=false)∧One w q
theorem bst_bp (W:World):BStb (BP W):=fun _ _ _ hb ⟨q,h0,h1,h2,h3,h4⟩ =>
 ⟨q,h0,h1,Nat.lt_of_lt_of_le h2 hb.size,fun j=>(hb.frozen (p:=⟨q,j,none⟩) h2).trans (h3 j),h4.below h2 hb⟩
theorem BP.new {W:World} (w:World) (h:W.heap.size≤w.heap.size):BP W (w.alloc (.cells #[.slice none 0 0] 41)) (.pointer (some ⟨w.heap.size,0,none⟩)) :=
 ⟨_,rfl,h,by simp,fun j=>frz_new w _ _ j,One.new w _⟩
theorem RwV.setOne {P:Nat→Prop} {w:World} {v:Value} {b:Bx} (h:RwV P w v b) {q:Nat} (hq:One w q) (s:Value) (hl:b=[]∨2≤b.length):RwV P (w.setCell ⟨q,0,none⟩ s) v b:=by
 obtain ⟨vs,⟨⟨a,cap,rfl,h1,h2,hx⟩,hpp⟩,h3⟩:=h
 have hlen:=h3.1
 refine ⟨vs,⟨⟨a,cap,rfl,h1,h2,fun k x hk=>?_⟩,hpp⟩,h3.mono (fun _ _ g=>⟨Sps.ints g.1 (by simp) (fun p n hp=>?_),g.2⟩)⟩
 ·obtain ⟨bb,o,ha,g1,g2,g3⟩:=hx k x hk
  refine ⟨bb,o,ha,g1,by simpa using g2,fun j u hj=>?_⟩
  have hne:bb≠q:=fun e=>by
   subst e
   have hk0:=(List.getElem?_eq_some_iff.1 hk).1
   rcases hl with rfl | hl
   ·simp at hlen;simp [hlen] at hk
   ·obtain ⟨y,hy⟩:∃ y,vs[1]?=some y:=⟨_,List.getElem?_eq_getElem (by omega)⟩
    obtain ⟨b2,o2,e2,_,_,g4⟩:=hx 1 y hy
    rw [ha] at e2
    obtain ⟨rfl,rfl,_⟩:=Addr.mk.inj (Option.some.inj e2)
    have:=g4 0 _ rfl
    rw [show o+1*1+0=o+1 from rfl,hq.2 o] at this
    cases this
  rw [World.cell?_setCell_other _ _ _ _ (fun e=>hne (by rw [← (Addr.mk.inj e).1]))]
  exact g3 j u hj
 ·have hne:p≠⟨q,0,none⟩:=fun e=>by rw [e,hq.1] at hp;cases hp
  exact (World.cell?_setCell_other _ _ _ _ (Ne.symm hne)).trans hp
def BQV (P:Nat→Prop) (c:Bx) (W w:World) (v:Value):Prop:=∃ q a n p,v=.pointer (some ⟨q,0,none⟩)∧W.heap.size≤q∧q<w.heap.size∧w.cell? ⟨q,0,none⟩=some (.slice a n p)∧w.frozen? ⟨q,0,none⟩=false∧RwV P w (.slice a n p) c∧Below W.heap.size W w
theorem BQV.mk1 {P:Nat→Prop} {c:Bx} {W w:World} {q:Nat} {a:Option Addr} {n p:Nat} (hC:Below W.heap.size W w) (h1:W.heap.size≤q) (h2:q<w.heap.size) (h3:∀ j,w.frozen? ⟨q,j,none⟩=false) (h4:One w q) (hl:c=[]∨2≤c.length) (hz:RwV P w (.slice a n p) c) :
  BQV P c W (w.setCell ⟨q,0,none⟩ (.slice a n p)) (.pointer (some ⟨q,0,none⟩)) :=
 ⟨q,a,n,p,rfl,h1,by simpa using h2,World.cell?_setCell_same' _ _ _ (by rw [h4.1];rfl),by rw [World.frozen?_setCell];exact h3 0,hz.setOne h4 _ hl,hC.setCell h1 _⟩
end Go.Proofs.YtfcbbahlhjdefaaGreatDoor
namespace Go.Proofs.YtfcbbahlhjdefaaGreatDoor
open Go.RowKit
def FtX (X:Nat→Prop) (lo:Nat) (w:World) (v:Value) (fs:List Ft):Prop :=
 ∃ rs,OwnSl lo 44 2 RF.enc w v rs∧All2 (fun (r:RF) (f:Ft)=>RwV (fun k=>some k=v.ownBlock∨X k) w r.s f.box∧r.acc=f.acc) rs fs
theorem FtX.fts {X:Nat→Prop} {lo:Nat} {w:World} {v:Value} {fs:List Ft} (h:FtX X lo w v fs):Fts 0 w v fs:=by
 obtain ⟨rs,h1,h2⟩:=h
 exact ⟨rs,SlFr.mono (OwnSl.fr (sz:=2) (enc:=RF.enc) (fun _=>rfl) h1) (Nat.zero_le _),h2.mono (fun _ _ g=>⟨g.1.rws,g.2⟩)⟩
theorem FtX.below {X:Nat→Prop} {lo:Nat} {w w':World} {v:Value} {fs:List Ft} (h:FtX X lo w v fs) (hb:Below w.heap.size w w'):FtX X lo w' v fs:=by
 obtain ⟨rs,h1,h2⟩:=h
 exact ⟨rs,OwnSl.kept h1 hb,h2.mono (fun _ _ g=>⟨g.1.below hb,g.2⟩)⟩
theorem FtX.lt {X:Nat→Prop} {lo:Nat} {w:World} {v:Value} {fs:List Ft} (h:FtX X lo w v fs):∀ z,v.ownBlock=some z→lo≤z∧z<w.heap.size:=by
 obtain ⟨rs,h1,_⟩:=h
 exact fun z hz=>World.ownsRow.lt h1 z hz
theorem FtX.form {X:Nat→Prop} {lo:Nat} {w:World} {v:Value} {fs:List Ft} (h:FtX X lo w v fs):∃ a c,v=.slice a fs.length c:=by
 obtain ⟨a,c,h, -, -⟩:=h.fts.form
 exact ⟨a,c,h⟩
theorem ft_append {X:Nat→Prop} {lo:Nat} {w:World} {v vx:Value} {fs gs:List Ft} {ws:List RF} (ty:TypeId) (ho:FtX X lo w v fs) (hs:SlAt 2 RF.enc w vx ws) (hg:All2 (fun (r:RF) (f:Ft)=>RwV (fun k=>some k=v.ownBlock∨X k) w r.s f.box∧r.acc=f.acc) ws gs) (hb:fs.length+gs.length≤1000000) (hlo:lo≤w.heap.size) :
  ∃ v' w',(Builtin.append_ #[27,27] ty #[v,vx]).run Tryz.prog w=.ok v' w'∧FtX X lo w' v' (fs++gs)∧w.grownBy w' v.ownBlock∧∀ z,v'.ownBlock=some z→v.ownBlock=some z∨z=w.heap.size:=by
 obtain ⟨i0,hi,hy0,hy1,hy2⟩:=info_parts infoFt
 obtain ⟨rs,g1,g2⟩:=ho
 have e1:=g2.1
 have e2:=hg.1
 have hone:∀ u∈ws.flatMap RF.enc,u.oneCell'=true:=fun u hu=>by
  obtain ⟨r,hr,hu2⟩:=List.mem_flatMap.1 hu
  obtain ⟨k,hk⟩:=List.getElem?_of_mem hr
  obtain ⟨f,hf⟩:∃ f,gs[k]?=some f:=⟨_,List.getElem?_eq_getElem (by rw [← e2];exact (List.getElem?_eq_some_iff.1 hk).1)⟩
  obtain ⟨a,c,he, -, -⟩:=(hg.2 k r f hk hf).1.rws.form
  simp only [RF.enc,List.mem_cons,List.not_mem_nil,or_false] at hu2
  rcases hu2 with rfl | rfl
  ·rw [he];rfl
  ·rfl
 obtain ⟨v',w',hrun,hown,hgr,hat⟩:=own_append_all (sz:=2) (enc:=RF.enc) (by omega) (fun _=>rfl) (P:=Tryz.prog) 27 ty 44 i0 _ 32 Tryz.underlying27 hi hy0 hy1 hy2 rfl hone g1 hs (by omega) (by simp only [maxLen];omega) hlo
 refine ⟨v',w',hrun,⟨rs++ws,hown,?_⟩,hgr,hat⟩
 have key:∀ k,k<w.heap.size→¬ (some k=v.ownBlock∨X k)→w'.heap[k]?=w.heap[k]?∧¬ (some k=v'.ownBlock∨X k):=fun k k1 k2=>⟨hgr.block k k1 (fun e=>k2 (.inl e)),fun e=>by
  rcases e with e | e
  ·rcases hat k e.symm with h | h
   ·exact k2 (.inl h.symm)
   ·omega
  ·exact k2 (.inr e)⟩
 have f1:=g2.mono (S:=fun (r:RF) (f:Ft)=>RwV (fun k=>some k=v'.ownBlock∨X k) w' r.s f.box∧r.acc=f.acc) (fun _ _ g=>⟨g.1.keep hgr.size key,g.2⟩)
 have f2:=hg.mono (S:=fun (r:RF) (f:Ft)=>RwV (fun k=>some k=v'.ownBlock∨X k) w' r.s f.box∧r.acc=f.acc) (fun _ _ g=>⟨g.1.keep hgr.size key,g.2⟩)
 refine ⟨by rw [List.length_append,List.length_append,f1.1,f2.1],fun k x y hx hy=>?_⟩
 by_cases hk:k<rs.length
 ·rw [List.getElem?_append_left hk] at hx
  rw [List.getElem?_append_left (by rw [← f1.1];exact hk)] at hy
  exact f1.2 k x y hx hy
 ·rw [List.getElem?_append_right (by omega)] at hx
  rw [List.getElem?_append_right (by rw [← f1.1];omega),← f1.1] at hy
  exact f2.2 _ x y hx hy
theorem litRF_at (w:World) (s:Value) (c:Bool) (ty:TypeId):SlAt 2 RF.enc (w.alloc (.cells #[s,.bool c] ty)) (.slice (some ⟨w.heap.size,0,none⟩) 1 1) [⟨s,c⟩]:=by
 refine ⟨_,1,rfl,by simp,by simp [maxLen],fun k x hk=>?_⟩
 match k,hk with
 | 0,hk =>
  cases hk
  refine ⟨w.heap.size,0,rfl,by simp,fun j u hj=>?_⟩
  have:=cellsNew w (RF.enc ⟨s,c⟩) ty j u hj
  rwa [Addr.add_lit] at this
 | k+1,hk=>simp at hk
theorem litBx_at (w:World) (s:Value) (ty:TypeId):SlAt 1 enc1 (w.alloc (.cells #[s] ty)) (.slice (some ⟨w.heap.size,0,none⟩) 1 1) [s]:=by
 refine ⟨_,1,rfl,by simp,by simp [maxLen],fun k x hk=>?_⟩
 match k,hk with
 | 0,hk =>
  cases hk
  refine ⟨w.heap.size,0,rfl,by simp,fun j u hj=>?_⟩
  have:=cellsNew w (enc1 s) ty j u hj
  rwa [Addr.add_lit] at this
 | k+1,hk=>simp at hk
end Go.Proofs.YtfcbbahlhjdefaaGreatDoor
