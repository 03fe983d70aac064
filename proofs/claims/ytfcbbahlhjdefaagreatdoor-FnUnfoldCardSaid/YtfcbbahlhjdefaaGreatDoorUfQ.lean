/- What unfolding means, plainly: for every packet the boxes that have it are counted. -/
import Derived.Test.YtfcbbahlhjdefaaGreatDoorRsH
import Derived.Test.YtfcbbahlhjdefaaGreatDoorRsC
import Derived.Test.YtfcbbahlhjdefaaGreatDoorDxAJ
namespace Go.Proofs.YtfcbbahlhjdefaaGreatDoor
open Go.RowKit
def tspans (t:Te):List Sp:=if t.not then sother (top t.fld.toNat) 0 [⟨t.lo,t.hi⟩] else [⟨t.lo,t.hi⟩]
def tbox1 (b:Bx) (t:Te):Bx:=b.set t.fld.toNat (smeet (b.getD t.fld.toNat []) (tspans t))
def tbox (ts:List Te):Bx:=ts.foldl tbox1 ball
theorem tok_iff {t:Te} (h:t.ok=true):∃ k:Nat,t.fld=k∧k<4∧0≤t.lo∧t.lo≤t.hi∧t.hi≤top k:=by
 obtain ⟨k,hk,h4⟩:=tvalid1_fld (f:=t.fld) (lo:=t.lo) (hi:=t.hi) h
 have h2:tvalid1 (k:Int) t.lo t.hi=true:=by rw [← hk];exact h
 obtain ⟨a,b,c⟩:=tvalid1_iff h2
 exact ⟨k,hk,h4,a,b,c⟩
theorem sgood_one {t m:Int} {x:Sp} (h1:m≤x.lo) (h2:x.lo≤x.hi) (h3:x.hi≤t):sgood t m [x]=true:=by
 unfold sgood
 simp [sgood]
 omega
theorem tspans_good {t:Te} (h:t.ok=true):sgood (top t.fld.toNat) 0 (tspans t)=true∧(tspans t).length≤2:=by
 obtain ⟨k,hk,h4,a,b,c⟩:=tok_iff h
 have hg:sgood (top t.fld.toNat) 0 [⟨t.lo,t.hi⟩]=true:=sgood_one a b (by rw [hk];exact c)
 unfold tspans
 split
 ·exact ⟨sother_good hg,sother_len1 _ _ _⟩
 ·exact ⟨hg,by simp⟩
theorem smeet_cons (x:Sp) (a b:List Sp):smeet (x::a) b=b.filterMap (meet1 x)++smeet a b:=rfl
theorem sgood_after {h m:Int} {x:Sp}:∀ {a:List Sp},sgood h m (x::a)=true→∀ y,y∈a→x.hi<y.lo:=by
 have key:∀ {a:List Sp} {m:Int},sgood h m a=true→∀ y,y∈a→m≤y.lo:=by
  intro a
  induction a with
  | nil=>intro m _ y hy;cases hy
  | cons z a ih =>
   intro m hg y hy
   unfold sgood at hg
   simp only [Bool.and_eq_true,decide_eq_true_eq] at hg
   rcases List.mem_cons.1 hy with rfl | hy
   ·omega
   ·have:=ih hg.2 y hy
    omega
 intro a hg y hy
 unfold sgood at hg
 simp only [Bool.and_eq_true,decide_eq_true_eq] at hg
 have:=key hg.2 y hy
 omega
theorem smeet_far {y1 y2:Sp}:∀ (a:List Sp),(∀ x,x∈a→y1.hi<x.lo)→(smeet a [y1,y2]).length≤a.length
 | [],_=>by simp [smeet]
 | x::a,h=>by
  rw [smeet_cons,List.length_append,List.length_cons]
  have h1:=smeet_far (y1:=y1) (y2:=y2) a (fun z hz=>h z (List.mem_cons_of_mem _ hz))
  have h2:meet1 x y1=none:=meet1_no (.inr (h x List.mem_cons_self))
  have h3:([y1,y2].filterMap (meet1 x)).length≤1:=by
   rw [List.filterMap_cons,h2]
   simp only
   exact Nat.le_trans (List.length_filterMap_le _ _) (by simp)
  omega
theorem smeet_two {h:Int} {y1 y2:Sp} (hy:y1.hi<y2.lo):∀ {m:Int} (a:List Sp),sgood h m a=true→(smeet a [y1,y2]).length≤a.length+1
 | _,[],_=>by simp [smeet]
 | m,x::a,hg=>by
  rw [smeet_cons,List.length_append,List.length_cons]
  by_cases hx:x.hi<y2.lo
  ·have h2:meet1 x y2=none:=meet1_no (.inl hx)
   have h3:([y1,y2].filterMap (meet1 x)).length≤1:=by
    rw [List.filterMap_cons,List.filterMap_cons,h2]
    cases meet1 x y1<;>simp
   have hg2:∃ m',sgood h m' a=true:=by
    unfold sgood at hg
    simp only [Bool.and_eq_true] at hg
    exact ⟨_,hg.2⟩
   obtain ⟨m',hg2⟩:=hg2
   have:=smeet_two hy a hg2
   omega
  ·have h3:([y1,y2].filterMap (meet1 x)).length≤2:=Nat.le_trans (List.length_filterMap_le _ _) (by simp)
   have:=smeet_far (y1:=y1) (y2:=y2) a (fun z hz=>by have:=sgood_after hg z hz;omega)
   omega
theorem smeet_one {y:Sp}:∀ (a:List Sp),(smeet a [y]).length≤a.length
 | []=>by simp [smeet]
 | x::a=>by
  rw [smeet_cons,List.length_append,List.length_cons]
  have h3:([y].filterMap (meet1 x)).length≤1:=Nat.le_trans (List.length_filterMap_le _ _) (by simp)
  have:=smeet_one (y:=y) a
  omega
theorem smeet_grow {h h2 m m2:Int} {a b:List Sp} (ha:sgood h m a=true) (hb:sgood h2 m2 b=true) (hl:b.length≤2):(smeet a b).length≤a.length+1:=by
 match b,hb,hl with
 | [],_,_=>rw [show smeet a []=[] from by unfold smeet;simp];simp
 | [y],_,_=>exact Nat.le_succ_of_le (smeet_one a)
 | [y1,y2],hb,_=>exact smeet_two (sgood_after hb y2 (by simp)) a ha
 | _::_::_::_,_,hl=>simp at hl
def BGood (m:Nat) (b:Bx):Prop:=b.length=4∧∀ n,n<4→sgood (top n) 0 (b.getD n [])=true∧(b.getD n []).length≤m
theorem BGood.ball:BGood 1 ball:=⟨rfl,fun n hn=>by
 match n,hn with
 | 0,_=>decide
 | 1,_=>decide
 | 2,_=>decide
 | 3,_=>decide
 | n+4,h=>omega⟩
theorem BGood.step {m:Nat} {b:Bx} {t:Te} (h:BGood m b) (ht:t.ok=true):BGood (m+1) (tbox1 b t):=by
 obtain ⟨k,hk,h4, -, -, -⟩:=tok_iff ht
 obtain ⟨g1,g2⟩:=tspans_good ht
 have e:t.fld.toNat=k:=by omega
 unfold tbox1
 rw [e] at g1 ⊢
 refine ⟨by rw [List.length_set];exact h.1,fun n hn=>?_⟩
 rw [getD_set (by rw [h.1];exact h4)]
 split
 ·rename_i e2
  subst e2
  exact ⟨smeet_le_len (h.2 k hn).1 g1,Nat.le_trans (smeet_grow (h.2 k hn).1 g1 g2) (by have:=(h.2 k hn).2;omega)⟩
 ·exact ⟨(h.2 n hn).1,by have:=(h.2 n hn).2;omega⟩
theorem BGood.fold:∀ (ts:List Te) (m:Nat) (b:Bx),BGood m b→ts.all Te.ok=true→BGood (m+ts.length) (ts.foldl tbox1 b)
 | [],_,_,h,_=>h
 | t::ts,m,b,h,ht=>by
  rw [List.all_cons,Bool.and_eq_true] at ht
  have:=BGood.fold ts (m+1) _ (h.step ht.1) ht.2
  rw [List.foldl_cons,List.length_cons,show m+(ts.length+1)=m+1+ts.length by omega]
  exact this
theorem BGood.valid {m:Nat} {b:Bx} (h:BGood m b) (hm:m≤40):bvalid b=true :=
 bvalid_iff.2 ⟨h.1,fun n hn=>by rw [svalid_of hn (h.2 n hn).1];exact decide_eq_true (by have:=(h.2 n hn).2;omega)⟩
theorem tbox_valid {ts:List Te} (h:tsvalid ts=true):bvalid (tbox ts)=true:=by
 unfold tsvalid at h
 rw [Bool.and_eq_true,decide_eq_true_eq] at h
 exact (BGood.fold ts 1 ball BGood.ball h.1).valid (by omega)
def ufit (inn:List Bx) (W:Bx):List Bx:=(inn.map (fun b=>bmeet b W)).filter (fun m=>!bempty m)
def umiss (inn:List Bx) (W:Bx):List Bx:=inn.flatMap (fun b=>bcut b W)
abbrev UfR:=Option (List Bx × List Ft)
def ufAct (rec:Nat→List Bx→List Ft→UfR) (r:Ru) (fit miss left:List Bx) (out:List Ft):Option (List Bx × List Bx × List Ft) :=
 if r.act=1∨r.act=2 then some (miss,left,out++fit.map (fun b=>⟨b,r.act==1⟩))
 else if r.act=4 then some (miss,left++fit,out)
 else if r.act=3 then (rec r.ch.toNat fit out).map (fun q=>(miss++q.1,left,q.2))
 else some (miss++fit,left,out)
def ufGo (rec:Nat→List Bx→List Ft→UfR):List Ru→List Bx→List Bx→List Ft→UfR
 | [],inn,left,out=>if rvalid (left++inn) then some (left++inn,out) else none
 | r::rs,inn,left,out =>
  if rvalid (ufit inn (tbox r.ts)) && rvalid (umiss inn (tbox r.ts)) then
   match ufAct rec r (ufit inn (tbox r.ts)) (umiss inn (tbox r.ts)) left out with
   | none=>none
   | some (inn',left',out')=>if rvalid inn' && decide (out'.length≤60) then ufGo rec rs inn' left' out' else none
  else none
def ufWalk (cs:List (List Ru)):Nat→Nat→List Bx→List Ft→UfR
 | 0,_,_,_=>none
 | f+1,c,inn,out=>ufGo (ufWalk cs f) (cs.getD c []) inn [] out
theorem rvalid_iff {l:List Bx}:rvalid l=true↔l.length≤400∧∀ z,z∈l→bvalid z=true:=by
 unfold rvalid
 rw [Bool.and_eq_true,decide_eq_true_eq,List.all_eq_true]
theorem rvalid_left {a b:List Bx} (h:rvalid (a++b)=true):rvalid a=true:=by
 rw [rvalid_iff] at h ⊢
 exact ⟨by have:=h.1;rw [List.length_append] at this;omega,fun z hz=>h.2 z (List.mem_append_left _ hz)⟩
theorem ufAct_left {rec:Nat→List Bx→List Ft→UfR} {r:Ru} {fit miss left:List Bx} {out:List Ft} {i l:List Bx} {o:List Ft} (h:ufAct rec r fit miss left out=some (i,l,o)):∃ x,l=left++x:=by
 unfold ufAct at h
 split at h
 ·cases h;exact ⟨[],by simp⟩
 ·split at h
  ·cases h;exact ⟨fit,rfl⟩
  ·split at h
   ·cases hq:rec r.ch.toNat fit out with
    | none=>rw [hq] at h;cases h
    | some q=>rw [hq] at h;cases h;exact ⟨[],by simp⟩
   ·cases h;exact ⟨[],by simp⟩
theorem ufGo_left {rec:Nat→List Bx→List Ft→UfR}:∀ (rs:List Ru) (inn left:List Bx) (out:List Ft),rvalid left=false→ufGo rec rs inn left out=none
 | [],inn,left,out,h=>by
  unfold ufGo
  split
  ·rename_i h2
   rw [rvalid_left h2] at h;cases h
  ·rfl
 | r::rs,inn,left,out,h=>by
  unfold ufGo
  split
  ·cases ha:ufAct rec r (ufit inn (tbox r.ts)) (umiss inn (tbox r.ts)) left out with
   | none=>rfl
   | some q =>
    obtain ⟨i,l,o⟩:=q
    simp only
    obtain ⟨x,rfl⟩:=ufAct_left ha
    split
    ·refine ufGo_left rs _ _ _ ?_
     cases e:rvalid (left++x) with
     | false=>rfl
     | true=>rw [rvalid_left e] at h;cases h
    ·rfl
  ·rfl
theorem ufGo_nil {rec:Nat→List Bx→List Ft→UfR}:∀ (rs:List Ru) (out:List Ft),out.length≤60→(∀ r,r∈rs→r.act=3→rec r.ch.toNat [] out=some ([],out))→ufGo rec rs [] [] out=some ([],out)
 | [],out,_,_=>by unfold ufGo;rfl
 | r::rs,out,ho,h=>by
  unfold ufGo
  have h1:ufit [] (tbox r.ts)=[]:=rfl
  have h2:umiss [] (tbox r.ts)=[]:=rfl
  have h3:rvalid []=true:=rfl
  rw [h1,h2,h3]
  have h4:ufAct rec r [] [] [] out=some ([],[],out):=by
   unfold ufAct
   split
   ·simp
   ·split
    ·rfl
    ·split
     ·rename_i h3
      rw [h r List.mem_cons_self h3];rfl
     ·rfl
  simp only [h4,Bool.and_true,if_true,h3,decide_eq_true ho]
  exact ufGo_nil rs out ho (fun r hr=>h r (List.mem_cons_of_mem _ hr))
theorem ufWalk_nil {cs:List (List Ru)} (hc:CallsIn cs):∀ (f c:Nat) (out:List Ft),Ht cs f c→out.length≤60→ufWalk cs f c [] out=some ([],out)
 | 0,_,_,h,_=>h.elim
 | f+1,c,out,h,ho=>by
  unfold ufWalk
  refine ufGo_nil _ out ho (fun r hr ha=>?_)
  obtain ⟨h0,h5,hn⟩:=hc _ (getD_mem hr) r hr ha
  exact ufWalk_nil hc f _ out (h _ (callsAt_mem.2 ⟨by omega,r,hr,ha,by omega⟩)) ho
theorem ufit_len (inn:List Bx) (W:Bx):(ufit inn W).length≤inn.length:=by
 unfold ufit
 exact Nat.le_trans (List.length_filter_le _ _) (by simp)
theorem umiss_append (a b:List Bx) (W:Bx):umiss (a++b) W=umiss a W++umiss b W:=by unfold umiss;rw [List.flatMap_append]
theorem ufit_append (a b:List Bx) (W:Bx):ufit (a++b) W=ufit a W++ufit b W:=by unfold ufit;rw [List.map_append,List.filter_append]
theorem ufit_take {inn:List Bx} {W b:Bx} {k:Nat} (h:inn[k]?=some b):ufit (inn.take (k+1)) W=ufit (inn.take k) W++(if bempty (bmeet b W) then [] else [bmeet b W]):=by
 rw [List.take_add_one,h,ufit_append]
 congr 1
 unfold ufit
 cases e:bempty (bmeet b W)<;>simp [e]
theorem umiss_take {inn:List Bx} {W b:Bx} {k:Nat} (h:inn[k]?=some b):umiss (inn.take (k+1)) W=umiss (inn.take k) W++bcut b W:=by
 rw [List.take_add_one,h,umiss_append]
 congr 1
 unfold umiss
 simp
def OutOk (out:List Ft):Prop:=out.length≤60∧∀ f,f∈out→bvalid f.box=true
theorem ufGo_out {rec:Nat→List Bx→List Ft→UfR} (hrec:∀ c i o i' o',rec c i o=some (i',o')→rvalid i=true→OutOk o→rvalid i'=true∧OutOk o') :
  ∀ (rs:List Ru) (inn left:List Bx) (out:List Ft) (i:List Bx) (o:List Ft),ufGo rec rs inn left out=some (i,o)→OutOk out→rvalid i=true∧OutOk o
 | [],inn,left,out,i,o,h,ho=>by
  unfold ufGo at h
  split at h
  ·rename_i h2
   cases h;exact ⟨h2,ho⟩
  ·cases h
 | r::rs,inn,left,out,i,o,h,ho=>by
  unfold ufGo at h
  split at h
  ·rename_i h1
   rw [Bool.and_eq_true] at h1
   cases ha:ufAct rec r (ufit inn (tbox r.ts)) (umiss inn (tbox r.ts)) left out with
   | none=>rw [ha] at h;cases h
   | some q =>
    obtain ⟨i1,l1,o1⟩:=q
    rw [ha] at h
    simp only at h
    split at h
    ·rename_i h2
     rw [Bool.and_eq_true,decide_eq_true_eq] at h2
     refine ufGo_out hrec rs _ _ _ _ _ h ⟨h2.2,?_⟩
     unfold ufAct at ha
     split at ha
     ·cases ha
      intro f hf
      rcases List.mem_append.1 hf with hf | hf
      ·exact ho.2 f hf
      ·obtain ⟨b,hb,rfl⟩:=List.mem_map.1 hf
       exact (rvalid_iff.1 h1.1).2 b hb
     ·split at ha
      ·cases ha;exact ho.2
      ·split at ha
       ·cases hq:rec r.ch.toNat (ufit inn (tbox r.ts)) out with
        | none=>rw [hq] at ha;cases ha
        | some q =>
         rw [hq] at ha
         cases ha
         exact (hrec _ _ _ _ _ hq h1.1 ho).2.2
       ·cases ha;exact ho.2
    ·cases h
  ·cases h
theorem ufWalk_out {cs:List (List Ru)}:∀ (f c:Nat) (inn:List Bx) (out:List Ft) (i:List Bx) (o:List Ft),ufWalk cs f c inn out=some (i,o)→rvalid inn=true→OutOk out→rvalid i=true∧OutOk o
 | 0,_,_,_,_,_,h,_,_=>by cases h
 | f+1,c,inn,out,i,o,h,hi,ho=>by
  unfold ufWalk at h
  exact ufGo_out (fun c i o i' o' h hi ho=>ufWalk_out f c i o i' o' h hi ho) _ _ _ _ _ _ h ho
end Go.Proofs.YtfcbbahlhjdefaaGreatDoor
namespace Go.Proofs.YtfcbbahlhjdefaaGreatDoor
open Go.RowKit
def bcount (bs:List Bx) (p:Pk):Nat:=bs.countP (fun b=>bhas b p)
def fcount (fs:List Ft) (p:Pk) (a:Bool):Nat:=fs.countP (fun f=>bhas f.box p && f.acc==a)
def tholds (t:Te) (p:Pk):Bool:=inB (p.fld t.fld.toNat) t.lo t.hi != t.not
def thold (ts:List Te) (p:Pk):Bool:=ts.all (fun t=>tholds t p)
theorem tspans_has {t:Te} {p:Pk} (h:t.ok=true) (hp:p.ok=true):shas (tspans t) (p.fld t.fld.toNat)=tholds t p:=by
 obtain ⟨k,hk,h4,a,b,c⟩:=tok_iff h
 have hg:sgood (top t.fld.toNat) 0 [⟨t.lo,t.hi⟩]=true:=sgood_one a b (by rw [hk];exact c)
 have e:t.fld.toNat=k:=by omega
 obtain ⟨f1,f2⟩:=fld_top hp h4
 unfold tspans tholds
 cases t.not
 ·simp [shas]
 ·simp only [if_true]
  rw [sother_has _ hg,e,inB_iff.2 ⟨f1,f2⟩]
  simp [shas]
theorem tbox1_has {b:Bx} {t:Te} {p:Pk} (hb:b.length=4) (h:t.ok=true) (hp:p.ok=true):bhas (tbox1 b t) p=(bhas b p && tholds t p):=by
 obtain ⟨k,hk,h4,a,bb,c⟩:=tok_iff h
 have e:t.fld.toNat=k:=by omega
 have hs:=tspans_has h hp
 rw [e] at hs
 unfold tbox1
 rw [e,Bool.eq_iff_iff,Bool.and_eq_true,bhas_iff,bhas_iff]
 constructor
 ·intro g
  have gk:=g k h4
  rw [getD_set (by rw [hb];exact h4),if_pos rfl,smeet_has,Bool.and_eq_true] at gk
  refine ⟨fun n hn=>?_,by rw [← hs];exact gk.2⟩
  have gn:=g n hn
  rw [getD_set (by rw [hb];exact h4)] at gn
  split at gn
  ·rename_i e2
   rw [← e2];exact gk.1
  ·exact gn
 ·rintro ⟨g1,g2⟩ n hn
  rw [getD_set (by rw [hb];exact h4)]
  split
  ·rename_i e2
   rw [← e2,smeet_has,g1 k h4,hs,g2];rfl
  ·exact g1 n hn
theorem tfold_has {p:Pk} (hp:p.ok=true):∀ (ts:List Te) (b:Bx),b.length=4→ts.all Te.ok=true→bhas (ts.foldl tbox1 b) p=(bhas b p && thold ts p)
 | [],b,_,_=>by simp [thold]
 | t::ts,b,hb,h=>by
  rw [List.all_cons,Bool.and_eq_true] at h
  rw [List.foldl_cons,tfold_has hp ts _ (by unfold tbox1;rw [List.length_set];exact hb) h.2,tbox1_has hb h.1 hp]
  unfold thold
  rw [List.all_cons,Bool.and_assoc]
theorem ball_hasq {p:Pk} (hp:p.ok=true):bhas ball p=true:=by
 rw [bhas_iff]
 intro n hn
 obtain ⟨h1,h2⟩:=fld_top hp hn
 have e:ball.getD n []=[⟨0,top n⟩]:=by
  match n,hn with
  | 0,_=>rfl
  | 1,_=>rfl
  | 2,_=>rfl
  | 3,_=>rfl
  | n+4,h=>omega
 rw [e]
 simp [shas,inB,h1,h2]
theorem tbox_has {ts:List Te} {p:Pk} (h:tsvalid ts=true) (hp:p.ok=true):bhas (tbox ts) p=thold ts p:=by
 unfold tsvalid at h
 rw [Bool.and_eq_true] at h
 unfold tbox
 rw [tfold_has hp ts ball rfl h.1,ball_hasq hp,Bool.true_and]
theorem bcount_append (a b:List Bx) (p:Pk):bcount (a++b) p=bcount a p+bcount b p:=by unfold bcount;rw [List.countP_append]
theorem fcount_append (a b:List Ft) (p:Pk) (c:Bool):fcount (a++b) p c=fcount a p c+fcount b p c:=by unfold fcount;rw [List.countP_append]
theorem bcount_cons (a:Bx) (b:List Bx) (p:Pk):bcount (a::b) p=(if bhas a p then 1 else 0)+bcount b p:=by
 unfold bcount;rw [List.countP_cons];omega
theorem bcuts_count {a b:Bx} (ha:bvalid a=true) (hb:bvalid b=true) {p:Pk} (hp:p.ok=true):∀ n,n≤4 →
  bcount (bcuts a b n) p=if (bhas a p && !(List.range n).all (fun i=>shas (b.getD i []) (p.fld i)))=true then 1 else 0
 | 0,_=>by unfold bcuts;simp [bcount]
 | n+1,hn=>by
  have la:=(bvalid_iff.1 ha).1
  have lb:=(bvalid_iff.1 hb).1
  rw [bcuts,bcount_append,bcuts_count ha hb hp n (by omega)]
  have h1:bcount (if (bout a b n).isEmpty then [] else [bpc a b n]) p=if bhas (bpc a b n) p then 1 else 0:=by
   cases e:(bout a b n).isEmpty
   ·simp [bcount,List.countP_cons]
   ·have:bhas (bpc a b n) p=false:=by
     rw [← Bool.not_eq_true,bhas_iff]
     intro g
     have:=g n (by omega)
     rw [getD_get (bpc_eq la lb (by omega))] at this
     rw [List.isEmpty_iff] at e;rw [e] at this;simp [shas] at this
    simp [bcount,this]
  rw [h1]
  have h2:bhas (bpc a b n) p=(bhas a p && (List.range n).all (fun i=>shas (b.getD i []) (p.fld i)) && !shas (b.getD n []) (p.fld n)):=by
   rw [Bool.eq_iff_iff,bpc_has ha hb hp (by omega),Bool.and_eq_true,Bool.and_eq_true,List.all_eq_true]
   constructor
   ·rintro ⟨g1,g2,g3⟩
    exact ⟨⟨g1,fun x hx=>g2 x (List.mem_range.1 hx)⟩,by rw [g3];rfl⟩
   ·rintro ⟨⟨g1,g2⟩,g3⟩
    exact ⟨g1,fun i hi=>g2 i (List.mem_range.2 hi),by simpa using g3⟩
  rw [h2,List.range_succ,List.all_append,List.all_cons,List.all_nil,Bool.and_true]
  cases bhas a p<;>cases (List.range n).all (fun i=>shas (b.getD i []) (p.fld i))<;>cases shas (b.getD n []) (p.fld n)<;>rfl
theorem bcut_count {a b:Bx} (ha:bvalid a=true) (hb:bvalid b=true) {p:Pk} (hp:p.ok=true):bcount (bcut a b) p=if (bhas a p && !bhas b p)=true then 1 else 0:=by
 have la:=(bvalid_iff.1 ha).1
 have lb:=(bvalid_iff.1 hb).1
 unfold bcut
 cases em:bempty (bmeet a b)
 ·simp only [Bool.false_eq_true,if_false]
  rw [bcuts_count ha hb hp 4 (Nat.le_refl _)]
  rfl
 ·simp only [if_true]
  have hm:=bempty_has (bmeet_len la lb) em p
  rw [bmeet_has la lb] at hm
  have key:(bhas a p && !bhas b p)=bhas a p:=by cases e:bhas a p<;>cases e2:bhas b p<;>simp_all
  rw [key]
  cases e:bempty a
  ·simp [bcount,List.countP_cons]
  ·simp only [if_true]
   rw [bempty_has la e p];rfl
theorem umiss_count {W:Bx} (hW:bvalid W=true) {p:Pk} (hp:p.ok=true):∀ (inn:List Bx),(∀ z,z∈inn→bvalid z=true)→bcount (umiss inn W) p=if bhas W p then 0 else bcount inn p
 | [],_=>by simp [umiss,bcount]
 | b::inn,h=>by
  have ih:=umiss_count hW hp inn (fun z hz=>h z (List.mem_cons_of_mem _ hz))
  have e:umiss (b::inn) W=bcut b W++umiss inn W:=by unfold umiss;rw [List.flatMap_cons]
  rw [e,bcount_append,ih,bcut_count (h b List.mem_cons_self) hW hp,bcount_cons]
  cases bhas b p<;>cases bhas W p<;>simp
theorem ufit_count {W:Bx} (hW:bvalid W=true) {p:Pk}:∀ (inn:List Bx),(∀ z,z∈inn→bvalid z=true)→bcount (ufit inn W) p=if bhas W p then bcount inn p else 0
 | [],_=>by simp [ufit,bcount]
 | b::inn,h=>by
  have ih:=ufit_count hW (p:=p) inn (fun z hz=>h z (List.mem_cons_of_mem _ hz))
  have lb:=(bvalid_iff.1 (h b List.mem_cons_self)).1
  have lW:=(bvalid_iff.1 hW).1
  have e:ufit (b::inn) W=(if bempty (bmeet b W) then [] else [bmeet b W])++ufit inn W:=by
   unfold ufit
   cases e:bempty (bmeet b W)<;>simp [e]
  rw [e,bcount_append,ih,bcount_cons]
  have h1:bcount (if bempty (bmeet b W) then [] else [bmeet b W]) p=if bhas b p && bhas W p then 1 else 0:=by
   rw [← bmeet_has lb lW]
   cases e:bempty (bmeet b W)
   ·simp [bcount,List.countP_cons]
   ·rw [bempty_has (bmeet_len lb lW) e p];simp [bcount]
  rw [h1]
  cases bhas b p<;>cases bhas W p<;>simp
theorem map_count (fit:List Bx) (p:Pk) (c a:Bool):fcount (fit.map (fun b=>⟨b,c⟩)) p a=if c=a then bcount fit p else 0:=by
 induction fit with
 | nil=>simp [fcount,bcount]
 | cons b fit ih =>
  rw [List.map_cons,bcount_cons]
  unfold fcount at ih ⊢
  rw [List.countP_cons,ih]
  cases bhas b p<;>cases c<;>cases a<;>simp<;>omega
def jgo (rec:Nat→Option Bool) (p:Pk):List Ru→Option Bool
 | []=>none
 | r::rs =>
  if thold r.ts p=false then jgo rec p rs
  else if r.act=1 then some true
  else if r.act=2 then some false
  else if r.act=4 then none
  else if r.act=3 then (match rec r.ch.toNat with
   | some b=>some b
   | none=>jgo rec p rs)
  else jgo rec p rs
def jwalk (cs:List (List Ru)) (p:Pk):Nat→Nat→Option Bool
 | 0,_=>none
 | f+1,c=>jgo (jwalk cs p f) p (cs.getD c [])
def CntOk (p:Pk) (j:Option Bool) (inn left:List Bx) (out:List Ft) (i:List Bx) (o:List Ft):Prop :=
 bcount i p=bcount left p+(if j=none then bcount inn p else 0)∧∀ a,fcount o p a=fcount out p a+(if j=some a then bcount inn p else 0)
theorem ufGo_count {rec:Nat→List Bx→List Ft→UfR} {jrec:Nat→Option Bool} {p:Pk} (hp:p.ok=true)
  (hrec:∀ c i o i' o',rec c i o=some (i',o')→rvalid i=true→CntOk p (jrec c) i [] o i' o') :
  ∀ (rs:List Ru) (inn left:List Bx) (out:List Ft) (i:List Bx) (o:List Ft),ufGo rec rs inn left out=some (i,o)→(∀ z,z∈inn→bvalid z=true)→(∀ r,r∈rs→tsvalid r.ts=true)→CntOk p (jgo jrec p rs) inn left out i o
 | [],inn,left,out,i,o,h,_,_=>by
  unfold ufGo at h
  split at h
  ·cases h
   refine ⟨?_,fun a=>?_⟩
   ·rw [bcount_append];simp [jgo]
   ·simp [jgo]
  ·cases h
 | r::rs,inn,left,out,i,o,h,hv,hr=>by
  have hW:=tbox_valid (hr r List.mem_cons_self)
  have hth:=tbox_has (hr r List.mem_cons_self) hp
  have hcf:=ufit_count hW (p:=p) inn hv
  have hcm:=umiss_count hW hp inn hv
  rw [hth] at hcf hcm
  unfold ufGo at h
  split at h
  ·rename_i h1
   rw [Bool.and_eq_true] at h1
   cases ha:ufAct rec r (ufit inn (tbox r.ts)) (umiss inn (tbox r.ts)) left out with
   | none=>rw [ha] at h;cases h
   | some q =>
    obtain ⟨i1,l1,o1⟩:=q
    rw [ha] at h
    simp only at h
    split at h
    ·rename_i h2
     rw [Bool.and_eq_true] at h2
     obtain ⟨k1,k2⟩:=ufGo_count hp hrec rs _ _ _ _ _ h (rvalid_iff.1 h2.1).2 (fun x hx=>hr x (List.mem_cons_of_mem _ hx))
     unfold ufAct at ha
     unfold CntOk
     rw [jgo]
     split at ha
     ·rename_i h12
      cases ha
      cases hh:thold r.ts p
      ·rw [hh] at hcf hcm
       simp only [Bool.false_eq_true,if_false] at hcf hcm
       rw [if_pos rfl]
       refine ⟨by rw [k1,hcm],fun a=>?_⟩
       rw [k2 a,fcount_append,map_count,hcf,hcm]
       simp
      ·rw [hh] at hcf hcm
       simp only [if_true] at hcf hcm
       rw [if_neg (show ¬ (true=false) by decide)]
       rcases h12 with e | e
       ·rw [if_pos e]
        refine ⟨by rw [k1,hcm];simp,fun a=>?_⟩
        rw [k2 a,fcount_append,map_count,hcf,hcm,e]
        cases a<;>simp
       ·rw [if_neg (show ¬ r.act=1 by rw [e];decide),if_pos e]
        refine ⟨by rw [k1,hcm];simp,fun a=>?_⟩
        rw [k2 a,fcount_append,map_count,hcf,hcm,e]
        cases a<;>simp
     ·rename_i h12
      have n1:¬ r.act=1:=fun e=>h12 (.inl e)
      have n2:¬ r.act=2:=fun e=>h12 (.inr e)
      rw [if_neg n1,if_neg n2]
      split at ha
      ·rename_i h4
       cases ha
       rw [if_pos h4]
       cases hh:thold r.ts p
       ·rw [hh] at hcf hcm
        simp only [Bool.false_eq_true,if_false] at hcf hcm
        rw [if_pos rfl]
        refine ⟨by rw [k1,bcount_append,hcf,hcm];omega,fun a=>?_⟩
        rw [k2 a,hcm]
       ·rw [hh] at hcf hcm
        simp only [if_true] at hcf hcm
        rw [if_neg (show ¬ (true=false) by decide)]
        refine ⟨by rw [k1,bcount_append,hcf,hcm];simp,fun a=>?_⟩
        rw [k2 a,hcm]
        simp
      ·rename_i h4
       rw [if_neg h4]
       split at ha
       ·rename_i h3
        rw [if_pos h3]
        cases hq:rec r.ch.toNat (ufit inn (tbox r.ts)) out with
        | none=>rw [hq] at ha;cases ha
        | some q =>
         obtain ⟨qi,qo⟩:=q
         rw [hq] at ha
         cases ha
         obtain ⟨m1,m2⟩:=hrec _ _ _ _ _ hq h1.1
         cases hh:thold r.ts p
         ·rw [hh] at hcf hcm
          simp only [Bool.false_eq_true,if_false] at hcf hcm
          rw [if_pos rfl]
          refine ⟨?_,fun a=>?_⟩
          ·rw [k1,bcount_append,m1,hcf,hcm];simp [bcount]
          ·rw [k2 a,m2 a,bcount_append,m1,hcf,hcm];simp [bcount]
         ·rw [hh] at hcf hcm
          simp only [if_true] at hcf hcm
          rw [if_neg (show ¬ (true=false) by decide)]
          cases hj:jrec r.ch.toNat with
          | none =>
           rw [hj] at m1 m2
           simp only
           refine ⟨?_,fun a=>?_⟩
           ·rw [k1,bcount_append,m1,hcf,hcm];simp [bcount]
           ·rw [k2 a,m2 a,bcount_append,m1,hcf,hcm];simp [bcount]
          | some b =>
           rw [hj] at m1 m2
           simp only
           refine ⟨?_,fun a=>?_⟩
           ·rw [k1,bcount_append,m1,hcm];simp [bcount]
           ·rw [k2 a,m2 a,bcount_append,m1,hcf,hcm];simp [bcount]
       ·rename_i h3
        rw [if_neg h3]
        cases ha
        have e:bcount (umiss inn (tbox r.ts)++ufit inn (tbox r.ts)) p=bcount inn p:=by
         rw [bcount_append,hcf,hcm]
         cases thold r.ts p<;>simp
        cases hh:thold r.ts p
        ·rw [if_pos rfl]
         exact ⟨by rw [k1,e],fun a=>by rw [k2 a,e]⟩
        ·rw [if_neg (show ¬ (true=false) by decide)]
         exact ⟨by rw [k1,e],fun a=>by rw [k2 a,e]⟩
    ·cases h
  ·cases h
theorem ufWalk_count {cs:List (List Ru)} (hv:∀ l,l∈cs→rusvalid l=true) {p:Pk} (hp:p.ok=true):∀ (f c:Nat) (inn:List Bx) (out:List Ft) (i:List Bx) (o:List Ft),ufWalk cs f c inn out=some (i,o)→rvalid inn=true→CntOk p (jwalk cs p f c) inn [] out i o
 | 0,_,_,_,_,_,h,_=>by cases h
 | f+1,c,inn,out,i,o,h,hi=>by
  unfold ufWalk at h
  unfold jwalk
  refine ufGo_count hp (fun c i o i' o' h hi=>ufWalk_count hv hp f c i o i' o' h hi) _ _ _ _ _ _ h (rvalid_iff.1 hi).2 (fun r hr=>?_)
  have hm:=hv _ (getD_mem hr)
  unfold rusvalid at hm
  rw [Bool.and_eq_true,List.all_eq_true] at hm
  have:=hm.1 r hr
  unfold Ru.ok at this
  rw [Bool.and_eq_true,Bool.and_eq_true] at this
  exact this.1.1
theorem jw_count {p:Pk} {r b:Bool}:∀ (fs:List Ft),fcount fs p (!b)=0→0<fcount fs p b→jw fs r p=b
 | [],_,h=>by simp [fcount] at h
 | f::fs,h1,h2=>by
  unfold fcount at h1 h2
  rw [List.countP_cons] at h1 h2
  rw [jw]
  cases hb:bhas f.box p
  ·rw [hb] at h1 h2
   simp only [Bool.false_and,Bool.false_eq_true,if_false,Nat.add_zero] at h1 h2 ⊢
   exact jw_count fs h1 h2
  ·rw [hb] at h1 h2
   simp only [if_true]
   cases hf:f.acc<;>cases b<;>simp_all
theorem jw_zero {p:Pk} {r:Bool}:∀ (fs:List Ft),fcount fs p true=0→fcount fs p false=0→jw fs r p=r
 | [],_,_=>rfl
 | f::fs,h1,h2=>by
  unfold fcount at h1 h2
  rw [List.countP_cons] at h1 h2
  rw [jw]
  cases hb:bhas f.box p
  ·rw [hb] at h1 h2
   simp only [Bool.false_and,Bool.false_eq_true,if_false,Nat.add_zero] at h1 h2 ⊢
   exact jw_zero fs h1 h2
  ·rw [hb] at h1 h2
   cases hf:f.acc<;>simp_all
theorem ball_rvalid:rvalid [ball]=true:=rvalid_iff.2 ⟨by simp,fun z hz=>by rw [List.mem_singleton.1 hz];exact BGood.ball.valid (by omega)⟩
theorem ball_count {p:Pk} (hp:p.ok=true):bcount [ball] p=1:=by
 rw [bcount_cons,ball_hasq hp];rfl
theorem unfold_judge {cs:List (List Ru)} (hv:∀ l,l∈cs→rusvalid l=true) {f c:Nat} {i:List Bx} {o:List Ft} (h:ufWalk cs f c [ball] []=some (i,o)) {p:Pk} (hp:p.ok=true) (r:Bool) :
  jw o r p=(jwalk cs p f c).getD r:=by
 obtain ⟨-,k⟩:=ufWalk_count hv hp f c _ _ _ _ h ball_rvalid
 rw [ball_count hp] at k
 cases hj:jwalk cs p f c with
 | none =>
  rw [hj] at k
  exact jw_zero o (by rw [k true];simp [fcount]) (by rw [k false];simp [fcount])
 | some b =>
  rw [hj] at k
  show jw o r p=b
  exact jw_count o (by rw [k (!b)];cases b<;>simp [fcount]) (by rw [k b];simp)
theorem fcount_two {p:Pk}:∀ (fs:List Ft) (i j:Nat) (f g:Ft),i<j→fs[i]?=some f→fs[j]?=some g→bhas f.box p=true→bhas g.box p=true→2≤fcount fs p true+fcount fs p false:=by
 have one:∀ (fs:List Ft) (j:Nat) (g:Ft),fs[j]?=some g→bhas g.box p=true→1≤fcount fs p true+fcount fs p false:=by
  intro fs
  induction fs with
  | nil=>intro j g h;simp at h
  | cons x fs ih =>
   intro j g h hb
   unfold fcount
   rw [List.countP_cons,List.countP_cons]
   cases j with
   | zero =>
    cases h
    rw [hb]
    cases x.acc<;>simp<;>omega
   | succ j =>
    have:=ih j g (by simpa using h) hb
    unfold fcount at this
    omega
 intro fs
 induction fs with
 | nil=>intro i j f g _ h;simp at h
 | cons x fs ih =>
  intro i j f g hij h1 h2 hf hg
  obtain ⟨j,rfl⟩:∃ k,j=k+1:=⟨j - 1,by omega⟩
  have h2:fs[j]?=some g:=by simpa using h2
  unfold fcount
  rw [List.countP_cons,List.countP_cons]
  cases i with
  | zero =>
   cases h1
   have:=one fs j g h2 hg
   unfold fcount at this
   rw [hf]
   generalize List.countP (fun f=>bhas f.box p && f.acc==true) fs=A at *
   generalize List.countP (fun f=>bhas f.box p && f.acc==false) fs=B at *
   cases x.acc<;>simp<;>omega
  | succ i =>
   have:=ih i j f g (by omega) (by simpa using h1) h2 hf hg
   unfold fcount at this
   omega
theorem meet_some {a b:Bx} (ha:bvalid a=true) (hb:bvalid b=true) (he:bempty (bmeet a b)=false):∃ p:Pk,p.ok=true∧bhas a p=true∧bhas b p=true:=by
 obtain ⟨la,_⟩:=bvalid_iff.1 ha
 obtain ⟨lb,_⟩:=bvalid_iff.1 hb
 have key:∀ n,n<4→∃ v:Int,0≤v∧v≤top n∧shas (a.getD n []) v=true∧shas (b.getD n []) v=true:=fun n hn=>by
  obtain ⟨x,hx,vx⟩:=bvalid_get ha hn
  obtain ⟨y,hy,vy⟩:=bvalid_get hb hn
  obtain ⟨z,hz,gz⟩:=bmeet_good ha hb hn
  have hm:=bmeet_get hx hy
  rw [hm] at hz
  cases hz
  rw [getD_get hx,getD_get hy]
  cases e:smeet x y with
  | nil =>
   exfalso
   have:bempty (bmeet a b)=true:=by
    unfold bempty
    rw [List.any_eq_true]
    exact ⟨_,List.mem_of_getElem? hm,by rw [e];rfl⟩
   rw [he] at this;cases this
  | cons s ss =>
   rw [e] at gz
   have gs:=gz
   unfold sgood at gz
   simp only [Bool.and_eq_true,decide_eq_true_eq] at gz
   have h1:shas (smeet x y) s.lo=true:=by rw [e];unfold shas;rw [List.any_cons,inB_iff.2 ⟨Int.le_refl _,by omega⟩];rfl
   rw [smeet_has,Bool.and_eq_true] at h1
   exact ⟨s.lo,by omega,by omega,h1.1,h1.2⟩
 obtain ⟨v0,a0,b0,c0,d0⟩:=key 0 (by omega)
 obtain ⟨v1,a1,b1,c1,d1⟩:=key 1 (by omega)
 obtain ⟨v2,a2,b2,c2,d2⟩:=key 2 (by omega)
 obtain ⟨v3,a3,b3,c3,d3⟩:=key 3 (by omega)
 refine ⟨⟨v0,v1,v2,v3⟩,?_,bhas_iff.2 (fun n hn=>?_),bhas_iff.2 (fun n hn=>?_)⟩
 ·unfold Pk.ok
  rw [show inB v0 0 65535=true from inB_iff.2 ⟨a0,b0⟩,show inB v1 0 65535=true from inB_iff.2 ⟨a1,b1⟩,show inB v2 0 255=true from inB_iff.2 ⟨a2,b2⟩,show inB v3 0 7=true from inB_iff.2 ⟨a3,b3⟩];rfl
 ·rcases (by omega:n=0∨n=1∨n=2∨n=3) with rfl | rfl | rfl | rfl<;>assumption
 ·rcases (by omega:n=0∨n=1∨n=2∨n=3) with rfl | rfl | rfl | rfl<;>assumption
theorem unfold_apart {cs:List (List Ru)} (hv:∀ l,l∈cs→rusvalid l=true) {f c:Nat} {i:List Bx} {o:List Ft} (h:ufWalk cs f c [ball] []=some (i,o)) {m n:Nat} {x y:Ft} (hmn:m<n) (hx:o[m]?=some x) (hy:o[n]?=some y):bempty (bmeet x.box y.box)=true:=by
 obtain ⟨-, -,hvo⟩:=ufWalk_out f c _ _ _ _ h ball_rvalid ⟨by simp,fun f hf=>by cases hf⟩
 cases he:bempty (bmeet x.box y.box)
 ·exfalso
  obtain ⟨p,hp,h1,h2⟩:=meet_some (hvo x (List.mem_of_getElem? hx)) (hvo y (List.mem_of_getElem? hy)) he
  obtain ⟨-,k⟩:=ufWalk_count hv hp f c _ _ _ _ h ball_rvalid
  rw [ball_count hp] at k
  have h3:=fcount_two o m n x y hmn hx hy h1 h2
  rw [k true,k false] at h3
  have z:∀ a,fcount [] p a=0:=fun a=>rfl
  rw [z,z] at h3
  cases hj:jwalk cs p f c with
  | none=>rw [hj] at h3;simp at h3
  | some b=>rw [hj] at h3;cases b<;>simp at h3
 ·rfl
end Go.Proofs.YtfcbbahlhjdefaaGreatDoor
