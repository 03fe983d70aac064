/- Unfolding, plainly: where the ranges of the boxes begin and end, and so how many they are. -/
import Derived.Test.YtfcbbahlhjdefaaGreatDoorUfQ
namespace Go.Proofs.YtfcbbahlhjdefaaGreatDoor
open Go.RowKit
def Cut (C:List Int) (t:Int) (s:List Sp):Prop:=∀ x,x∈s→(x.lo=0∨x.lo∈C)∧(x.hi=t∨x.hi+1∈C)
theorem Cut.meet {C:List Int} {t:Int} {a b:List Sp} (ha:Cut C t a) (hb:Cut C t b):Cut C t (smeet a b):=by
 intro z hz
 unfold smeet at hz
 obtain ⟨x,hx,hz⟩:=List.mem_flatMap.1 hz
 obtain ⟨y,hy,hm⟩:=List.mem_filterMap.1 hz
 unfold meet1 at hm
 split at hm
 ·cases hm
  refine ⟨?_,?_⟩
  ·show max x.lo y.lo=0∨max x.lo y.lo∈C
   rcases Int.le_total x.lo y.lo with h | h
   ·rw [Int.max_eq_right h];exact (hb y hy).1
   ·rw [Int.max_eq_left h];exact (ha x hx).1
  ·show min x.hi y.hi=t∨min x.hi y.hi+1∈C
   rcases Int.le_total x.hi y.hi with h | h
   ·rw [Int.min_eq_left h];exact (ha x hx).2
   ·rw [Int.min_eq_right h];exact (hb y hy).2
 ·cases hm
theorem Cut.other {C:List Int} {t:Int}:∀ {s:List Sp} {k m:Int},Cut C t s→sgood t m s=true→0≤m→0≤k→(k=0∨k∈C∨k=t+1)→Cut C t (sother t k s)
 | [],k,m,_,_,_,_,hk=>by
  unfold sother
  split
  ·rename_i h
   intro x hx
   rw [List.mem_singleton.1 hx]
   refine ⟨?_,.inl rfl⟩
   rcases hk with e | e | e
   ·exact .inl e
   ·exact .inr e
   ·exact absurd h (by omega)
  ·intro x hx;cases hx
 | y::s,k,m,hc,hg,hm,h0,hk=>by
  rw [sgood_cons] at hg
  obtain ⟨g1,g2,g3,g4⟩:=hg
  obtain ⟨c1,c2⟩:=hc y List.mem_cons_self
  unfold sother
  intro x hx
  rcases List.mem_append.1 hx with hx | hx
  ·split at hx
   ·rename_i h
    rw [List.mem_singleton.1 hx]
    refine ⟨?_,.inr ?_⟩
    ·rcases hk with e | e | e
     ·exact .inl e
     ·exact .inr e
     ·exact absurd h (by omega)
    ·show y.lo - 1+1∈C
     rw [show y.lo - 1+1=y.lo by omega]
     rcases c1 with e | e
     ·exact absurd h (by omega)
     ·exact e
   ·cases hx
  ·refine Cut.other (m:=y.hi+2) (fun z hz=>hc z (List.mem_cons_of_mem _ hz)) g4 (by omega) (by omega) ?_ x hx
   rcases c2 with e | e
   ·exact .inr (.inr (by omega))
   ·exact .inr (.inl e)
theorem up_len:∀ (L C:List Int),L.Pairwise (· < ·)→(∀ x,x∈L→x∈C)→L.length≤C.length
 | [],_,_,_=>Nat.zero_le _
 | x::L,C,hp,h=>by
  obtain ⟨h1,h2⟩:=List.pairwise_cons.1 hp
  have hx:=h x List.mem_cons_self
  have ih:=up_len L (C.erase x) h2 (fun y hy=>(List.mem_erase_of_ne (by have:=h1 y hy;omega)).2 (h y (List.mem_cons_of_mem _ hy)))
  rw [List.length_erase_of_mem hx] at ih
  have:=List.length_pos_of_mem hx
  simp only [List.length_cons]
  omega
def ends:List Sp→List Int
 | []=>[]
 | [_]=>[]
 | x::y::s=>(x.hi+1)::y.lo::ends (y::s)
theorem ends_len:∀ (s:List Sp),(ends s).length+2=2*s.length∨s=[]
 | []=>.inr rfl
 | [_]=>.inl rfl
 | x::y::s=>by
  rcases ends_len (y::s) with h | h
  ·left
   simp only [ends,List.length_cons] at h ⊢
   omega
  ·cases h
theorem ends_up {t:Int}:∀ {s:List Sp} {m:Int},sgood t m s=true→(ends s).Pairwise (· < ·)∧∀ z,z∈ends s→m<z∧∀ x,s.head?=some x→x.hi<z
 | [],_,_=>⟨.nil,fun z hz=>by cases hz⟩
 | [_],_,_=>⟨.nil,fun z hz=>by cases hz⟩
 | x::y::s,m,hg=>by
  rw [sgood_cons] at hg
  obtain ⟨g1,g2,g3,g4⟩:=hg
  obtain ⟨i1,i2⟩:=ends_up g4
  rw [sgood_cons] at g4
  obtain ⟨k1,k2,k3,k4⟩:=g4
  have hy:∀ z,z∈ends (y::s)→y.hi<z:=fun z hz=>(i2 z hz).2 y rfl
  refine ⟨List.pairwise_cons.2 ⟨fun z hz=>?_,List.pairwise_cons.2 ⟨fun z hz=>?_,i1⟩⟩,fun z hz=>?_⟩
  ·rcases List.mem_cons.1 hz with e | hz
   ·omega
   ·have:=hy z hz;omega
  ·have:=hy z hz;omega
  ·have hz2:x.hi<z:=by
    rcases List.mem_cons.1 hz with e | hz
    ·omega
    ·rcases List.mem_cons.1 hz with e | hz
     ·omega
     ·have:=hy z hz;omega
   refine ⟨by omega,fun u hu=>?_⟩
   cases hu
   exact hz2
theorem ends_cut {C:List Int} {t:Int}:∀ {s:List Sp} {m:Int},Cut C t s→sgood t m s=true→0≤m→∀ z,z∈ends s→z∈C
 | [],_,_,_,_=>fun z hz=>by cases hz
 | [_],_,_,_,_=>fun z hz=>by cases hz
 | x::y::s,m,hc,hg,hm=>by
  rw [sgood_cons] at hg
  obtain ⟨g1,g2,g3,g4⟩:=hg
  have g5:=g4
  rw [sgood_cons] at g5
  obtain ⟨k1,k2,k3,k4⟩:=g5
  intro z hz
  rcases List.mem_cons.1 hz with e | hz
  ·subst e
   rcases (hc x List.mem_cons_self).2 with e | e
   ·exact absurd e (by omega)
   ·exact e
  ·rcases List.mem_cons.1 hz with e | hz
   ·subst e
    rcases (hc y (List.mem_cons_of_mem _ List.mem_cons_self)).1 with e | e
    ·exact absurd e (by omega)
    ·exact e
   ·exact ends_cut (fun u hu=>hc u (List.mem_cons_of_mem _ hu)) g4 (by omega) z hz
theorem Cut.len {C:List Int} {t:Int} {s:List Sp} (hc:Cut C t s) (hg:sgood t 0 s=true) (hC:C.length≤78):s.length≤40:=by
 have h1:=up_len _ C (ends_up hg).1 (ends_cut hc hg (Int.le_refl _))
 rcases ends_len s with h | h
 ·omega
 ·subst h;simp
def BCut (C:List Int) (b:Bx):Prop:=b.length=4∧∀ n,n<4→Cut C (top n) (b.getD n [])
theorem BCut.ball {C:List Int}:BCut C ball:=⟨rfl,fun n hn x hx=>by
 rw [getD_get (ball_at hn)] at hx
 rw [List.mem_singleton.1 hx]
 exact ⟨.inl rfl,.inl rfl⟩⟩
theorem BCut.meet {C:List Int} {a b:Bx} (ha:BCut C a) (hb:BCut C b):BCut C (bmeet a b):=⟨bmeet_len ha.1 hb.1,fun n hn=>by
 have h1:a[n]?=some (a.getD n []):=by rw [List.getD_eq_getElem?_getD,List.getElem?_eq_getElem (by rw [ha.1];exact hn)];rfl
 have h2:b[n]?=some (b.getD n []):=by rw [List.getD_eq_getElem?_getD,List.getElem?_eq_getElem (by rw [hb.1];exact hn)];rfl
 rw [getD_get (bmeet_get h1 h2)]
 exact (ha.2 n hn).meet (hb.2 n hn)⟩
theorem BCut.pc {C:List Int} {a b:Bx} (ha:BCut C a) (hb:BCut C b) (hv:bvalid b=true) {n:Nat} (hn:n<4):BCut C (bpc a b n):=by
 refine ⟨bpc_len ha.1 hb.1 (by omega),fun i hi=>?_⟩
 have h1:a[i]?=some (a.getD i []):=by rw [List.getD_eq_getElem?_getD,List.getElem?_eq_getElem (by rw [ha.1];exact hi)];rfl
 have h2:b[i]?=some (b.getD i []):=by rw [List.getD_eq_getElem?_getD,List.getElem?_eq_getElem (by rw [hb.1];exact hi)];rfl
 rcases Nat.lt_trichotomy i n with h | h | h
 ·rw [getD_get ((bpc_lt ha.1 hb.1 hn h).trans (bmeet_get h1 h2))]
  exact (ha.2 i hi).meet (hb.2 i hi)
 ·subst h
  rw [getD_get (bpc_eq ha.1 hb.1 hn)]
  exact (ha.2 i hi).meet (Cut.other (m:=0) (hb.2 i hi) (svalid_good ((bvalid_iff.1 hv).2 i hi)) (Int.le_refl _) (Int.le_refl _) (.inl rfl))
 ·rw [getD_get ((bpc_gt ha.1 hb.1 hn h).trans h1)]
  exact ha.2 i hi
theorem BCut.cut {C:List Int} {a b:Bx} (ha:BCut C a) (hb:BCut C b) (hv:bvalid b=true):∀ z,z∈bcut a b→BCut C z:=by
 intro z hz
 unfold bcut at hz
 split at hz
 ·split at hz
  ·cases hz
  ·rw [List.mem_singleton.1 hz];exact ha
 ·obtain ⟨i,hi, -,rfl⟩:=(bcuts_mem 4).1 hz
  exact ha.pc hb hv hi
theorem tspans_cut {C:List Int} {t:Te} (h:t.ok=true) (h1:t.lo∈C) (h2:t.hi+1∈C):Cut C (top t.fld.toNat) (tspans t):=by
 obtain ⟨k,hk,h4,a,b,c⟩:=tok_iff h
 have e:t.fld.toNat=k:=by omega
 have hg:sgood (top t.fld.toNat) 0 [⟨t.lo,t.hi⟩]=true:=sgood_one a b (by rw [e];exact c)
 have hc:Cut C (top t.fld.toNat) [⟨t.lo,t.hi⟩]:=fun x hx=>by
  rw [List.mem_singleton.1 hx];exact ⟨.inr h1,.inr h2⟩
 unfold tspans
 split
 ·exact Cut.other hc hg (Int.le_refl _) (Int.le_refl _) (.inl rfl)
 ·exact hc
theorem tbox1_cut {C:List Int} {b:Bx} {t:Te} (hb:BCut C b) (h:t.ok=true) (h1:t.lo∈C) (h2:t.hi+1∈C):BCut C (tbox1 b t):=by
 obtain ⟨k,hk,h4, -, -, -⟩:=tok_iff h
 have e:t.fld.toNat=k:=by omega
 have hc:=tspans_cut h h1 h2
 unfold tbox1
 rw [e] at hc ⊢
 refine ⟨by rw [List.length_set];exact hb.1,fun n hn=>?_⟩
 rw [getD_set (by rw [hb.1];exact h4)]
 split
 ·rename_i e2
  subst e2
  exact (hb.2 k hn).meet hc
 ·exact hb.2 n hn
def tcuts (ts:List Te):List Int:=ts.flatMap (fun t=>[t.lo,t.hi+1])
theorem tbox_cut {C:List Int} {ts:List Te} (h:ts.all Te.ok=true) (hC:∀ x,x∈tcuts ts→x∈C):BCut C (tbox ts):=by
 have key:∀ (ts:List Te) (b:Bx),BCut C b→ts.all Te.ok=true→(∀ x,x∈tcuts ts→x∈C)→BCut C (ts.foldl tbox1 b):=by
  intro ts
  induction ts with
  | nil=>intro b hb _ _;exact hb
  | cons t ts ih =>
   intro b hb ht hC
   rw [List.all_cons,Bool.and_eq_true] at ht
   rw [List.foldl_cons]
   refine ih _ (tbox1_cut hb ht.1 (hC _ ?_) (hC _ ?_)) ht.2 (fun x hx=>hC x ?_)
   ·unfold tcuts;simp
   ·unfold tcuts;simp
   ·unfold tcuts at hx ⊢;rw [List.flatMap_cons];exact List.mem_append_right _ hx
 exact key ts ball BCut.ball h hC
def CutL (C:List Int) (l:List Bx):Prop:=∀ z,z∈l→BCut C z
def CutF (C:List Int) (l:List Ft):Prop:=∀ f,f∈l→BCut C f.box
theorem CutL.append {C:List Int} {a b:List Bx} (ha:CutL C a) (hb:CutL C b):CutL C (a++b):=fun z hz=>(List.mem_append.1 hz).elim (ha z) (hb z)
theorem ufit_cut {C:List Int} {inn:List Bx} {W:Bx} (hi:CutL C inn) (hW:BCut C W):CutL C (ufit inn W):=fun z hz=>by
 unfold ufit at hz
 obtain ⟨h1, -⟩:=List.mem_filter.1 hz
 obtain ⟨b,hb,rfl⟩:=List.mem_map.1 h1
 exact (hi b hb).meet hW
theorem umiss_cut {C:List Int} {inn:List Bx} {W:Bx} (hi:CutL C inn) (hW:BCut C W) (hv:bvalid W=true):CutL C (umiss inn W):=fun z hz=>by
 unfold umiss at hz
 obtain ⟨b,hb,h⟩:=List.mem_flatMap.1 hz
 exact (hi b hb).cut hW hv z h
theorem ufGo_cut {C:List Int} {rec:Nat→List Bx→List Ft→UfR} (hrec:∀ c i o i' o',rec c i o=some (i',o')→CutL C i→CutF C o→CutL C i'∧CutF C o') :
  ∀ (rs:List Ru) (inn left:List Bx) (out:List Ft) (i:List Bx) (o:List Ft),ufGo rec rs inn left out=some (i,o)→(∀ r,r∈rs→tsvalid r.ts=true∧∀ x,x∈tcuts r.ts→x∈C)→CutL C inn→CutL C left→CutF C out→CutL C i∧CutF C o
 | [],inn,left,out,i,o,h,_,hi,hl,ho=>by
  unfold ufGo at h
  split at h
  ·cases h;exact ⟨hl.append hi,ho⟩
  ·cases h
 | r::rs,inn,left,out,i,o,h,hr,hi,hl,ho=>by
  obtain ⟨hv,hC⟩:=hr r List.mem_cons_self
  have hW:BCut C (tbox r.ts):=tbox_cut (by unfold tsvalid at hv;rw [Bool.and_eq_true] at hv;exact hv.1) hC
  have hfit:=ufit_cut hi hW
  have hmiss:=umiss_cut hi hW (tbox_valid hv)
  unfold ufGo at h
  split at h
  ·cases ha:ufAct rec r (ufit inn (tbox r.ts)) (umiss inn (tbox r.ts)) left out with
   | none=>rw [ha] at h;cases h
   | some q =>
    obtain ⟨i1,l1,o1⟩:=q
    rw [ha] at h
    simp only at h
    split at h
    ·have hk:CutL C i1∧CutL C l1∧CutF C o1:=by
      unfold ufAct at ha
      split at ha
      ·cases ha
       refine ⟨hmiss,hl,fun f hf=>?_⟩
       rcases List.mem_append.1 hf with hf | hf
       ·exact ho f hf
       ·obtain ⟨b,hb,rfl⟩:=List.mem_map.1 hf
        exact hfit b hb
      ·split at ha
       ·cases ha;exact ⟨hmiss,hl.append hfit,ho⟩
       ·split at ha
        ·cases hq:rec r.ch.toNat (ufit inn (tbox r.ts)) out with
         | none=>rw [hq] at ha;cases ha
         | some q =>
          rw [hq] at ha
          cases ha
          obtain ⟨k1,k2⟩:=hrec _ _ _ _ _ hq hfit ho
          exact ⟨hmiss.append k1,hl,k2⟩
        ·cases ha;exact ⟨hmiss.append hfit,hl,ho⟩
     exact ufGo_cut hrec rs _ _ _ _ _ h (fun x hx=>hr x (List.mem_cons_of_mem _ hx)) hk.1 hk.2.1 hk.2.2
    ·cases h
  ·cases h
theorem ufWalk_cut {C:List Int} {cs:List (List Ru)} (hr:∀ c r,r∈cs.getD c []→tsvalid r.ts=true∧∀ x,x∈tcuts r.ts→x∈C):∀ (f c:Nat) (inn:List Bx) (out:List Ft) (i:List Bx) (o:List Ft),ufWalk cs f c inn out=some (i,o)→CutL C inn→CutF C out→CutL C i∧CutF C o
 | 0,_,_,_,_,_,h,_,_=>by cases h
 | f+1,c,inn,out,i,o,h,hi,ho=>by
  unfold ufWalk at h
  exact ufGo_cut (fun c i o i' o' h hi ho=>ufWalk_cut hr f c i o i' o' h hi ho) _ _ _ _ _ _ h (hr c) hi (fun z hz=>by cases hz) ho
def rcuts (cs:List (List Ru)):List Int:=cs.flatMap (fun l=>l.flatMap (fun r=>tcuts r.ts))
theorem tcuts_len (ts:List Te):(tcuts ts).length=2*ts.length:=by
 unfold tcuts
 induction ts with
 | nil=>rfl
 | cons t ts ih=>rw [List.flatMap_cons,List.length_append,ih,List.length_cons];simp;omega
theorem lcuts_len {n:Nat}:∀ {l:List Ru},(∀ r,r∈l→r.ts.length≤n)→(l.flatMap (fun r=>tcuts r.ts)).length≤2*n*l.length
 | [],_=>Nat.zero_le _
 | r::l,h=>by
  have h1:=h r List.mem_cons_self
  have ih:=lcuts_len (fun x hx=>h x (List.mem_cons_of_mem _ hx))
  rw [List.flatMap_cons,List.length_append,tcuts_len,List.length_cons,Nat.mul_add,Nat.mul_one]
  omega
theorem mem_rcuts {cs:List (List Ru)} {c:Nat} {r:Ru} (h:r∈cs.getD c []):∀ x,x∈tcuts r.ts→x∈rcuts cs:=fun _ hx =>
 List.mem_flatMap.2 ⟨_,getD_mem h,List.mem_flatMap.2 ⟨r,h,hx⟩⟩
theorem cut_meet {C:List Int} {a b:Bx} (hC:C.length≤78) (ha:bvalid a=true) (hb:bvalid b=true) (ca:BCut C a) (cb:BCut C b):bvalid (bmeet a b)=true:=by
 refine bvalid_iff.2 ⟨bmeet_len ca.1 cb.1,fun n hn=>?_⟩
 obtain ⟨z,hz,hg⟩:=bmeet_good ha hb hn
 have hc:=(ca.meet cb).2 n hn
 rw [getD_get hz] at hc ⊢
 rw [svalid_of hn hg]
 exact decide_eq_true (hc.len hg hC)
end Go.Proofs.YtfcbbahlhjdefaaGreatDoor
