/- Rulesets: how they lie in memory, and the exact law's helpers over them. -/
import Derived.Test.YtfcbbahlhjdefaaGreatDoorDt
import Derived.Test.YtfcbbahlhjdefaaGreatDoorCuW
import Derived.Test.YtfcbbahlhjdefaaGreatDoorFmZ
import Derived.Test.YtfcbbahlhjdefaaGreatDoorFnX
namespace Go.Proofs.YtfcbbahlhjdefaaGreatDoor
open Go.RowKit
structure Ru where
 ts:List Te
 act:Int
 ch:Int
def tsvalid (ts:List Te):Bool:=ts.all Te.ok && decide (ts.length≤6)
def Ru.ok (r:Ru):Bool:=tsvalid r.ts && inB r.act 1 5 && ((r.act==3 && inB r.ch 0 4) || (r.act != 3 && r.ch==0))
def rusvalid (l:List Ru):Bool:=l.all Ru.ok && decide (l.length≤8)
def calls (l:List Ru):List Nat:=(List.range 5).filter (fun c=>l.any (fun r=>r.act==3 && r.ch==(c:Int)))
def callsAt (cs:List (List Ru)) (c:Nat):List Nat:=calls (cs.getD c [])
inductive Good (cs:List (List Ru)):Nat→Prop
 | mk (c:Nat):(∀ x,x∈callsAt cs c→Good cs x)→Good cs c
def Ht (cs:List (List Ru)):Nat→Nat→Prop
 | 0,_=>False
 | f+1,c=>∀ x,x∈callsAt cs c→Ht cs f x
theorem Ht.mono {cs:List (List Ru)}:∀ {f g c:Nat},Ht cs f c→f≤g→Ht cs g c
 | 0,_,_,h,_=>h.elim
 | f+1,0,_,_,hle=>by omega
 | f+1,g+1,_,h,hle=>fun x hx=>Ht.mono (h x hx) (by omega)
theorem Ht.all {cs:List (List Ru)} {l:List Nat} (h:∀ x,x∈l→∃ f,Ht cs f x):∃ f,∀ x,x∈l→Ht cs f x:=by
 induction l with
 | nil=>exact ⟨0,fun x hx=>by cases hx⟩
 | cons a l ih =>
  obtain ⟨f,hf⟩:=ih (fun x hx=>h x (List.mem_cons_of_mem _ hx))
  obtain ⟨g,hg⟩:=h a List.mem_cons_self
  refine ⟨max f g,fun x hx=>?_⟩
  rcases List.mem_cons.1 hx with rfl | hx
  ·exact hg.mono (Nat.le_max_right _ _)
  ·exact (hf x hx).mono (Nat.le_max_left _ _)
theorem Good.ht {cs:List (List Ru)} {c:Nat} (h:Good cs c):∃ f,Ht cs f c:=by
 induction h with
 | mk c _ ih =>
  obtain ⟨f,hf⟩:=Ht.all ih
  exact ⟨f+1,hf⟩
inductive Leads (cs:List (List Ru)):Nat→Nat→Prop
 | one {g x:Nat}:x∈callsAt cs g→Leads cs g x
 | more {g y x:Nat}:Leads cs g y→x∈callsAt cs y→Leads cs g x
theorem Leads.first {cs:List (List Ru)} {g x:Nat} (h:Leads cs g x):∃ y,y∈callsAt cs g∧(y=x∨Leads cs y x):=by
 induction h with
 | one h=>exact ⟨_,h,.inl rfl⟩
 | more _ h2 ih =>
  obtain ⟨y,hy,e⟩:=ih
  refine ⟨y,hy,.inr ?_⟩
  rcases e with rfl | e
  ·exact .one h2
  ·exact .more e h2
theorem Good.free {cs:List (List Ru)} {c:Nat} (h:Good cs c):¬ Leads cs c c:=by
 induction h with
 | mk c _ ih =>
  intro hr
  obtain ⟨y,hy,e⟩:=hr.first
  refine ih y hy ?_
  rcases e with rfl | e
  ·exact .one hy
  ·exact .more e hy
def kready (cs:List (List Ru)) (d:List Bool) (c:Nat):Bool:=(cs.getD c []).all (fun r=>r.act != 3 || d.getD r.ch.toNat false)
def kstep (cs:List (List Ru)) (d:List Bool) (c:Nat):List Bool:=if !d.getD c false && kready cs d c then d.set c true else d
def kround (cs:List (List Ru)) (d:List Bool):List Bool:=(List.range cs.length).foldl (kstep cs) d
def krounds (cs:List (List Ru)):Nat→List Bool→List Bool
 | 0,d=>d
 | n+1,d=>kround cs (krounds cs n d)
def kfin (cs:List (List Ru)):List Bool:=krounds cs cs.length (List.replicate cs.length false)
def kcount (d:List Bool):Nat:=d.countP (fun b=>b)
def CallsIn (cs:List (List Ru)):Prop:=∀ l,l∈cs→∀ r,r∈l→r.act=3→0≤r.ch∧r.ch<5∧r.ch<(cs.length:Int)
theorem callsAt_mem {cs:List (List Ru)} {c x:Nat}:x∈callsAt cs c↔x<5∧∃ r,r∈cs.getD c []∧r.act=3∧r.ch=(x:Int):=by
 unfold callsAt calls
 rw [List.mem_filter,List.mem_range,List.any_eq_true]
 simp only [Bool.and_eq_true,beq_iff_eq]
theorem getD_mem {α:Type} {l:List (List α)} {c:Nat} {r:α} (h:r∈l.getD c []):l.getD c []∈l:=by
 rw [List.getD_eq_getElem?_getD] at h ⊢
 cases e:l[c]? with
 | none=>rw [e] at h;simp at h
 | some x=>rw [Option.getD_some];exact List.mem_of_getElem? e
theorem callsAt_lt {cs:List (List Ru)} (hc:CallsIn cs) {c x:Nat} (h:x∈callsAt cs c):x<cs.length∧x<5:=by
 obtain ⟨h5,r,hr,ha,hx⟩:=callsAt_mem.1 h
 have:=(hc _ (getD_mem hr) r hr ha).2.2
 omega
theorem kready_iff {cs:List (List Ru)} (hc:CallsIn cs) {d:List Bool} {c:Nat}:kready cs d c=true↔∀ x,x∈callsAt cs c→d.getD x false=true:=by
 unfold kready
 rw [List.all_eq_true]
 constructor
 ·intro h x hx
  obtain ⟨_,r,hr,ha,hxr⟩:=callsAt_mem.1 hx
  have:=h r hr
  rw [ha,hxr] at this
  simpa using this
 ·intro h r hr
  by_cases ha:r.act=3
  ·obtain ⟨h0,h5,hn⟩:=hc _ (getD_mem hr) r hr ha
   have:=h r.ch.toNat (callsAt_mem.2 ⟨by omega,r,hr,ha,by omega⟩)
   rw [this,Bool.or_true]
  ·have:(r.act != 3)=true:=by simpa using ha
   rw [this,Bool.true_or]
theorem kstep_len {cs:List (List Ru)} {d:List Bool} {c:Nat}:(kstep cs d c).length=d.length:=by unfold kstep;split<;>simp
theorem kstep_mono {cs:List (List Ru)} {d:List Bool} {c x:Nat} (h:d.getD x false=true):(kstep cs d c).getD x false=true:=by
 unfold kstep
 split
 ·rw [List.getD_eq_getElem?_getD] at h ⊢
  by_cases e:c=x
  ·subst e
   cases hx:d[c]? with
   | none=>rw [hx] at h;cases h
   | some b=>rw [List.getElem?_set_self (List.getElem?_eq_some_iff.1 hx).1];rfl
  ·rw [List.getElem?_set_ne e];exact h
 ·exact h
theorem kfold_len {cs:List (List Ru)}:∀ (l:List Nat) (d:List Bool),(l.foldl (kstep cs) d).length=d.length
 | [],_=>rfl
 | a::l,d=>by rw [List.foldl_cons,kfold_len l,kstep_len]
theorem kfold_mono {cs:List (List Ru)} {x:Nat}:∀ (l:List Nat) (d:List Bool),d.getD x false=true→(l.foldl (kstep cs) d).getD x false=true
 | [],_,h=>h
 | a::l,d,h=>by rw [List.foldl_cons];exact kfold_mono l _ (kstep_mono h)
theorem kfold_hit {cs:List (List Ru)} (hc:CallsIn cs) {c:Nat} (hlt:c<cs.length):∀ (l:List Nat) (d:List Bool),d.length=cs.length→c∈l→(∀ x,x∈callsAt cs c→d.getD x false=true)→(l.foldl (kstep cs) d).getD c false=true
 | [],_,_,h,_=>by cases h
 | a::l,d,hd,h,hx=>by
  rw [List.foldl_cons]
  by_cases e:a=c
  ·subst e
   refine kfold_mono l _ ?_
   unfold kstep
   rw [(kready_iff hc).2 hx,Bool.and_true]
   split
   ·rw [List.getD_eq_getElem?_getD,List.getElem?_set_self (by omega)];rfl
   ·rename_i h2
    simpa using h2
  ·exact kfold_hit hc hlt l _ (by rw [kstep_len,hd]) (by rcases List.mem_cons.1 h with h | h;exact absurd h.symm e;exact h) (fun x hx'=>kstep_mono (hx x hx'))
theorem krounds_len {cs:List (List Ru)} {d:List Bool}:∀ n,(krounds cs n d).length=d.length
 | 0=>rfl
 | n+1=>by unfold krounds kround;rw [kfold_len,krounds_len n]
theorem kfold_good {cs:List (List Ru)} (hc:CallsIn cs):∀ (l:List Nat) (d:List Bool),(∀ x,d.getD x false=true→Good cs x)→∀ x,(l.foldl (kstep cs) d).getD x false=true→Good cs x
 | [],_,h=>h
 | a::l,d,h=>by
  rw [List.foldl_cons]
  refine kfold_good hc l _ (fun x hx=>?_)
  unfold kstep at hx
  split at hx
  ·rename_i h2
   rw [Bool.and_eq_true] at h2
   by_cases e:a=x
   ·subst e
    exact Good.mk a (fun y hy=>h y ((kready_iff hc).1 h2.2 y hy))
   ·rw [List.getD_eq_getElem?_getD,List.getElem?_set_ne e,← List.getD_eq_getElem?_getD] at hx
    exact h x hx
  ·exact h x hx
theorem krounds_good {cs:List (List Ru)} (hc:CallsIn cs):∀ (n:Nat) (x:Nat),(krounds cs n (List.replicate cs.length false)).getD x false=true→Good cs x
 | 0,x,h=>by
  unfold krounds at h
  rw [List.getD_eq_getElem?_getD,List.getElem?_replicate] at h
  split at h<;>cases h
 | n+1,x,h=>kfold_good hc _ _ (krounds_good hc n) x h
theorem cnt_le:∀ (d d':List Bool),d.length=d'.length→(∀ x,d.getD x false=true→d'.getD x false=true)→kcount d≤kcount d'
 | [],[],_,_=>Nat.le_refl _
 | [],_::_,h,_=>by simp at h
 | _::_,[],h,_=>by simp at h
 | a::d,b::d',hl,h=>by
  have ih:=cnt_le d d' (by simpa using hl) (fun x hx=>by have:=h (x+1) (by simpa using hx);simpa using this)
  have h0:=h 0
  unfold kcount at *
  cases a<;>cases b<;>simp_all<;>omega
theorem cnt_lt:∀ (d d':List Bool) (c:Nat),d.length=d'.length→(∀ x,d.getD x false=true→d'.getD x false=true)→c<d.length→d.getD c false=false→d'.getD c false=true→kcount d<kcount d'
 | [],_,_,_,_,h,_,_=>by simp at h
 | _::_,[],_,h,_,_,_,_=>by simp at h
 | a::d,b::d',0,hl,h,_,h1,h2=>by
  have ih:=cnt_le d d' (by simpa using hl) (fun x hx=>by have:=h (x+1) (by simpa using hx);simpa using this)
  simp at h1 h2
  subst h1 h2
  unfold kcount at *
  simp
  omega
 | a::d,b::d',c+1,hl,h,hc,h1,h2=>by
  have ih:=cnt_lt d d' c (by simpa using hl) (fun x hx=>by have:=h (x+1) (by simpa using hx);simpa using this) (by simpa using hc) (by simpa using h1) (by simpa using h2)
  have h0:=h 0
  unfold kcount at *
  cases a<;>cases b<;>simp_all<;>omega
theorem cnt_all {d:List Bool} (h:kcount d=d.length) {c:Nat} (hc:c<d.length):d.getD c false=true:=by
 unfold kcount at h
 have h2:=List.countP_eq_length.1 h
 rw [List.getD_eq_getElem?_getD,List.getElem?_eq_getElem hc]
 exact h2 _ (List.getElem_mem hc)
theorem cnt_max {d:List Bool} (h:∀ c,c<d.length→d.getD c false=true):kcount d=d.length:=by
 refine List.countP_eq_length.2 (fun b hb=>?_)
 obtain ⟨i,hi⟩:=List.getElem?_of_mem hb
 have:=h i (List.getElem?_eq_some_iff.1 hi).1
 rw [List.getD_eq_getElem?_getD,hi] at this
 exact this
theorem next_ready {cs:List (List Ru)} (hc:CallsIn cs) {d:List Bool} {c:Nat} (h:Good cs c):c<cs.length→d.getD c false=false→∃ x,x<cs.length∧d.getD x false=false∧∀ y,y∈callsAt cs x→d.getD y false=true:=by
 induction h with
 | mk c _ ih =>
  intro hlt hd
  by_cases hall:∀ y,y∈callsAt cs c→d.getD y false=true
  ·exact ⟨c,hlt,hd,hall⟩
  ·simp only [Classical.not_forall] at hall
   obtain ⟨y,hy,hn⟩:=hall
   exact ih y hy (callsAt_lt hc hy).1 (by simpa using hn)
theorem krounds_count {cs:List (List Ru)} (hc:CallsIn cs) (hg:∀ c,c<cs.length→Good cs c):∀ n,n≤cs.length→n≤kcount (krounds cs n (List.replicate cs.length false))
 | 0,_=>Nat.zero_le _
 | n+1,hn=>by
  have ih:=krounds_count hc hg n (by omega)
  have hl:(krounds cs n (List.replicate cs.length false)).length=cs.length:=by rw [krounds_len,List.length_replicate]
  generalize hd:krounds cs n (List.replicate cs.length false)=d at *
  have e:krounds cs (n+1) (List.replicate cs.length false)=kround cs d:=by rw [krounds,hd]
  rw [e]
  have hle:=cnt_le d (kround cs d) (by unfold kround;rw [kfold_len]) (fun x hx=>kfold_mono _ _ hx)
  by_cases hall:∀ c,c<d.length→d.getD c false=true
  ·have:=cnt_max hall
   omega
  ·simp only [Classical.not_forall] at hall
   obtain ⟨c,h1,h2⟩:=hall
   obtain ⟨x,hx,hxd,hy⟩:=next_ready hc (hg c (by omega)) (by omega) (by simpa using h2)
   have:=cnt_lt d (kround cs d) x (by unfold kround;rw [kfold_len]) (fun x hx=>kfold_mono _ _ hx) (by omega) hxd (kfold_hit hc hx _ _ hl (List.mem_range.2 hx) hy)
   omega
theorem kfin_iff {cs:List (List Ru)} (hc:CallsIn cs):kcount (kfin cs)=cs.length↔∀ c,c<cs.length→Good cs c:=by
 have hl:(kfin cs).length=cs.length:=by unfold kfin;rw [krounds_len,List.length_replicate]
 constructor
 ·intro h c hlt
  exact krounds_good hc _ _ (cnt_all (h.trans hl.symm) (by omega))
 ·intro h
  have h1:=krounds_count hc h cs.length (Nat.le_refl _)
  have h2:kcount (kfin cs)≤(kfin cs).length:=List.countP_le_length
  unfold kfin at *
  omega
def vfold (v:Nat→List Nat→Bool × List Nat):List Nat→Bool→List Nat→Bool × List Nat
 | [],b,col=>(b,col)
 | x::l,b,col=>vfold v l (b && (v x col).1) (v x col).2
def visit (cs:List (List Ru)):Nat→Nat→List Nat→Bool × List Nat
 | 0,_,col=>(false,col)
 | f+1,c,col =>
  if cs.length≤c then (true,col)
  else if col.getD c 0=1 then (false,col)
  else if col.getD c 0=2 then (true,col)
  else ((vfold (visit cs f) (callsAt cs c) true (col.set c 1)).1,(vfold (visit cs f) (callsAt cs c) true (col.set c 1)).2.set c 2)
def acycl (cs:List (List Ru)) (f:Nat):List Nat→List Nat→Bool
 | [],_=>true
 | c::l,col=>(visit cs f c col).1 && acycl cs f l (visit cs f c col).2
theorem getD_set {α:Type} {l:List α} {c x:Nat} {a d:α} (hc:c<l.length):(l.set c a).getD x d=if c=x then a else l.getD x d:=by
 rw [List.getD_eq_getElem?_getD,List.getD_eq_getElem?_getD]
 by_cases e:c=x
 ·subst e;rw [List.getElem?_set_self hc,if_pos rfl];rfl
 ·rw [List.getElem?_set_ne e,if_neg e]
theorem vfold_len {v:Nat→List Nat→Bool × List Nat} (hv:∀ x col,(v x col).2.length=col.length):∀ (l:List Nat) (b:Bool) (col:List Nat),(vfold v l b col).2.length=col.length
 | [],_,_=>rfl
 | x::l,b,col=>by unfold vfold;rw [vfold_len hv l,hv]
theorem visit_len {cs:List (List Ru)}:∀ (f c:Nat) (col:List Nat),(visit cs f c col).2.length=col.length
 | 0,_,_=>rfl
 | f+1,c,col=>by
  unfold visit
  split
  ·rfl
  ·split
   ·rfl
   ·split
    ·rfl
    ·simp only [List.length_set]
     rw [vfold_len (visit_len f),List.length_set]
theorem vfold_true {v:Nat→List Nat→Bool × List Nat}:∀ (l:List Nat) (b:Bool) (col:List Nat),(vfold v l b col).1=true→b=true
 | [],_,_,h=>h
 | x::l,b,col,h=>by
  unfold vfold at h
  have:=vfold_true l _ _ h
  rw [Bool.and_eq_true] at this
  exact this.1
theorem vfold_grey {v:Nat→List Nat→Bool × List Nat} {n:Nat} (hl:∀ x col,(v x col).2.length=col.length) (hv:∀ x col,col.length=n→∀ y,(v x col).2.getD y 0=1↔col.getD y 0=1):∀ (l:List Nat) (b:Bool) (col:List Nat),col.length=n→∀ y,(vfold v l b col).2.getD y 0=1↔col.getD y 0=1
 | [],_,_,_,_=>Iff.rfl
 | x::l,b,col,hn,y=>by
  unfold vfold
  rw [vfold_grey hl hv l _ _ (by rw [hl,hn]) y,hv x col hn y]
theorem visit_grey {cs:List (List Ru)} {n:Nat} (hcn:cs.length≤n):∀ (f c:Nat) (col:List Nat),col.length=n→∀ y,(visit cs f c col).2.getD y 0=1↔col.getD y 0=1
 | 0,_,_,_,_=>Iff.rfl
 | f+1,c,col,hn,y=>by
  unfold visit
  split
  ·exact Iff.rfl
  ·rename_i h1
   split
   ·exact Iff.rfl
   ·rename_i h2
    split
    ·exact Iff.rfl
    ·simp only
     have hl:(vfold (visit cs f) (callsAt cs c) true (col.set c 1)).2.length=n:=by rw [vfold_len (visit_len f),List.length_set,hn]
     rw [getD_set (by omega)]
     by_cases e:c=y
     ·subst e
      rw [if_pos rfl]
      exact ⟨fun h=>by omega,fun h=>absurd h h2⟩
     ·rw [if_neg e,vfold_grey (n:=n) (visit_len f) (visit_grey hcn f) _ _ _ (by rw [List.length_set,hn]) y,getD_set (by omega),if_neg e]
theorem vfold_good {cs:List (List Ru)} {v:Nat→List Nat→Bool × List Nat} (hv:∀ x col,(v x col).1=true→(∀ y,col.getD y 0=2→Good cs y)→(∀ y,(v x col).2.getD y 0=2→Good cs y)∧Good cs x) :
  ∀ (l:List Nat) (b:Bool) (col:List Nat),(vfold v l b col).1=true→(∀ y,col.getD y 0=2→Good cs y)→(∀ y,(vfold v l b col).2.getD y 0=2→Good cs y)∧∀ x,x∈l→Good cs x
 | [],_,_,_,h=>⟨h,fun x hx=>by cases hx⟩
 | x::l,b,col,ht,h=>by
  unfold vfold at ht ⊢
  have h1:=vfold_true l _ _ ht
  rw [Bool.and_eq_true] at h1
  obtain ⟨h2,h3⟩:=hv x col h1.2 h
  obtain ⟨h4,h5⟩:=vfold_good hv l _ _ ht h2
  exact ⟨h4,fun y hy=>by
   rcases List.mem_cons.1 hy with rfl | hy
   ·exact h3
   ·exact h5 y hy⟩
theorem visit_good {cs:List (List Ru)}:∀ (f c:Nat) (col:List Nat),(visit cs f c col).1=true→(∀ y,col.getD y 0=2→Good cs y)→(∀ y,(visit cs f c col).2.getD y 0=2→Good cs y)∧Good cs c
 | 0,_,_,h,_=>by cases h
 | f+1,c,col,h,hg=>by
  unfold visit at h ⊢
  split at h
  ·rename_i h1
   rw [if_pos h1]
   refine ⟨hg,Good.mk c (fun x hx=>?_)⟩
   unfold callsAt at hx
   rw [List.getD_eq_getElem?_getD,List.getElem?_eq_none h1] at hx
   exact absurd hx (by simp [calls])
  ·rename_i h1
   rw [if_neg h1]
   split at h
   ·cases h
   ·rename_i h2
    rw [if_neg h2]
    split at h
    ·rename_i h3
     rw [if_pos h3]
     exact ⟨hg,hg c h3⟩
    ·rename_i h3
     rw [if_neg h3]
     simp only at h ⊢
     have hset:∀ y,(col.set c 1).getD y 0=2→Good cs y:=fun y hy=>by
      by_cases hlt:c<col.length
      ·rw [getD_set hlt] at hy
       split at hy
       ·omega
       ·exact hg y hy
      ·rw [List.set_eq_of_length_le (by omega)] at hy
       exact hg y hy
     obtain ⟨h4,h5⟩:=vfold_good (visit_good f) _ _ _ h hset
     have hgc:Good cs c:=Good.mk c h5
     refine ⟨fun y hy=>?_,hgc⟩
     by_cases hlt:c<(vfold (visit cs f) (callsAt cs c) true (col.set c 1)).2.length
     ·rw [getD_set hlt] at hy
      split at hy
      ·rename_i e;rw [← e];exact hgc
      ·exact h4 y hy
     ·rw [List.set_eq_of_length_le (by omega)] at hy
      exact h4 y hy
def wht (x:Nat):Bool:=x != 1 && x != 2
def whites (col:List Nat):Nat:=col.countP wht
theorem whites_set:∀ (col:List Nat) (c a:Nat),wht a=false→whites (col.set c a)≤whites col
 | [],_,_,_=>by simp
 | x::col,0,a,ha=>by
  unfold whites
  rw [List.set_cons_zero,List.countP_cons,List.countP_cons,ha]
  simp
 | x::col,c+1,a,ha=>by
  have:=whites_set col c a ha
  unfold whites at *
  rw [List.set_cons_succ,List.countP_cons,List.countP_cons]
  omega
theorem whites_lt:∀ (col:List Nat) (c a:Nat),wht a=false→c<col.length→wht (col.getD c 0)=true→whites (col.set c a)<whites col
 | [],_,_,_,h,_=>by simp at h
 | x::col,0,a,ha,_,h0=>by
  rw [show (x::col).getD 0 0=x from rfl] at h0
  unfold whites
  rw [List.set_cons_zero,List.countP_cons,List.countP_cons,ha,h0]
  simp
 | x::col,c+1,a,ha,hl,h0=>by
  have:=whites_lt col c a ha (by simpa using hl) (by simpa using h0)
  unfold whites at *
  rw [List.set_cons_succ,List.countP_cons,List.countP_cons]
  omega
theorem vfold_whites {v:Nat→List Nat→Bool × List Nat} (hv:∀ x col,whites (v x col).2≤whites col):∀ (l:List Nat) (b:Bool) (col:List Nat),whites (vfold v l b col).2≤whites col
 | [],_,_=>Nat.le_refl _
 | x::l,b,col=>by unfold vfold;exact Nat.le_trans (vfold_whites hv l _ _) (hv x col)
theorem visit_whites {cs:List (List Ru)}:∀ (f c:Nat) (col:List Nat),whites (visit cs f c col).2≤whites col
 | 0,_,_=>Nat.le_refl _
 | f+1,c,col=>by
  unfold visit
  split
  ·exact Nat.le_refl _
  ·split
   ·exact Nat.le_refl _
   ·split
    ·exact Nat.le_refl _
    ·exact Nat.le_trans (whites_set _ _ _ (by decide)) (Nat.le_trans (vfold_whites (visit_whites f) _ _ _) (whites_set _ _ _ (by decide)))
theorem vfold_yes {cs:List (List Ru)} {v:Nat→List Nat→Bool × List Nat} {n m:Nat} {c:Nat} (hl:∀ x col,(v x col).2.length=col.length) (hw:∀ x col,whites (v x col).2≤whites col)
  (hgr:∀ x col,col.length=n→∀ y,(v x col).2.getD y 0=1↔col.getD y 0=1) (hv:∀ x col,col.length=n→whites col<m→x∈callsAt cs c→(∀ g,col.getD g 0=1→Leads cs g x)→(v x col).1=true) :
  ∀ (l:List Nat) (col:List Nat),(∀ x,x∈l→x∈callsAt cs c)→col.length=n→whites col<m→(∀ g x,col.getD g 0=1→x∈callsAt cs c→Leads cs g x)→(vfold v l true col).1=true
 | [],_,_,_,_,_=>rfl
 | x::l,col,hx,hn,hm,hg=>by
  unfold vfold
  rw [hv x col hn hm (hx x List.mem_cons_self) (fun g h=>hg g x h (hx x List.mem_cons_self)),Bool.and_true]
  exact vfold_yes hl hw hgr hv l _ (fun y hy=>hx y (List.mem_cons_of_mem _ hy)) (by rw [hl,hn]) (Nat.lt_of_le_of_lt (hw x col) hm) (fun g y h hy=>hg g y ((hgr x col hn g).1 h) hy)
theorem visit_yes {cs:List (List Ru)} {n:Nat} (hcn:cs.length≤n) (hall:∀ c,Good cs c):∀ (f c:Nat) (col:List Nat),col.length=n→whites col<f→(∀ g,col.getD g 0=1→Leads cs g c)→(visit cs f c col).1=true
 | 0,_,_,_,h,_=>by omega
 | f+1,c,col,hn,hw,hg=>by
  unfold visit
  split
  ·rfl
  ·rename_i h1
   split
   ·rename_i h2
    exact absurd (hg c h2) (hall c).free
   ·rename_i h2
    split
    ·rfl
    ·rename_i h3
     simp only
     have hlt:=whites_lt col c 1 (by decide) (by omega) (show wht (col.getD c 0)=true by unfold wht;simp only [Bool.and_eq_true,bne_iff_ne];exact ⟨h2,h3⟩)
     refine vfold_yes (n:=n) (m:=f) (visit_len f) (visit_whites f) (visit_grey hcn f) (fun x col' hn' hw' _ hg'=>visit_yes hcn hall f x col' hn' hw' hg') _ _ (fun x hx=>hx) (by rw [List.length_set,hn]) (by omega) (fun g x h hx=>?_)
     rw [getD_set (by omega)] at h
     split at h
     ·rename_i e;subst e;exact .one hx
     ·exact .more (hg g h) hx
theorem good_all {cs:List (List Ru)} (h:∀ c,c<cs.length→Good cs c) (c:Nat):Good cs c:=by
 by_cases hlt:c<cs.length
 ·exact h c hlt
 ·refine Good.mk c (fun x hx=>?_)
  unfold callsAt at hx
  rw [List.getD_eq_getElem?_getD,List.getElem?_eq_none (by omega)] at hx
  exact absurd hx (by simp [calls])
theorem acycl_good {cs:List (List Ru)} {f:Nat}:∀ (l:List Nat) (col:List Nat),acycl cs f l col=true→(∀ y,col.getD y 0=2→Good cs y)→∀ c,c∈l→Good cs c
 | [],_,_,_,_,h=>by cases h
 | a::l,col,h,hg,c,hc=>by
  unfold acycl at h
  rw [Bool.and_eq_true] at h
  obtain ⟨h1,h2⟩:=visit_good f a col h.1 hg
  rcases List.mem_cons.1 hc with rfl | hc
  ·exact h2
  ·exact acycl_good l _ h.2 h1 c hc
theorem acycl_yes {cs:List (List Ru)} {n f:Nat} (hcn:cs.length≤n) (hall:∀ c,Good cs c) (hf:n<f):∀ (l:List Nat) (col:List Nat),col.length=n→(∀ g,¬ col.getD g 0=1)→acycl cs f l col=true
 | [],_,_,_=>rfl
 | a::l,col,hn,hg=>by
  unfold acycl
  have hw:whites col≤col.length:=List.countP_le_length
  rw [visit_yes hcn hall f a col hn (by omega) (fun g h=>absurd h (hg g)),Bool.true_and]
  exact acycl_yes hcn hall hf l _ (by rw [visit_len,hn]) (fun g h=>hg g ((visit_grey hcn f a col hn g).1 h))
theorem acycl_iff {cs:List (List Ru)} (hn:cs.length≤5):acycl cs 6 (List.range cs.length) [0,0,0,0,0]=true↔∀ c,c<cs.length→Good cs c:=by
 have h0:∀ y,[0,0,0,0,0].getD y 0=0:=fun y=>by
  match y with
  | 0=>rfl
  | 1=>rfl
  | 2=>rfl
  | 3=>rfl
  | 4=>rfl
  | y+5=>rfl
 constructor
 ·intro h c hc
  exact acycl_good _ _ h (fun y hy=>by rw [h0 y] at hy;cases hy) c (List.mem_range.2 hc)
 ·intro h
  exact acycl_yes (n:=5) hn (good_all h) (by decide) _ _ rfl (fun g hg=>by rw [h0 g] at hg;cases hg)
theorem acycl_kfin {cs:List (List Ru)} (hc:CallsIn cs) (hn:cs.length≤5):acycl cs 6 (List.range cs.length) [0,0,0,0,0]=decide (kcount (kfin cs)=cs.length):=by
 rw [Bool.eq_iff_iff,decide_eq_true_eq,acycl_iff hn,kfin_iff hc]
end Go.Proofs.YtfcbbahlhjdefaaGreatDoor
namespace Go.Proofs.YtfcbbahlhjdefaaGreatDoor
open Go.RowKit
instance:DecidableEq Te:=fun ⟨a,b,c,d⟩ ⟨a',b',c',d'⟩=>if h:a=a'∧b=b'∧c=c'∧d=d' then .isTrue (by obtain ⟨rfl,rfl,rfl,rfl⟩:=h;rfl) else .isFalse (fun e=>h (by cases e;exact ⟨rfl,rfl,rfl,rfl⟩))
instance:DecidableEq Ru:=fun ⟨a,b,c⟩ ⟨a',b',c'⟩=>if h:a=a'∧b=b'∧c=c' then .isTrue (by obtain ⟨rfl,rfl,rfl⟩:=h;rfl) else .isFalse (fun e=>h (by cases e;exact ⟨rfl,rfl,rfl⟩))
def Tss (lo:Nat) (w:World) (v:Value) (ts:List Te):Prop:=SlFr lo 4 Te.enc w v ts
theorem Tss.z {lo:Nat} {w:World} {v:Value} {ts:List Te} (h:Tss lo w v ts):Tes w v ts:=SlFr.at h
theorem Tss.mono {lo lo':Nat} {w:World} {v:Value} {ts:List Te} (h:Tss lo w v ts) (hl:lo'≤lo):Tss lo' w v ts:=SlFr.mono h hl
theorem Tss.below {lo:Nat} {w w':World} {v:Value} {ts:List Te} (h:Tss lo w v ts) (hb:Below w.heap.size w w'):Tss lo w' v ts:=SlFr.below h hb
theorem Tss.keep {lo:Nat} {w w':World} {v:Value} {ts:List Te} (h:Tss lo w v ts) (hw:Kp lo w w'):Tss lo w' v ts:=SlFr.keep h hw
theorem Tss.form {lo:Nat} {w:World} {v:Value} {ts:List Te} (h:Tss lo w v ts):∃ a cap,v=.slice a ts.length cap∧ts.length≤cap∧cap≤maxLen:=let ⟨a,c,e,h1,h2,_⟩:=h;⟨a,c,e,h1,h2⟩
structure RR where
 s:Value
 act:Int
 ch:Int
abbrev RR.enc (r:RR):List Value:=[r.s,.int .i64 r.act,.int .i64 r.ch]
def RR.ok (lo:Nat) (w:World) (q:RR) (r:Ru):Prop:=Tss lo w q.s r.ts∧q.act=r.act∧q.ch=r.ch
def Rus (lo:Nat) (w:World) (v:Value) (rs:List Ru):Prop:=∃ qs,SlFr lo 3 RR.enc w v qs∧All2 (RR.ok lo w) qs rs
def Rss (lo:Nat) (w:World) (v:Value) (cs:List (List Ru)):Prop:=∃ vs,SlFr lo 1 enc1 w v vs∧All2 (Rus lo w) vs cs
theorem Rus.keep {lo:Nat} {w w':World} {v:Value} {rs:List Ru} (h:Rus lo w v rs) (hw:Kp lo w w'):Rus lo w' v rs :=
 let ⟨qs,h1,h2⟩:=h;⟨qs,h1.keep hw,h2.mono (fun _ _ g=>⟨g.1.keep hw,g.2⟩)⟩
theorem Rus.below {lo:Nat} {w w':World} {v:Value} {rs:List Ru} (h:Rus lo w v rs) (hb:Below w.heap.size w w'):Rus lo w' v rs:=h.keep (Kp.of hb)
theorem Rus.mono {lo lo':Nat} {w:World} {v:Value} {rs:List Ru} (h:Rus lo w v rs) (hl:lo'≤lo):Rus lo' w v rs :=
 let ⟨qs,h1,h2⟩:=h;⟨qs,h1.mono hl,h2.mono (fun _ _ g=>⟨g.1.mono hl,g.2⟩)⟩
theorem Rus.form {lo:Nat} {w:World} {v:Value} {rs:List Ru} (h:Rus lo w v rs):∃ a cap,v=.slice a rs.length cap∧rs.length≤cap∧cap≤maxLen:=by
 obtain ⟨qs,⟨a,cap,rfl,h1,h2,_⟩,h3⟩:=h
 exact ⟨a,cap,by rw [h3.1],by rw [← h3.1];exact h1,h2⟩
theorem Rus.at {lo:Nat} {w:World} {a:Option Addr} {n cap:Nat} {rs:List Ru} (h:Rus lo w (.slice a n cap) rs) {k:Nat} {r:Ru} (hk:rs[k]?=some r) :
  ∃ b o sv,a=some ⟨b,o,none⟩∧b<w.heap.size∧w.cell? ⟨b,o+k*3,none⟩=some sv∧w.cell? ⟨b,o+k*3+1,none⟩=some (.int .i64 r.act)∧w.cell? ⟨b,o+k*3+2,none⟩=some (.int .i64 r.ch)∧Tss lo w sv r.ts:=by
 obtain ⟨qs,⟨a',cap',he,_,_,hx⟩,h2⟩:=h
 obtain ⟨rfl,_,_⟩:=Value.slice.inj he
 obtain ⟨q,hq,h3⟩:=h2.left hk
 obtain ⟨b,o,ha,_,hb,hc⟩:=hx k q hq
 refine ⟨b,o,q.s,ha,hb,by simpa using hc 0 _ rfl,?_,?_,h3.1⟩
 ·rw [← h3.2.1];exact hc 1 _ rfl
 ·rw [← h3.2.2];exact hc 2 _ rfl
theorem Rss.keep {lo:Nat} {w w':World} {v:Value} {cs:List (List Ru)} (h:Rss lo w v cs) (hw:Kp lo w w'):Rss lo w' v cs :=
 let ⟨vs,h1,h2⟩:=h;⟨vs,h1.keep hw,h2.mono (fun _ _ g=>g.keep hw)⟩
theorem Rss.below {lo:Nat} {w w':World} {v:Value} {cs:List (List Ru)} (h:Rss lo w v cs) (hb:Below w.heap.size w w'):Rss lo w' v cs:=h.keep (Kp.of hb)
theorem Rss.mono {lo lo':Nat} {w:World} {v:Value} {cs:List (List Ru)} (h:Rss lo w v cs) (hl:lo'≤lo):Rss lo' w v cs :=
 let ⟨vs,h1,h2⟩:=h;⟨vs,h1.mono hl,h2.mono (fun _ _ g=>g.mono hl)⟩
theorem Rss.form {lo:Nat} {w:World} {v:Value} {cs:List (List Ru)} (h:Rss lo w v cs):∃ a cap,v=.slice a cs.length cap∧cs.length≤cap∧cap≤maxLen:=by
 obtain ⟨qs,⟨a,cap,rfl,h1,h2,_⟩,h3⟩:=h
 exact ⟨a,cap,by rw [h3.1],by rw [← h3.1];exact h1,h2⟩
theorem Rss.at {lo:Nat} {w:World} {a:Option Addr} {n cap:Nat} {cs:List (List Ru)} (h:Rss lo w (.slice a n cap) cs) {k:Nat} {rs:List Ru} (hk:cs[k]?=some rs) :
  ∃ b o sv,a=some ⟨b,o,none⟩∧b<w.heap.size∧w.cell? ⟨b,o+k,none⟩=some sv∧Rus lo w sv rs:=by
 obtain ⟨vs,⟨a',cap',he,_,_,hx⟩,h2⟩:=h
 obtain ⟨rfl,_,_⟩:=Value.slice.inj he
 obtain ⟨v,hv,h3⟩:=h2.left hk
 obtain ⟨b,o,ha,_,hb,hc⟩:=hx k v hv
 exact ⟨b,o,v,ha,hb,by simpa using hc 0 _ rfl,h3⟩
def PTe (w:World) (lo hi:Nat) (v:Value) (ts:List Te):Prop:=OwnI 159 4 Te.enc w lo hi v ts
theorem PTe.kind:Kind PTe:=⟨fun _=>OwnI.le,fun _ _ _ _ _ _ h hw=>OwnI.keep h hw⟩
theorem PTe.keep {w w':World} {lo hi:Nat} {v:Value} {ts:List Te} (h:PTe w lo hi v ts) (hw:Kpi lo hi w w'):PTe w' lo hi v ts:=OwnI.keep h hw
theorem PTe.mono {w:World} {lo lo' hi hi':Nat} {v:Value} {ts:List Te} (h:PTe w lo hi v ts) (hl:lo'≤lo) (hh:hi≤hi'):PTe w lo' hi' v ts:=⟨OwnSl.mono h.1 hl,fun x hx=>Nat.lt_of_lt_of_le (h.2.1 x hx) hh,Nat.le_trans hl (Nat.le_trans h.2.2 hh)⟩
theorem PTe.tss {w:World} {lo hi:Nat} {v:Value} {ts:List Te} (h:PTe w lo hi v ts):Tss lo w v ts:=OwnSl.fr (sz:=4) (enc:=Te.enc) (fun _=>rfl) h.1
def PRg (w:World) (lo hi:Nat) (q:RR) (r:Ru):Prop:=PTe w lo hi q.s r.ts∧q.act=r.act∧q.ch=r.ch
theorem PRg.kind:Kind PRg:=⟨fun _w _l _h _x _y hp=>PTe.kind.le _ _ _ _ _ hp.1,fun _ _ _ _ _ _ h hw=>⟨PTe.kind.keep _ _ _ _ _ _ h.1 hw,h.2⟩⟩
def GRu:World→Nat→Nat→Value→List Ru→Prop:=OwnG 101 3 RR.enc PRg
theorem GRu.kind:Kind GRu:=OwnG.kind PRg.kind
theorem GRu.rus {w:World} {lo hi:Nat} {v:Value} {rs:List Ru} (h:GRu w lo hi v rs):Rus lo w v rs:=by
 obtain ⟨qs,h1,h2,h3,h4⟩:=h
 exact ⟨qs,OwnSl.fr (sz:=3) (enc:=RR.enc) (fun _=>rfl) h1,h4.all2 (PRg.kind.leO w _) (fun l m x y g1 _ g3=>⟨(PTe.tss g3.1.1).mono g1,g3.1.2⟩)⟩
def GRc:World→Nat→Nat→Value→List (List Ru)→Prop:=OwnG 96 1 enc1 GRu
theorem GRc.rss {w:World} {lo hi:Nat} {v:Value} {cs:List (List Ru)} (h:GRc w lo hi v cs):Rss lo w v cs:=by
 obtain ⟨vs,h1,h2,h3,h4⟩:=h
 exact ⟨vs,OwnSl.fr (sz:=1) (enc:=enc1) (fun _=>rfl) h1,h4.all2 (GRu.kind.leO w _) (fun l m x y g1 _ g3=>(GRu.rus g3.1).mono g1)⟩
theorem GRu.form {w:World} {lo hi:Nat} {v:Value} {rs:List Ru} (h:GRu w lo hi v rs):∃ a cap,v=.slice a rs.length cap∧rs.length≤cap∧cap≤maxLen:=h.rus.form
theorem GRc.form {w:World} {lo hi:Nat} {v:Value} {cs:List (List Ru)} (h:GRc w lo hi v cs):∃ a cap,v=.slice a cs.length cap∧cs.length≤cap∧cap≤maxLen:=h.rss.form
theorem infoTeq:(Tryz.prog.info? 159).map (fun i=>(i.zero,i.size,i.bytes))=some (some (.agg #[.int .i64 0,.int .i64 0,.int .i64 0,.bool false]),4,32):=by kernel_rfl
theorem infoRu:(Tryz.prog.info? 101).map (fun i=>(i.zero,i.size,i.bytes))=some (some (.agg #[.slice none 0 0,.int .i64 0,.int .i64 0]),3,40):=by kernel_rfl
theorem infoRl:(Tryz.prog.info? 96).map (fun i=>(i.zero,i.size,i.bytes))=some (some (.slice none 0 0),1,24):=by kernel_rfl
def ruN (rs:List Ru):Nat:=rs.length+sumTo (fun r:Ru=>r.ts.length) rs rs.length
def rcN (cs:List (List Ru)):Nat:=cs.length+sumTo ruN cs cs.length
theorem ruN_bound {rs:List Ru} {N:Nat} (h:ruN rs≤N):rs.length≤N∧∀ (k:Nat) r,rs[k]?=some r→r.ts.length≤N:=by
 unfold ruN at h
 exact ⟨by omega,fun k r hx=>by have:=sumTo_at (f:=fun r:Ru=>r.ts.length) hx;omega⟩
theorem rcN_bound {cs:List (List Ru)} {N:Nat} (h:rcN cs≤N):cs.length≤N∧∀ (k:Nat) rs,cs[k]?=some rs→ruN rs≤N:=by
 unfold rcN at h
 exact ⟨by omega,fun k rs hx=>by have:=sumTo_at (f:=ruN) hx;omega⟩
end Go.Proofs.YtfcbbahlhjdefaaGreatDoor
