/- A box cut by a box: the reference's walk. -/
import Derived.Test.YtfcbbahlhjdefaaGreatDoorRgCL
import Derived.Test.YtfcbbahlhjdefaaGreatDoorFsM
import Derived.Test.YtfcbbahlhjdefaaGreatDoorFnX
import Derived.Test.YtfcbbahlhjdefaaGreatDoorDt
import Derived.Test.YtfcbbahlhjdefaaGreatDoorRgX
import Derived.Deep.DeepCutAuto
namespace Go.Proofs.YtfcbbahlhjdefaaGreatDoor
open Go.RowKit
def SlV {α:Type} (P:Nat→Prop) (sz:Nat) (enc:α→List Value) (w:World) (v:Value) (xs:List α):Prop:=SlFr 0 sz enc w v xs∧∀ q n c,v=.slice (some q) n c→xs≠[]→¬ P q.block
section
variable {α : Type} {P P' : Nat → Prop} {sz : Nat} {enc : α → List Value}
theorem SlV.keep {w w':World} {v:Value} {xs:List α} (h:SlV P sz enc w v xs) (hz:w.heap.size≤w'.heap.size) (hk:∀ k,k<w.heap.size→¬ P k→w'.heap[k]?=w.heap[k]?∧¬ P' k):SlV P' sz enc w' v xs:=by
 obtain ⟨⟨a,cap,rfl,h1,h2,hx⟩,hp⟩:=h
 refine ⟨⟨a,cap,rfl,h1,h2,fun k x hk'=>?_⟩,fun q n c e hne=>?_⟩
 ·obtain ⟨b,o,ha,h3,h4,hc⟩:=hx k x hk'
  subst ha
  have hP:=hp _ _ _ rfl (by intro e;subst e;simp at hk')
  exact ⟨b,o,rfl,h3,by omega,fun j u hj=>(World.cell?_of_block (hk b h4 hP).1).trans (hc j u hj)⟩
 ·obtain ⟨x,hx0⟩:∃ x,xs[0]?=some x:=⟨_,List.getElem?_eq_getElem (List.length_pos_iff.2 hne)⟩
  obtain ⟨b,o,ha,h3,h4,hc⟩:=hx 0 x hx0
  subst ha
  obtain ⟨e1, -, -⟩:=Value.slice.inj e
  cases e1
  exact (hk b h4 (hp _ _ _ rfl hne)).2
theorem SlV.high {lo:Nat} {w:World} {v:Value} {xs:List α} (h:SlFr lo sz enc w v xs) (hP:∀ k,P k→k<lo):SlV P sz enc w v xs:=by
 refine ⟨h.mono (Nat.zero_le _),fun q n c e hne hp=>?_⟩
 obtain ⟨a,cap,rfl,h1,h2,hx⟩:=h
 obtain ⟨x,hx0⟩:∃ x,xs[0]?=some x:=⟨_,List.getElem?_eq_getElem (List.length_pos_iff.2 hne)⟩
 obtain ⟨b,o,ha,h3,h4,hc⟩:=hx 0 x hx0
 subst ha
 obtain ⟨e1, -, -⟩:=Value.slice.inj e
 cases e1
 have:=hP _ hp
 simp only at this
 omega
theorem SlV.sub {w:World} {v:Value} {xs:List α} (h:SlV P sz enc w v xs) (hP:∀ k,P' k→P k):SlV P' sz enc w v xs:=⟨h.1,fun q n c e hne hp=>h.2 q n c e hne (hP _ hp)⟩
end
def RwV (P:Nat→Prop) (w:World) (v:Value) (b:Bx):Prop:=∃ vs,SlV P 1 enc1 w v vs∧All2 (SpV P w) vs b
theorem RwV.keep {P P':Nat→Prop} {w w':World} {v:Value} {b:Bx} (h:RwV P w v b) (hz:w.heap.size≤w'.heap.size) (hk:∀ k,k<w.heap.size→¬ P k→w'.heap[k]?=w.heap[k]?∧¬ P' k):RwV P' w' v b :=
 let ⟨vs,h1,h2⟩:=h
 ⟨vs,h1.keep hz hk,h2.mono (fun _ _ g=>g.keep hz hk)⟩
theorem RwV.below {P:Nat→Prop} {w w':World} {v:Value} {b:Bx} (h:RwV P w v b) (hb:Below w.heap.size w w'):RwV P w' v b:=h.keep hb.size (fun k k1 k2=>⟨hb.block k k1,k2⟩)
theorem RwV.high {P:Nat→Prop} {lo:Nat} {w:World} {v:Value} {b:Bx} (h:Rws lo w v b) (hP:∀ k,P k→k<lo):RwV P w v b :=
 let ⟨vs,h1,h2⟩:=h
 ⟨vs,SlV.high h1 hP,h2.mono (fun _ _ g=>(SlV.high g hP:SlV P 2 Sp.enc w _ _))⟩
theorem RwV.sub {P P':Nat→Prop} {w:World} {v:Value} {b:Bx} (h:RwV P w v b) (hP:∀ k,P' k→P k):RwV P' w v b :=
 let ⟨vs,h1,h2⟩:=h
 ⟨vs,h1.sub hP,h2.mono (fun _ _ g=>g.sub hP)⟩
theorem RwV.rws {P:Nat→Prop} {w:World} {v:Value} {b:Bx} (h:RwV P w v b):Rws 0 w v b :=
 let ⟨vs,h1,h2⟩:=h
 ⟨vs,h1.1,h2.mono (fun _ _ g=>g.1)⟩
def BxX (X:Nat→Prop) (lo:Nat) (w:World) (v:Value) (bs:List Bx):Prop :=
 ∃ vs,OwnSl lo 41 1 enc1 w v vs∧All2 (fun r b=>RwV (fun k=>some k=v.ownBlock∨X k) w r b) vs bs
theorem BxX.below {X:Nat→Prop} {lo:Nat} {w w':World} {v:Value} {bs:List Bx} (h:BxX X lo w v bs) (hb:Below w.heap.size w w'):BxX X lo w' v bs:=by
 obtain ⟨vs,h1,h2⟩:=h
 exact ⟨vs,OwnSl.kept h1 hb,h2.mono (fun _ _ g=>g.below hb)⟩
theorem BxX.form {X:Nat→Prop} {lo:Nat} {w:World} {v:Value} {bs:List Bx} (h:BxX X lo w v bs):∃ a c,v=.slice a bs.length c:=by
 obtain ⟨vs,h1,h2⟩:=h
 rw [← h2.1]
 rcases OwnSl.form h1 with ⟨h,h'⟩ | ⟨g,c,h,_⟩
 ·exact ⟨_,_,by rw [h',h];rfl⟩
 ·exact ⟨_,_,h⟩
theorem BxX.push {X:Nat→Prop} {lo H:Nat} {w w2:World} {v v':Value} {bs cs:List Bx} {vs ws:List Value} (h2:All2 (fun r b=>RwV (fun k=>some k=v.ownBlock∨X k) w r b) vs bs)
  (hc:All2 (fun r b=>RwV (fun k=>some k=v.ownBlock∨X k) w r b) ws cs)
  (hg:w.heap.size≤w2.heap.size∧∀ k,k<w.heap.size→some k≠v.ownBlock→w2.heap[k]?=w.heap[k]?) (hat:∀ z,v'.ownBlock=some z→v.ownBlock=some z∨z=H) (hH:w.heap.size≤H)
  (hown:OwnSl lo 41 1 enc1 w2 v' (vs++ws)):BxX X lo w2 v' (bs++cs):=by
 have key:∀ k,k<w.heap.size→¬ (some k=v.ownBlock∨X k)→w2.heap[k]?=w.heap[k]?∧¬ (some k=v'.ownBlock∨X k):=fun k k1 k2=>⟨hg.2 k k1 (fun e=>k2 (.inl e)),fun e=>by
  rcases e with e | e
  ·rcases hat k e.symm with h | h
   ·exact k2 (.inl h.symm)
   ·omega
  ·exact k2 (.inr e)⟩
 refine ⟨vs++ws,hown,?_⟩
 have e1:=h2.mono (S:=fun r b=>RwV (fun k=>some k=v'.ownBlock∨X k) w2 r b) (fun _ _ g=>g.keep hg.1 key)
 have e2:=hc.mono (S:=fun r b=>RwV (fun k=>some k=v'.ownBlock∨X k) w2 r b) (fun _ _ g=>g.keep hg.1 key)
 refine ⟨by rw [List.length_append,List.length_append,e1.1,e2.1],fun k x y hx hy=>?_⟩
 by_cases hk:k<vs.length
 ·rw [List.getElem?_append_left hk] at hx
  rw [List.getElem?_append_left (by rw [← e1.1];exact hk)] at hy
  exact e1.2 k x y hx hy
 ·rw [List.getElem?_append_right (by omega)] at hx
  rw [List.getElem?_append_right (by rw [← e1.1];omega),← e1.1] at hy
  exact e2.2 _ x y hx hy
theorem SpV.own2 {P:Nat→Prop} {base:Nat} {w:World} {v:Value} {xs:List Sp} (h:OwnSp base w v xs) (hP:∀ k,P k→k<base∨w.heap.size≤k):SpV P w v xs:=by
 refine ⟨(OwnSp.sps h).mono (Nat.zero_le _),fun q n c e hne hp=>?_⟩
 rcases OwnSl.form h with ⟨_,h'⟩ | ⟨g,c',h',hg,hg2,_⟩
 ·exact hne h'
 ·rw [e] at h'
  obtain ⟨e1, -, -⟩:=Value.slice.inj h'
  cases e1
  have:=hP _ hp
  simp only at this
  omega
theorem GRw.setV {P:Nat→Prop} {w:World} {lo hi q n cap:Nat} {b:Bx} (h:GRw w lo hi (.slice (some ⟨q,0,none⟩) n cap) b) (hP:∀ k,P k→k<lo) {k:Nat} (hk:k<b.length) {s:Value} {xs:List Sp} (hs:SpV (fun j=>j=q∨P j) w s xs) :
  RwV P (w.setCell ⟨q,k,none⟩ s) (.slice (some ⟨q,0,none⟩) n cap) (b.set k xs):=by
 obtain ⟨vs,h1, -,h3⟩:=h.bx
 obtain ⟨y,hy⟩:∃ y,vs[k]?=some y:=⟨_,List.getElem?_eq_getElem (by rw [h3.1];exact hk)⟩
 have hn:n=vs.length:=by
  rcases OwnSl.form h1 with ⟨h,_⟩ | ⟨q,c,h,_⟩
  ·cases h
  ·cases h;rfl
 have hkeep:∀ j,j<w.heap.size→¬ (j=q∨P j)→(w.setCell ⟨q,k,none⟩ s).heap[j]?=w.heap[j]?∧¬ P j:=fun j _ j2=>⟨Below.heap_setCell _ _ _ _ (fun e=>j2 (.inl e)),fun e=>j2 (.inr e)⟩
 obtain ⟨s1,s2⟩:=OwnSl.storeAt (sz:=1) (enc:=enc1) (fun _=>rfl) hn h1 hy (j:=0) (c:=s) (y':=s) (by decide) rfl
 rw [Nat.mul_one,Nat.add_zero] at s1
 refine ⟨vs.set k s,SlV.high (OwnSl.fr (sz:=1) (enc:=enc1) (fun _=>rfl) s1) hP,?_⟩
 refine All2.set (h3.mono (fun vv yy g=>?_)) (hs.keep (by simp) hkeep) k
 have g1:=SpV.of_hole g
 have g2:SpV P w vv yy:=by
  have g3:Sps lo w vv yy:=(g.sub (Sb.out _ _ _)).sub (Sb.out _ _ _)
  exact SlV.high g3 hP
 have g4:SpV (fun j=>j=q∨P j) w vv yy:=⟨g2.1,fun qq n c e hne hp=>by
  rcases hp with hp | hp
  ·exact g1.2 qq n c e hne (by rw [hp];rfl)
  ·exact g2.2 qq n c e hne hp⟩
 exact g4.keep (by simp) hkeep
theorem GRw.ptr {w:World} {lo hi:Nat} {v:Value} {b:Bx} (h:GRw w lo hi v b) (hb:0<b.length):∃ q cap,v=.slice (some ⟨q,0,none⟩) b.length cap∧lo≤q∧q<w.heap.size∧(∀ o,w.frozen? ⟨q,o,none⟩=false)∧∀ k,k<b.length→∃ s,w.cell? ⟨q,k,none⟩=some s:=by
 obtain ⟨q,cap,rfl,h1,h2,h3,h4,h5⟩:=h.bx.ptr hb
 refine ⟨q,cap,rfl,h1,h2,h5,fun k hk=>?_⟩
 obtain ⟨s,xs,hc,_⟩:=h.bx.at hk
 exact ⟨s,hc⟩
theorem bv_len {b:Bx} (h:bvalid b=true):b.length=4∧∀ (k:Nat) xs,b[k]?=some xs→xs.length≤40:=⟨(bvalid_four h).1,fun k xs hx=>svalid_len ((bvalid_four h).2 k xs (by have:=(List.getElem?_eq_some_iff.1 hx).1;have:=(bvalid_four h).1;omega) hx)⟩
theorem sother_len {t:Int}:∀ (k:Int) (xs:List Sp),(sother t k xs).length≤xs.length+1
 | k,[]=>by unfold sother;split<;>simp
 | k,s::xs=>by
  unfold sother
  have:=sother_len (t:=t) (s.hi+1) xs
  rw [List.length_append]
  split<;>simp<;>omega
theorem bmix_lens {a b:Bx} (ha:bvalid a=true) (hb:bvalid b=true) {n:Nat} (hn:n≤4):∀ (k:Nat) xs,(bmix a b n)[k]?=some xs→xs.length≤2000:=by
 intro k xs hx
 have la:=bv_len ha
 have lb:=bv_len hb
 by_cases hk:k<n
 ·rw [bmix_lt la.1 lb.1 hn hk] at hx
  obtain ⟨x,y,hx1,hy1,rfl⟩:=bmeet_at hx
  have h1:=smi_len y x
  have:=la.2 k x hx1
  have:=lb.2 k y hy1
  have h2:x.length*y.length≤40*40:=Nat.mul_le_mul (by omega) (by omega)
  omega
 ·rw [bmix_ge la.1 lb.1 hn (by omega)] at hx
  have:=la.2 k xs hx
  omega
set_option maxHeartbeats 4000000 in
set_option maxRecDepth 100000 in
theorem l11Cut_any {lo':Nat} (X:Nat→Prop) (a b:Bx) (u v:Value) (w:World) (hXX:∀ k,X k→k<w.heap.size) (hs:RwV X w u a) (ht:Rws lo' w v b) (ha:bvalid a=true) (hb:bvalid b=true) :
  Calls Tryz.prog 70 #[.agg #[u],.agg #[v]] w fun e w'=>∃ z,e=.returned z∧BxX X w.heap.size w' z (bcut a b)∧Below w.heap.size w w':=by
 obtain ⟨ua,uc,rfl,hlc,hcm⟩:=hs.rws.form
 obtain ⟨va,vc,rfl,hlc',hcm'⟩:=ht.form
 obtain ⟨la,la2⟩:=bv_len ha
 obtain ⟨lb,lb2⟩:=bv_len hb
 rw [la] at hlc
 rw [lb] at hlc'
 obtain ⟨i0,hi,hy0,hy1,hy2⟩:=info_parts infoBx
 have hXX:=Lib.hid hXX
 have HS:=Lib.hid hs
 have HT:=Lib.hid ht
 have LA:=Lib.hid la
 have LB:=Lib.hid lb
 have LA2:=Lib.hid la2
 have LB2:=Lib.hid lb2
 have hcl:(((w.alloc (.cells #[.slice ua 4 uc] 41)).alloc (.cells #[.slice va 4 vc] 41)).alloc (.cells #[] 41)).cell? ⟨w.heap.size,0,none⟩=some (.slice ua 4 uc)∧(((w.alloc (.cells #[.slice ua 4 uc] 41)).alloc (.cells #[.slice va 4 vc] 41)).alloc (.cells #[] 41)).cell? ⟨w.heap.size+1,0,none⟩=some (.slice va 4 vc)∧(((w.alloc (.cells #[.slice ua 4 uc] 41)).alloc (.cells #[.slice va 4 vc] 41)).alloc (.cells #[] 41)).heap.size=w.heap.size+1+1+1:=by
  refine ⟨by go_simp,by go_simp,by simp⟩
 have hal:Below w.heap.size w (((w.alloc (.cells #[.slice ua 4 uc] 41)).alloc (.cells #[.slice va 4 vc] 41)).alloc (.cells #[] 41)):=by (repeat' (first | with_reducible exact Below.refl _ _ | with_reducible assumption | with_reducible refine Below.setCell ?_ ?_ _ | with_reducible refine Below.alloc ?_ ?_ _ | with_reducible refine Below.drew ?_ | with_reducible refine belDrewN ?_ _ | with_reducible refine Below.trans ?_ (Below.mono (by assumption) ?_) | omega | (simp;omega) | (simp;done)))
 have hO0:OwnSl w.heap.size 41 1 enc1 (((w.alloc (.cells #[.slice ua 4 uc] 41)).alloc (.cells #[.slice va 4 vc] 41)).alloc (.cells #[] 41)) (.slice (some ⟨w.heap.size+1+1,0,none⟩) 0 0) ([]:List Value):=by
  have:=litOwn 41 1 enc1 (base:=w.heap.size) (w:=(w.alloc (.cells #[.slice ua 4 uc] 41)).alloc (.cells #[.slice va 4 vc] 41)) (by simp;omega)
  simpa using this
 rw [la,lb]
 clear la lb la2 lb2 hs ht
 go_enter Tryz.func70,Tryz.ntmps70
 go_wp2_with fail
 obtain ⟨W,hW⟩:∃ W,((w.alloc (.cells #[.slice ua 4 uc] 41)).alloc (.cells #[.slice va 4 vc] 41)).alloc (.cells #[] 41)=W:=⟨_,rfl⟩
 rw [hW] at hcl hal hO0 ⊢
 clear hW
 obtain ⟨a0,b0,hzW⟩:=hcl
 have hzW1:W.heap.size≤w.heap.size+1+1+1:=by omega
 have hzW2:w.heap.size+1+1+1≤W.heap.size:=by omega
 clear hzW
 have HSA:=Lib.hid (show Rws 0 w (.slice ua 4 uc) a from by have:=HS.out.rws;rwa [LA.out] at this)
 have HTB:=Lib.hid (show Rws lo' w (.slice va 4 vc) b from by have:=HT.out;rwa [LB.out] at this)
 refine (l10Meet_any a b _ _ W (HSA.out.below hal) (HTB.out.below hal) LA.out LB.out (fun k xs h=>by have:=LA2.out k xs h;omega) (fun k xs h=>by have:=LB2.out k xs h;omega)).mono ?_
 rintro e w1 ⟨v1,rfl,hm1,hb1⟩
 have hr1:=hm1.rws
 clear hm1
 have hz1:=hb1.size
 obtain ⟨em,hem⟩:∃ em,bempty (bmeet a b)=em:=⟨_,rfl⟩
 have HEM:=Lib.hid hem
 go_wp2_with fail
 refine (l10Empty_b hr1 hem).mono ?_
 rintro e w2 ⟨rfl,hb2⟩
 have hb12:Below W.heap.size W w2:=hb1.trans (hb2.mono hz1)
 have hw2:Below w.heap.size w w2:=hal.trans (hb12.mono (by omega))
 have hz2:=hb12.size
 have a2:=(hb12.cell (p:=⟨w.heap.size,0,none⟩) (by simp only;omega)).trans a0
 have b2:=(hb12.cell (p:=⟨w.heap.size+1,0,none⟩) (by simp only;omega)).trans b0
 have HO2:=Lib.hid (OwnSl.kept hO0 hb12)
 clear hem hr1 hb1 hb2 hal hb12 a0 b0 hO0
 cases em
 ·have HCT:=Lib.hid (show bcut a b=bcuts a b 4 by unfold bcut;rw [HEM.out];rfl)
  have hDN:Below w.heap.size w (w2.alloc (.cells #[.slice ua 4 uc] 41)):=hw2.alloc (by omega) _
  have halL:Below w2.heap.size w2 (w2.alloc (.cells #[.slice ua 4 uc] 41)):=bR.alloc (Nat.le_refl _) _
  go_wp2_with fail
  go_loopw [5,7] (fun o i wr=>∃ (n:Nat) (la:Option Addr) (lc:Nat),n≤4∧i=.int .i64 n∧wr.cell? ⟨w2.heap.size,0,none⟩=some (.slice la 4 lc)∧wr.frozen? ⟨w2.heap.size,0,none⟩=false∧wr.cell? ⟨w.heap.size+1,0,none⟩=some (.slice va 4 vc)
   ∧ Hid (RwV (fun k=>some k=o.ownBlock∨(X k∨k=w2.heap.size)) wr (.slice la 4 lc) (bmix a b n))∧Hid (BxX (fun k=>X k∨k=w2.heap.size) w.heap.size wr o (bcuts a b n))∧Hid (∀ z,o.ownBlock=some z→z=w.heap.size+1+1∨w2.heap.size<z)∧w2.heap.size<wr.heap.size∧Below w.heap.size w wr) (fun _ i _=>4 - (intOf i).toNat)
  case atStart =>
   refine ⟨0,ua,uc,by omega,rfl,by simp,by simp,(halL.cell (p:=⟨w.heap.size+1,0,none⟩) (by simp only;omega)).trans b2,Lib.hid ?_,Lib.hid ⟨[],OwnSl.kept HO2.out halL,All2.nil⟩,Lib.hid (fun z hz=>by cases hz;exact .inl rfl),by simp,hDN⟩
   rw [bmix_zero]
   have h1:=HS.out
   rw [LA.out] at h1
   exact h1.keep hDN.size (fun j j1 j2=>⟨hDN.block j j1,fun e=>by
    rcases e with e | e | e
    ·have e2:j=w.heap.size+1+1:=Option.some.inj e
     omega
    ·exact j2 e
    ·omega⟩)
  case round =>
   obtain ⟨k,pa,pc,hk4,rfl,cl,fl,cb,HL,HB,HZ,hzl,hbr⟩:=hrel
   have hzr:=hbr.size
   clear a2 b2 HO2
   by_cases hlt:k<4
   ·have i1:(k:Int)<4:=by omega
    have i2:(0:Int)≤(k:Int):=by omega
    obtain ⟨x,hx1,vx⟩:=bvalid_get ha hlt
    obtain ⟨y,hy1,vy⟩:=bvalid_get hb hlt
    have hLr:=HL.out.rws
    have hTr:=HTB.out.below hbr
    obtain ⟨b1,o1,sv,rfl,hbl1,d1,hss⟩:=hLr.at (show (bmix a b k)[k]?=some x by rw [bmix_ge LA.out LB.out hk4 (Nat.le_refl _)];exact hx1)
    obtain ⟨b2,o2,tv,rfl,hbl2,d2,htt⟩:=hTr.at hy1
    obtain ⟨L,hL⟩:∃ L,bout a b k=L:=⟨_,rfl⟩
    have HL1:=Lib.hid hL
    have HLE:=Lib.hid (show smeet x (sother (top k) 0 y)=L by rw [← hL];unfold bout;rw [getD_get hx1,getD_get hy1])
    have HX1:=Lib.hid hx1
    have HY1:=Lib.hid hy1
    have GY:=Lib.hid (svalid_good vy)
    have hxl:=svalid_len vx
    have hyl:=svalid_len vy
    have HSS:=Lib.hid hss
    have HTT:=Lib.hid htt
    have HLR:=Lib.hid hLr
    obtain ⟨t0,t1⟩:=top_le hlt
    have hso:=sother_len (t:=top k) 0 y
    clear hL hx1 hy1 vx vy hss htt hTr hLr
    go_upto_region 10 with (fail)
    (refine wp_region_bel (W:=wr) [BIs (.pointer (some ⟨w2.heap.size,0,none⟩)),BIs (.slice (some ⟨b1,o1,none⟩) 4 pc),BIs (.int .i64 (k:Int)),BIs (.pointer (some ⟨b1,o1+k,none⟩)),BIs (sv),BIs (.pointer (some ⟨w.heap.size+1,0,none⟩)),BIs (.slice (some ⟨b2,o2,none⟩) 4 vc),BIs (.int .i64 (k:Int)),BIs (.pointer (some ⟨b2,o2+k,none⟩)),BIs (tv),BIs (.int .i64 (k:Int)),(BIs (.int .i64 (top k))),(fun w v=>OwnSp wr.heap.size w v (sother (top k) 0 y)),(fun w v=>OwnSp wr.heap.size w v L),(fun w v=>OwnSp wr.heap.size w v L)] (by kernel_rfl) (fun u=>by simp only [frU,Act.put,List.setIfInBounds_toArray,List.set_cons_succ,List.set_cons_zero,Nat.zero_add,Nat.reduceAdd];exact rfl) (by kernel_rfl) ⟨bst_is _,bst_is _,bst_is _,bst_is _,bst_is _,bst_is _,bst_is _,bst_is _,bst_is _,bst_is _,bst_is _,(bst_is _),(fun _ _ _ hb h=>OwnSl.kept h hb),(fun _ _ _ hb h=>OwnSl.kept h hb),(fun _ _ _ hb h=>OwnSl.kept h hb),trivial⟩ ?_ ?_;exact ⟨stB rfl (fun u w3 hC hd Q K hK=>by (go_step;exact hK _ _ rfl bR rfl)),stB rfl (fun u w3 hC hd Q K hK=>by (rw [bis (w:=w3) (hd 0 rfl)] at hK ⊢;have z1:=(hC.cell (p:=⟨w2.heap.size,0,none⟩) hzl).trans cl;go_step;exact hK _ _ rfl bR rfl)),stB rfl (fun u w3 hC hd Q K hK=>by (go_step;exact hK _ _ rfl bR rfl)),stB rfl (fun u w3 hC hd Q K hK=>by (rw [bis (w:=w3) (hd 1 rfl)] at hK ⊢;rw [bis (w:=w3) (hd 2 rfl)] at hK ⊢;go_step;exact hK _ _ rfl bR rfl)),stB rfl (fun u w3 hC hd Q K hK=>by (rw [bis (w:=w3) (hd 3 rfl)] at hK ⊢;have z1:=(hC.cell (p:=⟨b1,o1+k,none⟩) hbl1).trans d1;go_step;exact hK _ _ rfl bR rfl)),stB rfl (fun u w3 hC hd Q K hK=>by (go_step;exact hK _ _ rfl bR rfl)),stB rfl (fun u w3 hC hd Q K hK=>by (rw [bis (w:=w3) (hd 5 rfl)] at hK ⊢;have z1:=(hC.cell (p:=⟨w.heap.size+1,0,none⟩) (by simp only;omega)).trans cb;go_step;exact hK _ _ rfl bR rfl)),stB rfl (fun u w3 hC hd Q K hK=>by (go_step;exact hK _ _ rfl bR rfl)),stB rfl (fun u w3 hC hd Q K hK=>by (rw [bis (w:=w3) (hd 6 rfl)] at hK ⊢;rw [bis (w:=w3) (hd 7 rfl)] at hK ⊢;go_step;exact hK _ _ rfl bR rfl)),stB rfl (fun u w3 hC hd Q K hK=>by (rw [bis (w:=w3) (hd 8 rfl)] at hK ⊢;have z1:=(hC.cell (p:=⟨b2,o2+k,none⟩) hbl2).trans d2;go_step;exact hK _ _ rfl bR rfl)),stB rfl (fun u w3 hC hd Q K hK=>by (go_step;exact hK _ _ rfl bR rfl)),stB rfl (fun u w3 hC hd Q K hK=>by (rw [bis (w:=w3) (hd 10 rfl)] at hK ⊢;go_step;refine (specFTop_any k hlt _).mono ?_;rintro e w4 ⟨rfl,rfl⟩;exact hK _ _ rfl bR rfl)),stB rfl (fun u w3 hC hd Q K hK=>by (rw [bis (w:=w3) (hd 9 rfl)] at hK ⊢;rw [bis (w:=w3) (hd 11 rfl)] at hK ⊢;go_step;refine (l2Other_any y _ _ _ (HTT.out.below hC) (by omega) GY.out t1).mono ?_;rintro e w4 ⟨z4,rfl,ho4,hb4⟩;exact hK _ _ rfl hb4 (OwnSl.mono ho4 hC.size))),stB rfl (fun u w3 hC hd Q K hK=>by (rw [bis (w:=w3) (hd 4 rfl)] at hK ⊢;have ho1:=hd 12 rfl;generalize u 12=v1 at *;go_step;refine (l2Meet_any x (sother (top k) 0 y) _ _ _ (HSS.out.below hC) (OwnSp.sps ho1) (by omega) (by omega)).mono ?_;rintro e w4 ⟨z4,rfl,ho4,hb4⟩;exact hK _ _ rfl hb4 (HLE.out ▸ OwnSl.mono ho4 hC.size))),stB rfl (fun u w3 hC hd Q K hK=>by (have ho1:=hd 13 rfl;generalize u 13=v1 at *;go_step;exact hK _ _ rfl bR ho1)),trivial⟩);intro u w9 hb_w9 hF;rw [bis (w:=w9) (hF 0 (by decide))];rw [bis (w:=w9) (hF 1 (by decide))];rw [bis (w:=w9) (hF 2 (by decide))];rw [bis (w:=w9) (hF 3 (by decide))];rw [bis (w:=w9) (hF 4 (by decide))];rw [bis (w:=w9) (hF 5 (by decide))];rw [bis (w:=w9) (hF 6 (by decide))];rw [bis (w:=w9) (hF 7 (by decide))];rw [bis (w:=w9) (hF 8 (by decide))];rw [bis (w:=w9) (hF 9 (by decide))];rw [bis (w:=w9) (hF 10 (by decide))];generalize u 11=vx11 at *;generalize u 12=vx12 at *;generalize u 13=vx13 at *;have hz8:=hF 14 (by decide);generalize u 14=z8 at *;clear hF
    replace hz8:OwnSp wr.heap.size w9 z8 L:=hz8
    have hz9:=hb_w9.size
    have hw9:Below w.heap.size w w9:=hbr.trans (hb_w9.mono hzr)
    have HZ8:=Lib.hid hz8
    obtain ⟨za,zc,rfl, -, -⟩:=(OwnSp.sps hz8).form
    have cl9:=(hb_w9.cell (p:=⟨w2.heap.size,0,none⟩) hzl).trans cl
    have fl9:=(hb_w9.frozen (p:=⟨w2.heap.size,0,none⟩) hzl).trans fl
    have cb9:=(hb_w9.cell (p:=⟨w.heap.size+1,0,none⟩) (by simp only;omega)).trans cb
    have d19:=(hb_w9.cell (p:=⟨b1,o1+k,none⟩) hbl1).trans d1
    have d29:=(hb_w9.cell (p:=⟨b2,o2+k,none⟩) hbl2).trans d2
    have HSS9:=Lib.hid (HSS.out.below hb_w9)
    have HTT9:=Lib.hid (HTT.out.below hb_w9)
    obtain ⟨M,hM⟩:∃ M,smeet x y=M:=⟨_,rfl⟩
    have HME:=Lib.hid hM
    clear hz8 cl fl cb d1 d2 hM HSS HTT
    go_upto_region 11 with (fail)
    (refine wp_region_bel (W:=w9) [BIs (.pointer (some ⟨w2.heap.size,0,none⟩)),BIs (.slice (some ⟨b1,o1,none⟩) 4 pc),BIs (.int .i64 (k:Int)),BIs (.pointer (some ⟨b1,o1+k,none⟩)),BIs (sv),BIs (.pointer (some ⟨w.heap.size+1,0,none⟩)),BIs (.slice (some ⟨b2,o2,none⟩) 4 vc),BIs (.int .i64 (k:Int)),BIs (.pointer (some ⟨b2,o2+k,none⟩)),BIs (tv),(fun w v=>OwnSp w9.heap.size w v M),(fun w v=>OwnSp w9.heap.size w v M)] (by kernel_rfl) (fun u=>by simp only [frU,Act.put,List.setIfInBounds_toArray,List.set_cons_succ,List.set_cons_zero,Nat.zero_add,Nat.reduceAdd];exact rfl) (by kernel_rfl) ⟨bst_is _,bst_is _,bst_is _,bst_is _,bst_is _,bst_is _,bst_is _,bst_is _,bst_is _,bst_is _,(fun _ _ _ hb h=>OwnSl.kept h hb),(fun _ _ _ hb h=>OwnSl.kept h hb),trivial⟩ ?_ ?_;exact ⟨stB rfl (fun u w3 hC hd Q K hK=>by (go_step;exact hK _ _ rfl bR rfl)),stB rfl (fun u w3 hC hd Q K hK=>by (rw [bis (w:=w3) (hd 0 rfl)] at hK ⊢;have z1:=(hC.cell (p:=⟨w2.heap.size,0,none⟩) (by simp only;omega)).trans cl9;go_step;exact hK _ _ rfl bR rfl)),stB rfl (fun u w3 hC hd Q K hK=>by (go_step;exact hK _ _ rfl bR rfl)),stB rfl (fun u w3 hC hd Q K hK=>by (rw [bis (w:=w3) (hd 1 rfl)] at hK ⊢;rw [bis (w:=w3) (hd 2 rfl)] at hK ⊢;go_step;exact hK _ _ rfl bR rfl)),stB rfl (fun u w3 hC hd Q K hK=>by (rw [bis (w:=w3) (hd 3 rfl)] at hK ⊢;have z1:=(hC.cell (p:=⟨b1,o1+k,none⟩) (by simp only;omega)).trans d19;go_step;exact hK _ _ rfl bR rfl)),stB rfl (fun u w3 hC hd Q K hK=>by (go_step;exact hK _ _ rfl bR rfl)),stB rfl (fun u w3 hC hd Q K hK=>by (rw [bis (w:=w3) (hd 5 rfl)] at hK ⊢;have z1:=(hC.cell (p:=⟨w.heap.size+1,0,none⟩) (by simp only;omega)).trans cb9;go_step;exact hK _ _ rfl bR rfl)),stB rfl (fun u w3 hC hd Q K hK=>by (go_step;exact hK _ _ rfl bR rfl)),stB rfl (fun u w3 hC hd Q K hK=>by (rw [bis (w:=w3) (hd 6 rfl)] at hK ⊢;rw [bis (w:=w3) (hd 7 rfl)] at hK ⊢;go_step;exact hK _ _ rfl bR rfl)),stB rfl (fun u w3 hC hd Q K hK=>by (rw [bis (w:=w3) (hd 8 rfl)] at hK ⊢;have z1:=(hC.cell (p:=⟨b2,o2+k,none⟩) (by simp only;omega)).trans d29;go_step;exact hK _ _ rfl bR rfl)),stB rfl (fun u w3 hC hd Q K hK=>by (rw [bis (w:=w3) (hd 4 rfl)] at hK ⊢;rw [bis (w:=w3) (hd 9 rfl)] at hK ⊢;go_step;refine (l2Meet_any x y _ _ _ (HSS9.out.below hC) (HTT9.out.below hC) (by omega) (by omega)).mono ?_;rintro e w4 ⟨z4,rfl,ho4,hb4⟩;exact hK _ _ rfl hb4 (HME.out ▸ OwnSl.mono ho4 hC.size))),stB rfl (fun u w3 hC hd Q K hK=>by (have ho1:=hd 10 rfl;generalize u 10=v1 at *;go_step;exact hK _ _ rfl bR ho1)),trivial⟩);intro u wA hb_wA hF;rw [bis (w:=wA) (hF 0 (by decide))];rw [bis (w:=wA) (hF 1 (by decide))];rw [bis (w:=wA) (hF 2 (by decide))];rw [bis (w:=wA) (hF 3 (by decide))];rw [bis (w:=wA) (hF 4 (by decide))];rw [bis (w:=wA) (hF 5 (by decide))];rw [bis (w:=wA) (hF 6 (by decide))];rw [bis (w:=wA) (hF 7 (by decide))];rw [bis (w:=wA) (hF 8 (by decide))];rw [bis (w:=wA) (hF 9 (by decide))];generalize u 10=vx10 at *;have hz9o:=hF 11 (by decide);generalize u 11=z9 at *;clear hF
    replace hz9o:OwnSp w9.heap.size wA z9 M:=hz9o
    have hzA:=hb_wA.size
    have hwA:Below w.heap.size w wA:=hw9.trans (hb_wA.mono hw9.size)
    have hbA:Below wr.heap.size wr wA:=hb_w9.trans (hb_wA.mono hz9)
    obtain ⟨ze,zf,rfl, -, -⟩:=(OwnSp.sps hz9o).form
    have clA:=(hb_wA.cell (p:=⟨w2.heap.size,0,none⟩) (by simp only;omega)).trans cl9
    have flA:=(hb_wA.frozen (p:=⟨w2.heap.size,0,none⟩) (by simp only;omega)).trans fl9
    have cbA:=(hb_wA.cell (p:=⟨w.heap.size+1,0,none⟩) (by simp only;omega)).trans cb9
    have hown:∀ z,u5.ownBlock=some z→z<wr.heap.size:=fun z hz=>by
     obtain ⟨vs,g1,_⟩:=HB.out
     exact (World.ownsRow.lt g1 z hz).2
    have HLA:=Lib.hid (HL.out.below hbA)
    have HBA:=Lib.hid (HB.out.below hbA)
    have HZA:=Lib.hid (show SpV (fun j=>some j=u5.ownBlock∨(X j∨j=w2.heap.size)) wA (.slice ze M.length zf) M from SpV.own hz9o (fun j hj=>by
     rcases hj with hj | hj | hj
     ·have:=hown j hj.symm;omega
     ·have:=hXX.out j hj;omega
     ·omega))
    have HZ8A:=Lib.hid (show OwnSp wr.heap.size wA (.slice za L.length zc) L from OwnSl.kept HZ8.out hb_wA)
    clear HL HB HSS9 HTT9 d19 d29 cl9 fl9 cb9 hz9o HZ8 hb_w9 hb_wA
    go_upto_if 57 with (fail)
    go_cut [5] (fun o wx=>wx.cell? ⟨w2.heap.size,0,none⟩=some (.slice (some ⟨b1,o1,none⟩) 4 pc)∧wx.frozen? ⟨w2.heap.size,0,none⟩=false∧wx.cell? ⟨w.heap.size+1,0,none⟩=some (.slice (some ⟨b2,o2,none⟩) 4 vc)
     ∧ Hid (RwV (fun j=>some j=o.ownBlock∨(X j∨j=w2.heap.size)) wx (.slice (some ⟨b1,o1,none⟩) 4 pc) (bmix a b k))∧Hid (BxX (fun k=>X k∨k=w2.heap.size) w.heap.size wx o (bcuts a b (k+1)))∧Hid (∀ z,o.ownBlock=some z→z=w.heap.size+1+1∨w2.heap.size<z)∧w2.heap.size<wx.heap.size∧Hid (SpV (fun j=>some j=o.ownBlock∨(X j∨j=w2.heap.size)) wx (.slice ze M.length zf) M)∧Below w.heap.size w wx)
    case first =>
     cases hle:L.isEmpty
     ·have hpos:(0:Int)<(L.length:Int):=by
       cases L with
       | nil=>simp at hle
       | cons s t=>simp
      have HCE:=Lib.hid (show bcuts a b (k+1)=bcuts a b k++[bpc a b k] by
       conv=>lhs;unfold bcuts
       rw [HL1.out,hle]
       simp)
      clear hle
      have HLA2:=Lib.hid HLA.out.rws
      have HBL:=Lib.hid (bmix_len LA.out LB.out hk4)
      go_wp2_with fail
      refine (ownRows_any (bmix a b k) _ _ HLA2.out (by have:=HBL.out;omega) (fun j xs hj=>by have:=bmix_lens ha hb hk4 j xs hj;omega)).mono ?_
      rintro e wB ⟨v4,rfl,ho4,hb4⟩
      obtain ⟨q,qc,rfl,hq1,hq2,hq3,hq4⟩:=GRw.ptr ho4 (by have:=HBL.out;omega)
      obtain ⟨s4,hs4⟩:=hq4 k (by have:=HBL.out;omega)
      have hzB:=hb4.size
      have hfq:=hq3 k
      have HO4:=Lib.hid ho4
      obtain ⟨vs,hvs,hvb⟩:=HBA.out
      obtain ⟨ua5,uc5,hu5⟩:∃ a c,u5=.slice a vs.length c:=by
       rcases OwnSl.form hvs with ⟨h,h'⟩ | ⟨g,c,h,_⟩
       ·exact ⟨_,_,by rw [h',h];rfl⟩
       ·exact ⟨_,_,h⟩
      subst hu5
      have HVS:=Lib.hid hvs
      have HVB:=Lib.hid hvb
      have HVL:=Lib.hid (show vs.length≤4 by rw [hvb.1];have:=bcuts_len a b k;omega)
      rw [HBL.out]
      clear hq3 hq4 ho4 hvs hvb
      have hbS:Below wA.heap.size wA (wB.setCell ⟨q,k,none⟩ (.slice za L.length zc)):=hb4.setCell (by simp only;omega) _
      have hbC:Below wA.heap.size wA ((wB.setCell ⟨q,k,none⟩ (.slice za L.length zc)).alloc (.cells #[.slice (some ⟨q,0,none⟩) 4 qc] 41)):=hbS.alloc (by simp;omega) _
      have HPC:=Lib.hid (show RwV (fun j=>some j=(Value.slice ua5 vs.length uc5).ownBlock∨(X j∨j=w2.heap.size)) ((wB.setCell ⟨q,k,none⟩ (.slice za L.length zc)).alloc (.cells #[.slice (some ⟨q,0,none⟩) 4 qc] 41)) (.slice (some ⟨q,0,none⟩) 4 qc) (bpc a b k) by
       have h1:=HO4.out
       rw [HBL.out] at h1
       have hP:∀ j,(some j=(Value.slice ua5 vs.length uc5).ownBlock∨(X j∨j=w2.heap.size))→j<wr.heap.size:=fun j hj=>by
        rcases hj with hj | hj | hj
        ·exact hown j hj.symm
        ·have:=hXX.out j hj;omega
        ·omega
       have h2:=GRw.setV (P:=fun j=>some j=(Value.slice ua5 vs.length uc5).ownBlock∨(X j∨j=w2.heap.size)) h1 (fun j hj=>by have:=hP j hj;omega) (k:=k) (by have:=HBL.out;omega) (s:=.slice za L.length zc) (xs:=L)
        (SpV.below (SpV.own2 HZ8A.out (fun j hj=>by
         rcases hj with hj | hj
         ·right;omega
         ·left;exact hP j hj)) hb4)
       have h3:=h2.below (bR.alloc (Nat.le_refl _) (.cells #[.slice (some ⟨q,0,none⟩) 4 qc] 41))
       unfold bpc
       rw [HL1.out]
       exact h3)
      have HCA:=Lib.hid (And.intro hbS hbC)
      have HCL:=Lib.hid (And.intro clA (And.intro flA cbA))
      clear hbS hbC hb4
      go_wp2_with (at_builtin;refine wpList_append_lies _ rfl _ _ 35 rfl w.heap.size 41 i0 _ 1 24 Tryz.underlying35 hi hy0 hy1 hy2 rfl (by decide) _ vs.length (vs.flatMap enc1) rfl (World.ownsRow.alloc (OwnSl.kept HVS.out HCA.out.2) _) ⟨wB.heap.size+1,0,none⟩ 1 1 (enc1 (.slice (some ⟨q,0,none⟩) 4 qc)) rfl rfl ?c1 ?c2 (by decide) ?c3 ?c4 ?c5 _ rfl ?_)
      case c1=>simpa using cellsNew ((wB.setCell ⟨q,k,none⟩ (.slice za L.length zc)).alloc (.cells #[.slice (some ⟨q,0,none⟩) 4 qc] 41)) (enc1 (.slice (some ⟨q,0,none⟩) 4 qc)) 41
      case c2=>simp [Value.oneCell']
      case c3=>have:=HVL.out;simp only [maxLen];omega
      case c4=>have:=HVL.out;omega
      case c5=>simp;omega
      intro g8 cap8 w8 hown8 hgrow8 hlies8 hlt8
      have hown9:OwnSl w.heap.size 41 1 enc1 w8 (.slice (some ⟨g8,0,none⟩) (vs.length+1) cap8) (vs++[.slice (some ⟨q,0,none⟩) 4 qc]):=by unfold OwnSl;simpa using hown8
      obtain ⟨hz8,hk8⟩:=grown_old hgrow8
      have hzC:((wB.setCell ⟨q,k,none⟩ (.slice za L.length zc)).alloc (.cells #[.slice (some ⟨q,0,none⟩) 4 qc] 41)).heap.size=wB.heap.size+1:=by simp
      have hB8:Below w.heap.size w w8:=belGrown ((hwA.trans (HCA.out.2.mono hwA.size)).alloc (by omega) _) (World.ownsRow.alloc (OwnSl.kept HVS.out HCA.out.2) _) hgrow8 (by simp;omega)
      have hne:∀ j,j<wA.heap.size→some j≠(Value.slice ua5 vs.length uc5).ownBlock→w8.heap[j]?=wA.heap[j]?:=fun j hj hjn=>(hk8 j (by omega) hjn).trans (HCA.out.2.block j hj)
      have hof:∀ j,(j=w2.heap.size∨j=w.heap.size+1)→some j≠(Value.slice ua5 vs.length uc5).ownBlock:=fun j hj e=>by have:=HZ.out j e.symm;omega
      have cl8:=(World.cell?_of_block (w:=wA) (w':=w8) (a:=⟨w2.heap.size,0,none⟩) (hne w2.heap.size (by omega) (hof _ (.inl rfl)))).trans HCL.out.1
      have fl8:=(World.frozen?_of_block (w:=wA) (w':=w8) (a:=⟨w2.heap.size,0,none⟩) (hne w2.heap.size (by omega) (hof _ (.inl rfl)))).trans HCL.out.2.1
      have cb8:=(World.cell?_of_block (w:=wA) (w':=w8) (a:=⟨w.heap.size+1,0,none⟩) (hne (w.heap.size+1) (by omega) (hof _ (.inr rfl)))).trans HCL.out.2.2
      have hat:∀ z,(Value.slice (some ⟨g8,0,none⟩) (vs.length+1) cap8).ownBlock=some z→(Value.slice ua5 vs.length uc5).ownBlock=some z∨z=wB.heap.size+2:=fun z hz=>by cases hz;simpa using hlies8
      have HZ8:=Lib.hid (show ∀ z,(Value.slice (some ⟨g8,0,none⟩) (vs.length+1) cap8).ownBlock=some z→z=w.heap.size+1+1∨w2.heap.size<z from fun z hz=>by
       rcases hat z hz with h | h
       ·exact HZ.out z h
       ·right;omega)
      have key:∀ j,j<wA.heap.size→¬ (some j=(Value.slice ua5 vs.length uc5).ownBlock∨(X j∨j=w2.heap.size))→w8.heap[j]?=wA.heap[j]?∧¬ (some j=(Value.slice (some ⟨g8,0,none⟩) (vs.length+1) cap8).ownBlock∨(X j∨j=w2.heap.size)):=fun j hj hjn=>⟨hne j hj (fun e=>hjn (.inl e)),fun e=>by
       rcases e with e | e
       ·rcases hat j e.symm with h | h
        ·exact hjn (.inl h.symm)
        ·omega
       ·exact hjn (.inr e)⟩
      have HL8:=Lib.hid (show RwV (fun j=>some j=(Value.slice (some ⟨g8,0,none⟩) (vs.length+1) cap8).ownBlock∨(X j∨j=w2.heap.size)) w8 (.slice (some ⟨b1,o1,none⟩) 4 pc) (bmix a b k) from HLA.out.keep (by omega) key)
      have HM8:=Lib.hid (show SpV (fun j=>some j=(Value.slice (some ⟨g8,0,none⟩) (vs.length+1) cap8).ownBlock∨(X j∨j=w2.heap.size)) w8 (.slice ze M.length zf) M from HZA.out.keep (by omega) key)
      have HB8:=Lib.hid (show BxX (fun k=>X k∨k=w2.heap.size) w.heap.size w8 (.slice (some ⟨g8,0,none⟩) (vs.length+1) cap8) (bcuts a b (k+1)) by
       rw [HCE.out]
       exact BxX.push (w:=(wB.setCell ⟨q,k,none⟩ (.slice za L.length zc)).alloc (.cells #[.slice (some ⟨q,0,none⟩) 4 qc] 41)) (v:=.slice ua5 vs.length uc5) (H:=wB.heap.size+2) (ws:=[.slice (some ⟨q,0,none⟩) 4 qc]) (HVB.out.mono (fun _ _ g=>g.below HCA.out.2)) (All2.nil.snoc HPC.out) ⟨hz8,hk8⟩ hat (by rw [hzC];omega) hown9)
      have hzz:w2.heap.size<w8.heap.size:=by omega
      clear hown8 hgrow8 hlies8 hlt8 hown9 hk8 hne key hat
      go_wp2
      go_meet
      exact ⟨cl8,fl8,cb8,HL8,HB8,HZ8,hzz,HM8,hB8⟩
     ·have HCE:=Lib.hid (show bcuts a b (k+1)=bcuts a b k by
       conv=>lhs;unfold bcuts
       rw [HL1.out,hle]
       simp)
      obtain rfl:L=[]:=by simpa using hle
      clear hle
      go_wp2_with fail
      go_meet
      exact ⟨clA,flA,cbA,HLA,by rw [HCE.out];exact HBA,HZ,by omega,HZA,hwA⟩
    case rest =>
     obtain ⟨cl,fl,cb,HL,HB,HZ',hzl',HZM,hwc⟩:=hcut
     have hzc:=hwc.size
     have HL2:=Lib.hid HL.out.rws
     have HBL:=Lib.hid (bmix_len LA.out LB.out hk4)
     go_wp2_with fail
     refine (ownRows_any (bmix a b k) _ _ HL2.out (by have:=HBL.out;omega) (fun j xs hj=>by have:=bmix_lens ha hb hk4 j xs hj;omega)).mono ?_
     rintro e wB ⟨v4,rfl,ho4,hb4⟩
     obtain ⟨q,qc,rfl,hq1,hq2,hq3,hq4⟩:=GRw.ptr ho4 (by have:=HBL.out;omega)
     obtain ⟨s4,hs4⟩:=hq4 k (by have:=HBL.out;omega)
     have hzB:=hb4.size
     have hfq:=hq3 k
     have cl4:=(hb4.cell (p:=⟨w2.heap.size,0,none⟩) hzl').trans cl
     have fl4:=(hb4.frozen (p:=⟨w2.heap.size,0,none⟩) hzl').trans fl
     have cb4:=(hb4.cell (p:=⟨w.heap.size+1,0,none⟩) (by simp only;omega)).trans cb
     have HO4:=Lib.hid ho4
     rw [HBL.out]
     clear hq3 hq4 ho4
     have hqn:w2.heap.size≠q:=by omega
     have hlB:w2.heap.size<(wB.setCell ⟨q,k,none⟩ (.slice ze M.length zf)).heap.size:=by simp;omega
     have dl4:((wB.setCell ⟨q,k,none⟩ (.slice ze M.length zf)).alloc (.cells #[.slice (some ⟨q,0,none⟩) 4 qc] 41)).cell? ⟨w2.heap.size,0,none⟩=some (.slice (some ⟨b1,o1,none⟩) 4 pc):=by
      rw [World.cell?_alloc_lt _ _ ⟨w2.heap.size,0,none⟩ hlB,World.cell?_setCell_other _ _ _ _ (by simp)];exact cl4
     have df4:((wB.setCell ⟨q,k,none⟩ (.slice ze M.length zf)).alloc (.cells #[.slice (some ⟨q,0,none⟩) 4 qc] 41)).frozen? ⟨w2.heap.size,0,none⟩=false:=by
      rw [World.frozen?_alloc_old _ _ ⟨w2.heap.size,0,none⟩ (Nat.ne_of_lt hlB),World.frozen?_setCell];exact fl4
     have hbC:Below wc.heap.size wc ((wB.setCell ⟨q,k,none⟩ (.slice ze M.length zf)).alloc (.cells #[.slice (some ⟨q,0,none⟩) 4 qc] 41)):=(hb4.setCell (by simp only;omega) _).alloc (by simp;omega) _
     have HPC:=Lib.hid (show RwV (fun j=>some j=u5.ownBlock∨(X j∨j=w2.heap.size)) ((wB.setCell ⟨q,k,none⟩ (.slice ze M.length zf)).alloc (.cells #[.slice (some ⟨q,0,none⟩) 4 qc] 41)) (.slice (some ⟨q,0,none⟩) 4 qc) (bmix a b (k+1)) by
      have h1:=HO4.out
      rw [HBL.out] at h1
      have hP:∀ j,(some j=u5.ownBlock∨(X j∨j=w2.heap.size))→j<wc.heap.size:=fun j hj=>by
       rcases hj with hj | hj | hj
       ·obtain ⟨vs,g1,_⟩:=HB.out
        exact (World.ownsRow.lt g1 j hj.symm).2
       ·have:=hXX.out j hj;omega
       ·omega
      have h2:=GRw.setV (P:=fun j=>some j=u5.ownBlock∨(X j∨j=w2.heap.size)) h1 hP (k:=k) (by have:=HBL.out;omega) (s:=.slice ze M.length zf) (xs:=M)
       (show SpV _ wB _ _ from ⟨(HZM.out.below hb4).1,fun qq n c e hne hp=>by
        rcases hp with hp | hp
        ·obtain ⟨x0,hx0⟩:∃ x,M[0]?=some x:=⟨_,List.getElem?_eq_getElem (List.length_pos_iff.2 hne)⟩
         obtain ⟨⟨aa,cap,e1,h1,h2,hxx⟩,_⟩:=HZM.out
         obtain ⟨bb,oo,ha,h3,h4,hc⟩:=hxx 0 x0 hx0
         rw [ha] at e1
         rw [e] at e1
         obtain ⟨e2, -, -⟩:=Value.slice.inj e1
         cases e2
         simp only at hp
         omega
        ·exact HZM.out.2 qq n c e hne hp⟩)
      have h3:=h2.below (bR.alloc (Nat.le_refl _) (.cells #[.slice (some ⟨q,0,none⟩) 4 qc] 41))
      have h4:=bmix_succ LA.out LB.out hlt HX1.out HY1.out
      rw [HME.out] at h4
      rw [h4] at h3
      exact h3)
     go_wp2
     all_goals
      obtain ⟨W4,hW4⟩:∃ W4,(wB.setCell ⟨q,k,none⟩ (.slice ze M.length zf)).alloc (.cells #[.slice (some ⟨q,0,none⟩) 4 qc] 41)=W4:=⟨_,rfl⟩
      have cb5:W4.cell? ⟨w.heap.size+1,0,none⟩=some (.slice (some ⟨b2,o2,none⟩) 4 vc):=(show W4.cell? ⟨w.heap.size+1,0,none⟩=wc.cell? ⟨w.heap.size+1,0,none⟩ by rw [← hW4];exact hbC.cell (p:=⟨w.heap.size+1,0,none⟩) (by simp only;omega)).trans cb
      rw [hW4] at dl4 df4 hbC HPC ⊢
      have hz5:=hbC.size
      have e1:(W4.setCell ⟨w2.heap.size,0,none⟩ (.slice (some ⟨q,0,none⟩) 4 qc)).cell? ⟨w2.heap.size,0,none⟩=some (.slice (some ⟨q,0,none⟩) 4 qc):=World.cell?_setCell_same' _ _ _ (by rw [dl4];rfl)
      have e2:(W4.setCell ⟨w2.heap.size,0,none⟩ (.slice (some ⟨q,0,none⟩) 4 qc)).frozen? ⟨w2.heap.size,0,none⟩=false:=by rw [World.frozen?_setCell];exact df4
      have e3:(W4.setCell ⟨w2.heap.size,0,none⟩ (.slice (some ⟨q,0,none⟩) 4 qc)).cell? ⟨w.heap.size+1,0,none⟩=some (.slice (some ⟨b2,o2,none⟩) 4 vc):=by
       rw [World.cell?_setCell_other _ _ _ _ (by simp)];exact cb5
      have key:∀ j,j<wc.heap.size→¬ (some j=u5.ownBlock∨(X j∨j=w2.heap.size))→(W4.setCell ⟨w2.heap.size,0,none⟩ (.slice (some ⟨q,0,none⟩) 4 qc)).heap[j]?=wc.heap[j]?∧¬ (some j=u5.ownBlock∨(X j∨j=w2.heap.size)):=fun j hj hjn =>
       ⟨(Below.heap_setCell _ _ _ _ (fun e=>hjn (.inr (.inr e)))).trans (hbC.block j hj),hjn⟩
      have HP6:=Lib.hid (HPC.out.keep (P':=fun j=>some j=u5.ownBlock∨(X j∨j=w2.heap.size)) (w':=W4.setCell ⟨w2.heap.size,0,none⟩ (.slice (some ⟨q,0,none⟩) 4 qc)) (by simp) (fun j _ hjn=>⟨Below.heap_setCell _ _ _ _ (fun e=>hjn (.inr (.inr e))),hjn⟩))
      have HB6:=Lib.hid (show BxX (fun k=>X k∨k=w2.heap.size) w.heap.size (W4.setCell ⟨w2.heap.size,0,none⟩ (.slice (some ⟨q,0,none⟩) 4 qc)) u5 (bcuts a b (k+1)) by
       obtain ⟨vs,g1,g2⟩:=HB.out
       refine ⟨vs,g1.keepB (fun g h1 _ h3=>?_),g2.mono (fun _ _ g=>g.keep (by simp;omega) key)⟩
       refine (Below.heap_setCell _ _ _ _ (fun e=>?_)).trans (hbC.block g h3)
       have e7:g=w2.heap.size:=e
       have:=HZ'.out g h1
       omega)
      have hz6:w2.heap.size<(W4.setCell ⟨w2.heap.size,0,none⟩ (.slice (some ⟨q,0,none⟩) 4 qc)).heap.size:=by simp;omega
      have hB6:Below w.heap.size w (W4.setCell ⟨w2.heap.size,0,none⟩ (.slice (some ⟨q,0,none⟩) 4 qc)):=(hwc.trans (hbC.mono hzc)).setCell (by simp only;omega) _
      go_roundw
      case rel=>exact ⟨k+1,_,_,by omega,by go_num,e1,e2,e3,HP6,HB6,HZ',hz6,hB6⟩
      case measure=>simp [intOf];omega
   ·have hkn:k=4:=by omega
    subst hkn
    go_wp2
    go_ret
    refine ⟨_,rfl,?_,hbr⟩
    rw [HCT.out]
    obtain ⟨vs,g1,g2⟩:=HB.out
    exact ⟨vs,g1,g2.mono (fun _ _ g=>g.sub (fun k hk=>hk.elim .inl (fun h=>.inr (.inl h))))⟩
 ·obtain ⟨ea,hea⟩:∃ ea,bempty a=ea:=⟨_,rfl⟩
  have HEA:=Lib.hid hea
  go_wp2_with fail
  refine (l10Empty_b (HSA.out.below hw2) hea).mono ?_
  rintro e w3 ⟨rfl,hb3⟩
  have hw3:Below w.heap.size w w3:=hw2.trans (hb3.mono (by omega))
  have hz3:=hb3.size
  have a3:=(hb3.cell (p:=⟨w.heap.size,0,none⟩) (by simp only;omega)).trans a2
  have HO3:=Lib.hid (OwnSl.kept HO2.out hb3)
  clear hb3 a2 b2 hea
  cases ea
  ·have HCT:=Lib.hid (show bcut a b=[a] by unfold bcut;rw [HEM.out,HEA.out];rfl)
   go_wp2_with (at_builtin;refine wpList_append_lies _ rfl _ _ 35 rfl w.heap.size 41 i0 _ 1 24 Tryz.underlying35 hi hy0 hy1 hy2 rfl (by decide) _ 0 [] rfl (World.ownsRow.alloc HO3.out _) ⟨w3.heap.size,0,none⟩ 1 1 (enc1 (.slice ua 4 uc)) rfl rfl ?c1 ?c2 (by omega) ?c3 ?c4 ?c5 _ rfl ?_)
   case c1=>exact cellsNew w3 (enc1 (.slice ua 4 uc)) _
   case c2=>simp [Value.oneCell']
   case c3=>simp [maxLen]
   case c4=>omega
   case c5=>simp;omega
   intro g8 cap8 w8 hown8 hgrow8 hlies8 hlt8
   have hB8:Below w.heap.size w w8:=belGrown (hw3.alloc (by omega) _) (World.ownsRow.alloc HO3.out _) hgrow8 (by simp;omega)
   have hz8:=grown_old hgrow8
   have HF:=Lib.hid (show BxX X w.heap.size w8 (.slice (some ⟨g8,0,none⟩) 1 cap8) (bcut a b) by
    rw [HCT.out]
    refine BxX.push (bs:=[]) (w:=w3) (v:=.slice (some ⟨w.heap.size+1+1,0,none⟩) 0 0) (vs:=[]) (ws:=[.slice ua 4 uc]) (H:=w3.heap.size+1) All2.nil ?_ hz8 (fun z hz=>by cases hz;simpa using hlies8) (by omega) ?_
    ·refine ⟨rfl,fun k x y hx hy=>?_⟩
     match k,hx,hy with
     | 0,hx,hy =>
      cases hx
      cases hy
      have:=HS.out
      rw [LA.out] at this
      exact this.keep hw3.size (fun k k1 k2=>⟨hw3.block k k1,fun e=>by
       rcases e with e | e
       ·have e2:k=w.heap.size+1+1:=Option.some.inj e
        omega
       ·exact k2 e⟩)
     | k+1,hx,hy=>simp at hx
    ·unfold OwnSl;simpa using hown8)
   clear hown8 hgrow8 hlies8 hlt8
   go_wp2
   go_ret
   exact ⟨_,rfl,HF.out,hB8⟩
  ·have HCT:=Lib.hid (show bcut a b=[] by unfold bcut;rw [HEM.out,HEA.out];rfl)
   go_wp2
   go_ret
   exact ⟨_,rfl,by rw [HCT.out];exact ⟨[],HO3.out,All2.nil⟩,hw3⟩
end Go.Proofs.YtfcbbahlhjdefaaGreatDoor
