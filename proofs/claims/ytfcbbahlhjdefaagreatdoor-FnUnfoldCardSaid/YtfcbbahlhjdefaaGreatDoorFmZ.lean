/- Validity of boxes and rules; the walks of the program and the reference. -/
import Derived.Test.YtfcbbahlhjdefaaGreatDoorFmA
import Derived.Laws.Rows
import Derived.Deep.RegionLaw
import Derived.Deep.AppendLies
namespace Go.Proofs.YtfcbbahlhjdefaaGreatDoor
open Go.RowKit
def sumTo {α:Type} (f:α→Nat) (l:List α) (k:Nat):Nat:=((l.take k).map f).sum
theorem sumTo_zero {α:Type} (f:α→Nat) (l:List α):sumTo f l 0=0:=by simp [sumTo]
theorem sumTo_succ {α:Type} {f:α→Nat} {l:List α} {k:Nat} {x:α} (hx:l[k]?=some x):sumTo f l (k+1)=sumTo f l k+f x:=by
 unfold sumTo
 rw [List.take_add_one,hx,List.map_append,List.sum_append]
 simp
theorem sumTo_le {α:Type} (f:α→Nat) (l:List α):∀ k d,sumTo f l k≤sumTo f l (k+d)
 | k,0=>Nat.le_refl _
 | k,d+1=>by
  refine Nat.le_trans (sumTo_le f l k d) ?_
  rw [show k+(d+1)=(k+d)+1 from rfl]
  cases hx:l[k+d]? with
  | none =>
   unfold sumTo
   have:=List.getElem?_eq_none_iff.1 hx
   rw [List.take_of_length_le this,List.take_of_length_le (by omega)]
   exact Nat.le_refl _
  | some x=>rw [sumTo_succ hx];omega
def OwnC {α β:Type} (P:Nat→Nat→α→β→Prop):Nat→Nat→List α→List β→Prop
 | lo,hi,[],[]=>lo≤hi
 | lo,hi,a::la,b::lb=>∃ mid,P lo mid a b∧OwnC P mid hi la lb
 | _,_,_,_=>False
theorem OwnC.le {α β:Type} {P:Nat→Nat→α→β→Prop} (hP:∀ l h x y,P l h x y→l≤h):∀ {lo hi:Nat} {la:List α} {lb:List β},OwnC P lo hi la lb→lo≤hi
 | _,_,[],[],h=>h
 | _,_,[],_::_,h=>h.elim
 | _,_,_::_,[],h=>h.elim
 | _,_,_::_,_::_,⟨_,h1,h2⟩=>Nat.le_trans (hP _ _ _ _ h1) (OwnC.le hP h2)
theorem OwnC.len {α β:Type} {P:Nat→Nat→α→β→Prop}:∀ {lo hi:Nat} {la:List α} {lb:List β},OwnC P lo hi la lb→la.length=lb.length
 | _,_,[],[],_=>rfl
 | _,_,[],_::_,h=>h.elim
 | _,_,_::_,[],h=>h.elim
 | _,_,_::_,_::_,⟨_,_,h2⟩=>by simp [OwnC.len h2]
theorem OwnC.snoc {α β:Type} {P:Nat→Nat→α→β→Prop} {hi':Nat} {a:α} {b:β}:∀ {lo hi:Nat} {la:List α} {lb:List β},OwnC P lo hi la lb→(∀ l,l≤hi→P l hi' a b)→hi≤hi'→OwnC P lo hi' (la++[a]) (lb++[b])
 | _,_,[],[],h,hp,_=>⟨hi',hp _ h,Nat.le_refl _⟩
 | _,_,[],_::_,h,_,_=>h.elim
 | _,_,_::_,[],h,_,_=>h.elim
 | _,_,_::_,_::_,⟨mid,h1,h2⟩,hp,hh=>⟨mid,h1,OwnC.snoc h2 hp hh⟩
theorem OwnC.imp {α β:Type} {P P':Nat→Nat→α→β→Prop} (hP:∀ l h x y,P l h x y→l≤h):∀ {lo hi:Nat} {la:List α} {lb:List β},OwnC P lo hi la lb→(∀ l h x y,lo≤l→h≤hi→P l h x y→P' l h x y)→OwnC P' lo hi la lb
 | _,_,[],[],h,_=>h
 | _,_,[],_::_,h,_=>h.elim
 | _,_,_::_,[],h,_=>h.elim
 | _,_,_::_,_::_,⟨mid,h1,h2⟩,hp=>⟨mid,hp _ _ _ _ (Nat.le_refl _) (OwnC.le hP h2) h1,OwnC.imp hP h2 (fun l h x y g1 g2 g3=>hp l h x y (Nat.le_trans (hP _ _ _ _ h1) g1) g2 g3)⟩
theorem OwnC.hi {α β:Type} {P:Nat→Nat→α→β→Prop} {hi':Nat}:∀ {lo hi:Nat} {la:List α} {lb:List β},OwnC P lo hi la lb→hi≤hi'→OwnC P lo hi' la lb
 | _,_,[],[],h,hh=>Nat.le_trans h hh
 | _,_,[],_::_,h,_=>h.elim
 | _,_,_::_,[],h,_=>h.elim
 | _,_,_::_,_::_,⟨mid,h1,h2⟩,hh=>⟨mid,h1,OwnC.hi h2 hh⟩
theorem OwnC.step {α β:Type} {P:Nat→Nat→α→β→Prop} (hP:∀ l h x y,P l h x y→l≤h) {a:α} {b:β}:∀ {lo hi:Nat} {la:List α} {lb:List β} (i:Nat),OwnC P lo hi la lb→la[i]?=some a→lb[i]?=some b →
  ∃ l m,lo≤l∧l≤m∧m≤hi∧P l m a b∧∀ (P':Nat→Nat→α→β→Prop) (a':α) (b':β),P' l m a' b'→(∀ l' h' x y,(h'≤l∨m≤l')→P l' h' x y→P' l' h' x y)→OwnC P' lo hi (la.set i a') (lb.set i b')
 | _,_,[],_,i,_,ha,_=>by simp at ha
 | _,_,_::_,[],i,h,_,_=>h.elim
 | lo,hi,x::la,y::lb,0,⟨mid,h1,h2⟩,ha,hb=>by
  simp at ha hb
  subst ha hb
  refine ⟨lo,mid,Nat.le_refl _,hP _ _ _ _ h1,OwnC.le hP h2,h1,fun P' a' b' h3 h4=>⟨mid,h3,?_⟩⟩
  exact OwnC.imp hP h2 (fun l h x y g1 _ g3=>h4 l h x y (.inr g1) g3)
 | lo,hi,x::la,y::lb,i+1,⟨mid,h1,h2⟩,ha,hb=>by
  obtain ⟨l,m,k1,k2,k3,k4,k5⟩:=OwnC.step hP i h2 (by simpa using ha) (by simpa using hb)
  refine ⟨l,m,Nat.le_trans (hP _ _ _ _ h1) k1,k2,k3,k4,fun P' a' b' h3 h4=>⟨mid,h4 _ _ _ _ (.inl k1) h1,k5 P' a' b' h3 h4⟩⟩
theorem OwnC.all2 {α β:Type} {P:Nat→Nat→α→β→Prop} {R:α→β→Prop} (hP:∀ l h x y,P l h x y→l≤h) {lo hi:Nat} {la:List α} {lb:List β} (h:OwnC P lo hi la lb) (hR:∀ l m x y,lo≤l→m≤hi→P l m x y→R x y):All2 R la lb:=by
 refine ⟨h.len,fun k x y hx hy=>?_⟩
 obtain ⟨l,m,h1,_,h3,h4,_⟩:=h.step hP k hx hy
 exact hR l m x y h1 h3 h4
structure Kpi (lo hi:Nat) (w w':World):Prop where
 size:w.heap.size≤w'.heap.size
 block:∀ k,lo≤k→k<hi→k<w.heap.size→w'.heap[k]?=w.heap[k]?
theorem Kpi.of {lo hi:Nat} {w w':World} (h:Below w.heap.size w w'):Kpi lo hi w w':=⟨h.size,fun k _ _ hk=>h.block k hk⟩
theorem Kpi.sub {lo hi lo' hi':Nat} {w w':World} (h:Kpi lo hi w w') (h1:lo≤lo') (h2:hi'≤hi):Kpi lo' hi' w w':=⟨h.size,fun k g1 g2 g3=>h.block k (Nat.le_trans h1 g1) (Nat.lt_of_lt_of_le g2 h2) g3⟩
theorem OwnSl.keepB {α:Type} {base e sz:Nat} {enc:α→List Value} {w w':World} {v:Value} {ys:List α} (h:OwnSl base e sz enc w v ys) (hb:∀ g,v.ownBlock=some g→base≤g→g<w.heap.size→w'.heap[g]?=w.heap[g]?):OwnSl base e sz enc w' v ys:=by
 refine ⟨h.1,?_⟩
 obtain ⟨_,h | ⟨g,cap,cur,rfl,hg,hh,r⟩⟩:=h
 ·exact Or.inl h
 ·exact Or.inr ⟨g,cap,cur,rfl,hg,(hb g rfl hg (Array.getElem?_eq_some_iff.1 hh).1).trans hh,r⟩
def OwnI {α:Type} (e sz:Nat) (enc:α→List Value) (w:World) (lo hi:Nat) (v:Value) (xs:List α):Prop:=OwnSl lo e sz enc w v xs∧(∀ x,v.ownBlock=some x→x<hi)∧lo≤hi
theorem OwnI.keep {α:Type} {e sz:Nat} {enc:α→List Value} {w w':World} {lo hi:Nat} {v:Value} {xs:List α} (h:OwnI e sz enc w lo hi v xs) (hk:Kpi lo hi w w'):OwnI e sz enc w' lo hi v xs :=
 ⟨h.1.keepB (fun g h1 h2 h3=>hk.block g h2 (h.2.1 g h1) h3),h.2⟩
theorem OwnI.le {α:Type} {e sz:Nat} {enc:α→List Value} {w:World}:∀ l h (v:Value) (xs:List α),OwnI e sz enc w l h v xs→l≤h:=fun _ _ _ _ h=>h.2.2
def PSp (w:World) (lo hi:Nat) (v:Value) (xs:List Sp):Prop:=OwnI 74 2 Sp.enc w lo hi v xs
theorem PSp.le {w:World}:∀ l h (v:Value) (xs:List Sp),PSp w l h v xs→l≤h:=OwnI.le
def OwnRw (w:World) (lo hi:Nat) (v:Value) (b:Bx):Prop:=∃ vs mid,OwnI 75 1 enc1 w lo mid v vs∧OwnC (PSp w) mid hi vs b
theorem OwnRw.keep {w w':World} {lo hi:Nat} {v:Value} {b:Bx} (h:OwnRw w lo hi v b) (hk:Kpi lo hi w w'):OwnRw w' lo hi v b:=by
 obtain ⟨vs,mid,h1,h2⟩:=h
 have hm:=OwnC.le PSp.le h2
 exact ⟨vs,mid,h1.keep (hk.sub (Nat.le_refl _) hm),OwnC.imp PSp.le h2 (fun l h x y g1 g2 g3=>OwnI.keep g3 (hk.sub (Nat.le_trans h1.2.2 g1) g2))⟩
theorem OwnRw.rws {w:World} {lo hi:Nat} {v:Value} {b:Bx} (h:OwnRw w lo hi v b):Rws lo w v b:=by
 obtain ⟨vs,mid,h1,h2⟩:=h
 exact ⟨vs,OwnSl.fr (sz:=1) (enc:=enc1) (fun _=>rfl) h1.1,OwnC.all2 PSp.le h2 (fun l m x y g1 _ g3=>Sps.mono (OwnSl.fr (sz:=2) (enc:=Sp.enc) (fun _=>rfl) g3.1) (Nat.le_trans h1.2.2 g1))⟩
theorem infoSl:(Tryz.prog.info? 75).map (fun i=>(i.zero,i.size,i.bytes))=some (some (.slice none 0 0),1,24):=by kernel_rfl
theorem infoFt:(Tryz.prog.info? 44).map (fun i=>(i.zero,i.size,i.bytes))=some (some (.agg #[.slice none 0 0,.bool false]),2,32):=by kernel_rfl
theorem set_rep {α:Type} (vs:List α) (n k:Nat) (z y:α) (hl:vs.length=k) (hk:k<n):(vs++List.replicate (n - k) z).set k y=(vs++[y])++List.replicate (n - (k+1)) z:=by
 rw [List.set_append_right _ _ (by omega),hl,Nat.sub_self,show n - k=(n - (k+1))+1 from by omega,List.replicate_succ,List.set_cons_zero,List.append_assoc]
 rfl
theorem OwnI.mono {α:Type} {e sz:Nat} {enc:α→List Value} {w:World} {lo lo' hi:Nat} {v:Value} {xs:List α} (h:OwnI e sz enc w lo hi v xs) (hl:lo'≤lo):OwnI e sz enc w lo' hi v xs :=
 ⟨OwnSl.mono h.1 hl,h.2.1,Nat.le_trans hl h.2.2⟩
theorem OwnRw.mono {w:World} {lo lo' hi hi':Nat} {v:Value} {b:Bx} (h:OwnRw w lo hi v b) (hl:lo'≤lo) (hh:hi≤hi'):OwnRw w lo' hi' v b:=by
 obtain ⟨vs,mid,h1,h2⟩:=h
 exact ⟨vs,mid,h1.mono hl,h2.hi hh⟩
def RetBx (b:Bx) (w:World) (e:Ending) (w':World):Prop:=∃ v,e=.returned (.agg #[v])∧OwnRw w' w.heap.size w'.heap.size v b∧Below w.heap.size w w'
theorem sumTo_at {α:Type} {f:α→Nat} {l:List α} {k:Nat} {x:α} (hx:l[k]?=some x):f x≤sumTo f l l.length:=by
 have h1:=sumTo_succ (f:=f) hx
 have hk:=(List.getElem?_eq_some_iff.1 hx).1
 have h2:=sumTo_le f l (k+1) (l.length - (k+1))
 rw [show k+1+(l.length - (k+1))=l.length by omega] at h2
 omega
end Go.Proofs.YtfcbbahlhjdefaaGreatDoor
namespace Go.Proofs.YtfcbbahlhjdefaaGreatDoor
open Go.RowKit
def bhas (b:Bx) (p:Pk):Bool:=(List.range 4).all fun n=>shas (b.getD n []) (p.fld n)
theorem bhas_iff {b:Bx} {p:Pk}:bhas b p=true↔∀ n,n<4→shas (b.getD n []) (p.fld n)=true:=by
 unfold bhas
 rw [List.all_eq_true]
 exact ⟨fun h n hn=>h n (List.mem_range.2 hn),fun h n hn=>h n (List.mem_range.1 hn)⟩
theorem bhas_no {b:Bx} {p:Pk} {n:Nat} {xs:List Sp} (hn:n<4) (hx:b[n]?=some xs) (h:shas xs (p.fld n)=false):bhas b p=false:=by
 rw [← Bool.not_eq_true,bhas_iff]
 intro g
 have:=g n hn
 rw [List.getD_eq_getElem?_getD,hx] at this
 simp only [Option.getD_some] at this
 rw [h] at this;cases this
def BH (b:Bx) (p:Pk) (k:Nat):Prop:=∀ n,n<k→shas (b.getD n []) (p.fld n)=true
theorem BH.step {b:Bx} {p:Pk} {n:Nat} {xs:List Sp} (h:BH b p n) (hx:b[n]?=some xs) (hs:shas xs (p.fld n)=true):BH b p (n+1):=by
 intro i hi
 by_cases e:i=n
 ·subst e
  rw [List.getD_eq_getElem?_getD,hx]
  exact hs
 ·exact h i (by omega)
theorem bhas_yes {b:Bx} {p:Pk} (h:BH b p 4):bhas b p=true:=bhas_iff.2 h
theorem bvalid_four {b:Bx} (h:bvalid b=true):b.length=4∧BOk b 4:=by
 unfold bvalid at h
 exact of_decide_eq_true h
def fwith:List Ft→Pk→Nat→Int
 | [],_,_=>-1
 | f::fs,p,k=>if bhas f.box p then (k:Int) else fwith fs p (k+1)
theorem fwith_hit {p:Pk}:∀ (fs:List Ft) (k m:Nat) (f:Ft),(∀ (i:Nat) g,i<k→fs[i]?=some g→bhas g.box p=false)→fs[k]?=some f→bhas f.box p=true→fwith fs p m=((m+k:Nat):Int)
 | [],_,_,_,_,h,_=>by simp at h
 | g::fs,0,m,f,_,h,hf=>by
  simp at h
  subst h
  simp [fwith,hf]
 | g::fs,k+1,m,f,h0,h,hf=>by
  have hg:=h0 0 g (by omega) rfl
  simp only [fwith,hg,Bool.false_eq_true,if_false]
  rw [fwith_hit fs k (m+1) f (fun i x hi hx=>h0 (i+1) x (by omega) (by simpa using hx)) (by simpa using h) hf]
  congr 1
  omega
theorem fwith_none {p:Pk}:∀ (fs:List Ft) (m:Nat),(∀ (i:Nat) g,fs[i]?=some g→bhas g.box p=false)→fwith fs p m = -1
 | [],_,_=>rfl
 | g::fs,m,h=>by
  have hg:=h 0 g rfl
  simp only [fwith,hg,Bool.false_eq_true,if_false]
  exact fwith_none fs (m+1) (fun i x hx=>h (i+1) x (by simpa using hx))
theorem fvalid_at {fs:List Ft} (h:fvalid fs=true) {k:Nat} {f:Ft} (hx:fs[k]?=some f):bvalid f.box=true:=by
 unfold fvalid at h
 rw [Bool.and_eq_true,List.all_eq_true] at h
 exact h.2 f (List.mem_of_getElem? hx)
set_option maxHeartbeats 2000000 in
theorem has_any {lo:Nat} (b:Bx) (v0 v1 v2 v3:Value) (p1 p2 p3 p4:Int) (w:World) (hs:All2 (Sps lo w) [v0,v1,v2,v3] b) :
  Calls Tryz.prog 80 #[.agg #[v0,v1,v2,v3],.agg #[.int .i64 p1,.int .i64 p2,.int .i64 p3,.int .i64 p4]] w fun e w'=>e=.returned (.bool (bhas b ⟨p1,p2,p3,p4⟩))∧Below w.heap.size w w':=by
 have hal:Below w.heap.size w ((w.alloc (.cells #[v0,v1,v2,v3] 83)).alloc (.cells #[.int .i64 p1,.int .i64 p2,.int .i64 p3,.int .i64 p4] 33)):=by (repeat' (first | with_reducible exact Below.refl _ _ | with_reducible assumption | with_reducible refine Below.setCell ?_ ?_ _ | with_reducible refine Below.alloc ?_ ?_ _ | with_reducible refine Below.drew ?_ | with_reducible refine belDrewN ?_ _ | with_reducible refine Below.trans ?_ (Below.mono (by assumption) ?_) | omega | (simp;omega) | (simp;done)))
 obtain ⟨W,hW⟩:∃ W,(w.alloc (.cells #[v0,v1,v2,v3] 83)).alloc (.cells #[.int .i64 p1,.int .i64 p2,.int .i64 p3,.int .i64 p4] 33)=W:=⟨_,rfl⟩
 have HQ:=Lib.hid (show ∀ (k:Nat) v,[v0,v1,v2,v3][k]?=some v→W.cell? ⟨w.heap.size,k,none⟩=some v from fun k v hk=>by
  rw [← hW]
  match k,hk with
  | 0,hk=>cases hk;simp
  | 1,hk=>cases hk;simp
  | 2,hk=>cases hk;simp
  | 3,hk=>cases hk;simp
  | k+4,hk=>simp at hk)
 have r0:W.cell? ⟨w.heap.size+1,0,none⟩=some (.int .i64 p1):=by rw [← hW];simp
 have r1:W.cell? ⟨w.heap.size+1,1,none⟩=some (.int .i64 p2):=by rw [← hW];simp
 have r2:W.cell? ⟨w.heap.size+1,2,none⟩=some (.int .i64 p3):=by rw [← hW];simp
 have r3:W.cell? ⟨w.heap.size+1,3,none⟩=some (.int .i64 p4):=by rw [← hW];simp
 have qs:w.heap.size<W.heap.size:=by rw [← hW];simp;omega
 rw [hW] at hal
 have h4:b.length=4:=hs.1.symm
 have H4:=Lib.hid h4
 clear h4
 have hsW:All2 (Sps lo W) [v0,v1,v2,v3] b:=hs.mono (fun _ _ h=>h.below hal)
 go_enter Tryz.func80,Tryz.ntmps80
 go_wp2_with fail
 refine (fields_any p1 p2 p3 p4 _).mono ?_
 rintro e w1 ⟨rfl,hb1⟩
 have hW1:Below W.heap.size W w1:=hb1
 have HS1:=Lib.hid (hsW.mono (fun _ _ h=>h.below hb1))
 have hz1:=hb1.size
 clear hb1 hsW hs hW
 go_wp2_with fail
 go_loopw [5,6,9] (fun _ _ i wr=>∃ k:Nat,k≤4∧i=.int .i64 k∧BH b ⟨p1,p2,p3,p4⟩ k∧Below w1.heap.size w1 wr) (fun _ _ i _=>4 - (intOf i).toNat)
 case atStart=>exact ⟨0,by omega,rfl,fun i hi=>by omega,Below.refl _ _⟩
 case round =>
  obtain ⟨k,hk4,rfl,hG,hbr⟩:=hrel
  have HG:=Lib.hid hG
  clear hG
  have hzr:=hbr.size
  have qsr:w.heap.size<wr.heap.size:=Nat.lt_of_lt_of_le (Nat.lt_of_lt_of_le qs hz1) hzr
  have hwr:Below w.heap.size w wr:=(hal.trans (hW1.mono hal.size)).trans (hbr.mono (Nat.le_trans hal.size hz1))
  by_cases hlt:k<4
  ·have i1:(k:Int)<4:=by omega
   have i2:(0:Int)≤(k:Int):=by omega
   obtain ⟨xs,hx⟩:∃ xs,b[k]?=some xs:=⟨_,List.getElem?_eq_getElem (by rw [H4.out];exact hlt)⟩
   obtain ⟨sv,hsv,hss⟩:=(HS1.out.mono (fun _ _ h=>h.below hbr)).left hx
   have d0:wr.cell? ⟨w.heap.size,k,none⟩=some sv:=(hbr.cell (p:=⟨w.heap.size,k,none⟩) (Nat.lt_of_lt_of_le qs hz1)).trans ((hW1.cell (p:=⟨w.heap.size,k,none⟩) qs).trans (HQ.out k sv hsv))
   have HX:=Lib.hid hx
   have HSV:=Lib.hid hss
   clear hx hss hsv
   obtain ⟨f,hf⟩:∃ f,Pk.fld ⟨p1,p2,p3,p4⟩ k=f:=⟨_,rfl⟩
   have HF:=Lib.hid hf
   have hxi:∀ w:World,(Instr.index 123 (.agg #[.int .i64 p1,.int .i64 p2,.int .i64 p3,.int .i64 p4]) (.int .i64 (k:Int))).run Tryz.prog w=.ok (.int .i64 f) w:=by
    subst hf
    intro w
    rcases (by omega:k=0∨k=1∨k=2∨k=3) with rfl | rfl | rfl | rfl<;>kernel_rfl
   clear hf
   obtain ⟨r,hv2⟩:∃ r,shas xs f=r:=⟨_,rfl⟩
   have HV:=Lib.hid hv2
   clear hv2
   go_wp2_with fail
   refine (implSH_b HSV.out HV.out).mono ?_
   rintro e w9 ⟨rfl,hb9⟩
   cases r
   ·have HE:=Lib.hid (bhas_no hlt HX.out (by rw [HF.out];exact HV.out))
    have hw9:Below w.heap.size w w9:=hwr.trans (hb9.mono hwr.size)
    clear hb9
    go_wp2
    go_ret
    exact ⟨ret_bool HE.out.symm,hw9⟩
   ·have HE:=Lib.hid (HG.out.step HX.out (by rw [HF.out];exact HV.out))
    have hw9:Below w1.heap.size w1 w9:=hbr.trans (hb9.mono hzr)
    clear hb9
    go_wp2
    go_roundw
    case rel=>exact ⟨k+1,by omega,by go_num,HE.out,hw9⟩
    case measure=>simp [intOf];omega
  ·have hkn:k=4:=by omega
   have HE:=Lib.hid (bhas_yes (by have:=HG.out;rwa [hkn] at this))
   subst hkn
   go_wp2
   go_ret
   exact ⟨ret_bool HE.out.symm,hwr⟩
theorem has_b {lo:Nat} {b:Bx} {v0 v1 v2 v3:Value} {p1 p2 p3 p4:Int} {w:World} {r:Bool} (hs:All2 (Sps lo w) [v0,v1,v2,v3] b) (h:bhas b ⟨p1,p2,p3,p4⟩=r) :
  Calls Tryz.prog 80 #[.agg #[v0,v1,v2,v3],.agg #[.int .i64 p1,.int .i64 p2,.int .i64 p3,.int .i64 p4]] w fun e w'=>e=.returned (.bool r)∧Below w.heap.size w w':=by
 subst h
 exact has_any b v0 v1 v2 v3 p1 p2 p3 p4 w hs
set_option maxHeartbeats 2000000 in
theorem fw1_b {lo B:Nat} {b:Bx} {v0 v1 v2 v3:Value} {acc:Bool} {p1 p2 p3 p4:Int} {w:World} {r:Bool} (hs:All2 (Sps lo w) [v0,v1,v2,v3] b) (hB:B<w.heap.size)
  (c0:w.cell? ⟨B,0,none⟩=some (.int .i64 p1)) (c1:w.cell? ⟨B,1,none⟩=some (.int .i64 p2)) (c2:w.cell? ⟨B,2,none⟩=some (.int .i64 p3)) (c3:w.cell? ⟨B,3,none⟩=some (.int .i64 p4)) (h:bhas b ⟨p1,p2,p3,p4⟩=r) :
  Calls Tryz.prog 79 #[.agg #[v0,v1,v2,v3,.bool acc],.pointer (some ⟨B,0,none⟩)] w fun e w'=>e=.returned (.bool r)∧Below w.heap.size w w':=by
 have hal:Below w.heap.size w (w.alloc (.cells #[v0,v1,v2,v3,.bool acc] 113)):=by (repeat' (first | with_reducible exact Below.refl _ _ | with_reducible assumption | with_reducible refine Below.setCell ?_ ?_ _ | with_reducible refine Below.alloc ?_ ?_ _ | with_reducible refine Below.drew ?_ | with_reducible refine belDrewN ?_ _ | with_reducible refine Below.trans ?_ (Below.mono (by assumption) ?_) | omega | (simp;omega) | (simp;done)))
 obtain ⟨W,hW⟩:∃ W,w.alloc (.cells #[v0,v1,v2,v3,.bool acc] 113)=W:=⟨_,rfl⟩
 have q0:W.cell? ⟨w.heap.size,0,none⟩=some v0:=by rw [← hW];simp
 have q1:W.cell? ⟨w.heap.size,1,none⟩=some v1:=by rw [← hW];simp
 have q2:W.cell? ⟨w.heap.size,2,none⟩=some v2:=by rw [← hW];simp
 have q3:W.cell? ⟨w.heap.size,3,none⟩=some v3:=by rw [← hW];simp
 have qs:w.heap.size<W.heap.size:=by rw [← hW];simp
 rw [hW] at hal
 have d0:=(hal.cell (p:=⟨B,0,none⟩) hB).trans c0
 have d1:=(hal.cell (p:=⟨B,1,none⟩) hB).trans c1
 have d2:=(hal.cell (p:=⟨B,2,none⟩) hB).trans c2
 have d3:=(hal.cell (p:=⟨B,3,none⟩) hB).trans c3
 have hsW:All2 (Sps lo W) [v0,v1,v2,v3] b:=hs.mono (fun _ _ h=>h.below hal)
 have HS:=Lib.hid hsW
 have HV:=Lib.hid h
 clear h hs hsW c0 c1 c2 c3
 go_enter Tryz.func79,Tryz.ntmps79
 go_wp2_with fail
 refine (has_b HS.out HV.out).mono ?_
 rintro e w1 ⟨rfl,hb1⟩
 have hw1:Below w.heap.size w w1:=hal.trans (hb1.mono hal.size)
 clear hb1
 go_wp2
 go_ret
 exact ⟨rfl,hw1⟩
set_option maxHeartbeats 2000000 in
theorem idxf_any {lo B:Nat} (fs:List Ft) (v:Value) (p1 p2 p3 p4:Int) (w:World) (hs:Ifs lo w v fs) (hB:B<w.heap.size)
  (c0:w.cell? ⟨B,0,none⟩=some (.int .i64 p1)) (c1:w.cell? ⟨B,1,none⟩=some (.int .i64 p2)) (c2:w.cell? ⟨B,2,none⟩=some (.int .i64 p3)) (c3:w.cell? ⟨B,3,none⟩=some (.int .i64 p4)) :
  Calls Tryz.prog 78 #[v,.func (.func 79) #[] #[.pointer (some ⟨B,0,none⟩)]] w
   fun e w'=>e=.returned (.int .i64 (fwith fs ⟨p1,p2,p3,p4⟩ 0))∧Below w.heap.size w w':=by
 obtain ⟨a,cap,rfl,hlc,hcm⟩:=hs.form
 unfold maxLen at hcm
 generalize hn:fs.length=n at *
 have HN:=Lib.hid hn
 have HS:=Lib.hid hs
 have HC:=Lib.hid (And.intro c0 (And.intro c1 (And.intro c2 c3)))
 clear hn hs c0 c1 c2 c3
 go_enter Tryz.func78,Tryz.ntmps78
 go_wp2_with fail
 go_loopw [5,8] (fun _ i wr=>∃ k:Nat,k≤n∧i=.int .i64 k∧Hid (∀ (j:Nat) g,j<k→fs[j]?=some g→bhas g.box ⟨p1,p2,p3,p4⟩=false)∧Below w.heap.size w wr) (fun _ i _=>n - (intOf i).toNat)
 case atStart=>exact ⟨0,by omega,rfl,Lib.hid (fun i g hi=>by omega),Below.refl _ _⟩
 case round =>
  obtain ⟨k,hk,rfl,HG,hbr⟩:=hrel
  have hzr:=hbr.size
  by_cases hlt:k<n
  ·have i1:(k:Int)<n:=by omega
   have i2:(0:Int)≤(k:Int):=by omega
   obtain ⟨f,hx⟩:∃ f,fs[k]?=some f:=⟨_,List.getElem?_eq_getElem (by rw [HN.out];exact hlt)⟩
   obtain ⟨b,o,v0,v1,v2,v3,rfl,hbl,g0,g1,g2,g3,g4,hss⟩:=(HS.out.below hbr).at hx
   have HX:=Lib.hid hx
   have HSS:=Lib.hid hss
   have e0:=(hbr.cell (p:=⟨B,0,none⟩) hB).trans HC.out.1
   have e1:=(hbr.cell (p:=⟨B,1,none⟩) hB).trans HC.out.2.1
   have e2:=(hbr.cell (p:=⟨B,2,none⟩) hB).trans HC.out.2.2.1
   have e3:=(hbr.cell (p:=⟨B,3,none⟩) hB).trans HC.out.2.2.2
   clear hx hss
   obtain ⟨r,hv2⟩:∃ r,bhas f.box ⟨p1,p2,p3,p4⟩=r:=⟨_,rfl⟩
   have HV:=Lib.hid hv2
   clear hv2
   go_wp2_with fail
   refine (fw1_b HSS.out (Nat.lt_of_lt_of_le hB hzr) e0 e1 e2 e3 HV.out).mono ?_
   rintro e w9 ⟨rfl,hb9⟩
   have hw9:Below w.heap.size w w9:=hbr.trans (hb9.mono hzr)
   clear hb9
   cases r
   ·go_wp2
    go_roundw
    case rel =>
     refine ⟨k+1,by omega,by go_num,Lib.hid (fun j g hj hg=>?_),hw9⟩
     by_cases e:j=k
     ·subst e
      rw [HX.out] at hg
      cases hg
      exact HV.out
     ·exact HG.out j g (by omega) hg
    case measure=>simp [intOf];omega
   ·go_wp2
    go_ret
    exact ⟨by rw [fwith_hit fs k 0 f HG.out HX.out HV.out];simp,hw9⟩
  ·have hkn:k=n:=by omega
   subst hkn
   go_wp2
   go_ret
   refine ⟨?_,hbr⟩
   rw [fwith_none fs 0 (fun i g hg=>HG.out i g (by rw [← HN.out];exact (List.getElem?_eq_some_iff.1 hg).1) hg)]
   rfl
set_option maxHeartbeats 1000000 in
theorem firstWith_any {lo:Nat} (fs:List Ft) (v:Value) (p1 p2 p3 p4:Int) (w:World) (hs:Ifs lo w v fs) :
  Calls Tryz.prog 46 #[v,.agg #[.int .i64 p1,.int .i64 p2,.int .i64 p3,.int .i64 p4]] w
   fun e w'=>e=.returned (.int .i64 (fwith fs ⟨p1,p2,p3,p4⟩ 0))∧Below w.heap.size w w':=by
 have hal:Below w.heap.size w (w.alloc (.cells #[.int .i64 p1,.int .i64 p2,.int .i64 p3,.int .i64 p4] 33)):=by (repeat' (first | with_reducible exact Below.refl _ _ | with_reducible assumption | with_reducible refine Below.setCell ?_ ?_ _ | with_reducible refine Below.alloc ?_ ?_ _ | with_reducible refine Below.drew ?_ | with_reducible refine belDrewN ?_ _ | with_reducible refine Below.trans ?_ (Below.mono (by assumption) ?_) | omega | (simp;omega) | (simp;done)))
 have hc:=idxf_any (B:=w.heap.size) fs v p1 p2 p3 p4 _ (hs.below hal) (by simp) (by simp) (by simp) (by simp) (by simp)
 generalize fwith fs ⟨p1,p2,p3,p4⟩ 0=r at hc ⊢
 go_enter Tryz.func46,Tryz.ntmps46
 go_wp2_with fail
 refine hc.mono ?_
 rintro e w1 ⟨rfl,hb1⟩
 have hw1:Below w.heap.size w w1:=hal.trans (hb1.mono hal.size)
 clear hb1 hal
 go_wp2
 go_ret
 exact ⟨rfl,hw1⟩
set_option maxHeartbeats 2000000 in
set_option maxRecDepth 100000 in
theorem sidesOf_any {lo:Nat} (bx:Bx) (v:Value) (w0 w:World) (hs:Rws lo w0 v bx) (hb0:Below w0.heap.size w0 w) (h4:bx.length=4) :
  Calls Tryz.prog 41 #[.agg #[v]] w fun e w'=>∃ a0 n0 p0 a1 n1 p1 a2 n2 p2 a3 n3 p3,e=.returned (.agg #[.slice a0 n0 p0,.slice a1 n1 p1,.slice a2 n2 p2,.slice a3 n3 p3])∧All2 (Sps lo w0) [.slice a0 n0 p0,.slice a1 n1 p1,.slice a2 n2 p2,.slice a3 n3 p3] bx∧Below w.heap.size w w':=by
 obtain ⟨a,cap,rfl,hlc,hcm⟩:=hs.form
 rw [h4] at hs hlc ⊢
 match bx,h4 with
 | [x0,x1,x2,x3],_ =>
  obtain ⟨b,o,v0,rfl,hbl,c0,s0⟩:=hs.at (k:=0) (xs:=x0) rfl
  obtain ⟨b',o',v1,he, -,c1,s1⟩:=hs.at (k:=1) (xs:=x1) rfl
  obtain ⟨rfl,rfl, -⟩:=Addr.mk.inj (Option.some.inj he)
  obtain ⟨b',o',v2,he, -,c2,s2⟩:=hs.at (k:=2) (xs:=x2) rfl
  obtain ⟨rfl,rfl, -⟩:=Addr.mk.inj (Option.some.inj he)
  obtain ⟨b',o',v3,he, -,c3,s3⟩:=hs.at (k:=3) (xs:=x3) rfl
  obtain ⟨rfl,rfl, -⟩:=Addr.mk.inj (Option.some.inj he)
  have hall:All2 (Sps lo w0) [v0,v1,v2,v3] [x0,x1,x2,x3]:=((All2.nil.snoc s0).snoc s1).snoc s2 |>.snoc s3
  obtain ⟨a0,n0,p0,rfl, -⟩:∃ a n c,v0=.slice a n c∧True:=let ⟨a,c,h,_⟩:=s0.form;⟨a,_,c,h,trivial⟩
  obtain ⟨a1,n1,p1,rfl, -⟩:∃ a n c,v1=.slice a n c∧True:=let ⟨a,c,h,_⟩:=s1.form;⟨a,_,c,h,trivial⟩
  obtain ⟨a2,n2,p2,rfl, -⟩:∃ a n c,v2=.slice a n c∧True:=let ⟨a,c,h,_⟩:=s2.form;⟨a,_,c,h,trivial⟩
  obtain ⟨a3,n3,p3,rfl, -⟩:∃ a n c,v3=.slice a n c∧True:=let ⟨a,c,h,_⟩:=s3.form;⟨a,_,c,h,trivial⟩
  have hx:∀ w:World,(Instr.arrayAt 83 (.slice (some ⟨b,o,none⟩) 4 cap)).run Tryz.prog w=.ok (.pointer (some ⟨b,o,none⟩)) w:=fun w=>by kernel_rfl
  have HA:=Lib.hid hall
  rw [Nat.add_zero] at c0
  replace c0:=(hb0.cell (p:=⟨b,o,none⟩) hbl).trans c0
  replace c1:=(hb0.cell (p:=⟨b,o+1,none⟩) hbl).trans c1
  replace c2:=(hb0.cell (p:=⟨b,o+2,none⟩) hbl).trans c2
  replace c3:=(hb0.cell (p:=⟨b,o+3,none⟩) hbl).trans c3
  replace hbl:=Nat.lt_of_lt_of_le hbl hb0.size
  clear hb0
  clear hall hs s0 s1 s2 s3
  go_enter Tryz.func41,Tryz.ntmps41
  go_wp2_with fail
  refine bodyPost_ret (v:=.agg #[.slice a0 n0 p0,.slice a1 n1 p1,.slice a2 n2 p2,.slice a3 n3 p3]) (results_cell_row rfl _ _ (w.heap.size+1) 83 #[.slice a0 n0 p0,.slice a1 n1 p1,.slice a2 n2 p2,.slice a3 n3 p3] _ _ rfl (heap_alloc2_new w _ _) Tryz.underlying83 rfl (by kernel_rfl)) rfl ?_
  exact ⟨_,_,_,_,_,_,_,_,_,_,_,_,rfl,HA.out,by (repeat' (first | with_reducible exact Below.refl _ _ | with_reducible assumption | with_reducible refine Below.setCell ?_ ?_ _ | with_reducible refine Below.alloc ?_ ?_ _ | with_reducible refine Below.drew ?_ | with_reducible refine belDrewN ?_ _ | with_reducible refine Below.trans ?_ (Below.mono (by assumption) ?_) | omega | (simp;omega) | (simp;done)))⟩
theorem infoFl:(Tryz.prog.info? 113).map (fun i=>(i.zero,i.size,i.bytes))=some (some (.agg #[.slice none 0 0,.slice none 0 0,.slice none 0 0,.slice none 0 0,.bool false]),5,104):=by kernel_rfl
set_option maxHeartbeats 2000000 in
set_option maxRecDepth 100000 in
theorem flatsOf_own {lo:Nat} (fs:List Ft) (v:Value) (w:World) (hs:Fts lo w v fs) (h4:∀ (k:Nat) f,fs[k]?=some f→f.box.length=4) (hl:fs.length≤1000000) :
  Calls Tryz.prog 38 #[v] w fun e w'=>∃ v' rs,e=.returned v'∧OwnSl w.heap.size 113 5 R5.enc w' v' rs∧All2 (R5.ok 0 w) rs fs∧Below w.heap.size w w':=by
 obtain ⟨a,cap,rfl,hlc,hcm⟩:=hs.form
 unfold maxLen at hcm
 generalize hn:fs.length=n at *
 have HN:=Lib.hid hn
 have HS:=Lib.hid (hs.mono (Nat.zero_le _))
 have H4:=Lib.hid h4
 obtain ⟨i0,hi,hy0,hy1,hy2⟩:=info_parts infoFl
 clear hn hs h4
 go_enter Tryz.func38,Tryz.ntmps38
 go_wp2_with (at_make;refine wpList_make_own _ rfl _ _ 62 rfl w.heap.size 113 i0 _ 5 Tryz.underlying62 hi hy0 hy1 _ _ _ n rfl rfl rfl ?b1 ?b2 ?b3 ?_)
 case b1=>rw [hy2];omega
 case b2=>simp only [maxLen];omega
 case b3=>omega
 intro w1 hown1 hgrow1
 have hb1:Below w.heap.size w w1:=bR.grown hgrow1 (Nat.le_refl _) (fun k hk=>by cases hk)
 have HO1:=Lib.hid (show OwnSl w.heap.size 113 5 R5.enc w1 (.slice (some ⟨w.heap.size,0,none⟩) 0 n) ([]:List R5) by simpa [OwnSl] using hown1)
 clear hown1 hgrow1
 go_wp2_with fail
 go_loopw [3,5,11] (fun o _ i wr=>∃ (k:Nat) (rs:List R5),k≤n∧i=.int .i64 k∧OwnSl w.heap.size 113 5 R5.enc wr o rs∧Hid (All2 (R5.ok 0 w) rs (fs.take k))∧Below w.heap.size w wr) (fun _ _ i _=>n - (intOf i).toNat)
 case atStart=>exact ⟨0,[],by omega,rfl,HO1.out,Lib.hid (by simpa using All2.nil),hb1⟩
 case round =>
  obtain ⟨k,rs,hk,rfl,hO,HR,hbr⟩:=hrel
  have HO:=Lib.hid hO
  clear hO HO1 hb1
  have hzr:=hbr.size
  by_cases hlt:k<n
  ·have i1:(k:Int)<(n:Int):=by omega
   have i2:(0:Int)≤(k:Int):=by omega
   obtain ⟨f,hx⟩:∃ f,fs[k]?=some f:=⟨_,List.getElem?_eq_getElem (by rw [HN.out];exact hlt)⟩
   obtain ⟨b,o,sv,rfl,hbl,c0,c1,hsv⟩:=HS.out.at hx
   replace c0:=(hbr.cell (p:=⟨b,o+k*2,none⟩) hbl).trans c0
   replace c1:=(hbr.cell (p:=⟨b,o+k*2+1,none⟩) hbl).trans c1
   replace hbl:=Nat.lt_of_lt_of_le hbl hzr
   have HX:=Lib.hid hx
   have HV:=Lib.hid hsv
   obtain ⟨sa,sc,rfl, -, -⟩:=hsv.form
   have h4f:=Lib.hid (H4.out k f hx)
   clear hx hsv
   have hal:Below wr.heap.size wr ((wr.alloc (.cells #[.slice sa f.box.length sc,.bool f.acc] 44)).drew):=(bR.alloc (Nat.le_refl _) _).drew
   have HAL:=Lib.hid hal
   have HVB:=Lib.hid (hbr.trans (hal.mono hzr))
   have kk:((wr.alloc (.cells #[.slice sa f.box.length sc,.bool f.acc] 44)).drew).cell? ⟨wr.heap.size,1,none⟩=some (.bool f.acc):=by simp [World.cell?_drew]
   have ks:wr.heap.size<((wr.alloc (.cells #[.slice sa f.box.length sc,.bool f.acc] 44)).drew).heap.size:=by simp [World.drew]
   have HKK:=Lib.hid (And.intro kk ks)
   clear kk ks
   have HBR:=Lib.hid hbr
   have HBD:=Lib.hid (show rs.length≤1000000 by have:=HR.out.1;rw [List.length_take] at this;omega)
   clear hbr hal
   go_wp2_with fail
   go_region_law (first | ((fail_if_success have:=hb4);go_simp;go_wp2_with (go_at_call 41;refine (sidesOf_any f.box _ w _ HV.out HVB.out h4f.out).mono ?_;rintro e w4 ⟨a0,n0,p0,a1,n1,p1,a2,n2,p2,a3,n3,p3,rfl,ha4,hb4⟩;have e1:=(hb4.cell (p:=⟨wr.heap.size,1,none⟩) HKK.out.2).trans HKK.out.1)) | (refine step_append_lies _ rfl (.tmp 15) (.tmp 22) 62 rfl w.heap.size 113 i0 _ 5 104 Tryz.underlying62 hi hy0 hy1 hy2 rfl (by decide) u3 rs.length (rs.flatMap R5.enc) (by simp [Act.eval]) (World.ownsRow.alloc (OwnSl.kept HO.out (HAL.out.trans (hb4.mono HAL.out.size))) _) ⟨w4.heap.size,0,none⟩ 1 1 (R5.enc ⟨.slice a0 n0 p0,.slice a1 n1 p1,.slice a2 n2 p2,.slice a3 n3 p3,f.acc⟩) (by simp [Act.eval]) rfl (cellsNew w4 (R5.enc ⟨.slice a0 n0 p0,.slice a1 n1 p1,.slice a2 n2 p2,.slice a3 n3 p3,f.acc⟩) _) (by simp [Value.oneCell']) (by decide) (by have:=HBD.out;simp only [maxLen];omega) (by have:=HBD.out;omega) (by have:=hb4.size;have:=HAL.out.size;have:=HBR.out.size;simp;omega) _ rfl ?_;intro g5 cap5 w5 hown5 hgrow5 hlies5 hlt5))
   all_goals
    have hw4:Below wr.heap.size wr w4:=HAL.out.trans (hb4.mono HAL.out.size)
    have hB:Below w.heap.size w w5:=belGrown ((HBR.out.trans (hw4.mono HBR.out.size)).alloc (by have:=hw4.size;omega) _) (World.ownsRow.alloc (OwnSl.kept HO.out hw4) _) hgrow5 (by have:=hw4.size;simp;omega)
    have hown6:OwnSl w.heap.size 113 5 R5.enc w5 (.slice (some ⟨g5,0,none⟩) (rs.length+1) cap5) (rs++[⟨.slice a0 n0 p0,.slice a1 n1 p1,.slice a2 n2 p2,.slice a3 n3 p3,f.acc⟩]):=OwnSl.pushed rfl hown5
    have HO6:=Lib.hid hown6
    have HR6:=Lib.hid (show All2 (R5.ok 0 w) (rs++[⟨.slice a0 n0 p0,.slice a1 n1 p1,.slice a2 n2 p2,.slice a3 n3 p3,f.acc⟩]) (fs.take (k+1)) by
     rw [List.take_add_one,HX.out]
     exact All2.snoc HR.out ⟨ha4,rfl⟩)
    clear hown5 hown6 hgrow5 hlies5 hlt5 e1 ha4 hb4 hw4
    go_wp2
    go_roundw
    case rel=>exact ⟨k+1,_,by omega,by go_num,HO6.out,HR6,hB⟩
    case measure=>simp [intOf];omega
  ·have hkn:k=n:=by omega
   go_wp2
   go_ret
   refine ⟨u3,rs,rfl,HO.out,?_,hbr⟩
   have:=HR.out
   rwa [List.take_of_length_le (by rw [HN.out];omega)] at this
theorem flatsOf_any {lo:Nat} (fs:List Ft) (v:Value) (w:World) (hs:Fts lo w v fs) (h4:∀ (k:Nat) f,fs[k]?=some f→f.box.length=4) (hl:fs.length≤1000000) :
  Calls Tryz.prog 38 #[v] w fun e w'=>∃ v',e=.returned v'∧Ifs 0 w' v' fs∧Below w.heap.size w w':=by
 refine (flatsOf_own fs v w hs h4 hl).mono ?_
 rintro e w' ⟨v',rs,rfl,h1,h2,h3⟩
 exact ⟨v',rfl,⟨rs,OwnSl.fr (sz:=5) (enc:=R5.enc) (fun _=>rfl) (OwnSl.mono h1 (Nat.zero_le _)),h2.mono (fun _ _ h=>h.keep (Kp.of h3))⟩,h3⟩
end Go.Proofs.YtfcbbahlhjdefaaGreatDoor
