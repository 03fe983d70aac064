/- Unfolding: a list grows, and what the others keep. -/
import Derived.Test.YtfcbbahlhjdefaaGreatDoorRgM
import Derived.Test.YtfcbbahlhjdefaaGreatDoorUfQ
import Derived.Test.YtfcbbahlhjdefaaGreatDoorFtQ
import Derived.Test.YtfcbbahlhjdefaaGreatDoorFsM
import Derived.Test.YtfcbbahlhjdefaaGreatDoorRgX
import Derived.Test.YtfcbbahlhjdefaaGreatDoorFmZ
namespace Go.Proofs.YtfcbbahlhjdefaaGreatDoor
open Go.RowKit
def LX (X:Nat→Prop) (lo:Nat) (w:World) (v:Value) (bs:List Bx):Prop:=BxX X lo w v bs∧∀ z,v.ownBlock=some z→¬ X z
theorem BxX.lt {X:Nat→Prop} {lo:Nat} {w:World} {v:Value} {bs:List Bx} (h:BxX X lo w v bs):∀ z,v.ownBlock=some z→lo≤z∧z<w.heap.size:=by
 obtain ⟨vs,h1,_⟩:=h
 exact fun z hz=>World.ownsRow.lt h1 z hz
theorem BxX.keepX {X X':Nat→Prop} {lo:Nat} {w w':World} {v:Value} {bs:List Bx} (h:BxX X lo w v bs) (hz:w.heap.size≤w'.heap.size) (hv:∀ z,v.ownBlock=some z→w'.heap[z]?=w.heap[z]?)
  (hk:∀ k,k<w.heap.size→¬ (some k=v.ownBlock∨X k)→w'.heap[k]?=w.heap[k]?∧¬ (some k=v.ownBlock∨X' k)):BxX X' lo w' v bs:=by
 obtain ⟨vs,h1,h2⟩:=h
 exact ⟨vs,OwnSl.keepB h1 (fun z z1 _ _=>hv z z1),h2.mono (fun _ _ g=>g.keep hz hk)⟩
theorem LX.form {X:Nat→Prop} {lo:Nat} {w:World} {v:Value} {bs:List Bx} (h:LX X lo w v bs):∃ a c,v=.slice a bs.length c:=h.1.form
theorem LX.below {X:Nat→Prop} {lo:Nat} {w w':World} {v:Value} {bs:List Bx} (h:LX X lo w v bs) (hb:Below w.heap.size w w'):LX X lo w' v bs:=⟨h.1.below hb,h.2⟩
theorem LX.v {X:Nat→Prop} {lo:Nat} {w:World} {v:Value} {bs:List Bx} (h:LX X lo w v bs):BxsV X w v bs:=by
 obtain ⟨⟨vs,h1,h2⟩,hx⟩:=h
 refine ⟨vs,⟨SlFr.mono (OwnSl.fr (sz:=1) (enc:=enc1) (fun _=>rfl) h1) (Nat.zero_le _),fun q n c e hne hp=>?_⟩,h2.mono (fun _ _ g=>g.sub (fun k hk=>.inr hk))⟩
 rcases OwnSl.form h1 with ⟨_,h'⟩ | ⟨g,c',h',hg,_⟩
 ·exact hne h'
 ·rw [e] at h'
  obtain ⟨e1, -, -⟩:=Value.slice.inj h'
  cases e1
  exact hx g (by rw [e];rfl) hp
theorem LX.nil {X:Nat→Prop} {base:Nat} {w:World} (h:base≤w.heap.size) (hX:∀ k,X k→k<w.heap.size):LX X base (w.alloc (.cells #[] 41)) (.slice (some ⟨w.heap.size,0,none⟩) 0 0) [] :=
 ⟨⟨[],litOwn 41 1 enc1 h,All2.nil⟩,fun z hz hx=>by
  have:z=w.heap.size:=by simpa [Value.ownBlock] using hz.symm
  have:=hX z hx
  omega⟩
theorem LX.sub {X X':Nat→Prop} {lo:Nat} {w:World} {v:Value} {bs:List Bx} (h:LX X lo w v bs) (hX:∀ k,X' k→X k):LX X' lo w v bs:=by
 obtain ⟨⟨vs,h1,h2⟩,hx⟩:=h
 exact ⟨⟨vs,h1,h2.mono (fun _ _ g=>g.sub (fun k hk=>hk.imp id (hX k)))⟩,fun z hz hp=>hx z hz (hX z hp)⟩
theorem BxsV.sub {X X':Nat→Prop} {w:World} {v:Value} {bs:List Bx} (h:BxsV X w v bs) (hX:∀ k,X' k→X k):BxsV X' w v bs :=
 let ⟨vs,h1,h2⟩:=h
 ⟨vs,h1.sub hX,h2.mono (fun _ _ g=>g.sub hX)⟩
theorem BxsV.older {P X:Nat→Prop} {w0 w:World} {v:Value} {bs:List Bx} (h:BxsV X w0 v bs) (hb:Below w0.heap.size w0 w) (hP:∀ k,P k→w0.heap.size≤k∨X k):BxsV P w v bs :=
 h.keep hb.size (fun k k1 k2=>⟨hb.block k k1,fun hk=>(hP k hk).elim (fun h=>by omega) k2⟩)
theorem LX.append {X:Nat→Prop} {lo:Nat} {w:World} {v vx:Value} {bs cs:List Bx} (ty:TypeId) (ho:LX X lo w v bs) (hs:BxsV (fun k=>some k=v.ownBlock∨X k) w vx cs) (hb:bs.length+cs.length≤1000000) (hlo:lo≤w.heap.size) (hX:∀ k,X k→k<w.heap.size) :
  ∃ v' w',(Builtin.append_ #[35,35] ty #[v,vx]).run Tryz.prog w=.ok v' w'∧LX X lo w' v' (bs++cs)∧w.grownBy w' v.ownBlock∧(∀ z,v'.ownBlock=some z→v.ownBlock=some z∨z=w.heap.size)∧Below lo w w':=by
 obtain ⟨i0,hi,hy0,hy1,hy2⟩:=info_parts infoBx
 obtain ⟨⟨vs,g1,g2⟩,gx⟩:=ho
 obtain ⟨ws,k1,k2⟩:=hs
 have e1:=g2.1
 have e2:=k2.1
 have hone:∀ u∈ws.flatMap enc1,u.oneCell'=true:=fun u hu=>by
  obtain ⟨r,hr,hu2⟩:=List.mem_flatMap.1 hu
  obtain ⟨k,hk⟩:=List.getElem?_of_mem hr
  obtain ⟨bx,hbx⟩:∃ bx,cs[k]?=some bx:=⟨_,List.getElem?_eq_getElem (by rw [← e2];exact (List.getElem?_eq_some_iff.1 hk).1)⟩
  obtain ⟨a,c,rfl, -, -⟩:=(k2.2 k r bx hk hbx).rws.form
  simp only [enc1,List.mem_cons,List.not_mem_nil,or_false] at hu2
  subst hu2
  rfl
 obtain ⟨v',w',hrun,hown,hgr,hat⟩:=own_append_all (sz:=1) (enc:=enc1) (by omega) (fun _=>rfl) (P:=Tryz.prog) 35 ty 41 i0 _ 24 Tryz.underlying35 hi hy0 hy1 hy2 rfl hone g1 (SlFr.at k1.1) (by omega) (by simp only [maxLen];omega) hlo
 refine ⟨v',w',hrun,⟨BxX.push (H:=w.heap.size) g2 k2 (grown_self hgr) (fun z hz=>hat z hz) (Nat.le_refl _) hown,fun z hz hx=>?_⟩,hgr,hat,bR.grown hgr hlo (fun z hz=>(World.ownsRow.lt g1 z hz).1)⟩
 rcases hat z hz with h | h
 ·exact gx z h hx
 ·have:=hX z hx
  omega
theorem LX.append1 {X:Nat→Prop} {lo:Nat} {w:World} {v s:Value} {bs:List Bx} {b:Bx} (ty:TypeId) (ho:LX X lo w v bs) (hs:RwV (fun k=>some k=v.ownBlock∨X k) w s b) (hb:bs.length≤999999) (hlo:lo≤w.heap.size) (hX:∀ k,X k→k<w.heap.size) :
  ∃ v' w',(Builtin.append_ #[35,35] ty #[v,.slice (some ⟨w.heap.size,0,none⟩) 1 1]).run Tryz.prog (w.alloc (.cells #[s] 41))=.ok v' w'∧LX X lo w' v' (bs++[b])∧(w.alloc (.cells #[s] 41)).grownBy w' v.ownBlock∧(∀ z,v'.ownBlock=some z→v.ownBlock=some z∨w.heap.size<z)∧Below lo w w':=by
 have hal:Below w.heap.size w (w.alloc (.cells #[s] 41)):=bR.alloc (Nat.le_refl _) _
 have hz:=hal.size
 have hown:=ho.1.lt
 have hvs:BxsV (fun k=>some k=v.ownBlock∨X k) (w.alloc (.cells #[s] 41)) (.slice (some ⟨w.heap.size,0,none⟩) 1 1) [b]:=by
  refine ⟨[s],⟨SlFr.of (litBx_at w s 41),fun q n c e _ hp=>?_⟩,(All2.nil).snoc (hs.below hal)⟩
  obtain ⟨e1, -, -⟩:=Value.slice.inj e
  cases e1
  rcases hp with hp | hp
  ·have:=hown _ hp.symm
   simp only at this
   omega
  ·have:=hX _ hp
   simp only at this
   omega
 obtain ⟨v',w',h1,h2,h3,h4,h5⟩:=LX.append ty (ho.below hal) hvs (by simp;omega) (by omega) (fun k hk=>by have:=hX k hk;omega)
 exact ⟨v',w',h1,h2,h3,fun z hz2=>(h4 z hz2).imp id (fun e=>by rw [e];simp),(hal.mono hlo).trans h5⟩
structure Twl (X:Nat→Prop) (lo:Nat) (w:World) (u v:Value) (F M:List Bx):Prop where
 a:LX (fun k=>some k=v.ownBlock∨X k) lo w u F
 b:LX (fun k=>some k=u.ownBlock∨X k) lo w v M
theorem Twl.below {X:Nat→Prop} {lo:Nat} {w w':World} {u v:Value} {F M:List Bx} (h:Twl X lo w u v F M) (hb:Below w.heap.size w w'):Twl X lo w' u v F M:=⟨h.a.below hb,h.b.below hb⟩
theorem Twl.swap {X:Nat→Prop} {lo:Nat} {w:World} {u v:Value} {F M:List Bx} (h:Twl X lo w u v F M):Twl X lo w v u M F:=⟨h.b,h.a⟩
theorem Twl.grown {X:Nat→Prop} {lo:Nat} {w w':World} {u u' v:Value} {F F' M:List Bx} (h:Twl X lo w u v F M) (hl:LX (fun k=>some k=v.ownBlock∨X k) lo w' u' F') (hg:w.grownBy w' u.ownBlock) (hat:∀ z,u'.ownBlock=some z→u.ownBlock=some z∨w.heap.size≤z):Twl X lo w' u' v F' M:=by
 have hX:∀ z,v.ownBlock=some z→some z≠u.ownBlock:=fun z hz e=>h.b.2 z hz (.inl e)
 refine ⟨hl,h.b.1.keepX hg.size (fun z hz=>hg.block z (h.b.1.lt z hz).2 (hX z hz)) (fun k k1 k2=>⟨hg.block k k1 (fun e=>k2 (.inr (.inl e))),fun e=>?_⟩),fun z hz e=>?_⟩
 ·rcases e with e | e | e
  ·exact k2 (.inl e)
  ·rcases hat k e.symm with h1 | h1
   ·exact k2 (.inr (.inl h1.symm))
   ·omega
  ·exact k2 (.inr (.inr e))
 ·rcases e with e | e
  ·rcases hat z e.symm with h1 | h1
   ·exact hX z hz h1.symm
   ·have:=(h.b.1.lt z hz).2
    omega
  ·exact h.b.2 z hz (.inr e)
theorem Twl.push {X:Nat→Prop} {lo:Nat} {w:World} {u v s:Value} {F M:List Bx} {b:Bx} (ty:TypeId) (h:Twl X lo w u v F M) (hs:RwV (fun k=>some k=u.ownBlock∨some k=v.ownBlock∨X k) w s b) (hb:F.length≤999999) (hlo:lo≤w.heap.size) (hX:∀ k,X k→k<w.heap.size) :
  ∃ v' w',(Builtin.append_ #[35,35] ty #[u,.slice (some ⟨w.heap.size,0,none⟩) 1 1]).run Tryz.prog (w.alloc (.cells #[s] 41))=.ok v' w'∧Twl X lo w' v' v (F++[b]) M∧(∀ k,X k→w'.heap[k]?=w.heap[k]?)∧Below lo w w':=by
 have hal:Below w.heap.size w (w.alloc (.cells #[s] 41)):=bR.alloc (Nat.le_refl _) _
 obtain ⟨v',w',h1,h2,h3,h4,h5⟩:=LX.append1 ty h.a hs hb hlo (fun k hk=>hk.elim (fun e=>(h.b.1.lt k e.symm).2) (hX k))
 exact ⟨v',w',h1,(h.below hal).grown h2 h3 (fun z hz=>(h4 z hz).imp id (fun e=>by simp;omega)),fun k hk=>(h3.block k (by have:=hX k hk;simp;omega) (fun e=>h.a.2 k e.symm (.inr hk))).trans (hal.block k (hX k hk)),h5⟩
theorem Twl.push2 {X:Nat→Prop} {lo:Nat} {w:World} {u v vx:Value} {F M cs:List Bx} (ty:TypeId) (h:Twl X lo w u v F M) (hs:BxsV (fun k=>some k=v.ownBlock∨some k=u.ownBlock∨X k) w vx cs) (hb:M.length+cs.length≤1000000) (hlo:lo≤w.heap.size) (hX:∀ k,X k→k<w.heap.size) :
  ∃ v' w',(Builtin.append_ #[35,35] ty #[v,vx]).run Tryz.prog w=.ok v' w'∧Twl X lo w' u v' F (M++cs)∧(∀ k,X k→w'.heap[k]?=w.heap[k]?)∧Below lo w w':=by
 obtain ⟨v',w',h1,h2,h3,h4,h5⟩:=LX.append ty h.b hs hb hlo (fun k hk=>hk.elim (fun e=>(h.a.1.lt k e.symm).2) (hX k))
 exact ⟨v',w',h1,(h.swap.grown h2 h3 (fun z hz=>(h4 z hz).imp id (fun e=>by omega))).swap,fun k hk=>h3.block k (hX k hk) (fun e=>h.b.2 k e.symm (.inr hk)),h5⟩
def ZS (P:Nat) (ov:Value) (Y:Nat→Prop) (k:Nat):Prop:=k=P∨some k=ov.ownBlock∨Y k
def Tw (P:Nat) (ov ov':Value) (w w':World):Prop:=w.heap.size≤w'.heap.size∧∀ k,k<w.heap.size→k≠P→some k≠ov.ownBlock→w'.heap[k]?=w.heap[k]?∧some k≠ov'.ownBlock
theorem Tw.of {P:Nat} {ov:Value} {w w':World} (h:Below w.heap.size w w'):Tw P ov ov w w':=⟨h.size,fun k k1 _ k3=>⟨h.block k k1,k3⟩⟩
theorem Tw.refl (P:Nat) (ov:Value) (w:World):Tw P ov ov w w:=Tw.of bR
theorem Tw.trans {P:Nat} {o1 o2 o3:Value} {a b c:World} (h:Tw P o1 o2 a b) (k:Tw P o2 o3 b c):Tw P o1 o3 a c :=
 ⟨Nat.le_trans h.1 k.1,fun z z1 z2 z3=>by
  obtain ⟨e1,n1⟩:=h.2 z z1 z2 z3
  obtain ⟨e2,n2⟩:=k.2 z (Nat.lt_of_lt_of_le z1 h.1) z2 n1
  exact ⟨e2.trans e1,n2⟩⟩
theorem Tw.low {P L:Nat} {o1 o2:Value} {a b c:World} (h:Tw P o1 o2 a b) (k:Below L b c) (hL:a.heap.size≤L):Tw P o1 o2 a c :=
 ⟨Nat.le_trans h.1 k.size,fun z z1 z2 z3=>⟨(k.block z (by omega)).trans (h.2 z z1 z2 z3).1,(h.2 z z1 z2 z3).2⟩⟩
theorem Tw.cell {P:Nat} {o1 o2:Value} {a b:World} (h:Tw P o1 o2 a b) {p:Addr} (h1:p.block<a.heap.size) (h2:p.block≠P) (h3:some p.block≠o1.ownBlock):b.cell? p=a.cell? p:=(World.cell?_of_block (h.2 p.block h1 h2 h3).1)
theorem BxsV.tw {P:Nat} {ov ov':Value} {Y:Nat→Prop} {w w':World} {v:Value} {bs:List Bx} (h:BxsV (ZS P ov Y) w v bs) (k:Tw P ov ov' w w'):BxsV (ZS P ov' Y) w' v bs :=
 h.keep k.1 (fun z z1 z2=>by
  obtain ⟨e,n⟩:=k.2 z z1 (fun e=>z2 (.inl e)) (fun e=>z2 (.inr (.inl e)))
  refine ⟨e,fun hz=>?_⟩
  rcases hz with hz | hz | hz
  ·exact z2 (.inl hz)
  ·exact n hz
  ·exact z2 (.inr (.inr hz)))
theorem LX.tw {P lo:Nat} {ov ov':Value} {Y:Nat→Prop} {w w':World} {v:Value} {bs:List Bx} (h:LX (ZS P ov Y) lo w v bs) (k:Tw P ov ov' w w'):LX (ZS P ov' Y) lo w' v bs:=by
 have hz:∀ z,v.ownBlock=some z→w'.heap[z]?=w.heap[z]?∧¬ ZS P ov' Y z:=fun z hz=>by
  have hn:=h.2 z hz
  obtain ⟨e,n⟩:=k.2 z (h.1.lt z hz).2 (fun e=>hn (.inl e)) (fun e=>hn (.inr (.inl e)))
  refine ⟨e,fun hq=>?_⟩
  rcases hq with hq | hq | hq
  ·exact hn (.inl hq)
  ·exact n hq
  ·exact hn (.inr (.inr hq))
 refine ⟨h.1.keepX k.1 (fun z h2=>(hz z h2).1) (fun z z1 z2=>?_),fun z h2=>(hz z h2).2⟩
 obtain ⟨e,n⟩:=k.2 z z1 (fun e=>z2 (.inr (.inl e))) (fun e=>z2 (.inr (.inr (.inl e))))
 refine ⟨e,fun hq=>?_⟩
 rcases hq with hq | hq | hq | hq
 ·exact z2 (.inl hq)
 ·exact z2 (.inr (.inl hq))
 ·exact n hq
 ·exact z2 (.inr (.inr (.inr hq)))
structure Ou (S P:Nat) (Y:Nat→Prop) (w:World) (ov:Value) (out:List Ft):Prop where
 lt:P<w.heap.size
 s:S≤P
 c:w.cell? ⟨P,0,none⟩=some ov
 f:w.frozen? ⟨P,0,none⟩=false
 o:FtX (fun k=>k=P∨Y k) S w ov out
 op:∀ z,ov.ownBlock=some z→z≠P∧¬ Y z
theorem Ou.below {S P:Nat} {Y:Nat→Prop} {w w':World} {ov:Value} {out:List Ft} (h:Ou S P Y w ov out) (hb:Below w.heap.size w w'):Ou S P Y w' ov out :=
 ⟨Nat.lt_of_lt_of_le h.lt hb.size,h.s,(hb.cell (p:=⟨P,0,none⟩) h.lt).trans h.c,(hb.frozen (p:=⟨P,0,none⟩) h.lt).trans h.f,h.o.below hb,h.op⟩
theorem FtX.older {X X':Nat→Prop} {lo:Nat} {w w':World} {v:Value} {fs:List Ft} (h:FtX X lo w v fs) (hb:Below w.heap.size w w') (hX:∀ k,X' k→X k∨w.heap.size≤k):FtX X' lo w' v fs:=by
 obtain ⟨rs,h1,h2⟩:=h
 exact ⟨rs,OwnSl.kept h1 hb,h2.mono (fun _ _ g=>⟨g.1.older hb (fun k hk=>by
  rcases hk with e | e
  ·exact .inr (.inl e)
  ·rcases hX k e with e | e
   ·exact .inr (.inr e)
   ·exact .inl e),g.2⟩)⟩
theorem Ou.older {S P:Nat} {Y Y':Nat→Prop} {w w':World} {ov:Value} {out:List Ft} (h:Ou S P Y w ov out) (hb:Below w.heap.size w w') (hY:∀ k,Y' k→Y k∨w.heap.size≤k):Ou S P Y' w' ov out :=
 ⟨Nat.lt_of_lt_of_le h.lt hb.size,h.s,(hb.cell (p:=⟨P,0,none⟩) h.lt).trans h.c,(hb.frozen (p:=⟨P,0,none⟩) h.lt).trans h.f,
  h.o.older hb (fun k hk=>by
  rcases hk with e | e
  ·exact .inl (.inl e)
  ·exact (hY k e).imp .inr id),fun z hz=>⟨(h.op z hz).1,fun hy=>by
  rcases hY z hy with e | e
  ·exact (h.op z hz).2 e
  ·have:=(h.o.lt z hz).2
   omega⟩⟩
theorem Ou.sub {S P:Nat} {Y Y':Nat→Prop} {w:World} {ov:Value} {out:List Ft} (h:Ou S P Y w ov out) (hY:∀ k,Y' k→Y k):Ou S P Y' w ov out:=h.older bR (fun k hk=>.inl (hY k hk))
theorem Ou.push {S P:Nat} {Y:Nat→Prop} {w:World} {ov vx s:Value} {acc:Bool} {out:List Ft} {b:Bx} (ty:TypeId) (h:Ou S P Y w ov out) (hx:SlAt 2 RF.enc w vx [⟨s,acc⟩]) (hs:RwV (ZS P ov Y) w s b) (hb:out.length≤999999) (hS:S≤w.heap.size) (hY:∀ k,Y k→k<w.heap.size) :
  ∃ v' w',(Builtin.append_ #[27,27] ty #[ov,vx]).run Tryz.prog w=.ok v' w'∧w'.cell? ⟨P,0,none⟩=some ov∧w'.frozen? ⟨P,0,none⟩=false∧Ou S P Y (w'.setCell ⟨P,0,none⟩ v') v' (out++[⟨b,acc⟩])∧Tw P ov v' w (w'.setCell ⟨P,0,none⟩ v')∧Below S w (w'.setCell ⟨P,0,none⟩ v'):=by
 have hPo:some P≠ov.ownBlock:=fun e=>(h.op P e.symm).1 rfl
 obtain ⟨v',w',hrun,hF,hgr,hat⟩:=ft_append (X:=fun k=>k=P∨Y k) (gs:=[⟨b,acc⟩]) ty h.o hx ((All2.nil).snoc ⟨hs.sub (fun k hk=>by
  rcases hk with e | e | e
  ·exact .inr (.inl e)
  ·exact .inl e
  ·exact .inr (.inr e)),rfl⟩) (by simp;omega) hS
 have hbl:w'.heap[P]?=w.heap[P]?:=hgr.block P h.lt hPo
 have hz:=hgr.size
 have hop:∀ z,v'.ownBlock=some z→z≠P∧¬ Y z:=fun z hz2=>by
  rcases hat z hz2 with e | e
  ·exact h.op z e
  ·have:=h.lt
   exact ⟨by omega,fun hy=>by have:=hY z hy;omega⟩
 have hkeep:∀ k,k<w'.heap.size→¬ (some k=v'.ownBlock∨k=P∨Y k)→(w'.setCell ⟨P,0,none⟩ v').heap[k]?=w'.heap[k]?∧¬ (some k=v'.ownBlock∨k=P∨Y k):=fun k _ k2=>⟨Below.heap_setCell _ _ _ _ (fun e=>k2 (.inr (.inl e))),k2⟩
 refine ⟨v',w',hrun,(World.cell?_of_block (a:=⟨P,0,none⟩) hbl).trans h.c,(World.frozen?_of_block (a:=⟨P,0,none⟩) hbl).trans h.f,⟨by simp;exact Nat.lt_of_lt_of_le h.lt hz,h.s,World.cell?_setCell_same' _ _ _ (by rw [World.cell?_of_block (a:=⟨P,0,none⟩) hbl,h.c];rfl),by rw [World.frozen?_setCell];exact (World.frozen?_of_block (a:=⟨P,0,none⟩) hbl).trans h.f,?_,hop⟩,⟨by simpa using hz,fun k k1 k2 k3=>⟨?_,fun e=>?_⟩⟩,(bR.grown hgr hS (fun z hz=>(h.o.lt z hz).1)).setCell h.s _⟩
 ·obtain ⟨rs,f1,f2⟩:=hF
  exact ⟨rs,OwnSl.keepB f1 (fun z z1 _ _=>Below.heap_setCell _ _ _ _ (fun e=>(hop z z1).1 e)),f2.mono (fun _ _ g=>⟨g.1.keep (by simp) hkeep,g.2⟩)⟩
 ·rw [Below.heap_setCell _ _ _ _ (by simpa using k2)]
  exact hgr.block k k1 k3
 ·rcases hat k e.symm with h1 | h1
  ·exact k3 h1.symm
  ·omega
end Go.Proofs.YtfcbbahlhjdefaaGreatDoor
namespace Go.Proofs.YtfcbbahlhjdefaaGreatDoor
open Go.RowKit
theorem bvalid_len2 {b:Bx} (h:bvalid b=true) (k:Nat) (xs:List Sp) (hx:b[k]?=some xs):xs.length≤2000:=by
 obtain ⟨h4,hb⟩:=bvalid_four h
 have hk:=(List.getElem?_eq_some_iff.1 hx).1
 have:=hb k xs (by omega) hx
 unfold svalid at this
 simp only [Bool.and_eq_true,decide_eq_true_eq] at this
 omega
end Go.Proofs.YtfcbbahlhjdefaaGreatDoor
namespace Go.Proofs.YtfcbbahlhjdefaaGreatDoor
open Go.RowKit
theorem LX.older {X X':Nat→Prop} {lo:Nat} {w w':World} {v:Value} {bs:List Bx} (h:LX X lo w v bs) (hb:Below w.heap.size w w') (hX:∀ k,X' k→X k∨w.heap.size≤k):LX X' lo w' v bs :=
 ⟨h.1.keepX hb.size (fun z hz=>hb.block z (h.1.lt z hz).2) (fun k k1 k2=>⟨hb.block k k1,fun e=>by
  rcases e with e | e
  ·exact k2 (.inl e)
  ·rcases hX k e with e | e
   ·exact k2 (.inr e)
   ·omega⟩),fun z hz hx=>by
  rcases hX z hx with e | e
  ·exact h.2 z hz e
  ·have:=(h.1.lt z hz).2
   omega⟩
section
variable {v v' : Value} {w w' : World}
structure Gr (v v':Value) (w w':World):Prop where
 g:w.grownBy w' v.ownBlock
 at':∀ z,v'.ownBlock=some z→v.ownBlock=some z∨w.heap.size≤z
theorem BxsV.grow {X:Nat→Prop} {u:Value} {bs:List Bx} (h:BxsV (fun k=>some k=v.ownBlock∨X k) w u bs) (k:Gr v v' w w'):BxsV (fun k=>some k=v'.ownBlock∨X k) w' u bs :=
 h.keep k.g.size (fun z z1 z2=>⟨k.g.block z z1 (fun e=>z2 (.inl e)),fun e=>by
  rcases e with e | e
  ·rcases k.at' z e.symm with e | e
   ·exact z2 (.inl e.symm)
   ·omega
  ·exact z2 (.inr e)⟩)
theorem LX.grow {X:Nat→Prop} {lo:Nat} {u:Value} {bs:List Bx} (h:LX (fun k=>some k=v.ownBlock∨X k) lo w u bs) (k:Gr v v' w w'):LX (fun k=>some k=v'.ownBlock∨X k) lo w' u bs:=by
 have hX:∀ z,u.ownBlock=some z→some z≠v.ownBlock:=fun z hz e=>h.2 z hz (.inl e)
 refine ⟨h.1.keepX k.g.size (fun z hz=>k.g.block z (h.1.lt z hz).2 (hX z hz)) (fun z z1 z2=>⟨k.g.block z z1 (fun e=>z2 (.inr (.inl e))),fun e=>?_⟩),fun z hz e=>?_⟩
 ·rcases e with e | e | e
  ·exact z2 (.inl e)
  ·rcases k.at' z e.symm with e | e
   ·exact z2 (.inr (.inl e.symm))
   ·omega
  ·exact z2 (.inr (.inr e))
 ·rcases e with e | e
  ·rcases k.at' z e.symm with e | e
   ·exact hX z hz e.symm
   ·have:=(h.1.lt z hz).2
    omega
  ·exact h.2 z hz (.inr e)
theorem Ou.grow {S P:Nat} {Y:Nat→Prop} {ov:Value} {out:List Ft} (h:Ou S P (fun z=>some z=v.ownBlock∨Y z) w ov out) (hP:v.ownBlock≠some P) (k:Gr v v' w w'):Ou S P (fun z=>some z=v'.ownBlock∨Y z) w' ov out:=by
 have hbl:w'.heap[P]?=w.heap[P]?:=k.g.block P h.lt (fun e=>hP e.symm)
 have ho:∀ z,ov.ownBlock=some z→some z≠v.ownBlock:=fun z hz e=>(h.op z hz).2 (.inl e)
 refine ⟨Nat.lt_of_lt_of_le h.lt k.g.size,h.s,(World.cell?_of_block (a:=⟨P,0,none⟩) hbl).trans h.c,(World.frozen?_of_block (a:=⟨P,0,none⟩) hbl).trans h.f,?_,fun z hz=>⟨(h.op z hz).1,fun e=>?_⟩⟩
 ·obtain ⟨rs,f1,f2⟩:=h.o
  refine ⟨rs,OwnSl.keepB f1 (fun z z1 _ z3=>k.g.block z z3 (ho z z1)),f2.mono (fun _ _ g=>⟨g.1.keep k.g.size (fun z z1 z2=>⟨k.g.block z z1 (fun e=>z2 (.inr (.inr (.inl e)))),fun e=>?_⟩),g.2⟩)⟩
  rcases e with e | e | e | e
  ·exact z2 (.inl e)
  ·exact z2 (.inr (.inl e))
  ·rcases k.at' z e.symm with e | e
   ·exact z2 (.inr (.inr (.inl e.symm)))
   ·omega
  ·exact z2 (.inr (.inr (.inr e)))
 ·rcases e with e | e
  ·rcases k.at' z e.symm with e | e
   ·exact ho z hz e.symm
   ·have:=(h.o.lt z hz).2
    omega
  ·exact (h.op z hz).2 (.inr e)
end
theorem ZS.lt {S P:Nat} {Y:Nat→Prop} {w:World} {ov:Value} {out:List Ft} (h:Ou S P Y w ov out) {Y':Nat→Prop} (hY:∀ k,Y' k→k<w.heap.size):∀ k,ZS P ov Y' k→k<w.heap.size:=by
 intro k hk
 rcases hk with e | e | e
 ·rw [e];exact h.lt
 ·exact (h.o.lt k e.symm).2
 ·exact hY k e
theorem left_push {S P lo:Nat} {Y:Nat→Prop} {w:World} {ov lv fv:Value} {out:List Ft} {left F:List Bx} (ty:TypeId) (hO:Ou S P (fun z=>some z=lv.ownBlock∨Y z) w ov out) (hL:LX (ZS P ov Y) lo w lv left) (hF:BxsV (ZS P ov (fun z=>some z=lv.ownBlock∨Y z)) w fv F)
  (hb:left.length+F.length≤1000000) (hlo:lo≤w.heap.size) (hY:∀ k,Y k→k<w.heap.size) :
  ∃ v' w',(Builtin.append_ #[35,35] ty #[lv,fv]).run Tryz.prog w=.ok v' w'∧Ou S P (fun z=>some z=v'.ownBlock∨Y z) w' ov out∧LX (ZS P ov Y) lo w' v' (left++F) ∧
   (∀ mv M,BxsV (ZS P ov (fun z=>some z=lv.ownBlock∨Y z)) w mv M→BxsV (ZS P ov (fun z=>some z=v'.ownBlock∨Y z)) w' mv M)∧Below lo w w':=by
 have hP:lv.ownBlock≠some P:=fun e=>hL.2 P e (.inl rfl)
 have sw:∀ {u:Value} (k:Nat),(some k=u.ownBlock∨ZS P ov Y k)→ZS P ov (fun z=>some z=u.ownBlock∨Y z) k:=fun k hk=>by
  rcases hk with e | e | e | e
  ·exact .inr (.inr (.inl e))
  ·exact .inl e
  ·exact .inr (.inl e)
  ·exact .inr (.inr (.inr e))
 have sw2:∀ {u:Value} (k:Nat),ZS P ov (fun z=>some z=u.ownBlock∨Y z) k→(some k=u.ownBlock∨ZS P ov Y k):=fun k hk=>by
  rcases hk with e | e | e | e
  ·exact .inr (.inl e)
  ·exact .inr (.inr (.inl e))
  ·exact .inl e
  ·exact .inr (.inr (.inr e))
 obtain ⟨v',w',hrun,h1,h2,h3,h4⟩:=LX.append ty hL (hF.sub (fun k hk=>sw k hk)) hb hlo (ZS.lt hO hY)
 have hg:Gr lv v' w w':=⟨h2,fun z hz=>(h3 z hz).imp id (fun e=>by omega)⟩
 exact ⟨v',w',hrun,hO.grow hP hg,h1,fun mv M hM=>BxsV.sub (BxsV.grow (hM.sub (fun k hk=>sw k hk)) hg) (fun k hk=>sw2 k hk),h4⟩
theorem miss_push {S P lo L0:Nat} {Y Y1:Nat→Prop} {w:World} {ov lv mv fv:Value} {out:List Ft} {left M F:List Bx} (ty:TypeId) (hO:Ou S P (fun z=>some z=mv.ownBlock∨Y1 z) w ov out) (hL:LX (ZS P ov (fun z=>some z=mv.ownBlock∨Y z)) L0 w lv left) (hM:LX (ZS P ov Y1) lo w mv M) (hF:BxsV (ZS P ov (fun z=>some z=mv.ownBlock∨Y1 z)) w fv F)
  (hb:M.length+F.length≤1000000) (hlo:lo≤w.heap.size) (hY:∀ k,Y1 k→k<w.heap.size) :
  ∃ v' w',(Builtin.append_ #[35,35] ty #[mv,fv]).run Tryz.prog w=.ok v' w'∧Ou S P Y1 w' ov out∧LX (ZS P ov Y) L0 w' lv left∧BxsV (ZS P ov Y1) w' v' (M++F)∧Below lo w w':=by
 have hP:mv.ownBlock≠some P:=fun e=>hM.2 P e (.inl rfl)
 have sw:∀ {Y:Nat→Prop} {u:Value} (k:Nat),(some k=u.ownBlock∨ZS P ov Y k)→ZS P ov (fun z=>some z=u.ownBlock∨Y z) k:=fun k hk=>by
  rcases hk with e | e | e | e
  ·exact .inr (.inr (.inl e))
  ·exact .inl e
  ·exact .inr (.inl e)
  ·exact .inr (.inr (.inr e))
 obtain ⟨v',w',hrun,h1,h2,h3,h4⟩:=LX.append ty hM (hF.sub (fun k hk=>sw k hk)) hb hlo (ZS.lt hO hY)
 have hg:Gr mv v' w w':=⟨h2,fun z hz=>(h3 z hz).imp id (fun e=>by omega)⟩
 exact ⟨v',w',hrun,(hO.grow hP hg).sub (fun k hk=>.inr hk),LX.sub (LX.grow (hL.sub (fun k hk=>sw k hk)) hg) (fun k hk=>.inr hk),h1.v,h4⟩
theorem umiss_len (inn:List Bx) (W:Bx):(umiss inn W).length≤4*inn.length:=by
 unfold umiss
 induction inn with
 | nil=>simp
 | cons y ys ih =>
  have:=bcut_len y W
  rw [List.flatMap_cons,List.length_append,List.length_cons]
  omega
theorem l10Meet_u {lo lo':Nat} {a b c:Bx} {u v:Value} {w:World} (h:bmeet a b=c) (hs:Rws lo w u a) (ht:Rws lo' w v b) (ha:bvalid a=true) (hb:bvalid b=true) :
  Calls Tryz.prog 68 #[.agg #[u],.agg #[v]] w fun e w'=>∃ v',e=.returned (.agg #[v'])∧Rws w.heap.size w' v' c∧Below w.heap.size w w':=by
 subst h
 refine (l10Meet_any a b u v w hs ht (bvalid_four ha).1 (bvalid_four hb).1 (bvalid_len2 ha) (bvalid_len2 hb)).mono ?_
 rintro e w' ⟨v',rfl,h1,h2⟩
 exact ⟨v',rfl,GRw.rws h1,h2⟩
def LitU (z:RF) (w:World) (v:Value):Prop:=∃ g,v=.slice (some ⟨g,0,none⟩) 1 1∧SlAt 2 RF.enc w v [z]
theorem litU_st (z:RF):BStb (LitU z):=fun _ _ _ hb ⟨g,h1,h2⟩=>⟨g,h1,h2.below hb⟩
theorem litU_new (w:World) (s:Value) (acc:Bool):LitU ⟨s,acc⟩ (w.alloc (.cells #[s,.bool acc] 44)) (.slice (some ⟨w.heap.size,0,none⟩) 1 1):=⟨_,rfl,litRF_at w s acc _⟩
abbrev YL (lv:Value) (Y:Nat→Prop):Nat→Prop:=fun z=>some z=lv.ownBlock∨Y z
theorem Twl.nil {X:Nat→Prop} {w w':World} (hb:Below ((w.alloc (.cells #[] 41)).alloc (.cells #[] 41)).heap.size ((w.alloc (.cells #[] 41)).alloc (.cells #[] 41)) w') (hX:∀ k,X k→k<w.heap.size∨w.heap.size+2≤k) :
  Twl X w.heap.size w' (.slice (some ⟨w.heap.size,0,none⟩) 0 0) (.slice (some ⟨w.heap.size+1,0,none⟩) 0 0) [] []:=by
 have h1:Below (w.alloc (.cells #[] 41)).heap.size (w.alloc (.cells #[] 41)) w':=(bR.alloc (Nat.le_refl _) _).trans (hb.mono (by simp))
 refine ⟨⟨⟨[],OwnSl.kept (litOwn 41 1 enc1 (Nat.le_refl _)) h1,All2.nil⟩,fun z hz hx=>?_⟩,⟨⟨[],?_,All2.nil⟩,fun z hz hx=>?_⟩⟩
 ·have e1:z=w.heap.size:=by simpa [Value.ownBlock] using hz.symm
  rcases hx with hx | hx
  ·have:z=w.heap.size+1:=by simpa [Value.ownBlock] using hx
   omega
  ·have:=hX z hx
   omega
 ·have:=litOwn 41 1 enc1 (base:=w.heap.size) (w:=w.alloc (.cells #[] 41)) (by simp)
  rw [show (w.alloc (.cells #[] 41)).heap.size=w.heap.size+1 by simp] at this
  exact OwnSl.kept this hb
 ·have e1:z=w.heap.size+1:=by simpa [Value.ownBlock] using hz.symm
  rcases hx with hx | hx
  ·have:z=w.heap.size:=by simpa [Value.ownBlock] using hx
   omega
  ·have:=hX z hx
   omega
theorem ufGo_bad {rec:Nat→List Bx→List Ft→UfR} {r:Ru} {rs:List Ru} {inn left:List Bx} {out:List Ft} (h:rvalid (ufit inn (tbox r.ts))=false∨rvalid (umiss inn (tbox r.ts))=false):ufGo rec (r::rs) inn left out=none:=by
 rw [ufGo]
 rcases h with h | h
 ·rw [h];simp
 ·rw [h];simp
theorem ufGo_none {rec:Nat→List Bx→List Ft→UfR} {r:Ru} {rs:List Ru} {inn left:List Bx} {out:List Ft} (h:ufAct rec r (ufit inn (tbox r.ts)) (umiss inn (tbox r.ts)) left out=none):ufGo rec (r::rs) inn left out=none:=by
 rw [ufGo,h]
 split<;>rfl
theorem ufGo_step {rec:Nat→List Bx→List Ft→UfR} {r:Ru} {rs:List Ru} {inn left i l:List Bx} {out o:List Ft} (h1:rvalid (ufit inn (tbox r.ts))=true) (h2:rvalid (umiss inn (tbox r.ts))=true) (h:ufAct rec r (ufit inn (tbox r.ts)) (umiss inn (tbox r.ts)) left out=some (i,l,o)) :
  ufGo rec (r::rs) inn left out=if rvalid i && decide (o.length≤60) then ufGo rec rs i l o else none:=by
 rw [ufGo,h,h1,h2]
 simp
theorem ufGo_len {rec:Nat→List Bx→List Ft→UfR}:∀ (rs:List Ru) (inn left:List Bx) (out:List Ft) (i:List Bx) (o:List Ft),ufGo rec rs inn left out=some (i,o)→out.length≤60→i.length≤400∧o.length≤60
 | [],inn,left,out,i,o,h,ho=>by
  unfold ufGo at h
  split at h
  ·rename_i h2
   cases h;exact ⟨(rvalid_iff.1 h2).1,ho⟩
  ·cases h
 | r::rs,inn,left,out,i,o,h,ho=>by
  unfold ufGo at h
  split at h
  ·split at h
   ·cases h
   ·split at h
    ·rename_i h2
     rw [Bool.and_eq_true,decide_eq_true_eq] at h2
     exact ufGo_len rs _ _ _ _ _ h h2.2
    ·cases h
  ·cases h
theorem ufWalk_len {cs:List (List Ru)} {f c:Nat} {inn:List Bx} {out:List Ft} {i:List Bx} {o:List Ft} (h:ufWalk cs f c inn out=some (i,o)) (ho:out.length≤60):i.length≤400∧o.length≤60:=by
 cases f with
 | zero=>cases h
 | succ f =>
  unfold ufWalk at h
  exact ufGo_len _ _ _ _ _ _ h ho
structure WS (S:Nat) (W:World) (P:Nat) (Y:Nat→Prop) (ov0:Value) (wr:World) (iv lv ov:Value) (inn left:List Bx) (out:List Ft):Prop where
 ou:Ou S P (YL lv Y) wr ov out
 l:LX (ZS P ov Y) W.heap.size wr lv left
 i:BxsV (ZS P ov (YL lv Y)) wr iv inn
 tw:Tw P ov0 ov W wr
 bl:Below S W wr
section
variable {S P : Nat} {W wr w : World} {Y : Nat → Prop} {ov0 iv lv ov : Value} {inn left : List Bx} {out : List Ft}
theorem WS.s (h:WS S W P Y ov0 wr iv lv ov inn left out):S≤wr.heap.size:=by have:=h.ou.s;have:=h.ou.lt;omega
theorem WS.yl (h:WS S W P Y ov0 wr iv lv ov inn left out) (hY:∀ k,Y k→k<W.heap.size):∀ k,YL lv Y k→k<wr.heap.size:=fun k hk=>by
 rcases hk with e | e
 ·exact (h.l.1.lt k e.symm).2
 ·have:=hY k e;have:=h.tw.1;omega
theorem WS.below (h:WS S W P Y ov0 wr iv lv ov inn left out) (hb:Below wr.heap.size wr w):WS S W P Y ov0 w iv lv ov inn left out :=
 ⟨h.ou.below hb,h.l.below hb,h.i.below hb,h.tw.low hb h.tw.1,h.bl.trans (hb.mono h.s)⟩
theorem WS.on (h:WS S W P Y ov0 wr iv lv ov inn left out) {v:Value} {bs:List Bx} (hi:BxsV (ZS P ov (YL lv Y)) wr v bs):WS S W P Y ov0 wr v lv ov bs left out:=⟨h.ou,h.l,hi,h.tw,h.bl⟩
theorem WS.to (h:WS S W P Y ov0 wr iv lv ov inn left out) {ov':Value} {out':List Ft} (hO:Ou S P (YL lv Y) w ov' out') (ht:Tw P ov ov' wr w) (hb:Below S wr w):WS S W P Y ov0 w iv lv ov' inn left out' :=
 ⟨hO,h.l.tw ht,h.i.tw ht,h.tw.trans ht,h.bl.trans hb⟩
theorem WS.leave (h:WS S W P Y ov0 wr iv lv ov inn left out) {fv mv:Value} {F M:List Bx} (hF:BxsV (ZS P ov (YL lv Y)) wr fv F) (hM:BxsV (ZS P ov (YL lv Y)) wr mv M) (hb:left.length+F.length≤1000000) (hY:∀ k,Y k→k<W.heap.size) (hS:S≤W.heap.size) :
  ∃ v' w',(Builtin.append_ #[35,35] 35 #[lv,fv]).run Tryz.prog wr=.ok v' w'∧WS S W P Y ov0 w' mv v' ov M (left++F) out:=by
 obtain ⟨v',w',h1,h2,h3,h4,h5⟩:=left_push 35 h.ou h.l hF hb h.tw.1 (fun k hk=>by have:=hY k hk;have:=h.tw.1;omega)
 exact ⟨v',w',h1,h2,h3,h4 mv M hM,h.tw.low h5 (Nat.le_refl _),h.bl.trans (h5.mono hS)⟩
theorem WS.miss (h:WS S W P Y ov0 wr iv lv ov inn left out) {lo:Nat} {fv mv:Value} {F M:List Bx} (hb:Below wr.heap.size wr w) (hT:Twl (ZS P ov (YL lv Y)) lo w fv mv F M) (hlo:wr.heap.size≤lo) (hlw:lo≤w.heap.size) (hn:M.length+F.length≤1000000) (hY:∀ k,Y k→k<W.heap.size) :
  ∃ v' w',(Builtin.append_ #[35,35] 35 #[mv,fv]).run Tryz.prog w=.ok v' w'∧WS S W P Y ov0 w' v' lv ov (M++F) left out:=by
 have hm:∀ k,some k=mv.ownBlock→wr.heap.size≤k:=fun k hk=>by have:=(hT.b.1.lt k hk.symm).1;omega
 have hO:Ou S P (fun z=>some z=mv.ownBlock∨YL lv Y z) w ov out:=h.ou.older hb (fun k hk=>hk.elim (fun e=>.inr (hm k e)) .inl)
 have hL:LX (ZS P ov (fun z=>some z=mv.ownBlock∨Y z)) W.heap.size w lv left:=h.l.older hb (fun k hk=>by
  rcases hk with e | e | e | e
  ·exact .inl (.inl e)
  ·exact .inl (.inr (.inl e))
  ·exact .inr (hm k e)
  ·exact .inl (.inr (.inr e)))
 obtain ⟨v',w',h1,h2,h3,h4,h5⟩:=miss_push (Y1:=YL lv Y) 35 hO hL (hT.b.sub (fun k hk=>.inr hk)) (hT.a.v.sub (fun k hk=>by
  rcases hk with e | e | e | e
  ·exact .inr (.inl e)
  ·exact .inr (.inr (.inl e))
  ·exact .inl e
  ·exact .inr (.inr (.inr e)))) hn hlw (fun k hk=>by have:=h.yl hY k hk;have:=hb.size;omega)
 exact ⟨v',w',h1,h2,h3,h4,(h.tw.low hb h.tw.1).low h5 (by have:=h.tw.1;omega),(h.bl.trans (hb.mono h.s)).trans (h5.mono (by have:=h.s;omega))⟩
theorem WS.back (h:WS S W P Y ov0 wr iv lv ov inn left out) {lo:Nat} {fv mv cv ov':Value} {F M L:List Bx} {out':List Ft} {w':World} (hb:Below wr.heap.size wr w) (hT:Twl (ZS P ov (YL lv Y)) lo w fv mv F M) (hlo:wr.heap.size≤lo) (hlw:lo≤w.heap.size)
  (hO':Ou S P (YL mv (YL lv Y)) w' ov' out') (hL':BxsV (ZS P ov' (YL mv (YL lv Y))) w' cv L) (ht:Tw P ov ov' w w') (hbb:Below S w w') (hn:M.length+L.length≤1000000) (hY:∀ k,Y k→k<W.heap.size) :
  ∃ v' w9,(Builtin.append_ #[35,35] 35 #[mv,cv]).run Tryz.prog w'=.ok v' w9∧WS S W P Y ov0 w9 v' lv ov' (M++L) left out':=by
 have hm:∀ k,some k=mv.ownBlock→wr.heap.size≤k:=fun k hk=>by have:=(hT.b.1.lt k hk.symm).1;omega
 have hL:LX (ZS P ov (fun z=>some z=mv.ownBlock∨Y z)) W.heap.size w lv left:=h.l.older hb (fun k hk=>by
  rcases hk with e | e | e | e
  ·exact .inl (.inl e)
  ·exact .inl (.inr (.inl e))
  ·exact .inr (hm k e)
  ·exact .inl (.inr (.inr e)))
 have hM:LX (ZS P ov (YL lv Y)) lo w mv M:=hT.b.sub (fun k hk=>.inr hk)
 have hlt:∀ k,YL lv Y k→k<w'.heap.size:=fun k hk=>by have:=h.yl hY k hk;have:=hb.size;have:=ht.1;omega
 obtain ⟨v',w9,h1,h2,h3,h4,h5⟩:=miss_push (Y1:=YL lv Y) 35 hO' (hL.tw ht) (hM.tw ht) hL' hn (by have:=ht.1;omega) hlt
 exact ⟨v',w9,h1,h2,h3,h4,((h.tw.low hb h.tw.1).trans ht).low h5 (by have:=h.tw.1;omega),((h.bl.trans (hb.mono h.s)).trans hbb).trans (h5.mono (by have:=h.s;omega))⟩
end
def WalkR (S:Nat) (U:UfR) (P:Nat) (Y:Nat→Prop) (ov:Value) (w:World) (e:Ending) (w':World):Prop :=
 ∃ a m cp,e=.returned (.tuple #[.slice a m cp,.bool U.isSome])∧Below S w w'∧∀ L o,U=some (L,o)→∃ ov',Ou S P Y w' ov' o∧BxsV (ZS P ov' Y) w' (.slice a m cp) L∧Tw P ov ov' w w'
end Go.Proofs.YtfcbbahlhjdefaaGreatDoor
