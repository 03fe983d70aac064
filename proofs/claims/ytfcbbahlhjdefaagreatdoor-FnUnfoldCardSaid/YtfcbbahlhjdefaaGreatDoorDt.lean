/- Shared lists of the call's own; tests of packets and the reference's TestsBox. -/
import Derived.Test.YtfcbbahlhjdefaaGreatDoorFnX
import Derived.Test.YtfcbbahlhjdefaaGreatDoorBsA
import Derived.Test.YtfcbbahlhjdefaaGreatDoorRgX
import Derived.Test.YtfcbbahlhjdefaaGreatDoorFmA
import Derived.Test.YtfcbbahlhjdefaaGreatDoorCuW
namespace Go.Proofs.YtfcbbahlhjdefaaGreatDoor
open Go.RowKit
def hole (w:World) (g:Option Nat):World:={ w with heap:=match g with | none=>w.heap | some k=>w.heap.setIfInBounds k (.cells #[] 0) }
theorem hole_size (w:World) (g:Option Nat):(hole w g).heap.size=w.heap.size:=by cases g<;>simp [hole]
theorem hole_block {w:World} {g:Option Nat} {k:Nat} (h:some k≠g):(hole w g).heap[k]?=w.heap[k]?:=by
 cases g with
 | none=>rfl
 | some j=>simp only [hole];exact Array.getElem?_setIfInBounds_ne (fun e=>h (by rw [e]))
theorem hole_cell {w:World} {g:Option Nat} {p:Addr} {c:Value}:(hole w g).cell? p=some c↔some p.block≠g∧w.cell? p=some c:=by
 by_cases h:some p.block=g
 ·subst h
  refine ⟨fun hc=>?_,fun hc=>(hc.1 rfl).elim⟩
  have hl:=World.block_lt_of_cell? _ _ hc
  rw [hole_size] at hl
  simp [World.cell?,hole,hl] at hc
 ·rw [World.cell?_of_block (hole_block h)]
  exact ⟨fun hc=>⟨h,hc⟩,fun hc=>hc.2⟩
structure Sb (lo:Nat) (w w':World):Prop where
 size:w.heap.size≤w'.heap.size
 cell:∀ p c,lo≤p.block→w.cell? p=some c→w'.cell? p=some c
theorem Sb.trans {lo:Nat} {a b c:World} (h:Sb lo a b) (k:Sb lo b c):Sb lo a c:=⟨Nat.le_trans h.size k.size,fun p u hp hu=>k.cell p u hp (h.cell p u hp hu)⟩
theorem Sb.out (lo:Nat) (w:World) (g:Option Nat):Sb lo (hole w g) w:=⟨by rw [hole_size];exact Nat.le_refl _,fun _ _ _ h=>(hole_cell.1 h).2⟩
theorem Sb.of {lo:Nat} {w w':World} (hz:w.heap.size≤w'.heap.size) (h:∀ k,lo≤k→k<w.heap.size→w'.heap[k]?=w.heap[k]?):Sb lo w w' :=
 ⟨hz,fun p _c hp hc=>(World.cell?_of_block (h p.block hp (World.block_lt_of_cell? _ _ hc))).trans hc⟩
theorem Sb.hole {lo:Nat} {w w':World} {g g':Option Nat} (hz:w.heap.size≤w'.heap.size) (h:∀ k,lo≤k→k<w.heap.size→some k≠g→some k≠g'∧w'.heap[k]?=w.heap[k]?):Sb lo (hole w g) (hole w' g'):=by
 refine ⟨by rw [hole_size,hole_size];exact hz,fun p c hp hc=>?_⟩
 obtain ⟨h1,h2⟩:=hole_cell.1 hc
 obtain ⟨h3,h4⟩:=h p.block hp (World.block_lt_of_cell? _ _ h2) h1
 exact hole_cell.2 ⟨h3,(World.cell?_of_block h4).trans h2⟩
theorem Sb.hole2 {lo:Nat} {w w':World} {g g' o o':Option Nat} (hz:w.heap.size≤w'.heap.size) (h:∀ k,lo≤k→k<w.heap.size→some k≠g→some k≠o→some k≠g'∧some k≠o'∧w'.heap[k]?=w.heap[k]?):Sb lo (Go.Proofs.YtfcbbahlhjdefaaGreatDoor.hole (Go.Proofs.YtfcbbahlhjdefaaGreatDoor.hole w g) o) (Go.Proofs.YtfcbbahlhjdefaaGreatDoor.hole (Go.Proofs.YtfcbbahlhjdefaaGreatDoor.hole w' g') o'):=by
 refine ⟨by simp only [hole_size];exact hz,fun p c hp hc=>?_⟩
 obtain ⟨h1,h2⟩:=hole_cell.1 hc
 obtain ⟨h3,h4⟩:=hole_cell.1 h2
 obtain ⟨a,b,e⟩:=h p.block hp (World.block_lt_of_cell? _ _ h4) h3 h1
 exact hole_cell.2 ⟨b,hole_cell.2 ⟨a,(World.cell?_of_block e).trans h4⟩⟩
theorem Sb.into {lo:Nat} {w:World} {g:Option Nat} (h:∀ z,g=some z→z<lo):Sb lo w (Go.Proofs.YtfcbbahlhjdefaaGreatDoor.hole w g) :=
 Sb.of (by rw [hole_size];exact Nat.le_refl _) (fun k hk _=>hole_block (fun e=>by have:=h k e.symm;omega))
theorem Sb.into2 {lo g:Nat} {w:World} (h:g<lo):Sb lo w (Go.Proofs.YtfcbbahlhjdefaaGreatDoor.hole (Go.Proofs.YtfcbbahlhjdefaaGreatDoor.hole w none) (some g)) :=
 (Sb.into (g:=none) (fun _ e=>by cases e)).trans (Sb.into (fun z e=>by cases e;exact h))
theorem SlFr.sub {α:Type} {lo sz:Nat} {enc:α→List Value} {w w':World} {v:Value} {xs:List α} (h:SlFr lo sz enc w v xs) (hw:Sb lo w w'):SlFr lo sz enc w' v xs:=by
 obtain ⟨a,cap,h1,h2,h3,hx⟩:=h
 refine ⟨a,cap,h1,h2,h3,fun k x hk=>?_⟩
 obtain ⟨b,o,e,hb,h,c⟩:=hx k x hk
 exact ⟨b,o,e,hb,Nat.lt_of_lt_of_le h hw.size,fun j u hj=>hw.cell _ _ hb (c j u hj)⟩
theorem Sps.sub {lo:Nat} {w w':World} {v:Value} {xs:List Sp} (h:Sps lo w v xs) (hw:Sb lo w w'):Sps lo w' v xs:=SlFr.sub h hw
theorem Rws.sub {lo:Nat} {w w':World} {v:Value} {b:Bx} (h:Rws lo w v b) (hw:Sb lo w w'):Rws lo w' v b :=
 let ⟨vs,h1,h2⟩:=h;⟨vs,h1.sub hw,h2.mono (fun _ _ h=>h.sub hw)⟩
def BxP (g:Option Nat) (lo:Nat) (w:World) (v:Value) (b:Bx):Prop :=
 ∃ vs,OwnSl lo 75 1 enc1 w v vs∧(∀ z,v.ownBlock=some z→g≠some z)∧All2 (Sps lo (hole (hole w g) v.ownBlock)) vs b
theorem BxP.len {g:Option Nat} {lo:Nat} {w:World} {v:Value} {b:Bx} (h:BxP g lo w v b):∃ a cap,v=.slice a b.length cap∧b.length≤cap∧cap≤maxLen:=by
 obtain ⟨vs,h1, -,h3⟩:=h
 rw [← h3.1]
 rcases OwnSl.form h1 with ⟨rfl,rfl⟩ | ⟨g,cap,rfl,_,_,hl,hc,_⟩
 ·exact ⟨none,0,rfl,by simp,by simp⟩
 ·exact ⟨_,_,rfl,hl,hc⟩
theorem BxP.keep {g g':Option Nat} {lo:Nat} {w w':World} {v:Value} {b:Bx} (h:BxP g lo w v b) (hz:w.heap.size≤w'.heap.size) (hk:∀ k,lo≤k→k<w.heap.size→some k≠g→w'.heap[k]?=w.heap[k]?) (hg:∀ z,g'=some z→g=some z∨z<lo∨w.heap.size≤z):BxP g' lo w' v b:=by
 obtain ⟨vs,h1,h2,h3⟩:=h
 refine ⟨vs,OwnSl.keepB h1 (fun z z1 z2 z3=>hk z z2 z3 (fun e=>h2 z z1 e.symm)),fun z hz' e=>?_,h3.mono (fun _ _ h=>h.sub (Sb.hole2 hz (fun k k1 k2 k3 k4=>⟨fun e=>?_,k4,hk k k1 k2 k3⟩)))⟩
 ·have:=World.ownsRow.lt h1 z hz'
  rcases hg z e with e2 | e2 | e2
  ·exact h2 z hz' e2
  ·omega
  ·omega
 ·rcases hg k e.symm with e2 | e2 | e2
  ·exact k3 e2.symm
  ·omega
  ·omega
theorem BxP.rws {g:Option Nat} {lo:Nat} {w:World} {v:Value} {b:Bx} (h:BxP g lo w v b):Rws lo (hole w g) v b:=by
 obtain ⟨vs,h1,h2,h3⟩:=h
 refine ⟨vs,OwnSl.fr (sz:=1) (enc:=enc1) (fun _=>rfl) (OwnSl.keepB h1 (fun z z1 _ _=>hole_block (fun e=>h2 z z1 e.symm))),h3.mono (fun _ _ h=>h.sub (Sb.out _ _ _))⟩
theorem BxP.rws0 {g:Option Nat} {lo:Nat} {w:World} {v:Value} {b:Bx} (h:BxP g lo w v b):Rws lo w v b:=h.rws.sub (Sb.out _ _ _)
theorem BxP.mono {g:Option Nat} {lo lo':Nat} {w:World} {v:Value} {b:Bx} (h:BxP g lo w v b) (hl:lo'≤lo):BxP g lo' w v b :=
 let ⟨vs,h1,h2,h3⟩:=h;⟨vs,OwnSl.mono h1 hl,h2,h3.mono (fun _ _ h=>h.mono hl)⟩
theorem BxP.ptr {g:Option Nat} {lo:Nat} {w:World} {v:Value} {b:Bx} (h:BxP g lo w v b) (hb:0<b.length):∃ q cap,v=.slice (some ⟨q,0,none⟩) b.length cap∧lo≤q∧q<w.heap.size∧b.length≤cap∧cap≤maxLen∧(∀ o,w.frozen? ⟨q,o,none⟩=false):=by
 obtain ⟨vs,h1, -,h3⟩:=h
 rcases OwnSl.form h1 with ⟨_,rfl⟩ | ⟨q,cap,h,q1,q2,q3,q4,q5⟩
 ·have:=h3.1;simp at this;omega
 ·exact ⟨q,cap,by rw [← h3.1];exact h,q1,q2,by rw [← h3.1];exact q3,q4,q5⟩
theorem BxP.at {g:Option Nat} {lo:Nat} {w:World} {q n cap:Nat} {b:Bx} (h:BxP g lo w (.slice (some ⟨q,0,none⟩) n cap) b) {k:Nat} (hk:k<b.length):∃ s xs,w.cell? ⟨q,k,none⟩=some s∧b[k]?=some xs∧Sps lo (hole (hole w g) (some q)) s xs:=by
 obtain ⟨vs,h1, -,h3⟩:=h
 have hkv:k<vs.length:=by rw [h3.1];exact hk
 have hn:n=vs.length:=by
  rcases OwnSl.form h1 with ⟨h,_⟩ | ⟨q,c,h,_⟩
  ·obtain ⟨h,_⟩:=Value.slice.inj h;cases h
  ·exact (Value.slice.inj h).2.1
 have hc:=OwnSl.cell (sz:=1) (enc:=enc1) (fun _=>rfl) (cap:=cap) (n:=n) (by exact h1) (List.getElem?_eq_getElem hkv) 0 vs[k] rfl
 rw [Nat.mul_one,Nat.add_zero] at hc
 exact ⟨vs[k],b[k],hc,List.getElem?_eq_getElem hk,h3.2 k _ _ (List.getElem?_eq_getElem hkv) (List.getElem?_eq_getElem hk)⟩
theorem GRw.bx {w:World} {lo hi:Nat} {v:Value} {b:Bx} (h:GRw w lo hi v b):BxP none lo w v b:=by
 obtain ⟨vs,h1,h2,h3,h4⟩:=h
 refine ⟨vs,h1,fun z _ e=>(by cases e),h4.all2 (PSp.kind.leO w _) (fun l m x y g1 g2 g3=>?_)⟩
 obtain ⟨ho,hc,hm⟩:=g3.1
 have hs:=OwnSp.sps (show OwnSp l w x y from ho)
 refine Sps.mono (lo:=l) ?_ g1
 rcases OwnSl.form ho with ⟨rfl,rfl⟩ | ⟨q,cap,rfl,q1,q2,q3,q4,_⟩
 ·exact ⟨none,0,rfl,by simp,by simp,fun k x h=>by simp at h⟩
 ·have hq:=hc q rfl
  have ho2:OwnSp l (hole (hole w none) v.ownBlock) (.slice (some ⟨q,0,none⟩) y.length cap) y:=OwnSl.keepB ho (fun z z1 _ _=>(hole_block (fun e=>by
   cases z1
   rcases g3.2 q e.symm with h | h<;>omega)).trans rfl)
  exact OwnSp.sps ho2
theorem BxP.set {g:Option Nat} {lo:Nat} {w:World} {b0 n cap:Nat} {b:Bx} (h:BxP g lo w (.slice (some ⟨b0,0,none⟩) n cap) b) {k:Nat} (hk:k<b.length) {s:Value} {xs:List Sp} (hs:Sps lo (hole (hole w g) (some b0)) s xs) :
  BxP g lo (w.setCell ⟨b0,k,none⟩ s) (.slice (some ⟨b0,0,none⟩) n cap) (b.set k xs):=by
 obtain ⟨vs,h1,h2,h3⟩:=h
 obtain ⟨a',cap',he,_⟩:=h3.1 ▸ (BxP.len ⟨vs,h1,h2,h3⟩)
 obtain ⟨y,hy⟩:∃ y,vs[k]?=some y:=⟨_,List.getElem?_eq_getElem (by rw [h3.1];exact hk)⟩
 have hn:n=vs.length:=by
  rcases OwnSl.form h1 with ⟨h,_⟩ | ⟨q,c,h,_⟩
  ·cases h
  ·cases h;rfl
 obtain ⟨s1,s2⟩:=OwnSl.storeAt (sz:=1) (enc:=enc1) (fun _=>rfl) hn h1 hy (j:=0) (c:=s) (y':=s) (by decide) rfl
 rw [Nat.mul_one,Nat.add_zero] at s1
 refine ⟨vs.set k s,s1,h2,?_⟩
 have hsb:Sb lo (hole (hole w g) (some b0)) (hole (hole (w.setCell ⟨b0,k,none⟩ s) g) (some b0)):=Sb.hole2 (by simp) (fun j j1 j2 j3 j4=>⟨j3,j4,Below.heap_setCell _ _ _ _ (fun e=>j4 (by rw [e]))⟩)
 exact (h3.mono (fun _ _ h=>Sps.sub h hsb)).set (hs.sub hsb) k
theorem BxP.below {g:Option Nat} {lo:Nat} {w w':World} {v:Value} {b:Bx} (h:BxP g lo w v b) (hm:Below w.heap.size w w'):BxP g lo w' v b :=
 h.keep hm.size (fun k _k1 k2 _=>hm.block k k2) (fun _z hz=>.inl hz)
structure Te where
 fld:Int
 lo:Int
 hi:Int
 not:Bool
abbrev Te.enc (t:Te):List Value:=[.int .i64 t.fld,.int .i64 t.lo,.int .i64 t.hi,.bool t.not]
def tvalid1 (f lo hi:Int):Bool:=inB f 0 3 && inB lo 0 hi && decide (hi≤top f.toNat)
set_option maxHeartbeats 1000000 in
theorem specTV_b {f lo hi:Int} {n r:Bool} (h:tvalid1 f lo hi=r) (w:World) :
  Calls Tryz.prog 123 #[.agg #[.int .i64 f,.int .i64 lo,.int .i64 hi,.bool n]] w fun e w'=>e=.returned (.bool r)∧Below w.heap.size w w':=by
 subst h
 have hal:Below w.heap.size w (w.alloc (.cells #[.int .i64 f,.int .i64 lo,.int .i64 hi,.bool n] 159)):=bR.alloc (Nat.le_refl _) _
 cases h1:inB f 0 3
 ·go_enter Tryz.func123,Tryz.ntmps123
  go_wp2_with fail
  refine wp_region_over (by kernel_rfl) (by kernel_rfl) (fun ov=>?_);have ov0:=fun x=>ov x (w.heap.size) (by (try simp)<;>omega);clear ov;(iterate 9 (iterate 8 (try go_big_quiet_step (first | (go_at_call 65;with_reducible exact callsOverSame (l1In_b h1 _))))));refine wpQuiet_nil ?_;intro w9 hw9;have hb_w9:=below_over hw9;clear hw9 ov0
  have hw9:=hal.trans (hb_w9.mono hal.size)
  go_wp2
  go_ret
  exact ⟨ret_bool (by simp [tvalid1,h1]),hw9⟩
 ·obtain ⟨g0,g1⟩:=inB_iff.1 h1
  obtain ⟨k,rfl⟩:∃ k:Nat,f=k:=⟨f.toNat,by omega⟩
  cases h2:inB lo 0 hi
  ·go_enter Tryz.func123,Tryz.ntmps123
   go_wp2_with fail
   refine wp_region_over (by kernel_rfl) (by kernel_rfl) (fun ov=>?_);have ov0:=fun x=>ov x (w.heap.size) (by (try simp)<;>omega);clear ov;(iterate 9 (iterate 8 (try go_big_quiet_step (first | (go_at_call 65;with_reducible exact callsOverSame (l1In_b h1 _)) | (go_at_call 65;with_reducible exact callsOverSame (l1In_b h2 _))))));refine wpQuiet_nil ?_;intro w9 hw9;have hb_w9:=below_over hw9;clear hw9 ov0
   have hw9:=hal.trans (hb_w9.mono hal.size)
   go_wp2
   go_ret
   exact ⟨ret_bool (by simp [tvalid1,h1,h2]),hw9⟩
  ·go_enter Tryz.func123,Tryz.ntmps123
   go_wp2_with fail
   refine wp_region_over (by kernel_rfl) (by kernel_rfl) (fun ov=>?_);have ov0:=fun x=>ov x (w.heap.size) (by (try simp)<;>omega);clear ov;(iterate 9 (iterate 8 (try go_big_quiet_step (first | (go_at_call 65;with_reducible exact callsOverSame (l1In_b h1 _)) | (go_at_call 65;with_reducible exact callsOverSame (l1In_b h2 _)) | (go_at_call 72;with_reducible exact callsOverSame (specFTop_any k (by omega) _))))));refine wpQuiet_nil ?_;intro w9 hw9;have hb_w9:=below_over hw9;clear hw9 ov0
   have hw9:=hal.trans (hb_w9.mono hal.size)
   go_wp2
   go_ret
   exact ⟨ret_bool (by simp [tvalid1,h1,h2]),hw9⟩
def Te.ok (t:Te):Bool:=tvalid1 t.fld t.lo t.hi
def Tes (w:World) (v:Value) (ts:List Te):Prop:=SlAt 4 Te.enc w v ts
theorem Tes.at {w:World} {a:Option Addr} {n cap:Nat} {ts:List Te} (h:Tes w (.slice a n cap) ts) {k:Nat} (hk:k<ts.length) :
  ∃ b o f lo hi q,a=some ⟨b,o,none⟩∧b<w.heap.size∧ts[k]?=some ⟨f,lo,hi,q⟩∧w.cell? ⟨b,o+k*4,none⟩=some (.int .i64 f)∧w.cell? ⟨b,o+k*4+1,none⟩=some (.int .i64 lo) ∧
   w.cell? ⟨b,o+k*4+2,none⟩=some (.int .i64 hi)∧w.cell? ⟨b,o+k*4+3,none⟩=some (.bool q):=by
 obtain ⟨a',cap',he,_,_,hx⟩:=h
 obtain ⟨rfl,_,_⟩:=Value.slice.inj he
 obtain ⟨b,o,ha,hb,hc⟩:=hx k ts[k] (List.getElem?_eq_getElem hk)
 exact ⟨b,o,_,_,_,_,ha,hb,List.getElem?_eq_getElem hk,hc 0 _ rfl,hc 1 _ rfl,hc 2 _ rfl,hc 3 _ rfl⟩
theorem sother_cons {t at':Int} {xs:List Sp} {k:Nat} {x:Sp} (hx:xs[k]?=some x):sother t at' (xs.drop k)=(if at'<x.lo then [⟨at',x.lo - 1⟩] else [])++sother t (x.hi+1) (xs.drop (k+1)):=by
 obtain ⟨h1,h2⟩:=List.getElem?_eq_some_iff.1 hx
 rw [List.drop_eq_getElem_cons h1,h2]
 conv=>lhs;unfold sother
set_option maxHeartbeats 4000000 in
set_option maxRecDepth 100000 in
theorem l2Other_any {lo:Nat} (xs:List Sp) (u:Value) (t:Int) (w:World) (hs:Sps lo w u xs) (hx:xs.length≤2000) (hg:sgood t 0 xs=true) (ht:t≤65535) :
  Calls Tryz.prog 102 #[u,.int .i64 t] w (RetSp (sother t 0 xs) w):=by
 obtain ⟨a,cap,rfl,hlc,hcm⟩:=hs.form
 unfold maxLen at hcm
 generalize hn:xs.length=n at *
 have HN:=Lib.hid hn
 have HGG:=Lib.hid hg
 obtain ⟨i0,hi,hy0,hy1,hy2⟩:=info_parts infoSp
 have HO0:=Lib.hid (OwnSp.lit (base:=w.heap.size) (w:=w) (Nat.le_refl _))
 have hal:Below w.heap.size w (w.alloc (.cells #[] 74)):=bR.alloc (Nat.le_refl _) _
 clear hn hg
 go_enter Tryz.func102,Tryz.ntmps102
 go_wp2_with fail
 go_loopw [5,6,7] (fun o q i wr=>∃ (k:Nat) (at':Int) (ys:List Sp),k≤n∧i=.int .i64 k∧q=.int .i64 at'∧0≤at'∧at'≤65536∧Hid (OwnSp w.heap.size wr o ys)∧Hid (ys++sother t at' (xs.drop k)=sother t 0 xs)∧Hid (ys.length≤k)∧Below w.heap.size w wr) (fun _ _ i _=>n - (intOf i).toNat)
 case atStart=>exact ⟨0,0,[],by omega,rfl,rfl,by omega,by omega,HO0,Lib.hid rfl,Lib.hid (Nat.le_refl 0),hal⟩
 case round =>
  obtain ⟨k,at',ys,hk,rfl,rfl,ha0,ha1,HO,HY,HL,hbr⟩:=hrel
  have hzr:=hbr.size
  by_cases hlt:k<n
  ·have i1:(k:Int)<(n:Int):=by omega
   have i2:(0:Int)≤(k:Int):=by omega
   obtain ⟨b,o,f1,f2,rfl,hbl,hx1,d0,d1⟩:=hs.at (show k<xs.length by rw [HN.out];exact hlt)
   have c0:=(hbr.cell (p:=⟨b,o+k*2,none⟩) hbl).trans d0
   have c1:=(hbr.cell (p:=⟨b,o+k*2+1,none⟩) hbl).trans d1
   obtain ⟨g0,g1,g2⟩:=sgood_get HGG.out hx1
   simp only at g0 g1 g2
   have HS:=Lib.hid (sother_cons (t:=t) (at':=at') hx1)
   clear hx1
   by_cases hlf:at'<f1
   ·have HYL:=Lib.hid HL.out
    go_wp2_with (at_builtin;refine wpList_append_own _ rfl _ _ 75 rfl w.heap.size 74 i0 _ 2 16 Tryz.underlying75 hi hy0 hy1 hy2 rfl (by decide) _ _ _ rfl (World.ownsRow.alloc HO.out _) ⟨wr.heap.size,0,none⟩ 1 1 (Sp.enc ⟨at',f1 - 1⟩) rfl rfl (cellsNew wr (Sp.enc ⟨at',f1 - 1⟩) _) ?c2 ?c3 ?c4 ?c5 ?_)
    case c2=>simp [Value.oneCell']
    case c3=>have:=HYL.out;simp only [maxLen];omega
    case c4=>have:=HYL.out;omega
    case c5=>first | omega | (simp;omega)
    intro v' w4 hown4 hgrow4 _
    have hB:=belGrown (hbr.alloc (by omega) _) (World.ownsRow.alloc HO.out _) hgrow4 (by simp;omega)
    have e1:=(hB.cell (p:=⟨b,o+k*2+1,none⟩) hbl).trans d1
    have HO4:=Lib.hid (OwnSl.pushed rfl hown4)
    have HY4:=Lib.hid (show (ys++[⟨at',f1 - 1⟩])++sother t (f2+1) (xs.drop (k+1))=sother t 0 xs by rw [← HY.out,HS.out,if_pos hlf,List.append_assoc])
    clear hown4 hgrow4
    go_wp2
    go_roundw
    case rel=>exact ⟨k+1,f2+1,_,by omega,by go_num,by go_num,by omega,by omega,HO4,HY4,Lib.hid (by have:=HYL.out;simp;omega),hB⟩
    case measure=>simp [intOf];omega
   ·have hlfd:decide (at'<f1)=false:=decide_eq_false hlf
    have HY4:=Lib.hid (show ys++sother t (f2+1) (xs.drop (k+1))=sother t 0 xs by rw [← HY.out,HS.out,if_neg hlf,List.nil_append])
    go_wp2
    go_roundw
    case rel=>exact ⟨k+1,f2+1,ys,by omega,by go_num,by go_num,by omega,by omega,HO,HY4,Lib.hid (by have:=HL.out;omega),hbr⟩
    case measure=>simp [intOf];omega
  ·have hkn:k=n:=by omega
   have HYN:=Lib.hid (show ys++(if at'≤t then [⟨at',t⟩] else [])=sother t 0 xs by
    rw [← HY.out,List.drop_of_length_le (by rw [HN.out];omega)];rfl)
   by_cases hlt2:at'≤t
   ·go_wp2_with (at_builtin;refine wpList_append_own _ rfl _ _ 75 rfl w.heap.size 74 i0 _ 2 16 Tryz.underlying75 hi hy0 hy1 hy2 rfl (by decide) _ _ _ rfl (World.ownsRow.alloc HO.out _) ⟨wr.heap.size,0,none⟩ 1 1 (Sp.enc ⟨at',t⟩) rfl rfl (cellsNew wr (Sp.enc ⟨at',t⟩) _) ?c2 ?c3 ?c4 ?c5 ?_)
    case c2=>simp [Value.oneCell']
    case c3=>have:=HL.out;simp only [maxLen];omega
    case c4=>have:=HL.out;omega
    case c5=>first | omega | (simp;omega)
    intro v' w4 hown4 hgrow4 _
    have hB:=belGrown (hbr.alloc (by omega) _) (World.ownsRow.alloc HO.out _) hgrow4 (by simp;omega)
    have HO4:=Lib.hid (OwnSl.pushed rfl hown4)
    rw [if_pos hlt2] at HYN
    clear hown4 hgrow4
    go_wp2
    go_ret
    exact ⟨_,rfl,by rw [← HYN.out];exact HO4.out,hB⟩
   ·have hld:decide (at'≤t)=false:=decide_eq_false hlt2
    rw [if_neg hlt2,List.append_nil] at HYN
    go_wp2
    go_ret
    exact ⟨_,rfl,by rw [← HYN.out];exact HO.out,hbr⟩
theorem sother_len1 (t at':Int) (x:Sp):(sother t at' [x]).length≤2:=by
 unfold sother
 unfold sother
 split<;>split<;>simp
theorem tvalid1_iff {f:Nat} {lo hi:Int} (h:tvalid1 f lo hi=true):0≤lo∧lo≤hi∧hi≤top f:=by
 unfold tvalid1 at h
 simp only [Bool.and_eq_true,decide_eq_true_eq,inB_iff,Int.toNat_natCast] at h
 omega
theorem tvalid1_fld {f:Int} {lo hi:Int} (h:tvalid1 f lo hi=true):∃ k:Nat,f=k∧k<4:=by
 unfold tvalid1 at h
 simp only [Bool.and_eq_true,inB_iff] at h
 exact ⟨f.toNat,by omega,by omega⟩
theorem litSp1 {base:Nat} {w:World} {lo hi:Int} (h:base≤w.heap.size):OwnSp base (w.alloc (.cells #[.int .i64 lo,.int .i64 hi] 74)) (.slice (some ⟨w.heap.size,0,none⟩) 1 1) [⟨lo,hi⟩]:=by
 exact ⟨by simp,.inr ⟨w.heap.size,1,#[.int .i64 lo,.int .i64 hi],rfl,h,heap_alloc_new w _,Nat.le_refl _,by simp [maxLen],by simp,by simp⟩⟩
theorem alloc2_cells (w:World) (A B:Array Value) (t1 t2:Nat) :
  (∀ k,((w.alloc (.cells A t1)).alloc (.cells B t2)).cell? ⟨w.heap.size,k,none⟩=A[k]?∧((w.alloc (.cells A t1)).alloc (.cells B t2)).frozen? ⟨w.heap.size,k,none⟩=false) ∧
  (∀ k,((w.alloc (.cells A t1)).alloc (.cells B t2)).cell? ⟨w.heap.size+1,k,none⟩=B[k]?∧((w.alloc (.cells A t1)).alloc (.cells B t2)).frozen? ⟨w.heap.size+1,k,none⟩=false):=by
 refine ⟨fun k=>⟨?_,?_⟩,fun k=>⟨?_,?_⟩⟩<;>go_simp
theorem cellsNew2 (w:World) (A:Array Value) (t1:Nat) (cs:List Value) (e:Nat):∀ (j:Nat) u,cs[j]?=some u→((w.alloc (.cells A t1)).alloc (.cells cs.toArray e)).cell? ((⟨w.heap.size+1,0,none⟩:Addr).add j)=some u:=by
 have:=cellsNew (w.alloc (.cells A t1)) cs e
 simpa using this
def ball:Bx:=[[⟨0,65535⟩],[⟨0,65535⟩],[⟨0,top 2⟩],[⟨0,top 3⟩]]
theorem ball_at {k:Nat} (hk:k<4):ball[k]?=some [⟨0,top k⟩]:=by
 rcases (by omega:k=0∨k=1∨k=2∨k=3) with rfl | rfl | rfl | rfl<;>rfl
set_option maxHeartbeats 4000000 in
set_option maxRecDepth 100000 in
theorem boxAll_any (w:World) :
  Calls Tryz.prog 33 #[] w fun e w'=>∃ v',e=.returned (.agg #[v'])∧GRw w' w.heap.size w'.heap.size v' ball∧Below w.heap.size w w':=by
 obtain ⟨W,hW⟩:∃ W,((w.alloc (.cells #[.slice none 0 0] 41)).alloc (.cells #[.slice none 0 0] 41))=W:=⟨_,rfl⟩
 have hal:Below w.heap.size w W:=by rw [← hW];(repeat' (first | with_reducible exact Below.refl _ _ | with_reducible assumption | with_reducible refine Below.setCell ?_ ?_ _ | with_reducible refine Below.alloc ?_ ?_ _ | with_reducible refine Below.drew ?_ | with_reducible refine belDrewN ?_ _ | with_reducible refine Below.trans ?_ (Below.mono (by assumption) ?_) | omega | (simp;omega) | (simp;done)))
 have qs:W.heap.size=w.heap.size+1+1:=by rw [← hW];simp
 have HA4:=alloc2_cells w #[.slice none 0 0] #[.slice none 0 0] 41 41
 rw [hW] at HA4
 have g2:W.cell? ⟨w.heap.size,0,none⟩=some (.slice none 0 0):=by rw [(HA4.1 0).1];rfl
 have m2:W.frozen? ⟨w.heap.size,0,none⟩=false:=(HA4.1 0).2
 have g3:W.cell? ⟨w.heap.size+1,0,none⟩=some (.slice none 0 0):=by rw [(HA4.2 0).1];rfl
 have m3:W.frozen? ⟨w.heap.size+1,0,none⟩=false:=(HA4.2 0).2
 clear HA4
 obtain ⟨i0,hi,hy0,hy1,hy2⟩:=info_parts infoSl
 go_enter Tryz.func33,Tryz.ntmps33
 go_wp2_with fail
 go_loopw [2] (fun i wr=>∃ (k:Nat) (vs:List Value) (x:Value),k≤4∧i=.int .i64 k∧Below (w.heap.size+1) W wr∧wr.cell? ⟨w.heap.size+1,0,none⟩=some x∧wr.frozen? ⟨w.heap.size+1,0,none⟩=false ∧
  Hid (OwnSl (w.heap.size+1+1) 75 1 enc1 wr x vs)∧Hid (∀ z,x.ownBlock=some z→z<wr.heap.size)∧Hid (OwnD (fun l h y z=>PSp wr l h y z∧Off x.ownBlock l h) (w.heap.size+1+1) wr.heap.size vs (ball.take k))) (fun i _=>4 - (intOf i).toNat)
 case atStart =>
  refine ⟨0,[],.slice none 0 0,by omega,rfl,Below.setCell (p:=⟨w.heap.size+1,0,none⟩) bR (Nat.le_refl _) _,World.cell?_setCell_same' _ _ _ (by rw [g3];rfl),by rw [World.frozen?_setCell];exact m3,Lib.hid (OwnSl.nil _ _ _ _ _),Lib.hid (fun z hz=>by cases hz),Lib.hid ?_⟩
  show _≤_
  simp;omega
 case round =>
  obtain ⟨k,vs,x,hk4,rfl,hbr,cx,fx,HO,HX,HD⟩:=hrel
  have hzr:=hbr.size
  have hwr:Below w.heap.size w wr:=hal.trans (hbr.mono (by omega))
  have c2:=(hbr.cell (p:=⟨w.heap.size,0,none⟩) (by simp only;omega)).trans g2
  have f2:=(hbr.frozen (p:=⟨w.heap.size,0,none⟩) (by simp only;omega)).trans m2
  have z3:w.heap.size+1<wr.heap.size:=by omega
  by_cases hlt:k<4
  ·have i1:(k:Int)<4:=by omega
   have HV:=Lib.hid (show vs.length≤4 by have:=HD.out.len;rw [List.length_take] at this;omega)
   have HC:=Lib.hid (And.intro cx fx)
   have HL:=Lib.hid hlt
   have ea:∀ o,(wr.alloc o).cell? ⟨w.heap.size+1,0,none⟩=some x:=fun o=>(World.cell?_alloc_lt _ _ ⟨w.heap.size+1,0,none⟩ z3).trans cx
   have eb:∀ o o',((wr.alloc o).alloc o').cell? ⟨w.heap.size+1,0,none⟩=some x:=fun o o'=>(World.cell?_alloc_lt _ _ ⟨w.heap.size+1,0,none⟩ (by simp;omega)).trans (ea o)
   clear g2 m2 g3 m3 hW
   go_wp2_with fail
   go_region_law (first | ((fail_if_success have:=hdone);go_simp;go_wp2_with (go_at_call 72;refine (specFTop_any k HL.out _).mono ?_;rintro e _ ⟨rfl,rfl⟩;have hdone:True:=trivial)) | (refine step_append_lies _ rfl (.tmp 9) (.tmp 14) 39 rfl (w.heap.size+1+1) 75 i0 _ 1 24 Tryz.underlying39 hi hy0 hy1 hy2 rfl (by decide) x vs.length (vs.flatMap enc1) (by simp [Act.eval]) (World.ownsRow.alloc (World.ownsRow.alloc (OwnSl.kept HO.out (Below.drew bR)) _) _) ⟨wr.heap.size+1,0,none⟩ 1 1 (enc1 (.slice (some ⟨wr.heap.size,0,none⟩) 1 1)) (by simp [Act.eval]) rfl (cellsNew2 wr.drew _ _ (enc1 _) _) (by simp [Value.oneCell']) (by decide) (by have:=HV.out;simp only [maxLen];omega) (by have:=HV.out;omega) (by simp;omega) _ rfl ?_;intro g5 cap5 w5 hown5 hgrow5 hlies5 hlt5;have e5:=(hgrow5.cell_far ⟨w.heap.size+1,0,none⟩ (by simp;omega) (fun h=>by have:=World.ownsRow.lt HO.out _ h.symm;simp only at this;omega)).trans ((World.cell?_alloc_lt _ _ ⟨w.heap.size+1,0,none⟩ (by simp;omega)).trans ((World.cell?_alloc_lt _ _ ⟨w.heap.size+1,0,none⟩ z3).trans HC.out.1));have f5:=(hgrow5.frozen_far ⟨w.heap.size+1,0,none⟩ (by simp;omega) (fun h=>by have:=World.ownsRow.lt HO.out _ h.symm;simp only at this;omega)).trans ((World.frozen?_alloc_old _ _ ⟨w.heap.size+1,0,none⟩ (by simp;omega)).trans ((World.frozen?_alloc_old _ _ ⟨w.heap.size+1,0,none⟩ (by simp;omega)).trans HC.out.2))))
   all_goals
    have hb4:Below wr.heap.size wr (wr.drew.alloc (.cells #[.int .i64 0,.int .i64 (top k)] 74)):=(Below.drew bR).alloc (Nat.le_refl _) _
    have hp4:PSp (wr.drew.alloc (.cells #[.int .i64 0,.int .i64 (top k)] 74)) wr.heap.size (wr.drew.alloc (.cells #[.int .i64 0,.int .i64 (top k)] 74)).heap.size (.slice (some ⟨wr.heap.size,0,none⟩) 1 1) [⟨0,top k⟩]:=PSp.of (litSp1 (w:=wr.drew) (Nat.le_refl _)) (Nat.le_refl _) hb4.size
    have hp5:=OwnG.push (P:=PSp) (e:=75) (sz:=1) (enc:=enc1) PSp.kind (w:=wr) HD.out HX.out (by omega) hb4 hp4 (grown_old hgrow5) (OwnSl.pushed rfl hown5) hlies5 hlt5 (by simp)
    have hB5:Below (w.heap.size+1) W w5:=hbr.trans (((hb4.mono (by omega)).alloc (by simp;omega) _).grown hgrow5 (by simp;omega) (fun h hh=>by have:=World.ownsRow.lt HO.out _ hh;omega))
    have HP5:=Lib.hid hp5
    clear hp5 hown5 hgrow5 hlies5 hlt5 hb4 hp4
    go_wp2
    go_roundw
    case rel =>
     obtain ⟨vs6,ho6,hv6,hl6,hd6⟩:=OwnG.keepSet (u:=.slice (some ⟨g5,0,none⟩) (vs.length+1) cap5) (p:=⟨w.heap.size+1,0,none⟩) PSp.kind HP5.out (by simp)
     refine ⟨k+1,vs6,_,by omega,by go_num,hB5.setCell (Nat.le_refl _) _,World.cell?_setCell_same' _ _ _ (by rw [e5];rfl),by rw [World.frozen?_setCell];exact f5,Lib.hid ho6,Lib.hid (by simpa using hv6),Lib.hid ?_⟩
     rw [List.take_add_one,ball_at HL.out]
     simpa using hd6
    case measure=>simp [intOf];omega
  ·have hkn:k=4:=by omega
   subst hkn
   obtain ⟨xa,xn,xc,rfl⟩:∃ xa xn xc,x=.slice xa xn xc:=by
    rcases OwnSl.form HO.out with ⟨h,_⟩ | ⟨g,cp,h,_⟩
    ·exact ⟨_,_,_,h⟩
    ·exact ⟨_,_,_,h⟩
   have HG:=Lib.hid (show GRw wr (w.heap.size+1+1) wr.heap.size (.slice xa xn xc) ball from ⟨vs,HO.out,HX.out,by omega,HD.out⟩)
   go_wp2_with fail
   refine bodyPost_ret (v:=.agg #[.slice xa xn xc]) ?_ rfl ⟨_,rfl,?_,hwr.setCell (by simp only;omega) _⟩
   ·simp [results,Tryz.results33,go_sem,c2]
   ·have:=OwnG.keepSet (u:=.slice xa xn xc) (p:=⟨w.heap.size,0,none⟩) PSp.kind HG.out (by simp only;omega)
    rw [show (wr.setCell ⟨w.heap.size,0,none⟩ (.slice xa xn xc)).heap.size=wr.heap.size from by simp]
    exact OwnG.low this (by omega)
end Go.Proofs.YtfcbbahlhjdefaaGreatDoor
