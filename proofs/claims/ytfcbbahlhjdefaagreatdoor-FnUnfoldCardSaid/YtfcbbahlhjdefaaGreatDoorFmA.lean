/- Plain facts on spans and boxes; the reference and the program on spans: walks. -/
import Derived.Test.YtfcbbahlhjdefaaGreatDoorBsA
namespace Go.Proofs.YtfcbbahlhjdefaaGreatDoor
open Go.RowKit
abbrev Sp.enc (s:Sp):List Value:=[.int .i64 s.lo,.int .i64 s.hi]
abbrev Bx:=List (List Sp)
structure Ft where
 box:Bx
 acc:Bool
 deriving DecidableEq
def SlFr {α:Type} (lo sz:Nat) (enc:α→List Value) (w:World) (v:Value) (xs:List α):Prop :=
 ∃ a cap,v=.slice a xs.length cap∧xs.length≤cap∧cap≤maxLen∧∀ (k:Nat) x,xs[k]?=some x→∃ b o,a=some ⟨b,o,none⟩∧lo≤b∧b<w.heap.size∧CellsAt w b (o+k*sz) (enc x)
theorem SlFr.at {α:Type} {lo sz:Nat} {enc:α→List Value} {w:World} {v:Value} {xs:List α} (h:SlFr lo sz enc w v xs):SlAt sz enc w v xs:=by
 obtain ⟨a,cap,h1,h2,h3,hx⟩:=h
 exact ⟨a,cap,h1,h2,h3,fun k x hk=>let ⟨b,o,e,_,h,c⟩:=hx k x hk;⟨b,o,e,h,c⟩⟩
theorem SlFr.of {α:Type} {sz:Nat} {enc:α→List Value} {w:World} {v:Value} {xs:List α} (h:SlAt sz enc w v xs):SlFr 0 sz enc w v xs:=by
 obtain ⟨a,cap,h1,h2,h3,hx⟩:=h
 exact ⟨a,cap,h1,h2,h3,fun k x hk=>let ⟨b,o,e,h,c⟩:=hx k x hk;⟨b,o,e,Nat.zero_le _,h,c⟩⟩
theorem SlFr.mono {α:Type} {lo lo' sz:Nat} {enc:α→List Value} {w:World} {v:Value} {xs:List α} (h:SlFr lo sz enc w v xs) (hl:lo'≤lo):SlFr lo' sz enc w v xs:=by
 obtain ⟨a,cap,h1,h2,h3,hx⟩:=h
 exact ⟨a,cap,h1,h2,h3,fun k x hk=>let ⟨b,o,e,hb,h,c⟩:=hx k x hk;⟨b,o,e,Nat.le_trans hl hb,h,c⟩⟩
structure Kp (lo:Nat) (w w':World):Prop where
 size:w.heap.size≤w'.heap.size
 block:∀ k,lo≤k→k<w.heap.size→w'.heap[k]?=w.heap[k]?
theorem Kp.refl (lo:Nat) (w:World):Kp lo w w:=⟨Nat.le_refl _,fun _ _ _=>rfl⟩
theorem Kp.trans {lo:Nat} {a b c:World} (h:Kp lo a b) (k:Kp lo b c):Kp lo a c :=
 ⟨Nat.le_trans h.size k.size,fun j h1 h2=>(k.block j h1 (Nat.lt_of_lt_of_le h2 h.size)).trans (h.block j h1 h2)⟩
theorem Kp.of {lo:Nat} {w w':World} (h:Below w.heap.size w w'):Kp lo w w':=⟨h.size,fun k _ hk=>h.block k hk⟩
theorem SlFr.keep {α:Type} {lo sz:Nat} {enc:α→List Value} {w w':World} {v:Value} {xs:List α} (h:SlFr lo sz enc w v xs) (hw:Kp lo w w'):SlFr lo sz enc w' v xs:=by
 obtain ⟨a,cap,h1,h2,h3,hx⟩:=h
 refine ⟨a,cap,h1,h2,h3,fun k x hk=>?_⟩
 obtain ⟨b,o,e,hb,h,c⟩:=hx k x hk
 exact ⟨b,o,e,hb,Nat.lt_of_lt_of_le h hw.size,fun j u hj=>(World.cell?_of_block (a:=⟨b,o+k*sz+j,none⟩) (hw.block b hb h)).trans (c j u hj)⟩
theorem SlFr.below {α:Type} {lo sz:Nat} {enc:α→List Value} {w w':World} {v:Value} {xs:List α} (h:SlFr lo sz enc w v xs) (hw:Below w.heap.size w w'):SlFr lo sz enc w' v xs:=h.keep (Kp.of hw)
theorem OwnSl.fr {α:Type} {base e sz:Nat} {enc:α→List Value} (henc:∀ x,(enc x).length=sz) {w:World} {v:Value} {ys:List α} (h:OwnSl base e sz enc w v ys):SlFr base sz enc w v ys:=by
 rcases OwnSl.form h with ⟨rfl,rfl⟩ | ⟨g,cap,rfl,hg,hs,hl,hc,_⟩
 ·exact ⟨none,0,rfl,by simp,by simp,fun k x h=>by simp at h⟩
 ·refine ⟨_,_,rfl,hl,hc,fun k x hk=>⟨g,0,rfl,hg,hs,?_⟩⟩
  intro j c hj
  have:=OwnSl.cell henc h hk j c hj
  rwa [Nat.zero_add]
def All2 {α β:Type} (R:α→β→Prop) (xs:List α) (ys:List β):Prop:=xs.length=ys.length∧∀ (k:Nat) x y,xs[k]?=some x→ys[k]?=some y→R x y
theorem All2.mono {α β:Type} {R S:α→β→Prop} {xs:List α} {ys:List β} (h:All2 R xs ys) (hs:∀ x y,R x y→S x y):All2 S xs ys:=⟨h.1,fun k x y h1 h2=>hs x y (h.2 k x y h1 h2)⟩
theorem All2.nil {α β:Type} {R:α→β→Prop}:All2 R [] []:=⟨rfl,fun k x y h=>by simp at h⟩
theorem All2.left {α β:Type} {R:α→β→Prop} {xs:List α} {ys:List β} (h:All2 R xs ys) {k:Nat} {y:β} (hy:ys[k]?=some y):∃ x,xs[k]?=some x∧R x y:=by
 have:=(List.getElem?_eq_some_iff.1 hy).1
 have hx:=List.getElem?_eq_getElem (show k<xs.length by rw [h.1];exact this)
 exact ⟨_,hx,h.2 k _ _ hx hy⟩
theorem All2.snoc {α β:Type} {R:α→β→Prop} {xs:List α} {ys:List β} {x:α} {y:β} (h:All2 R xs ys) (hr:R x y):All2 R (xs++[x]) (ys++[y]):=by
 refine ⟨by simp [h.1],fun k a b ha hb=>?_⟩
 by_cases hk:k<xs.length
 ·rw [List.getElem?_append_left hk] at ha
  rw [List.getElem?_append_left (by rw [← h.1];exact hk)] at hb
  exact h.2 k a b ha hb
 ·have hl:=(List.getElem?_eq_some_iff.1 ha).1
  simp only [List.length_append,List.length_singleton] at hl
  obtain rfl:k=xs.length:=by omega
  rw [List.getElem?_append_right (Nat.le_refl _),Nat.sub_self] at ha
  rw [List.getElem?_append_right (by rw [h.1];exact Nat.le_refl _),h.1,Nat.sub_self] at hb
  simp at ha hb
  subst ha hb
  exact hr
theorem All2.set {α β:Type} {R:α→β→Prop} {xs:List α} {ys:List β} {x:α} {y:β} (h:All2 R xs ys) (hr:R x y) (n:Nat):All2 R (xs.set n x) (ys.set n y):=by
 refine ⟨by simp [h.1],fun k a b ha hb=>?_⟩
 by_cases hk:n=k
 ·subst hk
  have hl:=(List.getElem?_eq_some_iff.1 ha).1
  simp only [List.length_set] at hl
  rw [List.getElem?_set_self hl] at ha
  rw [List.getElem?_set_self (by rw [← h.1];exact hl)] at hb
  cases ha;cases hb
  exact hr
 ·rw [List.getElem?_set_ne hk] at ha hb
  exact h.2 k a b ha hb
abbrev enc1 (v:Value):List Value:=[v]
structure RF where
 s:Value
 acc:Bool
abbrev RF.enc (r:RF):List Value:=[r.s,.bool r.acc]
structure R5 where
 v0:Value
 v1:Value
 v2:Value
 v3:Value
 acc:Bool
abbrev R5.enc (r:R5):List Value:=[r.v0,r.v1,r.v2,r.v3,.bool r.acc]
def Sps (lo:Nat) (w:World) (v:Value) (xs:List Sp):Prop:=SlFr lo 2 Sp.enc w v xs
def Rws (lo:Nat) (w:World) (v:Value) (b:Bx):Prop:=∃ vs,SlFr lo 1 enc1 w v vs∧All2 (Sps lo w) vs b
def Fts (lo:Nat) (w:World) (v:Value) (fs:List Ft):Prop:=∃ rs,SlFr lo 2 RF.enc w v rs∧All2 (fun (r:RF) (f:Ft)=>Rws lo w r.s f.box∧r.acc=f.acc) rs fs
def Bxs (lo:Nat) (w:World) (v:Value) (bs:List Bx):Prop:=∃ vs,SlFr lo 1 enc1 w v vs∧All2 (Rws lo w) vs bs
def R5.ok (lo:Nat) (w:World) (r:R5) (f:Ft):Prop:=All2 (Sps lo w) [r.v0,r.v1,r.v2,r.v3] f.box∧r.acc=f.acc
def Ifs (lo:Nat) (w:World) (v:Value) (fs:List Ft):Prop:=∃ rs,SlFr lo 5 R5.enc w v rs∧All2 (R5.ok lo w) rs fs
theorem Sps.keep {lo:Nat} {w w':World} {v:Value} {xs:List Sp} (h:Sps lo w v xs) (hw:Kp lo w w'):Sps lo w' v xs:=SlFr.keep h hw
theorem Rws.keep {lo:Nat} {w w':World} {v:Value} {b:Bx} (h:Rws lo w v b) (hw:Kp lo w w'):Rws lo w' v b :=
 let ⟨vs,h1,h2⟩:=h;⟨vs,h1.keep hw,h2.mono (fun _ _ h=>h.keep hw)⟩
theorem Fts.keep {lo:Nat} {w w':World} {v:Value} {fs:List Ft} (h:Fts lo w v fs) (hw:Kp lo w w'):Fts lo w' v fs :=
 let ⟨rs,h1,h2⟩:=h;⟨rs,h1.keep hw,h2.mono (fun _ _ h=>⟨h.1.keep hw,h.2⟩)⟩
theorem Bxs.keep {lo:Nat} {w w':World} {v:Value} {bs:List Bx} (h:Bxs lo w v bs) (hw:Kp lo w w'):Bxs lo w' v bs :=
 let ⟨vs,h1,h2⟩:=h;⟨vs,h1.keep hw,h2.mono (fun _ _ h=>h.keep hw)⟩
theorem R5.ok.keep {lo:Nat} {w w':World} {r:R5} {f:Ft} (h:R5.ok lo w r f) (hw:Kp lo w w'):R5.ok lo w' r f:=⟨h.1.mono (fun _ _ h=>h.keep hw),h.2⟩
theorem Ifs.keep {lo:Nat} {w w':World} {v:Value} {fs:List Ft} (h:Ifs lo w v fs) (hw:Kp lo w w'):Ifs lo w' v fs :=
 let ⟨rs,h1,h2⟩:=h;⟨rs,h1.keep hw,h2.mono (fun _ _ h=>h.keep hw)⟩
theorem Sps.mono {lo lo':Nat} {w:World} {v:Value} {xs:List Sp} (h:Sps lo w v xs) (hl:lo'≤lo):Sps lo' w v xs:=SlFr.mono h hl
theorem Rws.mono {lo lo':Nat} {w:World} {v:Value} {b:Bx} (h:Rws lo w v b) (hl:lo'≤lo):Rws lo' w v b :=
 let ⟨vs,h1,h2⟩:=h;⟨vs,h1.mono hl,h2.mono (fun _ _ h=>h.mono hl)⟩
theorem Fts.mono {lo lo':Nat} {w:World} {v:Value} {fs:List Ft} (h:Fts lo w v fs) (hl:lo'≤lo):Fts lo' w v fs :=
 let ⟨rs,h1,h2⟩:=h;⟨rs,h1.mono hl,h2.mono (fun _ _ h=>⟨h.1.mono hl,h.2⟩)⟩
theorem Sps.below {lo:Nat} {w w':World} {v:Value} {xs:List Sp} (h:Sps lo w v xs) (hb:Below w.heap.size w w'):Sps lo w' v xs:=h.keep (Kp.of hb)
theorem Rws.below {lo:Nat} {w w':World} {v:Value} {b:Bx} (h:Rws lo w v b) (hb:Below w.heap.size w w'):Rws lo w' v b:=h.keep (Kp.of hb)
theorem Fts.below {lo:Nat} {w w':World} {v:Value} {fs:List Ft} (h:Fts lo w v fs) (hb:Below w.heap.size w w'):Fts lo w' v fs:=h.keep (Kp.of hb)
theorem Bxs.below {lo:Nat} {w w':World} {v:Value} {bs:List Bx} (h:Bxs lo w v bs) (hb:Below w.heap.size w w'):Bxs lo w' v bs:=h.keep (Kp.of hb)
theorem Ifs.below {lo:Nat} {w w':World} {v:Value} {fs:List Ft} (h:Ifs lo w v fs) (hb:Below w.heap.size w w'):Ifs lo w' v fs:=h.keep (Kp.of hb)
theorem Sps.at {lo:Nat} {w:World} {a:Option Addr} {n cap:Nat} {xs:List Sp} (h:Sps lo w (.slice a n cap) xs) {k:Nat} (hk:k<xs.length) :
  ∃ b o f1 f2,a=some ⟨b,o,none⟩∧b<w.heap.size∧xs[k]?=some ⟨f1,f2⟩∧w.cell? ⟨b,o+k*2,none⟩=some (.int .i64 f1)∧w.cell? ⟨b,o+k*2+1,none⟩=some (.int .i64 f2):=by
 obtain ⟨a',cap',he,_,_,hx⟩:=h
 obtain ⟨rfl,_,_⟩:=Value.slice.inj he
 obtain ⟨b,o,ha,_,hb,hc⟩:=hx k _ (List.getElem?_eq_getElem hk)
 exact ⟨b,o,_,_,ha,hb,List.getElem?_eq_getElem hk,by simpa using hc 0 _ rfl,hc 1 _ rfl⟩
theorem Rws.at {lo:Nat} {w:World} {a:Option Addr} {n cap:Nat} {bx:Bx} (h:Rws lo w (.slice a n cap) bx) {k:Nat} {xs:List Sp} (hk:bx[k]?=some xs) :
  ∃ b o sv,a=some ⟨b,o,none⟩∧b<w.heap.size∧w.cell? ⟨b,o+k,none⟩=some sv∧Sps lo w sv xs:=by
 obtain ⟨vs,⟨a',cap',he,_,_,hx⟩,h2⟩:=h
 obtain ⟨rfl,_,_⟩:=Value.slice.inj he
 obtain ⟨v,hv,hs⟩:=h2.left hk
 obtain ⟨b,o,ha,_,hb,hc⟩:=hx k v hv
 exact ⟨b,o,v,ha,hb,by simpa using hc 0 _ rfl,hs⟩
theorem Rws.form {lo:Nat} {w:World} {v:Value} {bx:Bx} (h:Rws lo w v bx):∃ a cap,v=.slice a bx.length cap∧bx.length≤cap∧cap≤maxLen:=by
 obtain ⟨vs,⟨a,cap,rfl,h1,h2,_⟩,h3⟩:=h
 exact ⟨a,cap,by rw [h3.1],by rw [← h3.1];exact h1,h2⟩
theorem Sps.form {lo:Nat} {w:World} {v:Value} {xs:List Sp} (h:Sps lo w v xs):∃ a cap,v=.slice a xs.length cap∧xs.length≤cap∧cap≤maxLen:=by
 obtain ⟨a,cap,rfl,h1,h2,_⟩:=h
 exact ⟨a,cap,rfl,h1,h2⟩
theorem Fts.form {lo:Nat} {w:World} {v:Value} {fs:List Ft} (h:Fts lo w v fs):∃ a cap,v=.slice a fs.length cap∧fs.length≤cap∧cap≤maxLen:=by
 obtain ⟨vs,⟨a,cap,rfl,h1,h2,_⟩,h3⟩:=h
 exact ⟨a,cap,by rw [h3.1],by rw [← h3.1];exact h1,h2⟩
theorem Bxs.form {lo:Nat} {w:World} {v:Value} {bs:List Bx} (h:Bxs lo w v bs):∃ a cap,v=.slice a bs.length cap∧bs.length≤cap∧cap≤maxLen:=by
 obtain ⟨vs,⟨a,cap,rfl,h1,h2,_⟩,h3⟩:=h
 exact ⟨a,cap,by rw [h3.1],by rw [← h3.1];exact h1,h2⟩
theorem Ifs.form {lo:Nat} {w:World} {v:Value} {fs:List Ft} (h:Ifs lo w v fs):∃ a cap,v=.slice a fs.length cap∧fs.length≤cap∧cap≤maxLen:=by
 obtain ⟨vs,⟨a,cap,rfl,h1,h2,_⟩,h3⟩:=h
 exact ⟨a,cap,by rw [h3.1],by rw [← h3.1];exact h1,h2⟩
theorem Fts.at {lo:Nat} {w:World} {a:Option Addr} {n cap:Nat} {fs:List Ft} (h:Fts lo w (.slice a n cap) fs) {k:Nat} {f:Ft} (hk:fs[k]?=some f) :
  ∃ b o sv,a=some ⟨b,o,none⟩∧b<w.heap.size∧w.cell? ⟨b,o+k*2,none⟩=some sv∧w.cell? ⟨b,o+k*2+1,none⟩=some (.bool f.acc)∧Rws lo w sv f.box:=by
 obtain ⟨rs,⟨a',cap',he,_,_,hx⟩,h2⟩:=h
 obtain ⟨rfl,_,_⟩:=Value.slice.inj he
 obtain ⟨r,hr,hs,hacc⟩:=h2.left hk
 obtain ⟨b,o,ha,_,hb,hc⟩:=hx k r hr
 exact ⟨b,o,r.s,ha,hb,by simpa using hc 0 _ rfl,by rw [← hacc];exact hc 1 _ rfl,hs⟩
theorem Bxs.at {lo:Nat} {w:World} {a:Option Addr} {n cap:Nat} {bs:List Bx} (h:Bxs lo w (.slice a n cap) bs) {k:Nat} {f:Bx} (hk:bs[k]?=some f) :
  ∃ b o sv,a=some ⟨b,o,none⟩∧b<w.heap.size∧w.cell? ⟨b,o+k,none⟩=some sv∧Rws lo w sv f:=by
 obtain ⟨rs,⟨a',cap',he,_,_,hx⟩,h2⟩:=h
 obtain ⟨rfl,_,_⟩:=Value.slice.inj he
 obtain ⟨r,hr,hs⟩:=h2.left hk
 obtain ⟨b,o,ha,_,hb,hc⟩:=hx k r hr
 exact ⟨b,o,r,ha,hb,by simpa using hc 0 _ rfl,hs⟩
theorem Ifs.at {lo:Nat} {w:World} {a:Option Addr} {n cap:Nat} {fs:List Ft} (h:Ifs lo w (.slice a n cap) fs) {k:Nat} {f:Ft} (hk:fs[k]?=some f) :
  ∃ b o v0 v1 v2 v3,a=some ⟨b,o,none⟩∧b<w.heap.size∧w.cell? ⟨b,o+k*5,none⟩=some v0∧w.cell? ⟨b,o+k*5+1,none⟩=some v1∧w.cell? ⟨b,o+k*5+2,none⟩=some v2∧w.cell? ⟨b,o+k*5+3,none⟩=some v3 ∧
   w.cell? ⟨b,o+k*5+4,none⟩=some (.bool f.acc)∧All2 (Sps lo w) [v0,v1,v2,v3] f.box:=by
 obtain ⟨rs,⟨a',cap',he,_,_,hx⟩,h2⟩:=h
 obtain ⟨rfl,_,_⟩:=Value.slice.inj he
 obtain ⟨r,hr,hs,hacc⟩:=h2.left hk
 obtain ⟨b,o,ha,_,hb,hc⟩:=hx k r hr
 exact ⟨b,o,r.v0,r.v1,r.v2,r.v3,ha,hb,by simpa using hc 0 _ rfl,hc 1 _ rfl,hc 2 _ rfl,hc 3 _ rfl,by rw [← hacc];exact hc 4 _ rfl,hs⟩
def SOk (t:Int) (xs:List Sp) (k:Nat):Prop:=∀ (i:Nat) x,i<k→xs[i]?=some x→0≤x.lo∧x.lo≤x.hi∧x.hi≤t∧∀ (j:Nat) y,i=j+1→xs[j]?=some y→y.hi+2≤x.lo
theorem sgood_iff {t:Int}:∀ {m:Int} {xs:List Sp},sgood t m xs=true↔∀ (i:Nat) x,xs[i]?=some x→(i=0→m≤x.lo)∧x.lo≤x.hi∧x.hi≤t∧∀ (j:Nat) y,i=j+1→xs[j]?=some y→y.hi+2≤x.lo
 | _,[]=>by simp [sgood]
 | m,s::xs=>by
  rw [sgood_cons,sgood_iff]
  constructor
  ·rintro ⟨h1,h2,h3,h4⟩ i x hx
   cases i with
   | zero=>simp at hx;subst hx;exact ⟨fun _=>h1,h2,h3,fun j y hj=>by omega⟩
   | succ i =>
    obtain ⟨g1,g2,g3,g4⟩:=h4 i x (by simpa using hx)
    refine ⟨fun h=>by omega,g2,g3,fun j y hj hy=>?_⟩
    cases j with
    | zero=>simp at hy;subst hy;exact g1 (by omega)
    | succ j=>exact g4 j y (by omega) (by simpa using hy)
  ·intro h
   obtain ⟨g1,g2,g3,_⟩:=h 0 s rfl
   refine ⟨g1 rfl,g2,g3,fun i x hx=>?_⟩
   obtain ⟨_,k2,k3,k4⟩:=h (i+1) x (by simpa using hx)
   exact ⟨fun hi=>k4 0 s (by omega) rfl,k2,k3,fun j y hj hy=>k4 (j+1) y (by omega) (by simpa using hy)⟩
theorem SOk.good {t:Int} {xs:List Sp} (h:SOk t xs xs.length):sgood t 0 xs=true :=
 sgood_iff.2 fun i x hx=>let ⟨h0,h1,h2,h3⟩:=h i x (List.getElem?_eq_some_iff.1 hx).1 hx;⟨fun _=>h0,h1,h2,h3⟩
theorem SOk.of {t:Int} {xs:List Sp} (h:sgood t 0 xs=true):SOk t xs xs.length:=by
 have h':=sgood_iff.1 h
 intro i
 induction i with
 | zero=>intro x _ hx;obtain ⟨h0,h1,h2,h3⟩:=h' 0 x hx;exact ⟨h0 rfl,h1,h2,h3⟩
 | succ i ih =>
  intro x hi hx
  obtain ⟨_,h1,h2,h3⟩:=h' (i+1) x hx
  have hy:=List.getElem?_eq_getElem (show i<xs.length by omega)
  obtain ⟨g0,g1,_⟩:=ih _ (by omega) hy
  have:=h3 i _ rfl hy
  exact ⟨by omega,h1,h2,h3⟩
theorem SOk.zero (t:Int) (xs:List Sp):SOk t xs 0:=fun i x hi=>by omega
theorem SOk.step {t:Int} {xs:List Sp} {k:Nat} {x:Sp} (h:SOk t xs k) (hx:xs[k]?=some x) (h0:0≤x.lo) (h1:x.lo≤x.hi) (h2:x.hi≤t) (h3:∀ (j:Nat) y,k=j+1→xs[j]?=some y→y.hi+2≤x.lo):SOk t xs (k+1):=by
 intro i y hi hy
 by_cases hk:i=k
 ·subst hk
  rw [hx] at hy;cases hy
  exact ⟨h0,h1,h2,h3⟩
 ·exact h i y (by omega) hy
theorem svalid_no {t:Int} {xs:List Sp} {k:Nat} {x:Sp} (hx:xs[k]?=some x) (h:x.lo<0∨x.hi<x.lo∨t<x.hi∨∃ (j:Nat) (y:Sp),k=j+1∧xs[j]?=some y∧x.lo<y.hi+2):svalid xs t=false:=by
 cases hv:svalid xs t
 ·rfl
 ·simp only [svalid,Bool.and_eq_true] at hv
  obtain ⟨h0,h1,h2,h3⟩:=SOk.of hv.2 k x (List.getElem?_eq_some_iff.1 hx).1 hx
  rcases h with h | h | h | ⟨j,y,hj,hy,h⟩
  ·omega
  ·omega
  ·omega
  ·have:=h3 j y hj hy;omega
theorem svalid_yes {t:Int} {xs:List Sp} (h:SOk t xs xs.length) (ht0:0≤t) (ht1:t≤65535):svalid xs t=decide (xs.length≤40):=by
 simp only [svalid,h.good,Bool.and_true,inB_true ht0 ht1,Bool.true_and]
theorem svalid_big {t:Int} {xs:List Sp} (h:40<xs.length):svalid xs t=false:=by
 simp only [svalid,decide_eq_false (show ¬ xs.length≤40 by omega),Bool.and_false,Bool.false_and]
set_option maxHeartbeats 2000000 in
theorem specSV_any {lo:Nat} (xs:List Sp) (v:Value) (t:Int) (w:World) (hs:Sps lo w v xs) (ht0:0≤t) (ht1:t≤65535) :
  Calls Tryz.prog 124 #[v,.int .i64 t] w fun e w'=>e=.returned (.bool (svalid xs t))∧Below w.heap.size w w':=by
 obtain ⟨a,cap,rfl,hlc,hcm⟩:=hs.form
 unfold maxLen at hcm
 generalize hn:xs.length=n at *
 have HN:=Lib.hid hn
 clear hn
 go_enter Tryz.func124,Tryz.ntmps124
 go_wp2_with fail
 go_loopw [5] (fun i wr=>∃ k:Nat,k≤n∧i=.int .i64 k∧SOk t xs k∧Below w.heap.size w wr) (fun i _=>n - (intOf i).toNat)
 case atStart=>exact ⟨0,by omega,rfl,SOk.zero _ _,by (repeat' (first | with_reducible exact Below.refl _ _ | with_reducible assumption | with_reducible refine Below.setCell ?_ ?_ _ | with_reducible refine Below.alloc ?_ ?_ _ | with_reducible refine Below.drew ?_ | with_reducible refine belDrewN ?_ _ | with_reducible refine Below.trans ?_ (Below.mono (by assumption) ?_) | omega | (simp;omega) | (simp;done)))⟩
 case round =>
  obtain ⟨k,hk,rfl,hG,hbr⟩:=hrel
  have HG:=Lib.hid hG
  clear hG
  have hzr:=hbr.size
  have hs2:=hs.below hbr
  by_cases hlt:k<n
  ·obtain ⟨b,o,f1,f2,rfl,hbl,hx,c0,c1⟩:=hs2.at (show k<xs.length by rw [HN.out];exact hlt)
   have HX:=Lib.hid hx
   clear hx
   have i1:(k:Int)<(n:Int):=by omega
   have i2:(0:Int)≤(k:Int):=by omega
   cases h1:inB f1 0 f2
   ·go_wp2_with fail
    refine wp_region_over (by kernel_rfl) (by kernel_rfl) (fun ov=>?_);have ov0:=fun x=>ov x (b) (by (try simp)<;>omega);clear ov;(iterate 9 (iterate 8 (try go_big_quiet_step (first | (go_at_call 65;with_reducible exact callsOverSame (l1In_b h1 _))))));refine wpQuiet_nil ?_;intro w9 hw9;have hb_w9:=below_over hw9;clear hw9 ov0
    go_wp2
    go_ret
    refine ⟨ret_bool (svalid_no HX.out ?_).symm,by (repeat' (first | with_reducible exact Below.refl _ _ | with_reducible assumption | with_reducible refine Below.setCell ?_ ?_ _ | with_reducible refine Below.alloc ?_ ?_ _ | with_reducible refine Below.drew ?_ | with_reducible refine belDrewN ?_ _ | with_reducible refine Below.trans ?_ (Below.mono (by assumption) ?_) | omega | (simp;omega) | (simp;done)))⟩
    rw [← Bool.not_eq_true,inB_iff] at h1
    simp only
    omega
   ·cases h2:inB f2 0 t
    ·go_wp2_with fail
     refine wp_region_over (by kernel_rfl) (by kernel_rfl) (fun ov=>?_);have ov0:=fun x=>ov x (b) (by (try simp)<;>omega);clear ov;(iterate 9 (iterate 8 (try go_big_quiet_step (first | (go_at_call 65;with_reducible exact callsOverSame (l1In_b h1 _)) | (go_at_call 65;with_reducible exact callsOverSame (l1In_b h2 _))))));refine wpQuiet_nil ?_;intro w9 hw9;have hb_w9:=below_over hw9;clear hw9 ov0
     go_wp2
     go_ret
     refine ⟨ret_bool (svalid_no HX.out ?_).symm,by (repeat' (first | with_reducible exact Below.refl _ _ | with_reducible assumption | with_reducible refine Below.setCell ?_ ?_ _ | with_reducible refine Below.alloc ?_ ?_ _ | with_reducible refine Below.drew ?_ | with_reducible refine belDrewN ?_ _ | with_reducible refine Below.trans ?_ (Below.mono (by assumption) ?_) | omega | (simp;omega) | (simp;done)))⟩
     rw [← Bool.not_eq_true,inB_iff] at h2
     rw [inB_iff] at h1
     simp only
     omega
    ·obtain ⟨g1,g2⟩:=inB_iff.1 h1
     obtain ⟨g3,g4⟩:=inB_iff.1 h2
     by_cases hk0:k=0
     ·have hd:decide (0<k)=false:=by simp;omega
      have hd':decide ((0:Int)<(k:Int))=false:=by simp;omega
      have HZ:=Lib.hid hk0;clear hk0
      go_wp2_with fail
      refine wp_region_over (by kernel_rfl) (by kernel_rfl) (fun ov=>?_);have ov0:=fun x=>ov x (b) (by (try simp)<;>omega);clear ov;(iterate 9 (iterate 8 (try go_big_quiet_step (first | (go_at_call 65;with_reducible exact callsOverSame (l1In_b h1 _)) | (go_at_call 65;with_reducible exact callsOverSame (l1In_b h2 _))))));refine wpQuiet_nil ?_;intro w9 hw9;have hb_w9:=below_over hw9;clear hw9 ov0
      go_wp2
      go_roundw
      case rel=>exact ⟨k+1,by omega,by go_num,HG.out.step HX.out g1 g2 g4 (fun j y hj=>by have:=HZ.out;omega),by (repeat' (first | with_reducible exact Below.refl _ _ | with_reducible assumption | with_reducible refine Below.setCell ?_ ?_ _ | with_reducible refine Below.alloc ?_ ?_ _ | with_reducible refine Below.drew ?_ | with_reducible refine belDrewN ?_ _ | with_reducible refine Below.trans ?_ (Below.mono (by assumption) ?_) | omega | (simp;omega) | (simp;done)))⟩
      case measure=>simp [intOf];omega
     ·obtain ⟨j,hj⟩:∃ j,k=j+1:=⟨k - 1,by omega⟩
      obtain ⟨b',o',e1,e2,he, -,hy,d0,d1⟩:=hs2.at (show j<xs.length by rw [HN.out];omega)
      obtain ⟨rfl,rfl, -⟩:=Addr.mk.inj (Option.some.inj he)
      clear he
      obtain ⟨y0,y1,y2, -⟩:=HG.out j _ (by omega) hy
      simp only at y0 y1 y2
      have HY:=Lib.hid hy;clear hy
      have hd:decide (0<k)=true:=by simp;omega
      have hd':decide ((0:Int)<(k:Int))=true:=by simp;omega
      have i5:(j:Int)<(n:Int):=by omega
      have i6:(0:Int)≤(j:Int):=by omega
      have i4:IntKind.i64.wrap ((k:Int) - 1)=(j:Int):=by rw [show (k:Int) - 1=j by omega];exact IntWalk.i64_in _ (by omega)
      have HJ:=Lib.hid hj;clear hj hk0
      by_cases hl:f1<e2+2
      ·have hl':decide (f1<e2+2)=true:=decide_eq_true hl
       go_wp2_with fail
       refine wp_region_over (by kernel_rfl) (by kernel_rfl) (fun ov=>?_);have ov0:=fun x=>ov x (b) (by (try simp)<;>omega);clear ov;(iterate 9 (iterate 8 (try go_big_quiet_step (first | (go_at_call 65;with_reducible exact callsOverSame (l1In_b h1 _)) | (go_at_call 65;with_reducible exact callsOverSame (l1In_b h2 _))))));refine wpQuiet_nil ?_;intro w9 hw9;have hb_w9:=below_over hw9;clear hw9 ov0
       go_wp2
       go_ret
       exact ⟨ret_bool (svalid_no HX.out (.inr (.inr (.inr ⟨j,_,HJ.out,HY.out,hl⟩)))).symm,by (repeat' (first | with_reducible exact Below.refl _ _ | with_reducible assumption | with_reducible refine Below.setCell ?_ ?_ _ | with_reducible refine Below.alloc ?_ ?_ _ | with_reducible refine Below.drew ?_ | with_reducible refine belDrewN ?_ _ | with_reducible refine Below.trans ?_ (Below.mono (by assumption) ?_) | omega | (simp;omega) | (simp;done)))⟩
      ·have hl':decide (f1<e2+2)=false:=decide_eq_false hl
       have hl2:e2+2≤f1:=by omega
       go_wp2_with fail
       refine wp_region_over (by kernel_rfl) (by kernel_rfl) (fun ov=>?_);have ov0:=fun x=>ov x (b) (by (try simp)<;>omega);clear ov;(iterate 9 (iterate 8 (try go_big_quiet_step (first | (go_at_call 65;with_reducible exact callsOverSame (l1In_b h1 _)) | (go_at_call 65;with_reducible exact callsOverSame (l1In_b h2 _))))));refine wpQuiet_nil ?_;intro w9 hw9;have hb_w9:=below_over hw9;clear hw9 ov0
       go_wp2
       go_roundw
       case rel =>
        refine ⟨k+1,by omega,by go_num,HG.out.step HX.out g1 g2 g4 (fun j' y hj hy=>?_),by (repeat' (first | with_reducible exact Below.refl _ _ | with_reducible assumption | with_reducible refine Below.setCell ?_ ?_ _ | with_reducible refine Below.alloc ?_ ?_ _ | with_reducible refine Below.drew ?_ | with_reducible refine belDrewN ?_ _ | with_reducible refine Below.trans ?_ (Below.mono (by assumption) ?_) | omega | (simp;omega) | (simp;done)))⟩
        obtain rfl:j=j':=by have:=HJ.out;omega
        rw [HY.out] at hy
        cases hy
        exact hl2
       case measure=>simp [intOf];omega
  ·have hkn:k=n:=by omega
   have HE:=Lib.hid (show svalid xs t=decide (n≤40) by
    have hG:=HG.out
    rw [hkn,← HN.out] at hG
    rw [svalid_yes hG ht0 ht1,HN.out])
   have h3:=inB_true ht0 ht1
   go_wp2_with (go_at_call 65;refine (l1In_b h3 _).mono ?_;rintro e w' ⟨rfl,rfl⟩)
   all_goals
    go_ret
    refine ⟨ret_bool ?_,by (repeat' (first | with_reducible exact Below.refl _ _ | with_reducible assumption | with_reducible refine Below.setCell ?_ ?_ _ | with_reducible refine Below.alloc ?_ ?_ _ | with_reducible refine Below.drew ?_ | with_reducible refine belDrewN ?_ _ | with_reducible refine Below.trans ?_ (Below.mono (by assumption) ?_) | omega | (simp;omega) | (simp;done)))⟩
    rw [HE.out]
    first | rfl | (simp;done) | (simp;omega)
theorem specSV_b {lo:Nat} {xs:List Sp} {v:Value} {t:Int} {w:World} {r:Bool} (hs:Sps lo w v xs) (ht0:0≤t) (ht1:t≤65535) (h:svalid xs t=r) :
  Calls Tryz.prog 124 #[v,.int .i64 t] w fun e w'=>e=.returned (.bool r)∧Below w.heap.size w w':=by
 subst h
 exact specSV_any xs v t w hs ht0 ht1
set_option maxHeartbeats 400000 in
theorem topValid_any (t:Int) (w:World) (ht0:0≤t) (ht1:t≤65535):Calls Tryz.prog 105 #[.int .i64 t] w fun e w'=>e=.returned (.bool true)∧w=w':=by
 go_enter Tryz.func105,Tryz.ntmps105
 go_wp2
 all_goals
  go_ret
  exact ⟨rfl,rfl⟩
def lst (xs:List Sp) (k:Nat):Int:=match k with
 | 0=>-2
 | j+1=>match xs[j]? with
  | some y=>y.hi
  | none=>-2
set_option maxHeartbeats 2000000 in
theorem implSV_any {lo:Nat} (xs:List Sp) (v:Value) (t:Int) (w:World) (hs:Sps lo w v xs) (ht0:0≤t) (ht1:t≤65535) :
  Calls Tryz.prog 74 #[v,.int .i64 t] w fun e w'=>e=.returned (.bool (svalid xs t))∧Below w.heap.size w w':=by
 obtain ⟨a,cap,rfl,hlc,hcm⟩:=hs.form
 unfold maxLen at hcm
 generalize hn:xs.length=n at *
 by_cases h40:40<n
 ·have HE:=Lib.hid (svalid_big (t:=t) (show 40<xs.length by rw [hn];exact h40))
  go_enter Tryz.func74,Tryz.ntmps74
  go_wp2_with fail
  refine (topValid_any t _ ht0 ht1).mono ?_
  rintro e _ ⟨rfl,rfl⟩
  go_wp2
  go_ret
  exact ⟨ret_bool HE.out.symm,Below.refl _ _⟩
 ·have HN:=Lib.hid hn
  clear hn
  have h40':n≤40:=by omega
  go_enter Tryz.func74,Tryz.ntmps74
  go_wp2_with fail
  refine (topValid_any t _ ht0 ht1).mono ?_
  rintro e _ ⟨rfl,rfl⟩
  go_wp2_with fail
  go_loopw [5,18] (fun l i wr=>∃ k:Nat,k≤n∧i=.int .i64 k∧SOk t xs k∧l=.int .i64 (lst xs k)∧-2≤lst xs k∧lst xs k≤t∧Below w.heap.size w wr) (fun _ i _=>n - (intOf i).toNat)
  case atStart=>exact ⟨0,by omega,rfl,SOk.zero _ _,rfl,by simp [lst],by simp [lst];omega,by (repeat' (first | with_reducible exact Below.refl _ _ | with_reducible assumption | with_reducible refine Below.setCell ?_ ?_ _ | with_reducible refine Below.alloc ?_ ?_ _ | with_reducible refine Below.drew ?_ | with_reducible refine belDrewN ?_ _ | with_reducible refine Below.trans ?_ (Below.mono (by assumption) ?_) | omega | (simp;omega) | (simp;done)))⟩
  case round =>
   obtain ⟨k,hk,rfl,hG,rfl,hl0,hl1,hbr⟩:=hrel
   have HG:=Lib.hid hG
   clear hG
   have hzr:=hbr.size
   have hs2:=hs.below hbr
   have HLS:=Lib.hid (show ∀ y,xs[k]?=some y→lst xs (k+1)=y.hi from fun y hy=>by simp [lst,hy])
   have HL:=Lib.hid (show ∀ (y:Sp) (j:Nat),k=j+1→xs[j]?=some y→lst xs k=y.hi from fun y j hj hy=>by subst hj;simp [lst,hy])
   have HL0:=Lib.hid (show k=0→lst xs k = -2 from fun h=>by subst h;rfl)
   generalize lst xs k=l at *
   by_cases hlt:k<n
   ·obtain ⟨b,o,f1,f2,rfl,hbl,hx,c0,c1⟩:=hs2.at (show k<xs.length by rw [HN.out];exact hlt)
    have HX:=Lib.hid hx
    clear hx
    have i1:(k:Int)<(n:Int):=by omega
    have i2:(0:Int)≤(k:Int):=by omega
    by_cases q1:f1≤l+1
    ·have HB:=Lib.hid (show svalid xs t=false from svalid_no HX.out (by
      simp only
      cases k with
      | zero=>have:=HL0.out rfl;omega
      | succ j =>
       obtain ⟨b',o',e1,e2, -, -,hy, -, -⟩:=hs2.at (show j<xs.length by rw [HN.out];omega)
       have:=HL.out _ j rfl hy
       exact .inr (.inr (.inr ⟨j,_,rfl,hy,by simp only at this ⊢;omega⟩))))
     clear HL HL0 HLS
     go_wp2
     go_ret
     exact ⟨ret_bool HB.out.symm,by (repeat' (first | with_reducible exact Below.refl _ _ | with_reducible assumption | with_reducible refine Below.setCell ?_ ?_ _ | with_reducible refine Below.alloc ?_ ?_ _ | with_reducible refine Below.drew ?_ | with_reducible refine belDrewN ?_ _ | with_reducible refine Below.trans ?_ (Below.mono (by assumption) ?_) | omega | (simp;omega) | (simp;done)))⟩
    ·by_cases q2:f2<f1
     ·have HB:=Lib.hid (show svalid xs t=false from svalid_no HX.out (.inr (.inl q2)))
      clear HL HL0 HLS
      go_wp2
      go_ret
      exact ⟨ret_bool HB.out.symm,by (repeat' (first | with_reducible exact Below.refl _ _ | with_reducible assumption | with_reducible refine Below.setCell ?_ ?_ _ | with_reducible refine Below.alloc ?_ ?_ _ | with_reducible refine Below.drew ?_ | with_reducible refine belDrewN ?_ _ | with_reducible refine Below.trans ?_ (Below.mono (by assumption) ?_) | omega | (simp;omega) | (simp;done)))⟩
     ·by_cases q3:t<f2
      ·have HB:=Lib.hid (show svalid xs t=false from svalid_no HX.out (.inr (.inr (.inl q3))))
       clear HL HL0 HLS
       go_wp2
       go_ret
       exact ⟨ret_bool HB.out.symm,by (repeat' (first | with_reducible exact Below.refl _ _ | with_reducible assumption | with_reducible refine Below.setCell ?_ ?_ _ | with_reducible refine Below.alloc ?_ ?_ _ | with_reducible refine Below.drew ?_ | with_reducible refine belDrewN ?_ _ | with_reducible refine Below.trans ?_ (Below.mono (by assumption) ?_) | omega | (simp;omega) | (simp;done)))⟩
      ·have HK:=Lib.hid (show SOk t xs (k+1) from HG.out.step HX.out (by simp only;omega) (by simp only;omega) (by simp only;omega) (fun j y hj hy=>by
        have:=HL.out y j hj hy
        simp only;omega))
       have HK2:=Lib.hid (show lst xs (k+1)=f2 from HLS.out _ HX.out)
       clear HL HL0 HLS
       go_wp2
       go_roundw
       case rel=>exact ⟨k+1,by omega,by go_num,HK.out,by rw [HK2.out],by rw [HK2.out];omega,by rw [HK2.out];omega,by (repeat' (first | with_reducible exact Below.refl _ _ | with_reducible assumption | with_reducible refine Below.setCell ?_ ?_ _ | with_reducible refine Below.alloc ?_ ?_ _ | with_reducible refine Below.drew ?_ | with_reducible refine belDrewN ?_ _ | with_reducible refine Below.trans ?_ (Below.mono (by assumption) ?_) | omega | (simp;omega) | (simp;done)))⟩
       case measure=>simp [intOf];omega
   ·have hkn:k=n:=by omega
    have HE:=Lib.hid (show svalid xs t=true by
     have hG:=HG.out
     rw [hkn,← HN.out] at hG
     rw [svalid_yes hG ht0 ht1,HN.out,decide_eq_true h40'])
    go_wp2
    go_ret
    exact ⟨ret_bool HE.out.symm,by (repeat' (first | with_reducible exact Below.refl _ _ | with_reducible assumption | with_reducible refine Below.setCell ?_ ?_ _ | with_reducible refine Below.alloc ?_ ?_ _ | with_reducible refine Below.drew ?_ | with_reducible refine belDrewN ?_ _ | with_reducible refine Below.trans ?_ (Below.mono (by assumption) ?_) | omega | (simp;omega) | (simp;done)))⟩
theorem implSV_b {lo:Nat} {xs:List Sp} {v:Value} {t:Int} {w:World} {r:Bool} (hs:Sps lo w v xs) (ht0:0≤t) (ht1:t≤65535) (h:svalid xs t=r) :
  Calls Tryz.prog 74 #[v,.int .i64 t] w fun e w'=>e=.returned (.bool r)∧Below w.heap.size w w':=by
 subst h
 exact implSV_any xs v t w hs ht0 ht1
theorem shas_take_succ {xs:List Sp} {n:Int} {k:Nat} {x:Sp} (h:shas (xs.take k) n=false) (hx:xs[k]?=some x) (hb:inB n x.lo x.hi=false):shas (xs.take (k+1)) n=false:=by
 rw [List.take_add_one,hx,shas_append,h]
 simp [shas,hb]
theorem shas_hit {xs:List Sp} {n:Int} {k:Nat} {x:Sp} (hx:xs[k]?=some x) (hb:inB n x.lo x.hi=true):shas xs n=true:=by
 unfold shas
 rw [List.any_eq_true]
 exact ⟨x,List.mem_of_getElem? hx,hb⟩
set_option maxHeartbeats 1000000 in
theorem implSH_any {lo:Nat} (xs:List Sp) (v:Value) (t:Int) (w:World) (hs:Sps lo w v xs) :
  Calls Tryz.prog 35 #[v,.int .i64 t] w fun e w'=>e=.returned (.bool (shas xs t))∧Below w.heap.size w w':=by
 obtain ⟨a,cap,rfl,hlc,hcm⟩:=hs.form
 unfold maxLen at hcm
 generalize hn:xs.length=n at *
 have HN:=Lib.hid hn
 clear hn
 go_enter Tryz.func35,Tryz.ntmps35
 go_wp2_with fail
 go_loopw [9] (fun i wr=>∃ k:Nat,k≤n∧i=.int .i64 k∧shas (xs.take k) t=false∧Below w.heap.size w wr) (fun i _=>n - (intOf i).toNat)
 case atStart=>exact ⟨0,by omega,rfl,rfl,by (repeat' (first | with_reducible exact Below.refl _ _ | with_reducible assumption | with_reducible refine Below.setCell ?_ ?_ _ | with_reducible refine Below.alloc ?_ ?_ _ | with_reducible refine Below.drew ?_ | with_reducible refine belDrewN ?_ _ | with_reducible refine Below.trans ?_ (Below.mono (by assumption) ?_) | omega | (simp;omega) | (simp;done)))⟩
 case round =>
  obtain ⟨k,hk,rfl,hG,hbr⟩:=hrel
  have HG:=Lib.hid hG
  clear hG
  have hzr:=hbr.size
  have hs2:=hs.below hbr
  by_cases hlt:k<n
  ·obtain ⟨b,o,f1,f2,rfl,hbl,hx,c0,c1⟩:=hs2.at (show k<xs.length by rw [HN.out];exact hlt)
   have HX:=Lib.hid hx
   clear hx
   have i1:(k:Int)<(n:Int):=by omega
   have i2:(0:Int)≤(k:Int):=by omega
   by_cases q1:f1≤t
   ·by_cases q2:t≤f2
    ·have HB:=Lib.hid (shas_hit HX.out (inB_true q1 q2))
     go_wp2
     go_ret
     exact ⟨ret_bool HB.out.symm,by (repeat' (first | with_reducible exact Below.refl _ _ | with_reducible assumption | with_reducible refine Below.setCell ?_ ?_ _ | with_reducible refine Below.alloc ?_ ?_ _ | with_reducible refine Below.drew ?_ | with_reducible refine belDrewN ?_ _ | with_reducible refine Below.trans ?_ (Below.mono (by assumption) ?_) | omega | (simp;omega) | (simp;done)))⟩
    ·have HB:=Lib.hid (shas_take_succ HG.out HX.out (inB_hi (n:=t) (lo:=f1) (hi:=f2) (by omega)))
     go_wp2
     go_roundw
     case rel=>exact ⟨k+1,by omega,by go_num,HB.out,by (repeat' (first | with_reducible exact Below.refl _ _ | with_reducible assumption | with_reducible refine Below.setCell ?_ ?_ _ | with_reducible refine Below.alloc ?_ ?_ _ | with_reducible refine Below.drew ?_ | with_reducible refine belDrewN ?_ _ | with_reducible refine Below.trans ?_ (Below.mono (by assumption) ?_) | omega | (simp;omega) | (simp;done)))⟩
     case measure=>simp [intOf];omega
   ·have HB:=Lib.hid (shas_take_succ HG.out HX.out (inB_lo (n:=t) (lo:=f1) (hi:=f2) (by omega)))
    go_wp2
    go_roundw
    case rel=>exact ⟨k+1,by omega,by go_num,HB.out,by (repeat' (first | with_reducible exact Below.refl _ _ | with_reducible assumption | with_reducible refine Below.setCell ?_ ?_ _ | with_reducible refine Below.alloc ?_ ?_ _ | with_reducible refine Below.drew ?_ | with_reducible refine belDrewN ?_ _ | with_reducible refine Below.trans ?_ (Below.mono (by assumption) ?_) | omega | (simp;omega) | (simp;done)))⟩
    case measure=>simp [intOf];omega
  ·have HE:=Lib.hid (show shas xs t=false by
    have:=HG.out
    rwa [List.take_of_length_le (by rw [HN.out];omega)] at this)
   go_wp2
   go_ret
   exact ⟨ret_bool HE.out.symm,by (repeat' (first | with_reducible exact Below.refl _ _ | with_reducible assumption | with_reducible refine Below.setCell ?_ ?_ _ | with_reducible refine Below.alloc ?_ ?_ _ | with_reducible refine Below.drew ?_ | with_reducible refine belDrewN ?_ _ | with_reducible refine Below.trans ?_ (Below.mono (by assumption) ?_) | omega | (simp;omega) | (simp;done)))⟩
theorem implSH_b {lo:Nat} {xs:List Sp} {v:Value} {t:Int} {w:World} {r:Bool} (hs:Sps lo w v xs) (h:shas xs t=r) :
  Calls Tryz.prog 35 #[v,.int .i64 t] w fun e w'=>e=.returned (.bool r)∧Below w.heap.size w w':=by
 subst h
 exact implSH_any xs v t w hs
set_option maxHeartbeats 400000 in
theorem specFTop_any (n:Nat) (hn:n<4) (w:World):Calls Tryz.prog 72 #[.int .i64 n] w fun e w'=>e=.returned (.int .i64 (top n))∧w=w':=by
 rcases (by omega:n=0∨n=1∨n=2∨n=3) with rfl | rfl | rfl | rfl
 all_goals
  go_enter Tryz.func72,Tryz.ntmps72
  go_wp2
  go_ret
  exact ⟨rfl,rfl⟩
theorem top_le {n:Nat} (hn:n<4):0≤top n∧top n≤65535:=by
 rcases (by omega:n=0∨n=1∨n=2∨n=3) with rfl | rfl | rfl | rfl<;>decide
def BOk (b:Bx) (k:Nat):Prop:=∀ (i:Nat) xs,i<k→b[i]?=some xs→svalid xs (top i)=true
instance (b:Bx) (k:Nat):Decidable (BOk b k):=decidable_of_iff (∀ i,i<k→∀ xs,b[i]?=some xs→svalid xs (top i)=true) ⟨fun h i xs hi hx=>h i hi xs hx,fun h i hi xs hx=>h i xs hi hx⟩
def bvalid (b:Bx):Bool:=decide (b.length=4∧BOk b 4)
def FOk (fs:List Ft) (k:Nat):Prop:=∀ (i:Nat) f,i<k→fs[i]?=some f→bvalid f.box=true
def fvalid (fs:List Ft):Bool:=decide (fs.length≤60) && fs.all fun f=>bvalid f.box
theorem bvalid_no {b:Bx} {k:Nat} {xs:List Sp} (hx:b[k]?=some xs) (h:svalid xs (top k)=false):bvalid b=false:=by
 unfold bvalid
 rw [decide_eq_false_iff_not]
 rintro ⟨h1,h2⟩
 have hk:=(List.getElem?_eq_some_iff.1 hx).1
 rw [h2 k xs (by omega) hx] at h
 cases h
theorem bvalid_len {b:Bx} (h:b.length≠4):bvalid b=false:=by
 unfold bvalid
 rw [decide_eq_false_iff_not]
 exact fun h'=>h h'.1
theorem bvalid_yes {b:Bx} (h:b.length=4) (hb:BOk b 4):bvalid b=true:=decide_eq_true ⟨h,hb⟩
theorem BOk.step {b:Bx} {k:Nat} {xs:List Sp} (h:BOk b k) (hx:b[k]?=some xs) (hv:svalid xs (top k)=true):BOk b (k+1):=by
 intro i ys hi hy
 by_cases hk:i=k
 ·subst hk;rw [hx] at hy;cases hy;exact hv
 ·exact h i ys (by omega) hy
theorem fvalid_no {fs:List Ft} {k:Nat} {f:Ft} (hx:fs[k]?=some f) (h:bvalid f.box=false):fvalid fs=false:=by
 unfold fvalid
 rw [Bool.and_eq_false_iff]
 refine .inr (List.all_eq_false.2 ⟨f,List.mem_of_getElem? hx,by rw [h];simp⟩)
theorem fvalid_big {fs:List Ft} (h:60<fs.length):fvalid fs=false:=by
 unfold fvalid
 rw [decide_eq_false (by omega),Bool.false_and]
theorem fvalid_yes {fs:List Ft} (h:FOk fs fs.length):fvalid fs=decide (fs.length≤60):=by
 unfold fvalid
 rw [List.all_eq_true.2 (fun f hf=>by
  obtain ⟨i,hi,rfl⟩:=List.getElem_of_mem hf
  exact h i _ hi (List.getElem?_eq_getElem hi)),Bool.and_true]
theorem FOk.zero (fs:List Ft):FOk fs 0:=fun i f hi=>by omega
theorem FOk.step {fs:List Ft} {k:Nat} {f:Ft} (h:FOk fs k) (hx:fs[k]?=some f) (hv:bvalid f.box=true):FOk fs (k+1):=by
 intro i y hi hy
 by_cases hk:i=k
 ·subst hk;rw [hx] at hy;cases hy;exact hv
 ·exact h i y (by omega) hy
set_option maxHeartbeats 2000000 in
theorem specBV_any {lo:Nat} (b:Bx) (v:Value) (w:World) (hs:Rws lo w v b) :
  Calls Tryz.prog 104 #[.agg #[v]] w fun e w'=>e=.returned (.bool (bvalid b))∧Below w.heap.size w w':=by
 obtain ⟨a,cap,rfl,hlc,hcm⟩:=hs.form
 unfold maxLen at hcm
 have hal:Below w.heap.size w (w.alloc (.cells #[.slice a b.length cap] 41)):=bR.alloc (Nat.le_refl _) _
 have q0:(w.alloc (.cells #[.slice a b.length cap] 41)).cell? ⟨w.heap.size,0,none⟩=some (.slice a b.length cap):=by simp
 obtain ⟨W,hW⟩:∃ W,w.alloc (.cells #[.slice a b.length cap] 41)=W:=⟨_,rfl⟩
 have qs:w.heap.size<W.heap.size:=by rw [← hW];simp
 rw [hW] at hal q0
 have hsW:=hs.below hal
 generalize hn:b.length=n at *
 have HN:=Lib.hid hn
 clear hn
 go_enter Tryz.func104,Tryz.ntmps104
 go_wp2_with fail
 go_loopw [3] (fun i wr=>∃ k:Nat,k≤n∧k≤4∧i=.int .i64 k∧BOk b k∧Below W.heap.size W wr) (fun i _=>n - (intOf i).toNat)
 case atStart=>exact ⟨0,by omega,by omega,rfl,fun i xs hi=>by omega,Below.refl _ _⟩
 case round =>
  obtain ⟨k,hk,hk4,rfl,hG,hbr⟩:=hrel
  have HG:=Lib.hid hG
  clear hG
  have hzr:=hbr.size
  have e0:=(hbr.cell (p:=⟨w.heap.size,0,none⟩) qs).trans q0
  have qsr:w.heap.size<wr.heap.size:=Nat.lt_of_lt_of_le qs hzr
  have hs2:=hsW.below hbr
  have hwr:Below w.heap.size w wr:=hal.trans (hbr.mono (by omega))
  by_cases hlt:k<n
  ·have i1:(k:Int)<(n:Int):=by omega
   have i2:(0:Int)≤(k:Int):=by omega
   by_cases h4:k=4
   ·have HE:=Lib.hid (bvalid_len (b:=b) (by rw [HN.out];omega))
    have h4':(4:Int)≤(k:Int):=by omega
    go_wp2_with fail
    refine wp_region_over (by kernel_rfl) (by kernel_rfl) (fun ov=>?_);have ov0:=fun x=>ov x (w.heap.size) (by (try simp)<;>omega);clear ov;(iterate 9 (iterate 8 (try go_big_quiet_step (first | fail))));refine wpQuiet_nil ?_;intro w9 hw9;have hb_w9:=below_over hw9;clear hw9 ov0
    go_wp2
    go_ret
    exact ⟨ret_bool HE.out.symm,by (repeat' (first | with_reducible exact Below.refl _ _ | with_reducible assumption | with_reducible refine Below.setCell ?_ ?_ _ | with_reducible refine Below.alloc ?_ ?_ _ | with_reducible refine Below.drew ?_ | with_reducible refine belDrewN ?_ _ | with_reducible refine Below.trans ?_ (Below.mono (by assumption) ?_) | omega | (simp;omega) | (simp;done)))⟩
   ·have h4':¬ (4:Int)≤(k:Int):=by omega
    have h4'':decide ((4:Int)≤(k:Int))=false:=decide_eq_false h4'
    obtain ⟨xs,hx⟩:∃ xs,b[k]?=some xs:=⟨_,List.getElem?_eq_getElem (by rw [HN.out];exact hlt)⟩
    obtain ⟨b',o,sv,rfl,hbl,c0,hsv⟩:=hs2.at hx
    have HX:=Lib.hid hx
    have HSV:=Lib.hid hsv
    obtain ⟨ht0,ht1⟩:=top_le (n:=k) (by omega)
    clear hx hsv
    cases hv:svalid xs (top k)
    ·have HE:=Lib.hid (bvalid_no HX.out hv)
     go_wp2_with fail
     refine wp_region_over (by kernel_rfl) (by kernel_rfl) (fun ov=>?_);have ov0:=fun x=>ov x (w.heap.size) (by (try simp)<;>omega);have ov1:=fun x=>ov x (b') (by (try simp)<;>omega);clear ov;(iterate 9 (iterate 8 (try go_big_quiet_step (first | (go_at_call 72;with_reducible exact callsOverSame (specFTop_any k (by omega) _)) | (go_at_call 124;with_reducible exact callsOver (specSV_b (HSV.out.below (over_below _ _)) ht0 ht1 hv))))));refine wpQuiet_nil ?_;intro w9 hw9;have hb_w9:=below_over hw9;clear hw9 ov0 ov1
     go_wp2
     go_ret
     exact ⟨ret_bool HE.out.symm,by (repeat' (first | with_reducible exact Below.refl _ _ | with_reducible assumption | with_reducible refine Below.setCell ?_ ?_ _ | with_reducible refine Below.alloc ?_ ?_ _ | with_reducible refine Below.drew ?_ | with_reducible refine belDrewN ?_ _ | with_reducible refine Below.trans ?_ (Below.mono (by assumption) ?_) | omega | (simp;omega) | (simp;done)))⟩
    ·have HE:=Lib.hid (HG.out.step HX.out hv)
     go_wp2_with fail
     refine wp_region_over (by kernel_rfl) (by kernel_rfl) (fun ov=>?_);have ov0:=fun x=>ov x (w.heap.size) (by (try simp)<;>omega);have ov1:=fun x=>ov x (b') (by (try simp)<;>omega);clear ov;(iterate 9 (iterate 8 (try go_big_quiet_step (first | (go_at_call 72;with_reducible exact callsOverSame (specFTop_any k (by omega) _)) | (go_at_call 124;with_reducible exact callsOver (specSV_b (HSV.out.below (over_below _ _)) ht0 ht1 hv))))));refine wpQuiet_nil ?_;intro w9 hw9;have hb_w9:=below_over hw9;clear hw9 ov0 ov1
     have hb9:Below W.heap.size W w9:=hbr.trans (hb_w9.mono hzr)
     clear hb_w9
     go_wp2
     go_roundw
     case rel=>exact ⟨k+1,by omega,by omega,by go_num,HE.out,hb9⟩
     case measure=>simp [intOf];omega
  ·have hkn:k=n:=by omega
   by_cases h4:n=4
   ·have HE:=Lib.hid (bvalid_yes (b:=b) (by rw [HN.out];exact h4) (by have:=HG.out;rwa [hkn,h4] at this))
    have h4':((n:Int)==4)=true:=by simpa using (by omega:(n:Int)=4)
    clear hkn h4
    go_wp2
    go_ret
    exact ⟨ret_bool HE.out.symm,by (repeat' (first | with_reducible exact Below.refl _ _ | with_reducible assumption | with_reducible refine Below.setCell ?_ ?_ _ | with_reducible refine Below.alloc ?_ ?_ _ | with_reducible refine Below.drew ?_ | with_reducible refine belDrewN ?_ _ | with_reducible refine Below.trans ?_ (Below.mono (by assumption) ?_) | omega | (simp;omega) | (simp;done)))⟩
   ·have HE:=Lib.hid (bvalid_len (b:=b) (by rw [HN.out];exact h4))
    have h4':((n:Int)==4)=false:=by simpa using (by omega:(n:Int)≠4)
    clear hkn
    go_wp2
    go_ret
    exact ⟨ret_bool HE.out.symm,by (repeat' (first | with_reducible exact Below.refl _ _ | with_reducible assumption | with_reducible refine Below.setCell ?_ ?_ _ | with_reducible refine Below.alloc ?_ ?_ _ | with_reducible refine Below.drew ?_ | with_reducible refine belDrewN ?_ _ | with_reducible refine Below.trans ?_ (Below.mono (by assumption) ?_) | omega | (simp;omega) | (simp;done)))⟩
theorem specBV_b {lo:Nat} {b:Bx} {v:Value} {w:World} {r:Bool} (hs:Rws lo w v b) (h:bvalid b=r) :
  Calls Tryz.prog 104 #[.agg #[v]] w fun e w'=>e=.returned (.bool r)∧Below w.heap.size w w':=by
 subst h
 exact specBV_any b v w hs
set_option maxHeartbeats 2000000 in
theorem implBV_any {lo:Nat} (b:Bx) (v:Value) (w:World) (hs:Rws lo w v b) (ht:Tab w) :
  Calls Tryz.prog 40 #[.agg #[v]] w fun e w'=>e=.returned (.bool (bvalid b))∧Below w.heap.size w w':=by
 obtain ⟨a,cap,rfl,hlc,hcm⟩:=hs.form
 unfold maxLen at hcm
 have hal:Below w.heap.size w (w.alloc (.cells #[.slice a b.length cap] 41)):=bR.alloc (Nat.le_refl _) _
 by_cases h4:b.length=4
 ·rw [h4] at hs hlc hal ⊢
  have q0:(w.alloc (.cells #[.slice a 4 cap] 41)).cell? ⟨w.heap.size,0,none⟩=some (.slice a 4 cap):=by simp
  obtain ⟨W,hW⟩:∃ W,w.alloc (.cells #[.slice a 4 cap] 41)=W:=⟨_,rfl⟩
  have qs:w.heap.size<W.heap.size:=by rw [← hW];simp
  rw [hW] at hal q0
  have hsW:=hs.below hal
  have htW:=ht.below hal
  have HN:=Lib.hid h4
  clear h4
  go_enter Tryz.func40,Tryz.ntmps40
  go_wp2_with fail
  go_loopw [12] (fun i wr=>∃ k:Nat,k≤4∧i=.int .i64 k∧BOk b k∧Below W.heap.size W wr) (fun i _=>4 - (intOf i).toNat)
  case atStart=>exact ⟨0,by omega,rfl,fun i xs hi=>by omega,Below.refl _ _⟩
  case round =>
   obtain ⟨k,hk4,rfl,hG,hbr⟩:=hrel
   have HG:=Lib.hid hG
   clear hG
   have hzr:=hbr.size
   have hs2:=hsW.below hbr
   have ht2:=htW.below hbr
   have hwr:Below w.heap.size w wr:=hal.trans (hbr.mono (by omega))
   by_cases hlt:k<4
   ·have i1:(k:Int)<4:=by omega
    have i2:(0:Int)≤(k:Int):=by omega
    obtain ⟨xs,hx⟩:∃ xs,b[k]?=some xs:=⟨_,List.getElem?_eq_getElem (by rw [HN.out];exact hlt)⟩
    obtain ⟨b',o,sv,rfl,hbl,c0,hsv⟩:=hs2.at hx
    have HX:=Lib.hid hx
    have HSV:=Lib.hid hsv
    obtain ⟨ht0,ht1⟩:=top_le (n:=k) hlt
    clear hx hsv
    obtain ⟨r,hv⟩:∃ r,svalid xs (top k)=r:=⟨_,rfl⟩
    go_wp2_with fail
    refine (FieldTop_any k hlt _ ht2).mono ?_
    rintro e _ ⟨rfl,rfl⟩
    go_wp2_with fail
    refine (implSV_b HSV.out ht0 ht1 hv).mono ?_
    rintro e w9 ⟨rfl,hb9⟩
    have hb10:Below W.heap.size W w9:=hbr.trans (hb9.mono hzr)
    have hw9:Below w.heap.size w w9:=hwr.trans (hb9.mono hwr.size)
    clear hb9
    cases r
    ·have HE:=Lib.hid (bvalid_no HX.out hv)
     go_wp2
     go_ret
     exact ⟨ret_bool HE.out.symm,hw9⟩
    ·have HE:=Lib.hid (HG.out.step HX.out hv)
     go_wp2
     go_roundw
     case rel=>exact ⟨k+1,by omega,by go_num,HE.out,hb10⟩
     case measure=>simp [intOf];omega
   ·have hkn:k=4:=by omega
    have HE:=Lib.hid (bvalid_yes (b:=b) HN.out (by have:=HG.out;rwa [hkn] at this))
    subst hkn
    go_wp2
    go_ret
    exact ⟨ret_bool HE.out.symm,hwr⟩
 ·generalize hn:b.length=n at *
  have h4':((n:Int)==4)=false:=by simpa using (by omega:(n:Int)≠4)
  have HE:=Lib.hid (bvalid_len (b:=b) (by rw [hn];exact h4))
  go_enter Tryz.func40,Tryz.ntmps40
  go_wp2
  go_ret
  exact ⟨ret_bool HE.out.symm,by (repeat' (first | with_reducible exact Below.refl _ _ | with_reducible assumption | with_reducible refine Below.setCell ?_ ?_ _ | with_reducible refine Below.alloc ?_ ?_ _ | with_reducible refine Below.drew ?_ | with_reducible refine belDrewN ?_ _ | with_reducible refine Below.trans ?_ (Below.mono (by assumption) ?_) | omega | (simp;omega) | (simp;done)))⟩
theorem implBV_b {lo:Nat} {b:Bx} {v:Value} {w:World} {r:Bool} (hs:Rws lo w v b) (ht:Tab w) (h:bvalid b=r) :
  Calls Tryz.prog 40 #[.agg #[v]] w fun e w'=>e=.returned (.bool r)∧Below w.heap.size w w':=by
 subst h
 exact implBV_any b v w hs ht
set_option maxHeartbeats 2000000 in
theorem implFV_any {lo:Nat} (fs:List Ft) (v:Value) (w:World) (hs:Fts lo w v fs) (ht:Tab w) :
  Calls Tryz.prog 15 #[v] w fun e w'=>e=.returned (.bool (fvalid fs))∧Below w.heap.size w w':=by
 obtain ⟨a,cap,rfl,hlc,hcm⟩:=hs.form
 unfold maxLen at hcm
 generalize hn:fs.length=n at *
 by_cases h60:60<n
 ·have HE:=Lib.hid (fvalid_big (fs:=fs) (by rw [hn];exact h60))
  go_enter Tryz.func15,Tryz.ntmps15
  go_wp2
  go_ret
  exact ⟨ret_bool HE.out.symm,by (repeat' (first | with_reducible exact Below.refl _ _ | with_reducible assumption | with_reducible refine Below.setCell ?_ ?_ _ | with_reducible refine Below.alloc ?_ ?_ _ | with_reducible refine Below.drew ?_ | with_reducible refine belDrewN ?_ _ | with_reducible refine Below.trans ?_ (Below.mono (by assumption) ?_) | omega | (simp;omega) | (simp;done)))⟩
 ·have HN:=Lib.hid hn
  have h60':n≤60:=by omega
  clear hn
  go_enter Tryz.func15,Tryz.ntmps15
  go_wp2_with fail
  go_loopw [10] (fun i wr=>∃ k:Nat,k≤n∧i=.int .i64 k∧FOk fs k∧Below w.heap.size w wr) (fun i _=>n - (intOf i).toNat)
  case atStart=>exact ⟨0,by omega,rfl,FOk.zero _,Below.refl _ _⟩
  case round =>
   obtain ⟨k,hk,rfl,hG,hbr⟩:=hrel
   have HG:=Lib.hid hG
   clear hG
   have hzr:=hbr.size
   have hs2:=hs.below hbr
   have ht2:=ht.below hbr
   by_cases hlt:k<n
   ·have i1:(k:Int)<(n:Int):=by omega
    have i2:(0:Int)≤(k:Int):=by omega
    obtain ⟨f,hx⟩:∃ f,fs[k]?=some f:=⟨_,List.getElem?_eq_getElem (by rw [HN.out];exact hlt)⟩
    obtain ⟨b',o,sv,rfl,hbl,c0,c1,hsv⟩:=hs2.at hx
    have HX:=Lib.hid hx
    obtain ⟨sa',scap,rfl, -, -⟩:=hsv.form
    have HSV:=Lib.hid hsv
    clear hx hsv
    generalize hbx:f.box.length=bl at *
    clear hbx
    obtain ⟨r,hv⟩:∃ r,bvalid f.box=r:=⟨_,rfl⟩
    go_wp2_with fail
    refine (implBV_b (HSV.out.below (by (repeat' (first | with_reducible exact Below.refl _ _ | with_reducible assumption | with_reducible refine Below.setCell ?_ ?_ _ | with_reducible refine Below.alloc ?_ ?_ _ | with_reducible refine Below.drew ?_ | with_reducible refine belDrewN ?_ _ | with_reducible refine Below.trans ?_ (Below.mono (by assumption) ?_) | omega | (simp;omega) | (simp;done))))) (ht2.below (by (repeat' (first | with_reducible exact Below.refl _ _ | with_reducible assumption | with_reducible refine Below.setCell ?_ ?_ _ | with_reducible refine Below.alloc ?_ ?_ _ | with_reducible refine Below.drew ?_ | with_reducible refine belDrewN ?_ _ | with_reducible refine Below.trans ?_ (Below.mono (by assumption) ?_) | omega | (simp;omega) | (simp;done))))) hv).mono ?_
    rintro e w9 ⟨rfl,hb9⟩
    have hb10:Below w.heap.size w w9:=by (repeat' (first | with_reducible exact Below.refl _ _ | with_reducible assumption | with_reducible refine Below.setCell ?_ ?_ _ | with_reducible refine Below.alloc ?_ ?_ _ | with_reducible refine Below.drew ?_ | with_reducible refine belDrewN ?_ _ | with_reducible refine Below.trans ?_ (Below.mono (by assumption) ?_) | omega | (simp;omega) | (simp;done)))
    clear hb9
    cases r
    ·have HE:=Lib.hid (fvalid_no HX.out hv)
     go_wp2
     go_ret
     exact ⟨ret_bool HE.out.symm,hb10⟩
    ·have HE:=Lib.hid (HG.out.step HX.out hv)
     go_wp2
     go_roundw
     case rel=>exact ⟨k+1,by omega,by go_num,HE.out,hb10⟩
     case measure=>simp [intOf];omega
   ·have hkn:k=n:=by omega
    have HE:=Lib.hid (show fvalid fs=true by
     have hG:=HG.out
     rw [hkn,← HN.out] at hG
     rw [fvalid_yes hG,HN.out,decide_eq_true h60'])
    go_wp2
    go_ret
    exact ⟨ret_bool HE.out.symm,hbr⟩
theorem implFV_b {lo:Nat} {fs:List Ft} {v:Value} {w:World} {r:Bool} (hs:Fts lo w v fs) (ht:Tab w) (h:fvalid fs=r) :
  Calls Tryz.prog 15 #[v] w fun e w'=>e=.returned (.bool r)∧Below w.heap.size w w':=by
 subst h
 exact implFV_any fs v w hs ht
theorem infoSp:(Tryz.prog.info? 74).map (fun i=>(i.zero,i.size,i.bytes))=some (some (.agg #[.int .i64 0,.int .i64 0]),2,16):=by kernel_rfl
def OwnSp (base:Nat) (w:World) (v:Value) (ys:List Sp):Prop:=OwnSl base 74 2 Sp.enc w v ys
theorem OwnSp.sps {base:Nat} {w:World} {v:Value} {ys:List Sp} (h:OwnSp base w v ys):Sps base w v ys:=OwnSl.fr (sz:=2) (enc:=Sp.enc) (fun _=>rfl) h
theorem OwnSp.lit {base:Nat} {w:World} (h:base≤w.heap.size):OwnSp base (w.alloc (.cells #[] 74)) (.slice (some ⟨w.heap.size,0,none⟩) 0 0) []:=by
 have:=World.ownsRow_made (e:=74) (size:=2) w #[] 0 h (by simp) (by simp)
 simpa [OwnSp,OwnSl] using this
def RetSp (ys:List Sp) (w:World) (e:Ending) (w':World):Prop:=∃ v,e=.returned v∧OwnSp w.heap.size w' v ys∧Below w.heap.size w w'
def smj (x:Sp) (b:List Sp) (j:Nat):List Sp:=(b.take j).filterMap (meet1 x)
theorem smj_succ {x:Sp} {b:List Sp} {j:Nat} {y:Sp} (hy:b[j]?=some y):smj x b (j+1)=smj x b j++(meet1 x y).toList:=by
 unfold smj
 rw [List.take_add_one,hy,List.filterMap_append]
 congr 1
theorem smi_succ {a b:List Sp} {i:Nat} {x:Sp} (hx:a[i]?=some x):smeet (a.take (i+1)) b=smeet (a.take i) b++smj x b b.length:=by
 unfold smeet smj
 rw [List.take_add_one,hx,List.flatMap_append,List.take_length]
 simp
theorem smj_len (x:Sp) (b:List Sp) (j:Nat):(smj x b j).length≤j:=Nat.le_trans (List.length_filterMap_le _ _) (List.length_take_le _ _)
theorem smi_len (b:List Sp):∀ a:List Sp,(smeet a b).length≤a.length*b.length
 | []=>by simp [smeet]
 | x::a=>by
  have:=smi_len b a
  unfold smeet at this ⊢
  rw [List.flatMap_cons,List.length_append,List.length_cons,Nat.add_mul,Nat.one_mul]
  have:=List.length_filterMap_le (meet1 x) b
  omega
theorem sm_bound {a b:List Sp} {i j:Nat} (x:Sp) (ha:a.length≤2000) (hb:b.length≤2000) (hj:j≤b.length):(smeet (a.take i) b++smj x b j).length≤4002000:=by
 rw [List.length_append]
 have h1:=smi_len b (a.take i)
 have h2:=smj_len x b j
 have h3:(a.take i).length*b.length≤2000*2000:=Nat.mul_le_mul (by rw [List.length_take];omega) hb
 omega
set_option maxHeartbeats 4000000 in
theorem l2Meet_any {lo lo':Nat} (xs ys:List Sp) (u v:Value) (w:World) (hs:Sps lo w u xs) (ht:Sps lo' w v ys) (hx:xs.length≤2000) (hy:ys.length≤2000) :
  Calls Tryz.prog 100 #[u,v] w (RetSp (smeet xs ys) w):=by
 obtain ⟨a,cap,rfl,hlc,hcm⟩:=hs.form
 obtain ⟨a',cap',rfl,hlc',hcm'⟩:=ht.form
 unfold maxLen at hcm hcm'
 generalize hn:xs.length=n at *
 generalize hm:ys.length=m at *
 have HN:=Lib.hid hn
 have HM:=Lib.hid hm
 obtain ⟨i0,hi,hy0,hy1,hy2⟩:=info_parts infoSp
 have HO0:=Lib.hid (OwnSp.lit (base:=w.heap.size) (w:=w) (Nat.le_refl _))
 have hal:Below w.heap.size w (w.alloc (.cells #[] 74)):=bR.alloc (Nat.le_refl _) _
 clear hn hm
 go_enter Tryz.func100,Tryz.ntmps100
 go_wp2_with fail
 go_loopw [5,6] (fun o i wr=>∃ k:Nat,k≤n∧i=.int .i64 k∧OwnSp w.heap.size wr o (smeet (xs.take k) ys)∧Below w.heap.size w wr) (fun _ i _=>n - (intOf i).toNat)
 case atStart=>exact ⟨0,by omega,rfl,HO0.out,hal⟩
 case round =>
  obtain ⟨k,hk,rfl,hO,hbr⟩:=hrel
  have HO:=Lib.hid hO
  clear hO HO0 hal
  have hzr:=hbr.size
  by_cases hlt:k<n
  ·obtain ⟨f,hfx⟩:∃ f,xs[k]?=some f:=⟨_,List.getElem?_eq_getElem (by rw [HN.out];exact hlt)⟩
   have HX:=Lib.hid hfx
   have i1:(k:Int)<(n:Int):=by omega
   have i2:(0:Int)≤(k:Int):=by omega
   clear hfx
   go_wp2_with fail
   go_loopw [5,7] (fun o i wi=>∃ j:Nat,j≤m∧i=.int .i64 j∧OwnSp w.heap.size wi o (smeet (xs.take k) ys++smj f ys j)∧Below w.heap.size w wi) (fun _ i _=>m - (intOf i).toNat)
   case atStart=>exact ⟨0,by omega,rfl,by simpa [smj] using HO.out,hbr⟩
   case round =>
    obtain ⟨j,hj,rfl,hO,hbi⟩:=hrel
    obtain ⟨zs,hzs⟩:∃ zs,smeet (xs.take k) ys++smj f ys j=zs:=⟨_,rfl⟩
    rw [hzs] at hO
    have HZ:=Lib.hid hzs
    have HO2:=Lib.hid hO
    clear hO hzs
    have hzi:=hbi.size
    have hs2:=hs.below hbi
    have ht2:=ht.below hbi
    by_cases hlj:j<m
    ·obtain ⟨b,o,f1,f2,rfl,hbl,hx1,c0,c1⟩:=hs2.at (show k<xs.length by rw [HN.out];exact hlt)
     obtain ⟨b',o',g1,g2,rfl,hbl',hx2,d0,d1⟩:=ht2.at (show j<ys.length by rw [HM.out];exact hlj)
     have HY:=Lib.hid hx2
     have HF:=Lib.hid (show f=⟨f1,f2⟩ by have:=HX.out;rw [hx1] at this;exact (Option.some.inj this).symm)
     clear hx1 hx2
     have i3:(j:Int)<(m:Int):=by omega
     have i4:(0:Int)≤(j:Int):=by omega
     have HS:=Lib.hid (smj_succ (x:=f) HY.out)
     go_wp2_with fail
     refine wp_region_over (by kernel_rfl) (by kernel_rfl) (fun ov=>?_);have ov0:=fun x=>ov x (b) (by (try simp)<;>omega);have ov1:=fun x=>ov x (b') (by (try simp)<;>omega);clear ov;(iterate 9 (iterate 8 (try go_big_quiet_step (first | fail))));refine wpQuiet_nil ?_;intro w8 hw9;have hb_w8:=below_over hw9;clear hw9 ov0 ov1
     have hz8:=hb_w8.size
     have c0':=(hb_w8.cell (p:=⟨b,o+k*2,none⟩) hbl).trans c0;have c1':=(hb_w8.cell (p:=⟨b,o+k*2+1,none⟩) hbl).trans c1
     have d0':=(hb_w8.cell (p:=⟨b',o'+j*2,none⟩) hbl').trans d0;have d1':=(hb_w8.cell (p:=⟨b',o'+j*2+1,none⟩) hbl').trans d1
     have HB8:=Lib.hid hb_w8
     have hbl8:b<w8.heap.size:=by omega
     have hbl8':b'<w8.heap.size:=by omega
     clear hb_w8 c0 c1 d0 d1
     obtain ⟨mx,hmx⟩:∃ mx,(if f1<g1 then g1 else f1)=mx:=⟨_,rfl⟩
     rw [hmx]
     have HMX:=Lib.hid (show max f1 g1=mx by rw [← hmx,Int.max_def];split<;>split<;>omega)
     clear hmx
     go_wp2_with fail
     refine wp_region_over (by kernel_rfl) (by kernel_rfl) (fun ov=>?_);have ov0:=fun x=>ov x (b) (by (try simp)<;>omega);have ov1:=fun x=>ov x (b') (by (try simp)<;>omega);clear ov;(iterate 9 (iterate 8 (try go_big_quiet_step (first | fail))));refine wpQuiet_nil ?_;intro w9 hw9;have hb_w9:=below_over hw9;clear hw9 ov0 ov1
     have hb9:Below wr.heap.size wr w9:=HB8.out.trans (hb_w9.mono hz8)
     have hq9:Below w.heap.size w w9:=hbi.trans (hb9.mono hzi)
     have hz9:=hb9.size
     have HO9:=Lib.hid (OwnSl.kept HO2.out hb9)
     clear hb_w9 c0' c1' d0' d1' HO2 HB8
     obtain ⟨mn,hmn⟩:∃ mn,(if g2<f2 then g2 else f2)=mn:=⟨_,rfl⟩
     rw [hmn]
     replace hmn:min f2 g2=mn:=by rw [← hmn,Int.min_def];split<;>split<;>omega
     have HMN:=Lib.hid hmn
     clear hmn
     by_cases hmt:mx≤mn
     ·have HM1:=Lib.hid (show meet1 f ⟨g1,g2⟩=some ⟨mx,mn⟩ by rw [HF.out,meet1,HMX.out,HMN.out,if_pos hmt])
      have HBD:=Lib.hid (show zs.length≤4002000 by rw [← HZ.out];exact sm_bound (a:=xs) (b:=ys) (i:=k) (j:=j) f (by rw [HN.out];exact hx) (by rw [HM.out];exact hy) (by rw [HM.out];exact hj))
      go_wp2_with (at_builtin;refine wpList_append_own _ rfl _ _ 75 rfl w.heap.size 74 i0 _ 2 16 Tryz.underlying75 hi hy0 hy1 hy2 rfl (by decide) _ _ _ rfl (World.ownsRow.alloc HO9.out _) ⟨w9.heap.size,0,none⟩ 1 1 (Sp.enc ⟨mx,mn⟩) rfl rfl ?c1 ?c2 ?c3 ?c4 ?c5 ?_)
      case c1=>exact cellsNew w9 (Sp.enc ⟨mx,mn⟩) _
      case c2=>simp [Value.oneCell']
      case c3=>have:=HBD.out;simp only [maxLen];omega
      case c4=>have:=HBD.out;omega
      case c5=>simp;omega
      intro v' w4 hown4 hgrow4 _
      have hB:=belGrown (hq9.alloc (by omega) _) (World.ownsRow.alloc HO9.out _) hgrow4 (by simp;omega)
      have HO4:=Lib.hid (OwnSl.pushed rfl hown4)
      clear hown4 hgrow4
      go_wp2
      go_roundw
      case rel=>exact ⟨j+1,by omega,by go_num,by rw [HS.out,HM1.out,Option.toList_some,← List.append_assoc,HZ.out];exact HO4.out,hB⟩
      case measure=>simp [intOf];omega
     ·have HM1:=Lib.hid (show meet1 f ⟨g1,g2⟩=none by rw [HF.out,meet1,HMX.out,HMN.out,if_neg hmt])
      go_wp2
      go_roundw
      case rel=>exact ⟨j+1,by omega,by go_num,by rw [HS.out,HM1.out,Option.toList_none,List.append_nil,HZ.out];exact HO9.out,hq9⟩
      case measure=>simp [intOf];omega
    ·have hjm:j=m:=by omega
     have HE:=Lib.hid (show smeet (xs.take (k+1)) ys=zs by rw [smi_succ HX.out,HM.out,← hjm,HZ.out])
     go_wp2
     go_roundw
     case rel=>exact ⟨k+1,by omega,by go_num,by rw [HE.out];exact HO2.out,hbi⟩
     case measure=>simp [intOf];omega
  ·have hkn:k=n:=by omega
   have HE:=Lib.hid (show smeet (xs.take k) ys=smeet xs ys by rw [List.take_of_length_le (by rw [HN.out];omega)])
   go_wp2
   go_ret
   exact ⟨_,rfl,by rw [← HE.out];exact HO.out,hbr⟩
end Go.Proofs.YtfcbbahlhjdefaaGreatDoor
