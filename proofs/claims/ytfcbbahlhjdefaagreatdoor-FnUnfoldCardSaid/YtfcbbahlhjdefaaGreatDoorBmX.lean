/- BoxMeet (both), BoxSame, BoxWithin and RegionLess (the program's). -/
import Derived.Test.YtfcbbahlhjdefaaGreatDoorFtQ
import Derived.Test.YtfcbbahlhjdefaaGreatDoorUQe
import Derived.Test.YtfcbbahlhjdefaaGreatDoorCuW
import Derived.Test.YtfcbbahlhjdefaaGreatDoorBsA
import Derived.Deep.DeepCutAuto
import Derived.Test.YtfcbbahlhjdefaaGreatDoorRgI
import Derived.Test.YtfcbbahlhjdefaaGreatDoorFnX
import Derived.Test.YtfcbbahlhjdefaaGreatDoorRdRs
import Derived.Test.YtfcbbahlhjdefaaGreatDoorRsC
import Derived.Test.YtfcbbahlhjdefaaGreatDoorDrT
import Derived.Test.YtfcbbahlhjdefaaGreatDoorRgX
import Derived.Test.YtfcbbahlhjdefaaGreatDoorNoX
import Derived.Test.YtfcbbahlhjdefaaGreatDoorNwX
import Derived.Test.YtfcbbahlhjdefaaGreatDoorFdS
import Derived.Test.YtfcbbahlhjdefaaGreatDoorRgCL
import Derived.Test.YtfcbbahlhjdefaaGreatDoorRgA
namespace Go.Proofs.YtfcbbahlhjdefaaGreatDoor
open Go.RowKit
def jd (cs:List (List Ru)) (f:Nat) (acc:Bool) (p:Pk):Bool:=rsvalid cs && p.ok && (jwalk cs p f 0).getD acc
theorem ufRes_some {cs:List (List Ru)} {f:Nat} {o:List Ft} (h:ufRes cs f=some o):rsvalid cs=true∧∃ i,ufWalk cs f 0 [ball] []=some (i,o):=by
 unfold ufRes at h
 split at h
 ·rename_i hv
  refine ⟨hv,?_⟩
  cases hq:ufWalk cs f 0 [ball] [] with
  | none=>rw [hq] at h;cases h
  | some q=>rw [hq] at h;cases h;exact ⟨q.1,rfl⟩
 ·cases h
theorem jd_same {cs:List (List Ru)} {f:Nat} {o:List Ft} (h:ufRes cs f=some o) (acc:Bool) (p:Pk):jfl o acc p=jd cs f acc p:=by
 have hf:fvalid o=true:=by
  have:=ufRes_valid (cs:=cs) (f:=f)
  rw [h] at this
  exact this
 obtain ⟨hv,i,hw⟩:=ufRes_some h
 obtain ⟨-, -, -,hr, -⟩:=rsvalid_in hv
 unfold jfl jd
 rw [hf,hv]
 cases hp:p.ok
 ·rfl
 ·rw [unfold_judge hr hw hp acc]
theorem ufRes_apart {cs:List (List Ru)} {f:Nat} {o:List Ft} (h:ufRes cs f=some o) {m n:Nat} {x y:Ft} (hmn:m<n) (hx:o[m]?=some x) (hy:o[n]?=some y):bempty (bmeet x.box y.box)=true∧bempty (bmeet y.box x.box)=true:=by
 obtain ⟨hv,i,hw⟩:=ufRes_some h
 obtain ⟨-, -, -,hr, -⟩:=rsvalid_in hv
 have hf:fvalid o=true:=by
  have:=ufRes_valid (cs:=cs) (f:=f)
  rw [h] at this
  exact this
 have h1:=unfold_apart hr hw hmn hx hy
 refine ⟨h1,?_⟩
 cases he:bempty (bmeet y.box x.box)
 ·exfalso
  obtain ⟨-,hb⟩:=fvalid_all.1 hf
  obtain ⟨p,hp,h2,h3⟩:=meet_some (hb y (List.mem_of_getElem? hy)) (hb x (List.mem_of_getElem? hx)) he
  obtain ⟨-,k⟩:=ufWalk_count hr hp f 0 _ _ _ _ hw ball_rvalid
  rw [ball_count hp] at k
  have h4:=fcount_two o m n x y hmn hx hy h3 h2
  rw [k true,k false] at h4
  have z:∀ a,fcount [] p a=0:=fun a=>rfl
  rw [z,z] at h4
  cases hj:jwalk cs p f 0 with
  | none=>rw [hj] at h4;simp at h4
  | some b=>rw [hj] at h4;cases b<;>simp at h4
 ·rfl
end Go.Proofs.YtfcbbahlhjdefaaGreatDoor
namespace Go.Proofs.YtfcbbahlhjdefaaGreatDoor
open Go.RowKit
end Go.Proofs.YtfcbbahlhjdefaaGreatDoor
namespace Go.Proofs.YtfcbbahlhjdefaaGreatDoor
open Go.RowKit
end Go.Proofs.YtfcbbahlhjdefaaGreatDoor
namespace Go.Proofs.YtfcbbahlhjdefaaGreatDoor
open Go.RowKit
theorem GRw.nil (w:World) {lo hi:Nat} (h:lo≤hi):GRw w lo hi (.slice none 0 0) []:=⟨[],World.ownsRow_nil _ _ _ _,(fun z hz=>by cases hz),h,h⟩
def MG (R:Option Bx) (w:World) (z:Value):Prop:=∃ a0 n0 p0 a1 n1 p1 a2 n2 p2 a3 n3 p3,z=.agg #[.slice a0 n0 p0,.slice a1 n1 p1,.slice a2 n2 p2,.slice a3 n3 p3]∧∀ c,R=some c→All2 (Sps 0 w) [.slice a0 n0 p0,.slice a1 n1 p1,.slice a2 n2 p2,.slice a3 n3 p3] c
theorem MG.below {R:Option Bx} {w w':World} {z:Value} (h:MG R w z) (hb:Below w.heap.size w w'):MG R w' z :=
 let ⟨a0,n0,p0,a1,n1,p1,a2,n2,p2,a3,n3,p3,h1,h2⟩:=h
 ⟨a0,n0,p0,a1,n1,p1,a2,n2,p2,a3,n3,p3,h1,fun c hc=>(h2 c hc).mono (fun _ _ g=>g.below hb)⟩
def MP (W w:World) (v:Value):Prop:=∃ q,v=.pointer (some ⟨q,0,none⟩)∧W.heap.size≤q∧q<w.heap.size∧(∀ j,w.frozen? ⟨q,j,none⟩=false)∧w.cell? ⟨q,0,none⟩=some (.slice none 0 0)∧w.cell? ⟨q,1,none⟩=some (.slice none 0 0)∧w.cell? ⟨q,2,none⟩=some (.slice none 0 0)∧w.cell? ⟨q,3,none⟩=some (.slice none 0 0)
theorem mst_mp (W:World):BStb (MP W):=fun _ _ _ hb ⟨q,h0,h1,h2,h3,g0,g1,g2,g3⟩ =>
 ⟨q,h0,h1,Nat.lt_of_lt_of_le h2 hb.size,fun j=>(hb.frozen (p:=⟨q,j,none⟩) h2).trans (h3 j),(hb.cell (p:=⟨q,0,none⟩) h2).trans g0,(hb.cell (p:=⟨q,1,none⟩) h2).trans g1,(hb.cell (p:=⟨q,2,none⟩) h2).trans g2,(hb.cell (p:=⟨q,3,none⟩) h2).trans g3⟩
theorem MP.new {W:World} (w:World) (h:W.heap.size≤w.heap.size):MP W (w.alloc (.cells #[.slice none 0 0,.slice none 0 0,.slice none 0 0,.slice none 0 0] 83)) (.pointer (some ⟨w.heap.size,0,none⟩)) :=
 ⟨_,rfl,h,by simp,fun j=>frz_new w _ _ j,by simp,by simp,by simp,by simp⟩
def MQ (R:Option Bx) (W w:World) (v:Value):Prop:=∃ q a0 n0 p0 a1 n1 p1 a2 n2 p2 a3 n3 p3,v=.pointer (some ⟨q,0,none⟩)∧W.heap.size≤q∧q<w.heap.size∧w.cell? ⟨q,0,none⟩=some (.slice a0 n0 p0)∧w.cell? ⟨q,1,none⟩=some (.slice a1 n1 p1)∧w.cell? ⟨q,2,none⟩=some (.slice a2 n2 p2)∧w.cell? ⟨q,3,none⟩=some (.slice a3 n3 p3)∧(∀ c,R=some c→All2 (Sps 0 w) [.slice a0 n0 p0,.slice a1 n1 p1,.slice a2 n2 p2,.slice a3 n3 p3] c)∧Below W.heap.size W w
theorem MQ.mk8 {R:Option Bx} {W w:World} {qq:Nat} {a0 a1 a2 a3:Option Addr} {n0 p0 n1 p1 n2 p2 n3 p3:Nat} (hC:Below W.heap.size W w) (h1:W.heap.size≤qq) (h2:qq<w.heap.size)
  (g0:w.cell? ⟨qq,0,none⟩=some (.slice none 0 0)) (g1:w.cell? ⟨qq,1,none⟩=some (.slice none 0 0)) (g2:w.cell? ⟨qq,2,none⟩=some (.slice none 0 0)) (g3:w.cell? ⟨qq,3,none⟩=some (.slice none 0 0))
  (hz:∀ c,R=some c→All2 (Sps 0 w) [.slice a0 n0 p0,.slice a1 n1 p1,.slice a2 n2 p2,.slice a3 n3 p3] c) :
  MQ R W ((((w.setCell ⟨qq,0,none⟩ (.slice a0 n0 p0)).setCell ⟨qq,1,none⟩ (.slice a1 n1 p1)).setCell ⟨qq,2,none⟩ (.slice a2 n2 p2)).setCell ⟨qq,3,none⟩ (.slice a3 n3 p3)) (.pointer (some ⟨qq,0,none⟩)):=by
 have hbel:Below W.heap.size W ((((w.setCell ⟨qq,0,none⟩ (.slice a0 n0 p0)).setCell ⟨qq,1,none⟩ (.slice a1 n1 p1)).setCell ⟨qq,2,none⟩ (.slice a2 n2 p2)).setCell ⟨qq,3,none⟩ (.slice a3 n3 p3)):=(((hC.setCell h1 _).setCell h1 _).setCell h1 _).setCell h1 _
 have hint:∀ (p:Addr) (n:Int),w.cell? p=some (.int .i64 n)→((((w.setCell ⟨qq,0,none⟩ (.slice a0 n0 p0)).setCell ⟨qq,1,none⟩ (.slice a1 n1 p1)).setCell ⟨qq,2,none⟩ (.slice a2 n2 p2)).setCell ⟨qq,3,none⟩ (.slice a3 n3 p3)).cell? p=some (.int .i64 n):=fun p n hp=>by
  have e0:p≠⟨qq,0,none⟩:=fun e=>by rw [e,g0] at hp;cases hp
  have e1:p≠⟨qq,1,none⟩:=fun e=>by rw [e,g1] at hp;cases hp
  have e2:p≠⟨qq,2,none⟩:=fun e=>by rw [e,g2] at hp;cases hp
  have e3:p≠⟨qq,3,none⟩:=fun e=>by rw [e,g3] at hp;cases hp
  rw [World.cell?_setCell_other _ _ _ _ (Ne.symm e3),World.cell?_setCell_other _ _ _ _ (Ne.symm e2),World.cell?_setCell_other _ _ _ _ (Ne.symm e1),World.cell?_setCell_other _ _ _ _ (Ne.symm e0)]
  exact hp
 refine ⟨qq,a0,n0,p0,a1,n1,p1,a2,n2,p2,a3,n3,p3,rfl,h1,by simpa using h2,?_,?_,?_,?_,fun c hc=>(hz c hc).mono (fun _ _ g=>Sps.ints g (by simp) hint),hbel⟩
 ·rw [World.cell?_setCell_other _ _ _ _ (by simp),World.cell?_setCell_other _ _ _ _ (by simp),World.cell?_setCell_other _ _ _ _ (by simp)]
  exact World.cell?_setCell_same' _ _ _ (by rw [g0];rfl)
 ·rw [World.cell?_setCell_other _ _ _ _ (by simp),World.cell?_setCell_other _ _ _ _ (by simp)]
  exact World.cell?_setCell_same' _ _ _ (by rw [World.cell?_setCell_other _ _ _ _ (by simp),g1];rfl)
 ·rw [World.cell?_setCell_other _ _ _ _ (by simp)]
  exact World.cell?_setCell_same' _ _ _ (by rw [World.cell?_setCell_other _ _ _ _ (by simp),World.cell?_setCell_other _ _ _ _ (by simp),g2];rfl)
 ·exact World.cell?_setCell_same' _ _ _ (by rw [World.cell?_setCell_other _ _ _ _ (by simp),World.cell?_setCell_other _ _ _ _ (by simp),World.cell?_setCell_other _ _ _ _ (by simp),g3];rfl)
end Go.Proofs.YtfcbbahlhjdefaaGreatDoor
namespace Go.Proofs.YtfcbbahlhjdefaaGreatDoor
open Go.RowKit
def meetB (a b:Bx):Option Bx:=if bvalid (bmeet a b) then some (bmeet a b) else none
def meetV (a b:Bx):Option Bx:=if bvalid a && bvalid b then meetB a b else none
theorem meetV_yes {a b:Bx} (ha:bvalid a=true) (hb:bvalid b=true):meetV a b=meetB a b:=by unfold meetV;rw [ha,hb];rfl
theorem meetV_no {a b:Bx} (h:bvalid a=false∨bvalid b=false):meetV a b=none:=by
 unfold meetV
 rcases h with h | h
 ·rw [h];rfl
 ·rw [h,Bool.and_false];rfl
theorem meetV_some {a b c:Bx} (h:meetV a b=some c):c=bmeet a b∧bvalid c=true:=by
 unfold meetV at h
 split at h
 ·unfold meetB at h
  split at h
  ·rename_i h2
   cases h;exact ⟨rfl,h2⟩
  ·cases h
 ·cases h
theorem meetV_valid {a b c:Bx} (h:meetV a b=some c):bvalid c=true:=(meetV_some h).2
theorem meet_o {lo lo':Nat} {a b:Bx} {v0 v1 v2 v3 u0 u1 u2 u3:Value} {w:World} {R:Option Bx} (h:meetB a b=R) (ht:Tab w) (hs:All2 (Sps lo w) [v0,v1,v2,v3] a) (hu:All2 (Sps lo' w) [u0,u1,u2,u3] b) (ha:bvalid a=true) (hb:bvalid b=true) :
  Calls Tryz.prog 43 #[.agg #[v0,v1,v2,v3],.agg #[u0,u1,u2,u3]] w fun e w'=>∃ a0 n0 p0 a1 n1 p1 a2 n2 p2 a3 n3 p3,e=.returned (.tuple #[.agg #[.slice a0 n0 p0,.slice a1 n1 p1,.slice a2 n2 p2,.slice a3 n3 p3],.bool R.isSome])∧(∀ c,R=some c→All2 (Sps 0 w') [.slice a0 n0 p0,.slice a1 n1 p1,.slice a2 n2 p2,.slice a3 n3 p3] c)∧Below w.heap.size w w':=by
 have hR:R.isSome=bvalid (bmeet a b)∧∀ c,R=some c→c=bmeet a b∧bvalid (bmeet a b)=true:=by
  subst h
  unfold meetB
  cases e:bvalid (bmeet a b)
  ·exact ⟨rfl,fun c h=>by simp at h⟩
  ·exact ⟨rfl,fun c h=>by simp at h;exact ⟨h.symm,rfl⟩⟩
 rw [hR.1]
 refine (meet_any a b v0 v1 v2 v3 u0 u1 u2 u3 w ht hs hu ha hb).mono ?_
 rintro e w' ⟨a0,n0,p0,a1,n1,p1,a2,n2,p2,a3,n3,p3,rfl,h1,h2⟩
 refine ⟨a0,n0,p0,a1,n1,p1,a2,n2,p2,a3,n3,p3,rfl,fun c hc=>?_,h2⟩
 obtain ⟨e1,e2⟩:=hR.2 c hc
 rw [e1]
 exact (h1 e2).mono (fun _ _ g=>Sps.mono g (Nat.zero_le _))
set_option maxHeartbeats 2000000 in
set_option maxRecDepth 100000 in
theorem implBMt_e {lo lo':Nat} {a b:Bx} {R:Option Bx} {u v:Value} {w:World} (hs:Rws lo w u a) (hu:Rws lo' w v b) (ht:Tab w) (h:meetV a b=R) :
  Calls Tryz.prog 14 #[.agg #[u],.agg #[v]] w fun e w'=>∃ z,e=.returned (.agg #[z])∧GRw w' w.heap.size w'.heap.size z (R.getD [])∧Below w.heap.size w w':=by
 obtain ⟨ua,uc,rfl, -, -⟩:=hs.form
 obtain ⟨va,vc,rfl, -, -⟩:=hu.form
 obtain ⟨ra,hra⟩:∃ r,bvalid a=r:=⟨_,rfl⟩
 obtain ⟨rb,hrb⟩:∃ r,bvalid b=r:=⟨_,rfl⟩
 have HRA:=Lib.hid hra
 have HRB:=Lib.hid hrb
 have HS:=Lib.hid hs
 have HU:=Lib.hid hu
 have HR:=Lib.hid h
 clear hs hu h
 have hal:Below w.heap.size w (((w.alloc (.cells #[.slice ua a.length uc] 41)).alloc (.cells #[.slice va b.length vc] 41)).alloc (.cells #[.slice none 0 0] 41)):=by (repeat' (first | with_reducible exact Below.refl _ _ | with_reducible assumption | with_reducible refine Below.setCell ?_ ?_ _ | with_reducible refine Below.alloc ?_ ?_ _ | with_reducible refine Below.drew ?_ | with_reducible refine belDrewN ?_ _ | with_reducible refine Below.trans ?_ (Below.mono (by assumption) ?_) | omega | (simp;omega) | (simp;done)))
 have HA3:=alloc3_cells w #[.slice ua a.length uc] #[.slice va b.length vc] #[.slice none 0 0] 41 41 41
 obtain ⟨W,hW⟩:∃ W,((w.alloc (.cells #[.slice ua a.length uc] 41)).alloc (.cells #[.slice va b.length vc] 41)).alloc (.cells #[.slice none 0 0] 41)=W:=⟨_,rfl⟩
 have qs:W.heap.size=w.heap.size+1+1+1:=by rw [← hW];simp
 rw [hW] at HA3 hal
 have q0:W.cell? ⟨w.heap.size,0,none⟩=some (.slice ua a.length uc):=by rw [HA3.1 0];rfl
 have p0:W.cell? ⟨w.heap.size+1,0,none⟩=some (.slice va b.length vc):=by rw [(HA3.2.1 0).1];rfl
 have r0:W.cell? ⟨w.heap.size+1+1,0,none⟩=some (.slice none 0 0):=by rw [(HA3.2.2 0).1];rfl
 have n0:W.frozen? ⟨w.heap.size+1+1,0,none⟩=false:=(HA3.2.2 0).2
 have HC:=Lib.hid (And.intro q0 (And.intro p0 (And.intro r0 n0)))
 generalize a.length=la at *
 generalize b.length=lb at *
 clear HA3
 go_enter Tryz.func14,Tryz.ntmps14
 go_wp2_with fail
 refine (implBV_b (HS.out.below hal) (ht.below hal) hra).mono ?_
 rintro e w1 ⟨rfl,hb1⟩
 have hz1:=hb1.size
 have hw1:=hal.trans (hb1.mono hal.size)
 have p1:=(hb1.cell (p:=⟨w.heap.size+1,0,none⟩) (by simp only;omega)).trans HC.out.2.1
 have r1:=(hb1.cell (p:=⟨w.heap.size+1+1,0,none⟩) (by simp only;omega)).trans HC.out.2.2.1
 have n1:=(hb1.frozen (p:=⟨w.heap.size+1+1,0,none⟩) (by simp only;omega)).trans HC.out.2.2.2
 clear q0 p0 r0 n0 hW hra
 cases ra
 ·have HM:=Lib.hid (show R=none by rw [← HR.out];exact meetV_no (.inl HRA.out))
  have hwW:Below w.heap.size w (w1.setCell ⟨w.heap.size+1+1,0,none⟩ (.slice none 0 0)):=hw1.setCell (by simp only;omega) _
  go_wp2
  refine bodyPost_ret (v:=.agg #[.slice none 0 0]) ?_ rfl ⟨_,rfl,?_,hwW⟩
  ·simp [results,Tryz.results14,go_sem,r1]
  ·rw [HM.out];exact GRw.nil _ hwW.size
 ·go_wp2_with fail
  refine (implBV_b (HU.out.below hw1) (ht.below hw1) hrb).mono ?_
  rintro e w2 ⟨rfl,hb2⟩
  have hbW2:=hb1.trans (hb2.mono hz1)
  have hz2:=hbW2.size
  have hw2:=hal.trans (hbW2.mono hal.size)
  have cq2:=(hbW2.cell (p:=⟨w.heap.size,0,none⟩) (by simp only;omega)).trans HC.out.1
  have cp2:=(hbW2.cell (p:=⟨w.heap.size+1,0,none⟩) (by simp only;omega)).trans HC.out.2.1
  have cr2:=(hbW2.cell (p:=⟨w.heap.size+1+1,0,none⟩) (by simp only;omega)).trans HC.out.2.2.1
  have cn2:=(hbW2.frozen (p:=⟨w.heap.size+1+1,0,none⟩) (by simp only;omega)).trans HC.out.2.2.2
  clear p1 r1 n1 hb1 hb2 hrb
  cases rb
  ·have HM:=Lib.hid (show R=none by rw [← HR.out];exact meetV_no (.inr HRB.out))
   have hwW:Below w.heap.size w (w2.setCell ⟨w.heap.size+1+1,0,none⟩ (.slice none 0 0)):=hw2.setCell (by simp only;omega) _
   clear cq2 cp2
   go_wp2
   refine bodyPost_ret (v:=.agg #[.slice none 0 0]) ?_ rfl ⟨_,rfl,?_,hwW⟩
   ·simp [results,Tryz.results14,go_sem,cr2]
   ·rw [HM.out];exact GRw.nil _ hwW.size
  ·have HMB:=Lib.hid (show meetB a b=R by rw [← HR.out];exact (meetV_yes HRA.out HRB.out).symm)
   have h4a:=(bvalid_four HRA.out).1
   have h4b:=(bvalid_four HRB.out).1
   have hl2:w.heap.size<w2.heap.size:=by omega
   have hl2':w.heap.size+1<w2.heap.size:=by omega
   go_wp2_with fail
   refine wp_region_turn2 (W:=w2) 9 [BIs (.agg #[.slice ua la uc]),(fun w v=>∃ z0 z1 z2 z3,v=.agg #[z0,z1,z2,z3]∧All2 (Sps 0 w) [z0,z1,z2,z3] a),BIs (.agg #[.slice va lb vc]),(fun w v=>∃ z0 z1 z2 z3,v=.agg #[z0,z1,z2,z3]∧All2 (Sps 0 w) [z0,z1,z2,z3] b),(fun w v=>∃ z,v=.tuple #[z,.bool R.isSome]∧MG R w z),(fun w v=>∃ z,v=.tuple #[z,.bool R.isSome]∧MG R w z),(fun w z=>MG R w z),BIs (.bool R.isSome),(MP w2)] (bof [BIs (.agg #[.slice ua la uc]),(fun _ _=>True),BIs (.agg #[.slice va lb vc]),(fun _ _=>True),(fun _ v=>∃ z,v=.tuple #[z,.bool R.isSome]∧True),(fun _ v=>∃ z,v=.tuple #[z,.bool R.isSome]∧True),(fun _ _=>True),BIs (.bool R.isSome),(MQ R w2),(fun _ _=>True),BIs (.bool R.isSome)]) (by kernel_rfl) (by decide) (fun u=>by simp only [frU,Act.put,List.setIfInBounds_toArray,List.set_cons_succ,List.set_cons_zero,Nat.zero_add,Nat.reduceAdd];exact rfl) (by kernel_rfl) ⟨bst_is _,(fun _ _ _ hb ⟨z0,z1,z2,z3,h1,h2⟩=>⟨z0,z1,z2,z3,h1,h2.mono (fun _ _ g=>g.below hb)⟩),bst_is _,(fun _ _ _ hb ⟨z0,z1,z2,z3,h1,h2⟩=>⟨z0,z1,z2,z3,h1,h2.mono (fun _ _ g=>g.below hb)⟩),(fun _ _ _ hb ⟨z,h1,h2⟩=>⟨z,h1,h2.below hb⟩),(fun _ _ _ hb ⟨z,h1,h2⟩=>⟨z,h1,h2.below hb⟩),(fun _ _ _ hb h=>h.below hb),bst_is _,(mst_mp _),trivial⟩ ?_ ?_;(exact ⟨stT rfl (by decide) (by kernel_rfl) (fun u w3 hC hd hI Q K hK=>by (have z0:=(hC.cell (p:=⟨w.heap.size,0,none⟩) hl2).trans cq2;go_step;exact hK _ _ rfl bR rfl)),stT rfl (by decide) (by kernel_rfl) (fun u w3 hC hd hI Q K hK=>by (rw [bis (w:=w3) (hd 0 rfl)] at hK ⊢;go_step;refine (sidesOf_any a _ w _ HS.out (hw2.trans (hC.mono hw2.size)) h4a).mono ?_;rintro e w4 ⟨a0,n0,p0,a1,n1,p1,a2,n2,p2,a3,n3,p3,rfl,ha4,hb4⟩;exact hK _ _ rfl hb4 ⟨_,_,_,_,rfl,ha4.mono (fun _ _ g=>(g.below ((hw2.trans (hC.mono hw2.size)).trans (hb4.mono (hw2.trans (hC.mono hw2.size)).size))).mono (Nat.zero_le _))⟩)),stT rfl (by decide) (by kernel_rfl) (fun u w3 hC hd hI Q K hK=>by (have z0:=(hC.cell (p:=⟨w.heap.size+1,0,none⟩) hl2').trans cp2;go_step;exact hK _ _ rfl bR rfl)),stT rfl (by decide) (by kernel_rfl) (fun u w3 hC hd hI Q K hK=>by (rw [bis (w:=w3) (hd 2 rfl)] at hK ⊢;go_step;refine (sidesOf_any b _ w _ HU.out (hw2.trans (hC.mono hw2.size)) h4b).mono ?_;rintro e w4 ⟨a0,n0,p0,a1,n1,p1,a2,n2,p2,a3,n3,p3,rfl,ha4,hb4⟩;exact hK _ _ rfl hb4 ⟨_,_,_,_,rfl,ha4.mono (fun _ _ g=>(g.below ((hw2.trans (hC.mono hw2.size)).trans (hb4.mono (hw2.trans (hC.mono hw2.size)).size))).mono (Nat.zero_le _))⟩)),stT rfl (by decide) (by kernel_rfl) (fun u w3 hC hd hI Q K hK=>by (obtain ⟨x0,x1,x2,x3,hu,hx⟩:=hd 1 rfl;rw [hu] at hK ⊢;clear hu;obtain ⟨y0,y1,y2,y3,hu,hy⟩:=hd 3 rfl;rw [hu] at hK ⊢;clear hu;go_step;refine (meet_o HMB.out (ht.below (hw2.trans (hC.mono hw2.size))) hx hy HRA.out HRB.out).mono ?_;rintro e w4 ⟨a0,n0,p0,a1,n1,p1,a2,n2,p2,a3,n3,p3,rfl,ho4,hb4⟩;exact hK _ _ rfl hb4 ⟨_,rfl,a0,n0,p0,a1,n1,p1,a2,n2,p2,a3,n3,p3,rfl,ho4⟩)),stT rfl (by decide) (by kernel_rfl) (fun u w3 hC hd hI Q K hK=>by (obtain ⟨z,hu,hz⟩:=hd 4 rfl;rw [hu] at hK ⊢;clear hu;go_step;exact hK _ _ rfl bR ⟨z,rfl,hz⟩)),stT rfl (by decide) (by kernel_rfl) (fun u w3 hC hd hI Q K hK=>by (obtain ⟨z,hu,hz⟩:=hd 5 rfl;rw [hu] at hK ⊢;clear hu;go_step;exact hK _ _ rfl bR hz)),stTf rfl (by decide) (fun u w3 hC hd Q K hK=>by (obtain ⟨z,hu,hz⟩:=hd 5 rfl;rw [hu] at hK ⊢;clear hu;go_step;exact hK _ _ rfl bR rfl)) (fun u w3 hd Q K hK=>by (dsimp only at hK ⊢;obtain ⟨z,hu,hz⟩:=hd 5 rfl;rw [hu] at hK ⊢;clear hu;go_step;exact hK _ rfl rfl)),stT rfl (by decide) (by kernel_rfl) (fun u w3 hC hd hI Q K hK=>by (go_step;exact hK _ _ rfl (bR.alloc (Nat.le_refl _) _) (MP.new _ hC.size))),stTt rfl (by decide) (fun u w3 hC hd Q K hK=>by (dsimp only at hK ⊢;obtain ⟨qq,hu,hq1,hq2,hqf,g0,g1,g2,g3⟩:=hd 8 rfl;rw [hu] at hK ⊢;have hkeep:=hu;clear hu;obtain ⟨a0,n0,p0,a1,n1,p1,a2,n2,p2,a3,n3,p3,hu,hz⟩:=hd 6 rfl;rw [hu] at hK ⊢;clear hu;have e0:=hqf 0;have e1:=hqf 1;have e2:=hqf 2;have e3:=hqf 3;go_step;have hQ:=MQ.mk8 hC hq1 hq2 g0 g1 g2 g3 hz;refine hK _ _ rfl (fun j hj h=>?_) ?_;(match j,hj,h with | 0,_,h=>exact h | 1,_,_=>exact trivial | 2,_,h=>exact h | 3,_,_=>exact trivial | 4,_,h=>exact (let ⟨z,g1,_⟩:=h;⟨z,g1,trivial⟩) | 5,_,h=>exact (let ⟨z,g1,_⟩:=h;⟨z,g1,trivial⟩) | 6,_,_=>exact trivial | 7,_,h=>exact h | 8,_,h=>exact (show MQ R w2 _ _ by rw [hkeep];exact hQ) | j+9,hj,_=>exact absurd hj (by omega));exact trivial)),stTb rfl (by decide) (by kernel_rfl) (fun u w3 hd Q K hK=>by (dsimp only at hK ⊢;rw [bis (w:=w3) (hd 7 rfl)] at hK ⊢;go_step;exact hK _ rfl rfl)),trivial⟩);intro u w9 hF;rw [bis (w:=w9) (hF 0 (by decide))];rw [bis (w:=w9) (hF 2 (by decide))];rw [bis (w:=w9) (hF 7 (by decide))];have h8:=hF 8 (by decide);generalize u 8=v8 at *;rw [bis (w:=w9) (hF 10 (by decide))];generalize u 1=vx1 at *;generalize u 3=vx3 at *;generalize u 4=vx4 at *;generalize u 5=vx5 at *;generalize u 6=vx6 at *;generalize u 9=vx9 at *;clear hF
   obtain ⟨qq,a0,n0,p0,a1,n1,p1,a2,n2,p2,a3,n3,p3,hv8,hq1,hq2,g0,g1,g2,g3,hz,hb9⟩:=h8
   subst hv8
   have hz9:=hb9.size
   have hw9:=hw2.trans (hb9.mono hw2.size)
   have r9:=(hb9.cell (p:=⟨w.heap.size+1+1,0,none⟩) (by simp only;omega)).trans cr2
   have n9:=(hb9.frozen (p:=⟨w.heap.size+1+1,0,none⟩) (by simp only;omega)).trans cn2
   have HZ:=Lib.hid hz
   have HRV:=Lib.hid (show ∀ c,R=some c→bvalid c=true from fun c hc=>meetV_valid (by rw [HR.out];exact hc))
   clear hz cr2 cn2 cp2 cq2 hb9 h4a h4b
   cases R with
   | none =>
    have hwW:Below w.heap.size w (w9.setCell ⟨w.heap.size+1+1,0,none⟩ (.slice none 0 0)):=hw9.setCell (by simp only;omega) _
    go_wp2
    refine bodyPost_ret (v:=.agg #[.slice none 0 0]) ?_ rfl ⟨_,rfl,GRw.nil _ hwW.size,hwW⟩
    simp [results,Tryz.results14,go_sem,r9]
   | some c =>
    have hall:=HZ.out c rfl
    have hcv:=HRV.out c rfl
    have HLE:=Lib.hid (fun (k:Nat) (xs:List Sp) (hx:c[k]?=some xs)=>(show xs.length≤1000000 by have:=bvalid_lens hcv k xs hx;omega))
    have HCC:=Lib.hid hall
    clear hall
    go_wp2_with fail
    refine (box_any c _ _ _ _ w9 w9 HCC.out bR HLE.out).mono ?_
    rintro e w10 ⟨v10,rfl,ho10,hb10⟩
    obtain ⟨va10,vc10,rfl, -, -⟩:=ho10.rws.form
    have hw10:=hw9.trans (hb10.mono hw9.size)
    have hz10:=hb10.size
    have r10:=(hb10.cell (p:=⟨w.heap.size+1+1,0,none⟩) (by simp only;omega)).trans r9
    have n10:=(hb10.frozen (p:=⟨w.heap.size+1+1,0,none⟩) (by simp only;omega)).trans n9
    have HG:=Lib.hid ho10.g
    have hwW:Below w.heap.size w (w10.setCell ⟨w.heap.size+1+1,0,none⟩ (.slice va10 c.length vc10)):=hw10.setCell (by simp only;omega) _
    clear ho10 hb10 r9 n9
    go_wp2
    refine bodyPost_ret (v:=.agg #[.slice va10 c.length vc10]) ?_ rfl ⟨_,rfl,?_,hwW⟩
    ·simp [results,Tryz.results14,go_sem,r10]
    ·have h1:=OwnG.keepSet (u:=.slice va10 c.length vc10) (p:=⟨w.heap.size+1+1,0,none⟩) PSp.kind HG.out (by simp only;omega)
     rw [show (w10.setCell ⟨w.heap.size+1+1,0,none⟩ (.slice va10 c.length vc10)).heap.size=w10.heap.size from by simp]
     exact OwnG.low h1 (by omega)
theorem l10Meet_w {lo lo':Nat} {a b c:Bx} {u v:Value} {w:World} (h:bmeet a b=c) (hs:Rws lo w u a) (ht:Rws lo' w v b) (ha:bvalid a=true) (hb:bvalid b=true) :
  Calls Tryz.prog 68 #[.agg #[u],.agg #[v]] w fun e w'=>∃ v',e=.returned (.agg #[v'])∧Rws w.heap.size w' v' c∧Below w.heap.size w w':=by
 subst h
 refine (l10Meet_any a b u v w hs ht (bvalid_four ha).1 (bvalid_four hb).1 (bvalid_len2 ha) (bvalid_len2 hb)).mono ?_
 rintro e w' ⟨v',rfl,h1,h2⟩
 exact ⟨v',rfl,GRw.rws h1,h2⟩
end Go.Proofs.YtfcbbahlhjdefaaGreatDoor
