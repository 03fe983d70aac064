/- BoxEmpty at a valid box (the program's). -/
import Derived.Test.YtfcbbahlhjdefaaGreatDoorJwY
import Derived.Test.YtfcbbahlhjdefaaGreatDoorBmX
import Derived.Test.YtfcbbahlhjdefaaGreatDoorRgA
namespace Go.Proofs.YtfcbbahlhjdefaaGreatDoor
open Go.RowKit
set_option maxHeartbeats 2000000 in
set_option maxRecDepth 100000 in
theorem judgeValid_b {lo:Nat} {cs:List (List Ru)} {v:Value} {acc q:Bool} {a b c d:Int} (w:World) (hs:Rss lo w v cs) (hv:rsvalid cs=true) (hq:(jwalk cs ⟨a,b,c,d⟩ 6 0).getD acc=q) :
  Calls Tryz.prog 47 #[.agg #[v,.bool acc],.agg #[.int .i64 a,.int .i64 b,.int .i64 c,.int .i64 d]] w fun e w'=>e=.returned (.bool q)∧Below w.heap.size w w':=by
 obtain ⟨va,vc,rfl, -, -⟩:=hs.form
 obtain ⟨n,hn⟩:∃ n,cs.length=n:=⟨_,rfl⟩
 rw [hn] at hs ⊢
 obtain ⟨W,hW⟩:∃ W,(w.alloc (.cells #[.slice va n vc,.bool acc] 25)).alloc (.cells #[.int .i64 a,.int .i64 b,.int .i64 c,.int .i64 d] 33)=W:=⟨_,rfl⟩
 have hal:Below w.heap.size w W:=by rw [← hW];(repeat' (first | with_reducible exact Below.refl _ _ | with_reducible assumption | with_reducible refine Below.setCell ?_ ?_ _ | with_reducible refine Below.alloc ?_ ?_ _ | with_reducible refine Below.drew ?_ | with_reducible refine belDrewN ?_ _ | with_reducible refine Below.trans ?_ (Below.mono (by assumption) ?_) | omega | (simp;omega) | (simp;done)))
 have HA:=alloc2_cells w #[.slice va n vc,.bool acc] #[.int .i64 a,.int .i64 b,.int .i64 c,.int .i64 d] 25 33
 rw [hW] at HA
 have c0:W.cell? ⟨w.heap.size,0,none⟩=some (.slice va n vc):=(HA.1 0).1
 have c1:W.cell? ⟨w.heap.size,1,none⟩=some (.bool acc):=(HA.1 1).1
 have p0:W.cell? ⟨w.heap.size+1,0,none⟩=some (.int .i64 a):=(HA.2 0).1
 have p1:W.cell? ⟨w.heap.size+1,1,none⟩=some (.int .i64 b):=(HA.2 1).1
 have p2:W.cell? ⟨w.heap.size+1,2,none⟩=some (.int .i64 c):=(HA.2 2).1
 have p3:W.cell? ⟨w.heap.size+1,3,none⟩=some (.int .i64 d):=(HA.2 3).1
 have hzW:w.heap.size<W.heap.size:=by rw [← hW];simp;omega
 have HS:=Lib.hid (hs.below hal)
 have HV:=Lib.hid hv
 have HQ:=Lib.hid hq
 have HAL:=Lib.hid hal
 clear HA hs hv hq hal hn
 go_enter Tryz.func47,Tryz.ntmps47
 go_wp2_with fail
 refine (walkThrough_any W HS.out HV.out).mono ?_
 rintro e w1 ⟨U,dec,rfl,hU,hc,hd,hb1⟩
 clear hW
 have k1:=(hb1.cell (p:=⟨w.heap.size,1,none⟩) hzW).trans c1
 have HB1:=Lib.hid (HAL.out.trans (hb1.mono HAL.out.size))
 clear hb1 c0 c1 p0 p1 p2 p3
 rcases hd with ⟨rfl,hj⟩ | ⟨rfl,hj⟩ | ⟨rfl,hj⟩
 ·have HE:=Lib.hid (show q=true by rw [← HQ.out,hj];rfl)
  clear hj
  go_wp2
  go_ret
  exact ⟨by rw [HE.out];rfl,HB1.out⟩
 ·have HE:=Lib.hid (show q=false by rw [← HQ.out,hj];rfl)
  clear hj
  go_wp2
  go_ret
  exact ⟨by rw [HE.out];rfl,HB1.out⟩
 ·have HE:=Lib.hid (show q=acc by rw [← HQ.out,hj];rfl)
  clear hj
  go_wp2
  go_ret
  exact ⟨by rw [HE.out];rfl,HB1.out⟩
set_option maxHeartbeats 2000000 in
set_option maxRecDepth 100000 in
theorem implJudge_b {lo:Nat} {cs:List (List Ru)} {v:Value} {acc q:Bool} {a b c d:Int} {w:World} (hs:Rss lo w v cs) (ht:Tab w) (hq:jd cs 6 acc ⟨a,b,c,d⟩=q) :
  Calls Tryz.prog 17 #[.agg #[v,.bool acc],.agg #[.int .i64 a,.int .i64 b,.int .i64 c,.int .i64 d]] w fun e w'=>e=.returned (.bool q)∧Below w.heap.size w w':=by
 obtain ⟨va,vc,rfl, -, -⟩:=hs.form
 obtain ⟨n,hn⟩:∃ n,cs.length=n:=⟨_,rfl⟩
 rw [hn] at hs ⊢
 obtain ⟨W,hW⟩:∃ W,(w.alloc (.cells #[.slice va n vc,.bool acc] 25)).alloc (.cells #[.int .i64 a,.int .i64 b,.int .i64 c,.int .i64 d] 33)=W:=⟨_,rfl⟩
 have hal:Below w.heap.size w W:=by rw [← hW];(repeat' (first | with_reducible exact Below.refl _ _ | with_reducible assumption | with_reducible refine Below.setCell ?_ ?_ _ | with_reducible refine Below.alloc ?_ ?_ _ | with_reducible refine Below.drew ?_ | with_reducible refine belDrewN ?_ _ | with_reducible refine Below.trans ?_ (Below.mono (by assumption) ?_) | omega | (simp;omega) | (simp;done)))
 have HA:=alloc2_cells w #[.slice va n vc,.bool acc] #[.int .i64 a,.int .i64 b,.int .i64 c,.int .i64 d] 25 33
 rw [hW] at HA
 have c0:W.cell? ⟨w.heap.size,0,none⟩=some (.slice va n vc):=(HA.1 0).1
 have c1:W.cell? ⟨w.heap.size,1,none⟩=some (.bool acc):=(HA.1 1).1
 have p0:W.cell? ⟨w.heap.size+1,0,none⟩=some (.int .i64 a):=(HA.2 0).1
 have p1:W.cell? ⟨w.heap.size+1,1,none⟩=some (.int .i64 b):=(HA.2 1).1
 have p2:W.cell? ⟨w.heap.size+1,2,none⟩=some (.int .i64 c):=(HA.2 2).1
 have p3:W.cell? ⟨w.heap.size+1,3,none⟩=some (.int .i64 d):=(HA.2 3).1
 have hzW:w.heap.size+1<W.heap.size:=by rw [← hW];simp
 have HS:=Lib.hid (hs.below hal)
 have HT:=Lib.hid (ht.below hal)
 obtain ⟨rv,hrv⟩:∃ rv,rsvalid cs=rv:=⟨_,rfl⟩
 obtain ⟨pv,hpv⟩:∃ pv,Pk.ok ⟨a,b,c,d⟩=pv:=⟨_,rfl⟩
 have HV:=Lib.hid hrv
 have HP:=Lib.hid hpv
 have HQ:=Lib.hid hq
 have HAL:=Lib.hid hal
 have HK:=Lib.hid (show ∀ w1,Below W.heap.size W w1→w1.cell? ⟨w.heap.size,0,none⟩=some (.slice va n vc)∧w1.cell? ⟨w.heap.size,1,none⟩=some (.bool acc)∧w1.cell? ⟨w.heap.size+1,0,none⟩=some (.int .i64 a)∧w1.cell? ⟨w.heap.size+1,1,none⟩=some (.int .i64 b)∧w1.cell? ⟨w.heap.size+1,2,none⟩=some (.int .i64 c)∧w1.cell? ⟨w.heap.size+1,3,none⟩=some (.int .i64 d) from fun w1 hb =>
  ⟨(hb.cell (p:=⟨w.heap.size,0,none⟩) (by simp only;omega)).trans c0,(hb.cell (p:=⟨w.heap.size,1,none⟩) (by simp only;omega)).trans c1,(hb.cell (p:=⟨w.heap.size+1,0,none⟩) hzW).trans p0,(hb.cell (p:=⟨w.heap.size+1,1,none⟩) hzW).trans p1,(hb.cell (p:=⟨w.heap.size+1,2,none⟩) hzW).trans p2,(hb.cell (p:=⟨w.heap.size+1,3,none⟩) hzW).trans p3⟩)
 clear HA hs ht hrv hpv hq hal hn
 go_enter Tryz.func17,Tryz.ntmps17
 go_wp2_with fail
 refine (implRstV_b HS.out HT.out HV.out).mono ?_
 rintro e w1 ⟨rfl,hb1⟩
 clear hW
 have HB1:=Lib.hid hb1
 have hw1:=HAL.out.trans (hb1.mono HAL.out.size)
 clear hb1 c0 c1 p0 p1 p2 p3
 cases rv
 ·have HE:=Lib.hid (show q=false by rw [← HQ.out];unfold jd;rw [HV.out];rfl)
  go_wp2
  go_ret
  exact ⟨by rw [HE.out];rfl,hw1⟩
 ·obtain ⟨k0,k1,e0,e1,e2,e3⟩:=HK.out w1 HB1.out
  have HW1:=Lib.hid hw1
  clear hw1
  go_wp2_with fail
  refine (pv_b HP.out (HT.out.below HB1.out)).mono ?_
  rintro e w2 ⟨rfl,hb2⟩
  have HB2:=Lib.hid (HB1.out.trans (hb2.mono HB1.out.size))
  have hw2:=HW1.out.trans (hb2.mono HW1.out.size)
  clear hb2 k0 k1 e0 e1 e2 e3
  cases pv
  ·have HE:=Lib.hid (show q=false by rw [← HQ.out];unfold jd;rw [HV.out,HP.out];rfl)
   go_wp2
   go_ret
   exact ⟨by rw [HE.out];rfl,hw2⟩
  ·obtain ⟨k0,k1,e0,e1,e2,e3⟩:=HK.out w2 HB2.out
   have HE:=Lib.hid (show (jwalk cs ⟨a,b,c,d⟩ 6 0).getD acc=q by rw [← HQ.out];unfold jd;rw [HV.out,HP.out];rfl)
   have HW2:=Lib.hid hw2
   clear hw2
   go_wp2_with fail
   refine (judgeValid_b w2 (HS.out.below HB2.out) HV.out HE.out).mono ?_
   rintro e w3 ⟨rfl,hb3⟩
   have HW3:=Lib.hid (HW2.out.trans (hb3.mono HW2.out.size))
   clear hb3
   go_wp2
   go_ret
   exact ⟨rfl,HW3.out⟩
def DrewPk (w:World) (e:Ending) (w':World):Prop:=∃ x:Pk,e=.returned (Pk.v x)∧Below w.heap.size w w'
set_option maxHeartbeats 1000000 in
theorem drawPN_any (bs:List Int) (v:Value) (w:World) (h:CodeAt w v bs):Calls Tryz.prog 12 #[v] w (DrewPk w):=by
 have hA0:=Box4.new w 0 0 0 0 33
 have hal:Below w.heap.size w (w.alloc (.cells #[.int .i64 0,.int .i64 0,.int .i64 0,.int .i64 0] 33)):=bR.alloc (Nat.le_refl _) _
 have h0:CodeAt (w.alloc (.cells #[.int .i64 0,.int .i64 0,.int .i64 0,.int .i64 0] 33)) v bs:=⟨h.1.below hal,h.2⟩
 go_enter Tryz.func12,Tryz.ntmps12
 go_wp2_with fail
 refine (open_any bs _ _ h0).mono ?_
 rintro e w1 ⟨R,bs',rfl,hR,hr1,hb1⟩
 have hz1:=hb1.size
 simp at hz1 hR
 have hRlt:=hr1.lt
 have hA1:=hA0.mv (R:=R) (Mv.of_below hb1) (by simp) (by omega)
 go_wp2_with fail
 refine (drawPk_any R bs' 0 6 _ hr1 (by omega) (by omega) (by omega)).mono ?_
 rintro e w2 ⟨⟨xa,xb,xc,xd⟩,q2,rfl,hr2,hq2,hm2⟩
 have hz2:=hm2.size
 have hA2:=hA1.mv hm2 (by omega) (by omega)
 have hB:Below w.heap.size w w2:=(hal.trans (hb1.mono (by simp))).trans (hm2.below (by omega) (by omega))
 obtain ⟨a0,d0,d1,d2,d3,df⟩:=id hA2
 clear hr2 hm2 hA0 hA1 hA2 h0 h
 go_wp2_with fail
 exact bodyPost_ret (v:=Pk.v ⟨xa,xb,xc,xd⟩) (by simp [results,Tryz.results12,go_sem,d0,d1,d2,d3]) rfl ⟨⟨xa,xb,xc,xd⟩,rfl,by (repeat' (first | with_reducible exact Below.refl _ _ | with_reducible assumption | with_reducible refine Below.setCell ?_ ?_ _ | with_reducible refine Below.alloc ?_ ?_ _ | with_reducible refine Below.drew ?_ | with_reducible refine belDrewN ?_ _ | with_reducible refine Below.trans ?_ (Below.mono (by assumption) ?_) | omega | (simp;omega) | (simp;done)))⟩
end Go.Proofs.YtfcbbahlhjdefaaGreatDoor
namespace Go.Proofs.YtfcbbahlhjdefaaGreatDoor
open Go.RowKit
set_option maxHeartbeats 2000000 in
set_option maxRecDepth 100000 in
theorem implBE_b {lo:Nat} {b:Bx} {v:Value} {w:World} {r:Bool} (hs:Rws lo w v b) (ht:Tab w) (hv:bvalid b=true) (h:bempty b=r) :
  Calls Tryz.prog 13 #[.agg #[v]] w fun e w'=>e=.returned (.bool r)∧Below w.heap.size w w':=by
 obtain ⟨a,cap,rfl,hlc,hcm⟩:=hs.form
 obtain ⟨n,hn⟩:∃ n,b.length=n:=⟨_,rfl⟩
 have h4:=(bvalid_four hv).1
 rw [hn] at hs hlc ⊢
 obtain ⟨W,hW⟩:∃ W,w.alloc (.cells #[.slice a n cap] 41)=W:=⟨_,rfl⟩
 have hal:Below w.heap.size w W:=by rw [← hW];exact bR.alloc (Nat.le_refl _) _
 have b0:W.cell? ⟨w.heap.size,0,none⟩=some (.slice a n cap):=by rw [← hW];simp
 have qb:w.heap.size<W.heap.size:=by rw [← hW];simp
 have HS:=Lib.hid (hs.below hal)
 have HT:=Lib.hid (ht.below hal)
 have HV:=Lib.hid hv
 have HR:=Lib.hid h
 have HAL:=Lib.hid hal
 clear hs ht hv h hn hal
 go_enter Tryz.func13,Tryz.ntmps13
 go_wp2_with fail
 refine (implBV_b HS.out HT.out HV.out).mono ?_
 rintro e w1 ⟨rfl,hb1⟩
 clear hW
 have c0:=(hb1.cell (p:=⟨w.heap.size,0,none⟩) qb).trans b0
 have hz1:=hb1.size
 have HB1:=Lib.hid hb1
 clear hb1
 go_wp2_with fail
 refine (sidesOf_any b _ _ w1 (HS.out.below HB1.out) bR h4).mono ?_
 rintro e w2 ⟨a0,n0,p0,a1,n1,q1,a2,n2,q2,a3,n3,q3,rfl,hall,hb2⟩
 have HALL:=Lib.hid (hall.mono (fun _ _ h=>h.below hb2))
 have HB2:=Lib.hid (HB1.out.trans (hb2.mono hz1))
 clear hall hb2
 go_wp2_with fail
 refine (empty_b HALL.out HR.out).mono ?_
 rintro e w3 ⟨rfl,hb3⟩
 have HB3:=Lib.hid (HAL.out.trans ((HB2.out.trans (hb3.mono HB2.out.size)).mono HAL.out.size))
 clear hb3
 go_wp2
 go_ret
 exact ⟨rfl,HB3.out⟩
end Go.Proofs.YtfcbbahlhjdefaaGreatDoor
