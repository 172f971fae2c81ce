/- Laid together from: SpcC. -/
import Derived.Test.YtiafchefbehfbaaGreatDoorDriveTellsB35
import Derived.Deep.DeepCutAuto
import Derived.Deep.CutBlock

namespace Go.Proofs.YtiafchefbehfbaaGreatDoor
open Go.ChangeShapes Go.WideShapes Go.ChangeAt Go.RowKit
set_option linter.unusedVariables false
set_option linter.unusedSimpArgs false
def MidQ (wB w:World) (N g r:Nat) (vR vC vB:Value) (bases:List Int) (S':Spc) (wx:World):Prop := ∃ V',QSt wB wx N g r vR vC vB bases V' S'∧Q1h w wx
section
variable {wB w : World} {N g r : Nat} {vR vC vB : Value} {V : QV} {S : Spc}
theorem QSt.finCell {bases:List Int} (h:QSt wB w N g r vR vC vB bases V S):w.cell? ⟨g,2,none⟩=some (.int .i64 S.fin)∧w.frozen? ⟨g,2,none⟩=false:=by
 obtain ⟨-,-,g2,-⟩:=h.mach.cells
 exact g2
theorem QSt.valCell {bases:List Int} (h:QSt wB w N g r vR vC vB bases V S):w.cell? ⟨g,3,none⟩=some (.int .i64 S.value)∧w.frozen? ⟨g,3,none⟩=false:=by
 obtain ⟨-,-,-,g3,-⟩:=h.mach.cells
 exact g3
theorem QSt.stepsCell {bases:List Int} (h:QSt wB w N g r vR vC vB bases V S):w.cell? ⟨g,4,none⟩=some (.int .i64 (S.steps:Int))∧w.frozen? ⟨g,4,none⟩=false:=by
 obtain ⟨-,-,-,-,g4,-⟩:=h.mach.cells
 exact g4
theorem QSt.codeCell {bases:List Int} (h:QSt wB w N g r vR vC vB bases V S):w.cell? ⟨g,1,none⟩=some vC:=by
 obtain ⟨-,g1,-⟩:=h.mach.cells
 exact g1.1
theorem QSt.leftCell {bases:List Int} (h:QSt wB w N g r vR vC vB bases V S):w.cell? ⟨r,4,none⟩=some (.int .i64 V.lf)∧w.frozen? ⟨r,4,none⟩=false:=⟨by rw [h.box.cell];rfl,h.box.frozen _⟩
set_option maxRecDepth 100000 in
set_option maxHeartbeats 16000000 in
theorem Qou {p:Q00} {i:LIns} (hok:SOk p S) (hic:p.code[S.pl.at_]? = some i) (hh:Q3f p=true) (hfi:i.fits) (hp:Q29 wB (.agg #[vR,vC]) p) (hst:S.steps≤40000) (h:QSt wB w N g r vR vC vB (Q1g p) V S) :
  Calls Tryz.prog 28 #[.pointer (some ⟨r,0,none⟩)] w (Q80 wB w N g r vR vC vB (Q1g p) (Q2i p i S) (.tuple #[])):=by
 obtain ⟨hr,hl1,hl2,hall⟩:=Q5m hh
 have hat:S.pl.at_ < p.code.length:=(List.getElem?_eq_some_iff.1 hic).1
 have hpi:p.code.getD S.pl.at_ default=i:=by simp [List.getD_eq_getElem?_getD,hic]
 have hiok:Q04 p 10 i=true:=by rw [← hpi];exact hall _ (Q25 hat)
 obtain ⟨v1,v2,hv,hR,⟨-,oc,capc,bc,oo,rfl,hc1,hc2,hrow⟩⟩:=hp
 simp only [Value.agg.injEq,Array.mk.injEq,List.cons.injEq,and_true] at hv
 obtain ⟨rfl,rfl⟩:=hv
 have hix:=Q24 (cap:=capc) hrow.at_
 obtain ⟨e0,e1,e2,e3,e4⟩:=(hrow.ext h.ext).ins S.pl.at_ hat
 rw [hpi] at e0 e1 e2 e3 e4
 have hrl:=h.box.lt
 have hgl:=h.mach.box.lt
 have HR:=zh hR
 have H:=zh h
 have Hr:=zh hr
 have Hok:=zh hok
 have Hiok:=zh hiok
 have Hfi:=zh hfi
 have Hat:=zh hat
 have hsn:S.seen.length≤170000:=by have:=hok.seen;omega
 have Hsn:=zh hsn
 have Hmid:=zh (hok.mid2 hat hiok hfi)
 have hseen1:=Qgn p i (begS S)
 have Hseen1:Hid ((doS p i (begS S)).seen.length≤900000):=zh (by
  have e1:(begS S).seen.length=S.seen.length+1:=by simp [begS]
  have e2:bN (begS S).ahead≤1:=by unfold bN;split <;> omega
  omega)
 have HSt:Hid (Q2i p i S=if (doS p i (begS S)).ahead then (if Q47 i S || decide ((Q3z (doS p i (begS S))).since=12) then (Q3z (doS p i (begS S))).returns else Q3z (doS p i (begS S))) else doS p i (begS S)):=zh (Qga p i S)
 generalize hSR:Q2i p i S=SR at *
 clear hSR
 have k0:∀ W,Ext w W→W.cell? ⟨r,0,none⟩=some (.pointer (some ⟨g,0,none⟩)):=fun _ h=>h.kept H.out.ptrCell
 have kc:∀ W,Ext w W→W.cell? ⟨g,1,none⟩=some (.slice oc p.code.length capc):=fun _ h=>h.kept H.out.codeCell
 have k18:∀ W,Ext w W→W.cell? ⟨g,18,none⟩=some (.int .i64 (S.pl.at_:Int)):=fun _ h=>h.kept H.out.atCell.1
 clear hrow hR hr hall hok hiok hfi hpi hic hh h hsn hseen1
 generalize hop:i.op=op at *
 generalize hia:i.a=a at *
 generalize hib:i.b=b at *
 generalize hicc:i.c=c at *
 generalize hin:i.n=n at *
 have Hi:Hid (i=⟨op,a,b,c,n⟩):=zh (by rw [← hop,← hia,← hib,← hicc,← hin])
 clear hop hia hib hicc hin
 obtain rfl:=Hi.out
 clear Hi
 have m0:∀ W,Ext w W→W.cell? ⟨bc,oo+S.pl.at_ * 5,none⟩=some (.int .i64 op):=fun _ h=>h.kept e0
 have m1:∀ W,Ext w W→W.cell? ⟨bc,oo+S.pl.at_ * 5+1,none⟩=some (.int .i64 a):=fun _ h=>h.kept e1
 have m2:∀ W,Ext w W→W.cell? ⟨bc,oo+S.pl.at_ * 5+2,none⟩=some (.int .i64 b):=fun _ h=>h.kept e2
 have m3:∀ W,Ext w W→W.cell? ⟨bc,oo+S.pl.at_ * 5+3,none⟩=some (.int .i64 c):=fun _ h=>h.kept e3
 have m4:∀ W,Ext w W→W.cell? ⟨bc,oo+S.pl.at_ * 5+4,none⟩=some (.int .i64 n):=fun _ h=>h.kept e4
 go_enter Tryz.func28,Tryz.ntmps28
 go_upto_region 0 with fail
 refine Q8b 19 18 (some 2) (by decide) rfl (by kernel_rfl) (by kernel_rfl) (fun k=>.pointer (some ⟨k,0,none⟩)) 41 #[.int .i64 0,.int .i64 0,.int .i64 0,.int .i64 0,.int .i64 0] ?_
 simp only [List.take_succ_cons,List.take_zero,List.drop_succ_cons,List.drop_zero]
 repeat (first | (refine Q5x ?_ ?_ (fun wc hE=>?_) ?_;(decide);rfl;(focus (go_simp;done));go_simp) | (refine Q0d ?_ ?_ ?_;(decide);(first | rfl | (focus (go_simp;done)));apply Exists.intro;refine ⟨fun wc hE=>?_,?_⟩;(go_simp;exact rfl);go_simp) | (refine Q0e ?_ ?_ ?_;(decide);(focus (go_simp;done));go_simp))
 refine Q0f ?_
 intro k wx hk hB hx
 clear k0 kc k18 m0 m1 m2 m3 m4 e0 e1 e2 e3 e4
 refine Q61 hB #[.int .i64 op,.int .i64 a,.int .i64 b,.int .i64 c,.int .i64 n] rfl rfl rfl (by kernel_rfl) (by simp [Value.oneCell']) ?_
 have bI:=hB.stored #[.int .i64 op,.int .i64 a,.int .i64 b,.int .i64 c,.int .i64 n] rfl
 have hx2:=hx.setCells (#[.int .i64 op,.int .i64 a,.int .i64 b,.int .i64 c,.int .i64 n]:Array Value).toList hk 0
 generalize wx.setCells k 0 (#[.int .i64 op,.int .i64 a,.int .i64 b,.int .i64 c,.int .i64 n]:Array Value).toList=w1 at *
 have X:=zh hx2
 have P1:=H.out.extend hx2
 have g0:=P1.ptrCell
 have g4:=P1.stepsCell
 have hrl1:=P1.box.lt
 have hgl1:=P1.mach.box.lt
 have P2:=P1.steps_ (S.steps+1)
 have T2:=(Q1h.ofExt hx2).trans (P1.stayM 4 (.int .i64 ((S.steps+1:Nat):Int)))
 have I2:=P1.stayM 4 (.int .i64 ((S.steps+1:Nat):Int)) _ _ _ bI Q7m
 rw [show ((S.steps+1:Nat):Int)=(S.steps:Int)+1 by omega] at P2 T2 I2
 clear hx hx2 hB hk bI P1 hrl hgl
 go_upto_region 2 with fail
 generalize w1.setCell ⟨g,4,none⟩ (.int .i64 ((S.steps:Int)+1))=w2 at *
 have hrl2:=P2.box.lt
 have hgl2:=P2.mach.box.lt
 have k0:∀ W,Ext w2 W→W.cell? ⟨r,0,none⟩=some (.pointer (some ⟨g,0,none⟩)):=fun _ h=>h.kept P2.ptrCell
 have k18:∀ W,Ext w2 W→W.cell? ⟨g,18,none⟩=some (.int .i64 (S.pl.at_:Int)):=fun _ h=>h.kept P2.atCell.1
 have P2:=zh P2
 have T2:=zh T2
 have I2:=zh I2
 clear g0 g4 hrl1 hgl1
 refine Q23 [12] 0 (by kernel_rfl) (by kernel_rfl) ?_
 repeat (first | (refine Q1x ?_ ?_;(decide)) | (refine Q1o ?_ ?_ ?_;(decide);(first | rfl | (focus (go_simp;done)));apply Exists.intro;refine ⟨fun wc hE=>?_,?_⟩;(go_simp;exact rfl);go_simp) | (refine Q1v ?_ ?_ ?_;(decide);(focus (go_simp;done));go_simp))
 refine Q1w ?_
 intro w3 hx3
 have P3:=P2.out.extend hx3
 have T3:=zh (T2.out.ext hx3)
 have I3:=zh (I2.out.ext hx3)
 clear k0 k18 hx3
 refine Q1q (Q0c rfl (Q22)) ?_
 go_wp2_with fail
 have C:=Qbj P3 1 S.pl.at_ 0 (Nat.le_trans Hsn.out (by omega))
 (with_reducible refine C.mono ?_)
 clear C
 rintro er w4 ⟨rfl,V4,P4,T4⟩
 have I4:=T4 _ _ _ I3.out Q7m
 have P4:QSt wB w4 N g r vR (.slice oc p.code.length capc) vB (Q1g p) V4 (begS S):=P4
 have T4:=zh (T3.out.trans T4)
 have hrl4:=P4.box.lt
 have hgl4:=P4.mach.box.lt
 have hkl4:=I4.lt
 have g0:=P4.ptrCell
 have i0:w4.cell? ⟨k,0,none⟩=some (.int .i64 op):=by rw [I4.cell];rfl
 have i1:w4.cell? ⟨k,1,none⟩=some (.int .i64 a):=by rw [I4.cell];rfl
 have i2:w4.cell? ⟨k,2,none⟩=some (.int .i64 b):=by rw [I4.cell];rfl
 have i3:w4.cell? ⟨k,3,none⟩=some (.int .i64 c):=by rw [I4.cell];rfl
 have i4:w4.cell? ⟨k,4,none⟩=some (.int .i64 n):=by rw [I4.cell];rfl
 have g18:w4.cell? ⟨g,18,none⟩=some (.int .i64 (S.pl.at_:Int))∧w4.frozen? ⟨g,18,none⟩=false:=P4.atCell
 have ga:w4.cell? ⟨r,3,none⟩=some (.bool S.ahead)∧w4.frozen? ⟨r,3,none⟩=false:=P4.aheadCell
 have P4:=zh P4
 have I4:=zh I4
 clear P3
 go_upto_block 0 with fail
 go_cut [3] from 47 to 159 (fun s3 wx=>s3=.bool (Q47 ⟨op,a,b,c,n⟩ S)∧MidQ wB w N g r vR (.slice oc p.code.length capc) vB (Q1g p) (doS p ⟨op,a,b,c,n⟩ (begS S)) wx)
 case first =>
  have hcw:(S.pl.at_:Int)+1≤1000000:=by omega
  have hixr:=Q4a
  by_cases h7:op=7
  ·subst h7
   have hn:=(Q4p Hiok.out).2.2.2.2.2.2.2.2.2.1 (.inl rfl)
   simp only at hn
   have Hn:Hid (n=((n.toNat:Nat):Int)):=zh (by omega)
   have HTs:Hid (doS p ⟨7,a,b,c,n⟩ (begS S)=(begS S).goTo n.toNat):=zh (by unfold doS;rw [if_pos rfl])
   have HOs:Hid (Q47 ⟨7,a,b,c,n⟩ S=false):=zh (by simp [Q47])
   have k0:∀ W,Ext w4 W→W.cell? ⟨r,0,none⟩=some (.pointer (some ⟨g,0,none⟩)):=fun _ h=>h.kept g0
   have k4:∀ W,Ext w4 W→W.cell? ⟨k,4,none⟩=some (.int .i64 n):=fun _ h=>h.kept i4
   clear hn
   go_upto_region 7 with fail
   clear g0 i0 i1 i2 i3 i4 ga
   refine Q23 [6,7,8,9] 0 (by kernel_rfl) (by kernel_rfl) ?_
   repeat (first | (refine Q1x ?_ ?_;(decide)) | (refine Q1o ?_ ?_ ?_;(decide);(first | rfl | (focus (go_simp;done)));apply Exists.intro;refine ⟨fun wc hE=>?_,?_⟩;(go_simp;exact rfl);go_simp) | (refine Q1v ?_ ?_ ?_;(decide);(focus (go_simp;done));go_simp))
   refine Q1w ?_
   intro w5 hx5
   have P5:=P4.out.extend hx5
   have hrl5:=P5.box.lt
   have hgl5:=P5.mach.box.lt
   have g18:=Q0i hx5 g18
   have P6:=P5.at__ n.toNat
   have T6:=(T4.out.ext hx5).trans (P5.stayM 18 (.int .i64 ((n.toNat:Nat):Int)))
   rw [← Hn.out] at P6 T6
   have P6:=zh P6
   have T6:=zh T6
   clear k0 k4 hx5 P5
   refine Q1q (Q0c rfl (Q0c rfl (Q0c rfl (Q0c rfl (Q22))))) ?_
   go_wp2
   go_meet
   exact ⟨by rw [HOs.out],_,by rw [HTs.out];exact P6.out,T6.out⟩
  have q7:(op == (7:Int))=false:=by simpa using h7
  by_cases h8:op=8
  ·subst h8
   have HTs:Hid (doS p ⟨8,a,b,c,n⟩ (begS S)=Q4j ⟨8,a,b,c,n⟩ (begS S)):=zh (by unfold doS;rw [if_neg (by simp),if_pos rfl])
   have HOs:Hid (Q47 ⟨8,a,b,c,n⟩ S=false):=zh (by simp [Q47])
   clear h7 q7
   go_wp2_with fail
   have C:=Qow (m:=S.steps) ⟨8,a,b,c,n⟩ P4.out Hok.out.mid.pl (by have:=Q9w Hr.out;omega) (by omega) Hiok.out rfl Hat.out (by omega)
   simp only [insV] at C
   (with_reducible refine C.mono ?_)
   clear C
   rintro er w5 ⟨rfl,V5,P5,T5⟩
   have P5:=zh P5
   have T5:=zh (T4.out.trans T5)
   clear g0 i0 i1 i2 i3 i4 ga g18
   go_wp2
   go_meet
   exact ⟨by rw [HOs.out],_,by rw [HTs.out];exact P5.out,T5.out⟩
  have q8:(op == (8:Int))=false:=by simpa using h8
  by_cases h9:op=9
  ·subst h9
   clear h7 h8 q7 q8
   cases hah:S.ahead
   ·have HTs:Hid (doS p ⟨9,a,b,c,n⟩ (begS S)={ begS S with fin:=1,value:=rg S.pl.regs a }):=zh (by
     unfold doS
     rw [if_neg (by simp),if_neg (by simp),if_pos rfl,if_neg (show ¬ (begS S).ahead=true by show ¬ S.ahead=true;rw [hah];simp)]
     rfl)
    have HOs:Hid (Q47 ⟨9,a,b,c,n⟩ S=false):=zh (by simp [Q47,hah])
    have ha:=(Q4p Hiok.out).2.2.2.2.2.2.1 rfl
    simp only at ha
    obtain ⟨a0,a1⟩:=Q0l.1 ha
    have Ha:=zh ha
    have hra:w4.cell? ⟨g,7+a.toNat,none⟩=some (.int .i64 (rg S.pl.regs a)):=(Q8d P4.out ha).1
    generalize hzv:rg S.pl.regs a=z0 at *
    rw [hah] at ga
    have k0:∀ W,Ext w4 W→W.cell? ⟨r,0,none⟩=some (.pointer (some ⟨g,0,none⟩)):=fun _ h=>h.kept g0
    have k1:∀ W,Ext w4 W→W.cell? ⟨k,1,none⟩=some (.int .i64 a):=fun _ h=>h.kept i1
    have ka:∀ W,Ext w4 W→W.cell? ⟨g,7+a.toNat,none⟩=some (.int .i64 z0):=fun _ h=>h.kept hra
    clear hah ha hra hzv
    go_upto_region 11 with fail
    clear g0 i0 i1 i2 i3 i4 ga g18
    refine Q23 [19,20,21,22,23,24,25,26] 0 (by kernel_rfl) (by kernel_rfl) ?_
    repeat (first | (refine Q1x ?_ ?_;(decide)) | (refine Q1o ?_ ?_ ?_;(decide);(first | rfl | (focus (go_simp;done)));apply Exists.intro;refine ⟨fun wc hE=>?_,?_⟩;(go_simp;exact rfl);go_simp) | (refine Q1v ?_ ?_ ?_;(decide);(focus (go_simp;done));go_simp))
    refine Q1w ?_
    intro w5 hx5
    have P5:=P4.out.extend hx5
    have hrl5:=P5.box.lt
    have hgl5:=P5.mach.box.lt
    have g2:=P5.finCell
    have g3:=P5.valCell
    have P6:=P5.fin_ 1
    have T6:=(T4.out.ext hx5).trans (P5.stayM 2 (.int .i64 1))
    have P7:=zh (P6.value_ z0)
    have T7:=zh (T6.trans (P6.stayM 3 (.int .i64 z0)))
    clear k0 k1 ka hx5 P5 P6 T6
    refine Q1q (Q0c rfl (Q0c rfl (Q0c rfl (Q0c rfl (Q0c rfl (Q0c rfl (Q0c rfl (Q0c rfl (Q22))))))))) ?_
    go_wp2
    go_meet
    exact ⟨by rw [HOs.out],_,by rw [HTs.out];exact P7.out,T7.out⟩
   ·have HTs:Hid (doS p ⟨9,a,b,c,n⟩ (begS S)=(begS S).goTo (S.pl.at_+1)):=zh (by
     unfold doS
     rw [if_neg (by simp),if_neg (by simp),if_pos rfl,if_pos (show (begS S).ahead=true by show S.ahead=true;rw [hah])]
     rfl)
    have HOs:Hid (Q47 ⟨9,a,b,c,n⟩ S=true):=zh (by simp [Q47,hah])
    rw [hah] at ga
    have P6:=P4.out.at__ (S.pl.at_+1)
    have T6:=T4.out.trans (P4.out.stayM 18 (.int .i64 ((S.pl.at_+1:Nat):Int)))
    rw [show ((S.pl.at_+1:Nat):Int)=(S.pl.at_:Int)+1 by omega] at P6 T6
    have P6:=zh P6
    have T6:=zh T6
    clear hah
    go_wp2
    go_meet
    exact ⟨by rw [HOs.out],_,by rw [HTs.out];exact P6.out,T6.out⟩
  have q9:(op == (9:Int))=false:=by simpa using h9
  by_cases h12:op=12
  ·subst h12
   have HTs:Hid (doS p ⟨12,a,b,c,n⟩ (begS S)=(begS S).goTo (S.pl.at_+1)):=zh (by
    unfold doS
    rw [if_neg (by simp),if_neg (by simp),if_neg (by simp),if_pos rfl]
    rfl)
   have HOs:Hid (Q47 ⟨12,a,b,c,n⟩ S=true):=zh (by simp [Q47])
   have P6:=P4.out.at__ (S.pl.at_+1)
   have T6:=T4.out.trans (P4.out.stayM 18 (.int .i64 ((S.pl.at_+1:Nat):Int)))
   rw [show ((S.pl.at_+1:Nat):Int)=(S.pl.at_:Int)+1 by omega] at P6 T6
   have P6:=zh P6
   have T6:=zh T6
   clear h7 h8 h9 q7 q8 q9
   go_wp2
   go_meet
   exact ⟨by rw [HOs.out],_,by rw [HTs.out];exact P6.out,T6.out⟩
  have q12:(op == (12:Int))=false:=by simpa using h12
  have HOs:Hid (Q47 ⟨op,a,b,c,n⟩ S=false):=zh (by simp [Q47,h9,h12])
  by_cases hw:op=3∨op=4∨op=5∨op=6
  ·have HTs:Hid (doS p ⟨op,a,b,c,n⟩ (begS S)=Q3h p ⟨op,a,b,c,n⟩ (begS S)):=zh (by
    unfold doS
    rw [if_neg h7,if_neg h8,if_neg h9,if_neg h12,if_pos (by unfold Q0q Q1m;rcases hw with h | h | h | h <;> simp [h])])
   have Hw:=zh hw
   clear h7 h8 h9 h12 hw
   go_wp2_with fail
   have CP:=Q8f ⟨op,a,b,c,n⟩ w4
   simp only [insV] at CP
   (with_reducible refine CP.mono ?_)
   clear CP
   rintro er w5 ⟨rfl,hx5⟩
   have P5:=zh (P4.out.extend hx5)
   have T5:=zh (T4.out.ext hx5)
   have g0:=hx5.kept g0
   have i0:=hx5.kept i0
   have i1:=hx5.kept i1
   have i2:=hx5.kept i2
   have i3:=hx5.kept i3
   have i4:=hx5.kept i4
   have hkl5:=hx5.lt hkl4
   have hrl5:=hx5.lt hrl4
   have hgl5:=hx5.lt hgl4
   clear hx5 ga g18 hkl4 hrl4 hgl4
   have hsn9:(begS S).seen.length≤900000:=by have:=Hsn.out;show (S.seen ++ [_]).length≤900000;simp;omega
   have CW:=zh (fun (w':World) (V':QV) (h:QSt wB w' N g r vR (.slice oc p.code.length capc) vB (Q1g p) V' (begS S))=>Qok (M:=S.steps) ⟨op,a,b,c,n⟩ Hw.out Hiok.out Hfi.out Hr.out HR.out (S:=begS S) (Hok.out.mid.steps _ _) (by omega) Hat.out (by omega) hsn9 h)
   clear hsn9
   generalize hbq:badQ p ⟨op,a,b,c,n⟩ (begS S)=bq at *
   have Hbq:=zh hbq
   clear hbq
   have Hfault:Hid (bq=true→doS p ⟨op,a,b,c,n⟩ (begS S)={ begS S with fin:=2 }):=zh (by
    intro e
    rw [HTs.out]
    have h1:=Hbq.out
    rw [e] at h1
    unfold badQ at h1
    simp only [Bool.and_eq_true,Bool.not_eq_true'] at h1
    exact Qlr h1.1 h1.2)
   cases hput:Q0q ⟨op,a,b,c,n⟩
   ·have Htk:Hid (Q1m ⟨op,a,b,c,n⟩=true):=zh (by
     have:=Hw.out
     unfold Q0q at hput
     unfold Q1m
     simp at hput ⊢
     omega)
    clear hput
    go_wp2_with fail
    have CT:=Qb1 ⟨op,a,b,c,n⟩ w5
    rw [Htk.out] at CT
    simp only [insV] at CT
    (with_reducible refine CT.mono ?_)
    clear CT
    rintro er w6 ⟨rfl,hx6⟩
    have P6:=zh (P5.out.extend hx6)
    have T6:=zh (T5.out.ext hx6)
    have g0:=hx6.kept g0
    have i0:=hx6.kept i0
    have i1:=hx6.kept i1
    have i2:=hx6.kept i2
    have i3:=hx6.kept i3
    have i4:=hx6.kept i4
    have hkl6:=hx6.lt hkl5
    have hrl6:=hx6.lt hrl5
    have hgl6:=hx6.lt hgl5
    clear hx6 hkl5 hrl5 hgl5
    go_wp2_with fail
    have C:=CW.out _ _ P6.out
    simp only [insV] at C
    (with_reducible refine C.mono ?_)
    clear C
    rintro er w8 ⟨rfl,V8,P8,T8⟩
    have T8:=zh (T6.out.trans T8)
    clear g0 i0 i1 i2 i3 i4 hkl6 hrl6 hgl6
    cases bq
    ·have P8:QSt wB w8 N g r vR (.slice oc p.code.length capc) vB (Q1g p) V8 (Q3h p ⟨op,a,b,c,n⟩ (begS S)):=P8
     have P8:=zh P8
     go_wp2
     go_meet
     exact ⟨by rw [HOs.out],_,by rw [HTs.out];exact P8.out,T8.out⟩
    ·have P8:QSt wB w8 N g r vR (.slice oc p.code.length capc) vB (Q1g p) V8 (begS S):=P8
     have g0:=P8.ptrCell
     have g2:=P8.finCell
     have hrl8:=P8.box.lt
     have hgl8:=P8.mach.box.lt
     have P9:=zh (P8.fin_ 2)
     have T9:=zh (T8.out.trans (P8.stayM 2 (.int .i64 2)))
     clear P8
     go_wp2
     go_meet
     exact ⟨by rw [HOs.out],_,by rw [Hfault.out (by trivial)];exact P9.out,T9.out⟩
   ·clear hput
    go_wp2_with fail
    have C:=CW.out _ _ P5.out
    simp only [insV] at C
    (with_reducible refine C.mono ?_)
    clear C
    rintro er w8 ⟨rfl,V8,P8,T8⟩
    have T8:=zh (T5.out.trans T8)
    clear g0 i0 i1 i2 i3 i4 hkl5 hrl5 hgl5
    cases bq
    ·have P8:QSt wB w8 N g r vR (.slice oc p.code.length capc) vB (Q1g p) V8 (Q3h p ⟨op,a,b,c,n⟩ (begS S)):=P8
     have P8:=zh P8
     go_wp2
     go_meet
     exact ⟨by rw [HOs.out],_,by rw [HTs.out];exact P8.out,T8.out⟩
    ·have P8:QSt wB w8 N g r vR (.slice oc p.code.length capc) vB (Q1g p) V8 (begS S):=P8
     have g0:=P8.ptrCell
     have g2:=P8.finCell
     have hrl8:=P8.box.lt
     have hgl8:=P8.mach.box.lt
     have P9:=zh (P8.fin_ 2)
     have T9:=zh (T8.out.trans (P8.stayM 2 (.int .i64 2)))
     clear P8
     go_wp2
     go_meet
     exact ⟨by rw [HOs.out],_,by rw [Hfault.out (by trivial)];exact P9.out,T9.out⟩
  ·have hplain:op≠3∧op≠4∧op≠5∧op≠6∧op≠7∧op≠8∧op≠9:=⟨by omega,by omega,by omega,by omega,h7,h8,h9⟩
   have HTs:Hid (doS p ⟨op,a,b,c,n⟩ (begS S)={ begS S with seen:=(begS S).seen ++ Q39 S.pl.regs ⟨op,a,b,c,n⟩,pl:={ S.pl with regs:=Q2w S.pl.regs ⟨op,a,b,c,n⟩,at_:=S.pl.at_+1 } }):=zh (by
    unfold doS
    rw [if_neg h7,if_neg h8,if_neg h9,if_neg h12,if_neg (by unfold Q0q Q1m;simp;omega)]
    rfl)
   have Hpl:=zh hplain
   have Hnp:Hid (Q0q ⟨op,a,b,c,n⟩=false):=zh (by unfold Q0q;simp;omega)
   have Hnt:Hid (Q1m ⟨op,a,b,c,n⟩=false):=zh (by unfold Q1m;simp;omega)
   clear h7 h8 h9 h12 hw hplain
   go_wp2_with fail
   have CP:=Q8f ⟨op,a,b,c,n⟩ w4
   rw [Hnp.out] at CP
   simp only [insV] at CP
   (with_reducible refine CP.mono ?_)
   clear CP
   rintro er w5 ⟨rfl,hx5⟩
   have P5:=zh (P4.out.extend hx5)
   have T5:=zh (T4.out.ext hx5)
   have g0:=hx5.kept g0
   have i0:=hx5.kept i0
   have i1:=hx5.kept i1
   have i2:=hx5.kept i2
   have i3:=hx5.kept i3
   have i4:=hx5.kept i4
   have hkl5:=hx5.lt hkl4
   have hrl5:=hx5.lt hrl4
   have hgl5:=hx5.lt hgl4
   clear hx5 ga g18 hkl4 hrl4 hgl4
   go_wp2_with fail
   have CT:=Qb1 ⟨op,a,b,c,n⟩ w5
   rw [Hnt.out] at CT
   simp only [insV] at CT
   (with_reducible refine CT.mono ?_)
   clear CT
   rintro er w6 ⟨rfl,hx6⟩
   have P6:=zh (P5.out.extend hx6)
   have T6:=zh (T5.out.ext hx6)
   have k0:∀ W,Ext w6 W→W.cell? ⟨r,0,none⟩=some (.pointer (some ⟨g,0,none⟩)):=fun _ h=>h.kept (hx6.kept g0)
   have m0:∀ W,Ext w6 W→W.cell? ⟨k,0,none⟩=some (.int .i64 op):=fun _ h=>h.kept (hx6.kept i0)
   have m1:∀ W,Ext w6 W→W.cell? ⟨k,1,none⟩=some (.int .i64 a):=fun _ h=>h.kept (hx6.kept i1)
   have m2:∀ W,Ext w6 W→W.cell? ⟨k,2,none⟩=some (.int .i64 b):=fun _ h=>h.kept (hx6.kept i2)
   have m3:∀ W,Ext w6 W→W.cell? ⟨k,3,none⟩=some (.int .i64 c):=fun _ h=>h.kept (hx6.kept i3)
   have m4:∀ W,Ext w6 W→W.cell? ⟨k,4,none⟩=some (.int .i64 n):=fun _ h=>h.kept (hx6.kept i4)
   have hkl6:=hx6.lt hkl5
   have hrl6:=hx6.lt hrl5
   have hgl6:=hx6.lt hgl5
   clear hx6 hkl5 hrl5 hgl5 g0 i0 i1 i2 i3 i4
   go_upto_region 4 with fail
   refine Q23 [5] 0 (by kernel_rfl) (by kernel_rfl) ?_
   repeat (first | (refine Q1x ?_ ?_;(decide)) | (refine Q1o ?_ ?_ ?_;(decide);(first | rfl | (focus (go_simp;done)));apply Exists.intro;refine ⟨fun wc hE=>?_,?_⟩;(go_simp;exact rfl);go_simp) | (refine Q1v ?_ ?_ ?_;(decide);(focus (go_simp;done));go_simp))
   refine Q1w ?_
   intro w7 hx7
   have P7:=P6.out.extend hx7
   have T7:=zh (T6.out.ext hx7)
   clear k0 m0 m1 m2 m3 m4 hx7 hkl6
   refine Q1q (Q0c rfl (Q22)) ?_
   go_wp2_with fail
   have CQ:=Qhp (M:=Q2f (begS S)) p ⟨op,a,b,c,n⟩ Hok.out.mid.pl.r64 Hiok.out Hpl.out (by have:=Hsn.out;show (S.seen ++ [_]).length≤1000000;simp;omega) w7 P7.mach
   unfold Q5p at CQ
   simp only [insV] at CQ
   (with_reducible refine CQ.mono ?_)
   clear CQ
   rintro e w8 ⟨rfl,vS8,hm8,t8,-⟩
   obtain ⟨P8,T8⟩:=P7.turn (S':={ begS S with seen:=(begS S).seen ++ Q39 S.pl.regs ⟨op,a,b,c,n⟩,pl:={ S.pl with regs:=Q2w S.pl.regs ⟨op,a,b,c,n⟩ } }) hm8 t8 rfl rfl rfl rfl rfl rfl
   have g0:=P8.ptrCell
   have g18:w8.cell? ⟨g,18,none⟩=some (.int .i64 (S.pl.at_:Int))∧w8.frozen? ⟨g,18,none⟩=false:=P8.atCell
   have hrl8:=P8.box.lt
   have hgl8:=P8.mach.box.lt
   have P9:=P8.at__ (S.pl.at_+1)
   have T9:=(T7.out.trans T8).trans (P8.stayM 18 (.int .i64 ((S.pl.at_+1:Nat):Int)))
   rw [show ((S.pl.at_+1:Nat):Int)=(S.pl.at_:Int)+1 by omega] at P9 T9
   have P9:=zh P9
   have T9:=zh T9
   clear P7 hm8 t8 P8 T8
   go_wp2
   go_meet
   exact ⟨by rw [HOs.out],_,by rw [HTs.out];exact P9.out,T9.out⟩
 case rest =>
  obtain ⟨rfl,V5,P5,T5⟩:=hcut
  clear g0 i0 i1 i2 i3 i4 g18 ga hrl4 hgl4 hkl4 P4 I4 T4
  generalize doS p ⟨op,a,b,c,n⟩ (begS S)=S1 at *
  generalize Q47 ⟨op,a,b,c,n⟩ S=ov at *
  have hrl5:=P5.box.lt
  have g3:=P5.aheadCell
  cases hah:S1.ahead
  ·rw [hah] at g3
   have HE:Hid (SR=S1):=zh (by rw [HSt.out,if_neg (by rw [hah];simp)])
   have P5:=zh P5
   have T5:=zh T5
   clear hah
   go_wp2
   refine bodyPost_end (results_none rfl _ _ _) rfl ?_
   rw [HE.out]
   exact ⟨rfl,_,P5.out,T5.out⟩
  ·rw [hah] at g3
   have g4:=P5.leftCell
   have hlf:V5.lf=12 - S1.since:=(P5.back hah).left
   have hs0:=Hmid.out.s0
   have hs2:=Hmid.out.s2 hah
   have P6:=P5.left_ (x:=V5.lf - 1) (fun _=>rfl)
   have T6:=T5.trans (P5.stayR 4 (.int .i64 (V5.lf - 1)))
   have HE:Hid (SR=if (ov || decide ((Q3z S1).since=12))=true then (Q3z S1).returns else Q3z S1):=zh (by rw [HSt.out,if_pos hah])
   have Hah:=zh hah
   have P6:=zh P6
   have T6:=zh T6
   have hlf0:1≤V5.lf:=by omega
   have hlf1:V5.lf≤13:=by omega
   have Hd:Hid ((Q3z S1).since=12 ↔ V5.lf - 1=0):=zh (by show S1.since+1=12 ↔ _;omega)
   clear hah hlf hs0 hs2 P5 T5
   generalize V5.lf=lf at *
   by_cases hq:ov=true∨lf - 1=0
   ·have HE2:Hid (SR=(Q3z S1).returns):=zh (by
     rw [HE.out,if_pos]
     rcases hq with h | h
     ·rw [h];rfl
     ·rw [decide_eq_true (Hd.out.2 h)];simp)
    by_cases hov:ov=true
    ·subst hov
     clear hq
     all_goals
      go_wp2_with fail
      have C:=Qdk P6.out Hah.out (Nat.le_trans Hseen1.out (by omega))
      (with_reducible refine C.mono ?_)
      clear C
      rintro er w7 ⟨rfl,V7,P7,T7⟩
      have P7:=zh P7
      have T7:=zh (T6.out.trans T7)
      go_wp2
      refine bodyPost_end (results_none rfl _ _ _) rfl ?_
      rw [HE2.out]
      exact ⟨rfl,_,P7.out,T7.out⟩
    ·obtain rfl:ov=false:=by cases ov <;> simp_all
     have hl0:lf - 1=0:=by
      rcases hq with h | h
      ·exact absurd h hov
      ·exact h
     have hl1:lf=1:=by omega
     subst hl1
     rw [show (1:Int) - 1=0 from rfl] at P6 T6
     clear hq hl0 hov
     all_goals
      go_wp2_with fail
      have C:=Qdk P6.out Hah.out (Nat.le_trans Hseen1.out (by omega))
      (with_reducible refine C.mono ?_)
      clear C
      rintro er w7 ⟨rfl,V7,P7,T7⟩
      have P7:=zh P7
      have T7:=zh (T6.out.trans T7)
      go_wp2
      refine bodyPost_end (results_none rfl _ _ _) rfl ?_
      rw [HE2.out]
      exact ⟨rfl,_,P7.out,T7.out⟩
   ·obtain rfl:ov=false:=by cases ov <;> simp_all
    have hne:lf - 1≠0:=fun e=>hq (.inr e)
    have HE2:Hid (SR=Q3z S1):=zh (by
     rw [HE.out,if_neg]
     rw [decide_eq_false (fun e=>hne (Hd.out.1 e))]
     simp)
    have q0:(lf - 1 == (0:Int))=false:=by simpa using hne
    clear hq hne
    go_wp2
    refine bodyPost_end (results_none rfl _ _ _) rfl ?_
    rw [HE2.out]
    exact ⟨rfl,_,P6.out,T6.out⟩
end
end Go.Proofs.YtiafchefbehfbaaGreatDoor
