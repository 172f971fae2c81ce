/- Laid together from: FormR6, FormS, FormS2, FormF. -/
import Derived.Test.YteiknefajlocoaaFindNothingB23
import Derived.Test.YteiknefajlocoaaFindNothingB24

namespace Go.Proofs.Yteiknefajlocoaa
open Go.ChangeShapes Go.WideShapes Go.ChangeAt Go.RowKit
set_option linter.unusedVariables false
set_option linter.unusedSimpArgs false
set_option maxRecDepth 100000 in
set_option maxHeartbeats 4000000 in
theorem Qn8 (p:Q00) (vp:Value) (R:Int) (a b c n:Int) (fa:R64 a) (fb:R64 b) (fc:R64 c) (fn:R64 n) (fR:R64 R) (w:World) (hp:Q0b w vp p) :
  Calls Try.prog 100 #[vp,.agg #[.int .i64 10,.int .i64 a,.int .i64 b,.int .i64 c,.int .i64 n],.int .i64 R] w fun e w'=>e=.returned (.bool (Q01 p R ⟨10,a,b,c,n⟩))∧Ext w w':=by
 have HP:=Lib.hid hp
 obtain ⟨v1,v2,rfl,⟨hb,oa,cap,b0,o,rfl,hc1,hc2,hrow⟩,⟨hf,ob,capb,b2,o2,rfl,hd1,hd2,hrow2⟩⟩:=hp
 have hlen:=Q1l hc1 hc2
 have hlen2:=Q1l hd1 hd2
 have Hrow:=Lib.hid hrow
 have hat:=hrow.at_
 have r0:=fR.1;have r1:=fR.2
 have a0:=fa.1;have a1:=fa.2;have b00:=fb.1;have b01:=fb.2;have c0':=fc.1;have c1':=fc.2;have n0':=fn.1;have n1':=fn.2
 clear hc1 hc2 hd1 hd2 hrow hrow2 hb hf
 have Hgoal:∀ r:Bool,Hid ((r=true ↔ Q01 p R ⟨10,a,b,c,n⟩=true)→Q01 p R ⟨10,a,b,c,n⟩=r):=fun r=>Lib.hid fun h=>by
  cases r <;> cases hh:Q01 p R ⟨10,a,b,c,n⟩ <;> simp_all
 have Hins:Hid (Q01 p R ⟨10,a,b,c,n⟩=true ↔ (fok R 1 a=true∧fok R 1 b=true∧fok R 0 c=true)∧True):=Lib.hid (by
  simp only [Q03]
  unfold Q01;simp [okIn]
  try omega)
 go_enter Try.func100,Try.ntmps100
 go_wp2_with fail
 obtain ⟨W,g,hg,hW,hx,bA,bB⟩:=Q0i w #[.slice oa p.regs.length cap,.slice ob p.code.length capb] #[.int .i64 10,.int .i64 a,.int .i64 b,.int .i64 c,.int .i64 n] 25 70
 rw [hW,hg]
 have X:=Lib.hid hx
 clear hW hg hx
 have C:=(Qld W)
 (with_reducible refine C.mono ?_)
 clear C
 rintro e w1 ⟨rfl,hw1⟩
 have bS:Blk w1 W.heap.size 3 #[.int .i64 1,.int .i64 1,.int .i64 0]:=by rw [hw1];exact Blk.new W _ _
 have h1:Ext W w1:=by rw [hw1];exact (Ext.refl W).alloc _
 clear hw1
 generalize W.heap.size=ks at *
 have bA:=bA.ext h1
 have bB:=bB.ext h1
 have X:=Lib.hid (X.out.trans h1)
 clear h1
 have p0:w1.cell? ⟨g,0,none⟩=some (.slice oa p.regs.length cap):=by rw [bA.cell];rfl
 have p1:w1.cell? ⟨g,1,none⟩=some (.slice ob p.code.length capb):=by rw [bA.cell];rfl
 have e0:w1.cell? ⟨g+1,0,none⟩=some (.int .i64 10):=by rw [bB.cell];rfl
 have e1:w1.cell? ⟨g+1,1,none⟩=some (.int .i64 a):=by rw [bB.cell];rfl
 have e2:w1.cell? ⟨g+1,2,none⟩=some (.int .i64 b):=by rw [bB.cell];rfl
 have e3:w1.cell? ⟨g+1,3,none⟩=some (.int .i64 c):=by rw [bB.cell];rfl
 have e4:w1.cell? ⟨g+1,4,none⟩=some (.int .i64 n):=by rw [bB.cell];rfl
 go_wp2_with fail
 obtain ⟨w2,hw2⟩:∃ w2,w2=w1.alloc (.cells #[.int .i64 a,.int .i64 b,.int .i64 c] 3):=⟨_,rfl⟩
 have bF:Blk w2 w1.heap.size 3 #[.int .i64 a,.int .i64 b,.int .i64 c]:=by rw [hw2];exact Blk.new w1 _ _
 have h2:Ext w1 w2:=by rw [hw2];exact (Ext.refl w1).alloc _
 rw [← hw2]
 clear hw2
 generalize w1.heap.size=kf at *
 have bA:=bA.ext h2
 have bB:=bB.ext h2
 have bS:=bS.ext h2
 have X:=Lib.hid (X.out.trans h2)
 clear h2 p0 p1 e0 e1 e2 e3 e4
 go_loopw [11] (fun i wr => ∃ j:Nat,j≤3∧i=.int .i64 j∧Ext w2 wr∧∀ t,t < j→fok R (tri 1 1 0 t) (tri a b c t)=true) (fun i _=>3 - (intOf i).toNat)
 case atStart=>exact ⟨0,by omega,rfl,Ext.refl _,fun t ht=>by omega⟩
 case round =>
  obtain ⟨j,hj,rfl,hE,hok⟩:=hrel
  have bA:=bA.ext hE
  have bB:=bB.ext hE
  have bS:=bS.ext hE
  have bF:=bF.ext hE
  have X:=Lib.hid (X.out.trans hE)
  have HE:=Lib.hid hE
  have Hok:=Lib.hid hok
  clear hE hok
  by_cases hlt:j < 3
  ·have hjj:j=0∨j=1∨j=2:=by omega
   rcases hjj with rfl | rfl | rfl
   ·have s0:wr.cell? ⟨ks,0,none⟩=some (.int .i64 1):=by rw [bS.cell];rfl
    have f0:wr.cell? ⟨kf,0,none⟩=some (.int .i64 a):=by rw [bF.cell];rfl
    by_cases hz:0≤a
    ·by_cases hy:a < R
     ·go_wp2
      go_roundw
      case rel=>exact ⟨1,by omega,by first | rfl | go_num,HE.out,fun t ht=>by
       rcases (show t < 0∨t=0 by omega) with h | h
       ·exact Hok.out t h
       ·subst h;exact Q03.2 ⟨fun h=>absurd h (by decide),fun _=>⟨hz,hy⟩⟩⟩
      case measure=>simp [intOf]
     ·go_wp2
      go_ret
      refine ⟨Q04 ?_,X.out⟩
      cases hh:Q01 p R ⟨10,a,b,c,n⟩
      ·rfl
      ·exfalso
       have hq:=Hins.out.1 hh
       (simp [Q03] at hq) <;> omega
    ·go_wp2
     go_ret
     refine ⟨Q04 ?_,X.out⟩
     cases hh:Q01 p R ⟨10,a,b,c,n⟩
     ·rfl
     ·exfalso
      have hq:=Hins.out.1 hh
      (simp [Q03] at hq) <;> omega
   ·have s0:wr.cell? ⟨ks,1,none⟩=some (.int .i64 1):=by rw [bS.cell];rfl
    have f0:wr.cell? ⟨kf,1,none⟩=some (.int .i64 b):=by rw [bF.cell];rfl
    by_cases hz:0≤b
    ·by_cases hy:b < R
     ·go_wp2
      go_roundw
      case rel=>exact ⟨2,by omega,by first | rfl | go_num,HE.out,fun t ht=>by
       rcases (show t < 1∨t=1 by omega) with h | h
       ·exact Hok.out t h
       ·subst h;exact Q03.2 ⟨fun h=>absurd h (by decide),fun _=>⟨hz,hy⟩⟩⟩
      case measure=>simp [intOf]
     ·go_wp2
      go_ret
      refine ⟨Q04 ?_,X.out⟩
      cases hh:Q01 p R ⟨10,a,b,c,n⟩
      ·rfl
      ·exfalso
       have hq:=Hins.out.1 hh
       (simp [Q03] at hq) <;> omega
    ·go_wp2
     go_ret
     refine ⟨Q04 ?_,X.out⟩
     cases hh:Q01 p R ⟨10,a,b,c,n⟩
     ·rfl
     ·exfalso
      have hq:=Hins.out.1 hh
      (simp [Q03] at hq) <;> omega
   ·have s0:wr.cell? ⟨ks,2,none⟩=some (.int .i64 0):=by rw [bS.cell];rfl
    have f0:wr.cell? ⟨kf,2,none⟩=some (.int .i64 c):=by rw [bF.cell];rfl
    by_cases hz:c=0
    ·have hz1:(c != 0)=false:=by simpa using hz
     go_wp2
     go_roundw
     case rel=>exact ⟨3,by omega,by first | rfl | go_num,HE.out,fun t ht=>by
      rcases (show t < 2∨t=2 by omega) with h | h
      ·exact Hok.out t h
      ·subst h;exact Q03.2 ⟨fun _=>hz,fun h=>absurd h (by decide)⟩⟩
     case measure=>simp [intOf]
    ·have hz1:(c != 0)=true:=by simpa using hz
     go_wp2
     go_ret
     refine ⟨Q04 ?_,X.out⟩
     cases hh:Q01 p R ⟨10,a,b,c,n⟩
     ·rfl
     ·exfalso
      have hq:=Hins.out.1 hh
      (simp [Q03] at hq) <;> omega
  ·obtain rfl:j=3:=by omega
   have k0:=Hok.out 0 (by omega)
   have k1:=Hok.out 1 (by omega)
   have k2:=Hok.out 2 (by omega)
   have K:=Lib.hid (And.intro k0 (And.intro k1 k2))
   clear k0 k1 k2
   have p0:wr.cell? ⟨g,0,none⟩=some (.slice oa p.regs.length cap):=by rw [bA.cell];rfl
   have p1:wr.cell? ⟨g,1,none⟩=some (.slice ob p.code.length capb):=by rw [bA.cell];rfl
   have e0:wr.cell? ⟨g+1,0,none⟩=some (.int .i64 10):=by rw [bB.cell];rfl
   have e1:wr.cell? ⟨g+1,1,none⟩=some (.int .i64 a):=by rw [bB.cell];rfl
   have e2:wr.cell? ⟨g+1,2,none⟩=some (.int .i64 b):=by rw [bB.cell];rfl
   have e3:wr.cell? ⟨g+1,3,none⟩=some (.int .i64 c):=by rw [bB.cell];rfl
   have e4:wr.cell? ⟨g+1,4,none⟩=some (.int .i64 n):=by rw [bB.cell];rfl
   go_wp2
   go_ret
   exact ⟨Q04 (Hins.out.2 ⟨⟨K.out.1,K.out.2.1,K.out.2.2⟩,by first | trivial | omega⟩).symm,X.out⟩
set_option maxRecDepth 100000 in
set_option maxHeartbeats 4000000 in
theorem Qn7 (p:Q00) (vp:Value) (R:Int) (a b c n:Int) (fa:R64 a) (fb:R64 b) (fc:R64 c) (fn:R64 n) (fR:R64 R) (w:World) (hp:Q0b w vp p) :
  Calls Try.prog 100 #[vp,.agg #[.int .i64 11,.int .i64 a,.int .i64 b,.int .i64 c,.int .i64 n],.int .i64 R] w fun e w'=>e=.returned (.bool (Q01 p R ⟨11,a,b,c,n⟩))∧Ext w w':=by
 have HP:=Lib.hid hp
 obtain ⟨v1,v2,rfl,⟨hb,oa,cap,b0,o,rfl,hc1,hc2,hrow⟩,⟨hf,ob,capb,b2,o2,rfl,hd1,hd2,hrow2⟩⟩:=hp
 have hlen:=Q1l hc1 hc2
 have hlen2:=Q1l hd1 hd2
 have Hrow:=Lib.hid hrow
 have hat:=hrow.at_
 have r0:=fR.1;have r1:=fR.2
 have a0:=fa.1;have a1:=fa.2;have b00:=fb.1;have b01:=fb.2;have c0':=fc.1;have c1':=fc.2;have n0':=fn.1;have n1':=fn.2
 clear hc1 hc2 hd1 hd2 hrow hrow2 hb hf
 have Hgoal:∀ r:Bool,Hid ((r=true ↔ Q01 p R ⟨11,a,b,c,n⟩=true)→Q01 p R ⟨11,a,b,c,n⟩=r):=fun r=>Lib.hid fun h=>by
  cases r <;> cases hh:Q01 p R ⟨11,a,b,c,n⟩ <;> simp_all
 have Hins:Hid (Q01 p R ⟨11,a,b,c,n⟩=true ↔ (fok R 1 a=true∧fok R 0 b=true∧fok R 0 c=true)∧(1≤n∧n≤64)):=Lib.hid (by
  simp only [Q03]
  unfold Q01;simp [okIn]
  try omega)
 go_enter Try.func100,Try.ntmps100
 go_wp2_with fail
 obtain ⟨W,g,hg,hW,hx,bA,bB⟩:=Q0i w #[.slice oa p.regs.length cap,.slice ob p.code.length capb] #[.int .i64 11,.int .i64 a,.int .i64 b,.int .i64 c,.int .i64 n] 25 70
 rw [hW,hg]
 have X:=Lib.hid hx
 clear hW hg hx
 have C:=(Qlc W)
 (with_reducible refine C.mono ?_)
 clear C
 rintro e w1 ⟨rfl,hw1⟩
 have bS:Blk w1 W.heap.size 3 #[.int .i64 1,.int .i64 0,.int .i64 0]:=by rw [hw1];exact Blk.new W _ _
 have h1:Ext W w1:=by rw [hw1];exact (Ext.refl W).alloc _
 clear hw1
 generalize W.heap.size=ks at *
 have bA:=bA.ext h1
 have bB:=bB.ext h1
 have X:=Lib.hid (X.out.trans h1)
 clear h1
 have p0:w1.cell? ⟨g,0,none⟩=some (.slice oa p.regs.length cap):=by rw [bA.cell];rfl
 have p1:w1.cell? ⟨g,1,none⟩=some (.slice ob p.code.length capb):=by rw [bA.cell];rfl
 have e0:w1.cell? ⟨g+1,0,none⟩=some (.int .i64 11):=by rw [bB.cell];rfl
 have e1:w1.cell? ⟨g+1,1,none⟩=some (.int .i64 a):=by rw [bB.cell];rfl
 have e2:w1.cell? ⟨g+1,2,none⟩=some (.int .i64 b):=by rw [bB.cell];rfl
 have e3:w1.cell? ⟨g+1,3,none⟩=some (.int .i64 c):=by rw [bB.cell];rfl
 have e4:w1.cell? ⟨g+1,4,none⟩=some (.int .i64 n):=by rw [bB.cell];rfl
 go_wp2_with fail
 obtain ⟨w2,hw2⟩:∃ w2,w2=w1.alloc (.cells #[.int .i64 a,.int .i64 b,.int .i64 c] 3):=⟨_,rfl⟩
 have bF:Blk w2 w1.heap.size 3 #[.int .i64 a,.int .i64 b,.int .i64 c]:=by rw [hw2];exact Blk.new w1 _ _
 have h2:Ext w1 w2:=by rw [hw2];exact (Ext.refl w1).alloc _
 rw [← hw2]
 clear hw2
 generalize w1.heap.size=kf at *
 have bA:=bA.ext h2
 have bB:=bB.ext h2
 have bS:=bS.ext h2
 have X:=Lib.hid (X.out.trans h2)
 clear h2 p0 p1 e0 e1 e2 e3 e4
 go_loopw [11] (fun i wr => ∃ j:Nat,j≤3∧i=.int .i64 j∧Ext w2 wr∧∀ t,t < j→fok R (tri 1 0 0 t) (tri a b c t)=true) (fun i _=>3 - (intOf i).toNat)
 case atStart=>exact ⟨0,by omega,rfl,Ext.refl _,fun t ht=>by omega⟩
 case round =>
  obtain ⟨j,hj,rfl,hE,hok⟩:=hrel
  have bA:=bA.ext hE
  have bB:=bB.ext hE
  have bS:=bS.ext hE
  have bF:=bF.ext hE
  have X:=Lib.hid (X.out.trans hE)
  have HE:=Lib.hid hE
  have Hok:=Lib.hid hok
  clear hE hok
  by_cases hlt:j < 3
  ·have hjj:j=0∨j=1∨j=2:=by omega
   rcases hjj with rfl | rfl | rfl
   ·have s0:wr.cell? ⟨ks,0,none⟩=some (.int .i64 1):=by rw [bS.cell];rfl
    have f0:wr.cell? ⟨kf,0,none⟩=some (.int .i64 a):=by rw [bF.cell];rfl
    by_cases hz:0≤a
    ·by_cases hy:a < R
     ·go_wp2
      go_roundw
      case rel=>exact ⟨1,by omega,by first | rfl | go_num,HE.out,fun t ht=>by
       rcases (show t < 0∨t=0 by omega) with h | h
       ·exact Hok.out t h
       ·subst h;exact Q03.2 ⟨fun h=>absurd h (by decide),fun _=>⟨hz,hy⟩⟩⟩
      case measure=>simp [intOf]
     ·go_wp2
      go_ret
      refine ⟨Q04 ?_,X.out⟩
      cases hh:Q01 p R ⟨11,a,b,c,n⟩
      ·rfl
      ·exfalso
       have hq:=Hins.out.1 hh
       (simp [Q03] at hq) <;> omega
    ·go_wp2
     go_ret
     refine ⟨Q04 ?_,X.out⟩
     cases hh:Q01 p R ⟨11,a,b,c,n⟩
     ·rfl
     ·exfalso
      have hq:=Hins.out.1 hh
      (simp [Q03] at hq) <;> omega
   ·have s0:wr.cell? ⟨ks,1,none⟩=some (.int .i64 0):=by rw [bS.cell];rfl
    have f0:wr.cell? ⟨kf,1,none⟩=some (.int .i64 b):=by rw [bF.cell];rfl
    by_cases hz:b=0
    ·have hz1:(b != 0)=false:=by simpa using hz
     go_wp2
     go_roundw
     case rel=>exact ⟨2,by omega,by first | rfl | go_num,HE.out,fun t ht=>by
      rcases (show t < 1∨t=1 by omega) with h | h
      ·exact Hok.out t h
      ·subst h;exact Q03.2 ⟨fun _=>hz,fun h=>absurd h (by decide)⟩⟩
     case measure=>simp [intOf]
    ·have hz1:(b != 0)=true:=by simpa using hz
     go_wp2
     go_ret
     refine ⟨Q04 ?_,X.out⟩
     cases hh:Q01 p R ⟨11,a,b,c,n⟩
     ·rfl
     ·exfalso
      have hq:=Hins.out.1 hh
      (simp [Q03] at hq) <;> omega
   ·have s0:wr.cell? ⟨ks,2,none⟩=some (.int .i64 0):=by rw [bS.cell];rfl
    have f0:wr.cell? ⟨kf,2,none⟩=some (.int .i64 c):=by rw [bF.cell];rfl
    by_cases hz:c=0
    ·have hz1:(c != 0)=false:=by simpa using hz
     go_wp2
     go_roundw
     case rel=>exact ⟨3,by omega,by first | rfl | go_num,HE.out,fun t ht=>by
      rcases (show t < 2∨t=2 by omega) with h | h
      ·exact Hok.out t h
      ·subst h;exact Q03.2 ⟨fun _=>hz,fun h=>absurd h (by decide)⟩⟩
     case measure=>simp [intOf]
    ·have hz1:(c != 0)=true:=by simpa using hz
     go_wp2
     go_ret
     refine ⟨Q04 ?_,X.out⟩
     cases hh:Q01 p R ⟨11,a,b,c,n⟩
     ·rfl
     ·exfalso
      have hq:=Hins.out.1 hh
      (simp [Q03] at hq) <;> omega
  ·obtain rfl:j=3:=by omega
   have k0:=Hok.out 0 (by omega)
   have k1:=Hok.out 1 (by omega)
   have k2:=Hok.out 2 (by omega)
   have K:=Lib.hid (And.intro k0 (And.intro k1 k2))
   clear k0 k1 k2
   have p0:wr.cell? ⟨g,0,none⟩=some (.slice oa p.regs.length cap):=by rw [bA.cell];rfl
   have p1:wr.cell? ⟨g,1,none⟩=some (.slice ob p.code.length capb):=by rw [bA.cell];rfl
   have e0:wr.cell? ⟨g+1,0,none⟩=some (.int .i64 11):=by rw [bB.cell];rfl
   have e1:wr.cell? ⟨g+1,1,none⟩=some (.int .i64 a):=by rw [bB.cell];rfl
   have e2:wr.cell? ⟨g+1,2,none⟩=some (.int .i64 b):=by rw [bB.cell];rfl
   have e3:wr.cell? ⟨g+1,3,none⟩=some (.int .i64 c):=by rw [bB.cell];rfl
   have e4:wr.cell? ⟨g+1,4,none⟩=some (.int .i64 n):=by rw [bB.cell];rfl
   by_cases q0:1≤n
   ·by_cases q1:n≤64
    ·go_wp2
     go_ret
     exact ⟨Q04 (Hins.out.2 ⟨⟨K.out.1,K.out.2.1,K.out.2.2⟩,by first | trivial | omega⟩).symm,X.out⟩
    ·have q1d:decide (n≤64)=false:=by simpa using q1
     go_wp2
     go_ret
     refine ⟨Q04 ?_,X.out⟩
     cases hh:Q01 p R ⟨11,a,b,c,n⟩
     ·rfl
     ·exfalso
      have hq:=Hins.out.1 hh
      (simp [Q03] at hq) <;> omega
   ·have q0d:decide (1≤n)=false:=by simpa using q0
    go_wp2
    go_ret
    refine ⟨Q04 ?_,X.out⟩
    cases hh:Q01 p R ⟨11,a,b,c,n⟩
    ·rfl
    ·exfalso
     have hq:=Hins.out.1 hh
     (simp [Q03] at hq) <;> omega
set_option maxRecDepth 100000 in
set_option maxHeartbeats 4000000 in
theorem Qn6 (p:Q00) (vp:Value) (R:Int) (a b c n:Int) (fa:R64 a) (fb:R64 b) (fc:R64 c) (fn:R64 n) (fR:R64 R) (w:World) (hp:Q0b w vp p) :
  Calls Try.prog 100 #[vp,.agg #[.int .i64 12,.int .i64 a,.int .i64 b,.int .i64 c,.int .i64 n],.int .i64 R] w fun e w'=>e=.returned (.bool (Q01 p R ⟨12,a,b,c,n⟩))∧Ext w w':=by
 have HP:=Lib.hid hp
 obtain ⟨v1,v2,rfl,⟨hb,oa,cap,b0,o,rfl,hc1,hc2,hrow⟩,⟨hf,ob,capb,b2,o2,rfl,hd1,hd2,hrow2⟩⟩:=hp
 have hlen:=Q1l hc1 hc2
 have hlen2:=Q1l hd1 hd2
 have Hrow:=Lib.hid hrow
 have hat:=hrow.at_
 have r0:=fR.1;have r1:=fR.2
 have a0:=fa.1;have a1:=fa.2;have b00:=fb.1;have b01:=fb.2;have c0':=fc.1;have c1':=fc.2;have n0':=fn.1;have n1':=fn.2
 clear hc1 hc2 hd1 hd2 hrow hrow2 hb hf
 have Hgoal:∀ r:Bool,Hid ((r=true ↔ Q01 p R ⟨12,a,b,c,n⟩=true)→Q01 p R ⟨12,a,b,c,n⟩=r):=fun r=>Lib.hid fun h=>by
  cases r <;> cases hh:Q01 p R ⟨12,a,b,c,n⟩ <;> simp_all
 have Hins:Hid (Q01 p R ⟨12,a,b,c,n⟩=true ↔ (fok R 0 a=true∧fok R 0 b=true∧fok R 0 c=true∧n=0)∧True):=Lib.hid (by
  simp only [Q03]
  unfold Q01;simp [okIn]
  try omega)
 go_enter Try.func100,Try.ntmps100
 go_wp2_with fail
 obtain ⟨W,g,hg,hW,hx,bA,bB⟩:=Q0i w #[.slice oa p.regs.length cap,.slice ob p.code.length capb] #[.int .i64 12,.int .i64 a,.int .i64 b,.int .i64 c,.int .i64 n] 25 70
 rw [hW,hg]
 have X:=Lib.hid hx
 clear hW hg hx
 have C:=(Qlb W)
 (with_reducible refine C.mono ?_)
 clear C
 rintro e w1 ⟨rfl,hw1⟩
 have bS:Blk w1 W.heap.size 3 #[.int .i64 0,.int .i64 0,.int .i64 0]:=by rw [hw1];exact Blk.new W _ _
 have h1:Ext W w1:=by rw [hw1];exact (Ext.refl W).alloc _
 clear hw1
 generalize W.heap.size=ks at *
 have bA:=bA.ext h1
 have bB:=bB.ext h1
 have X:=Lib.hid (X.out.trans h1)
 clear h1
 have p0:w1.cell? ⟨g,0,none⟩=some (.slice oa p.regs.length cap):=by rw [bA.cell];rfl
 have p1:w1.cell? ⟨g,1,none⟩=some (.slice ob p.code.length capb):=by rw [bA.cell];rfl
 have e0:w1.cell? ⟨g+1,0,none⟩=some (.int .i64 12):=by rw [bB.cell];rfl
 have e1:w1.cell? ⟨g+1,1,none⟩=some (.int .i64 a):=by rw [bB.cell];rfl
 have e2:w1.cell? ⟨g+1,2,none⟩=some (.int .i64 b):=by rw [bB.cell];rfl
 have e3:w1.cell? ⟨g+1,3,none⟩=some (.int .i64 c):=by rw [bB.cell];rfl
 have e4:w1.cell? ⟨g+1,4,none⟩=some (.int .i64 n):=by rw [bB.cell];rfl
 by_cases hn:n=0
 rotate_left
 ·have hn1:(n != 0)=true:=by simpa using hn
  go_wp2
  go_ret
  refine ⟨Q04 ?_,X.out⟩
  cases hh:Q01 p R ⟨12,a,b,c,n⟩
  ·rfl
  ·exfalso
   have hq:=Hins.out.1 hh
   (simp [Q03] at hq) <;> omega
 subst hn
 clear n0' n1'
 go_wp2_with fail
 obtain ⟨w2,hw2⟩:∃ w2,w2=w1.alloc (.cells #[.int .i64 a,.int .i64 b,.int .i64 c] 3):=⟨_,rfl⟩
 have bF:Blk w2 w1.heap.size 3 #[.int .i64 a,.int .i64 b,.int .i64 c]:=by rw [hw2];exact Blk.new w1 _ _
 have h2:Ext w1 w2:=by rw [hw2];exact (Ext.refl w1).alloc _
 rw [← hw2]
 clear hw2
 generalize w1.heap.size=kf at *
 have bA:=bA.ext h2
 have bB:=bB.ext h2
 have bS:=bS.ext h2
 have X:=Lib.hid (X.out.trans h2)
 clear h2 p0 p1 e0 e1 e2 e3 e4
 go_loopw [11] (fun i wr => ∃ j:Nat,j≤3∧i=.int .i64 j∧Ext w2 wr∧∀ t,t < j→fok R (tri 0 0 0 t) (tri a b c t)=true) (fun i _=>3 - (intOf i).toNat)
 case atStart=>exact ⟨0,by omega,rfl,Ext.refl _,fun t ht=>by omega⟩
 case round =>
  obtain ⟨j,hj,rfl,hE,hok⟩:=hrel
  have bA:=bA.ext hE
  have bB:=bB.ext hE
  have bS:=bS.ext hE
  have bF:=bF.ext hE
  have X:=Lib.hid (X.out.trans hE)
  have HE:=Lib.hid hE
  have Hok:=Lib.hid hok
  clear hE hok
  by_cases hlt:j < 3
  ·have hjj:j=0∨j=1∨j=2:=by omega
   rcases hjj with rfl | rfl | rfl
   ·have s0:wr.cell? ⟨ks,0,none⟩=some (.int .i64 0):=by rw [bS.cell];rfl
    have f0:wr.cell? ⟨kf,0,none⟩=some (.int .i64 a):=by rw [bF.cell];rfl
    by_cases hz:a=0
    ·have hz1:(a != 0)=false:=by simpa using hz
     go_wp2
     go_roundw
     case rel=>exact ⟨1,by omega,by first | rfl | go_num,HE.out,fun t ht=>by
      rcases (show t < 0∨t=0 by omega) with h | h
      ·exact Hok.out t h
      ·subst h;exact Q03.2 ⟨fun _=>hz,fun h=>absurd h (by decide)⟩⟩
     case measure=>simp [intOf]
    ·have hz1:(a != 0)=true:=by simpa using hz
     go_wp2
     go_ret
     refine ⟨Q04 ?_,X.out⟩
     cases hh:Q01 p R ⟨12,a,b,c,0⟩
     ·rfl
     ·exfalso
      have hq:=Hins.out.1 hh
      (simp [Q03] at hq) <;> omega
   ·have s0:wr.cell? ⟨ks,1,none⟩=some (.int .i64 0):=by rw [bS.cell];rfl
    have f0:wr.cell? ⟨kf,1,none⟩=some (.int .i64 b):=by rw [bF.cell];rfl
    by_cases hz:b=0
    ·have hz1:(b != 0)=false:=by simpa using hz
     go_wp2
     go_roundw
     case rel=>exact ⟨2,by omega,by first | rfl | go_num,HE.out,fun t ht=>by
      rcases (show t < 1∨t=1 by omega) with h | h
      ·exact Hok.out t h
      ·subst h;exact Q03.2 ⟨fun _=>hz,fun h=>absurd h (by decide)⟩⟩
     case measure=>simp [intOf]
    ·have hz1:(b != 0)=true:=by simpa using hz
     go_wp2
     go_ret
     refine ⟨Q04 ?_,X.out⟩
     cases hh:Q01 p R ⟨12,a,b,c,0⟩
     ·rfl
     ·exfalso
      have hq:=Hins.out.1 hh
      (simp [Q03] at hq) <;> omega
   ·have s0:wr.cell? ⟨ks,2,none⟩=some (.int .i64 0):=by rw [bS.cell];rfl
    have f0:wr.cell? ⟨kf,2,none⟩=some (.int .i64 c):=by rw [bF.cell];rfl
    by_cases hz:c=0
    ·have hz1:(c != 0)=false:=by simpa using hz
     go_wp2
     go_roundw
     case rel=>exact ⟨3,by omega,by first | rfl | go_num,HE.out,fun t ht=>by
      rcases (show t < 2∨t=2 by omega) with h | h
      ·exact Hok.out t h
      ·subst h;exact Q03.2 ⟨fun _=>hz,fun h=>absurd h (by decide)⟩⟩
     case measure=>simp [intOf]
    ·have hz1:(c != 0)=true:=by simpa using hz
     go_wp2
     go_ret
     refine ⟨Q04 ?_,X.out⟩
     cases hh:Q01 p R ⟨12,a,b,c,0⟩
     ·rfl
     ·exfalso
      have hq:=Hins.out.1 hh
      (simp [Q03] at hq) <;> omega
  ·obtain rfl:j=3:=by omega
   have k0:=Hok.out 0 (by omega)
   have k1:=Hok.out 1 (by omega)
   have k2:=Hok.out 2 (by omega)
   have K:=Lib.hid (And.intro k0 (And.intro k1 k2))
   clear k0 k1 k2
   have p0:wr.cell? ⟨g,0,none⟩=some (.slice oa p.regs.length cap):=by rw [bA.cell];rfl
   have p1:wr.cell? ⟨g,1,none⟩=some (.slice ob p.code.length capb):=by rw [bA.cell];rfl
   have e0:wr.cell? ⟨g+1,0,none⟩=some (.int .i64 12):=by rw [bB.cell];rfl
   have e1:wr.cell? ⟨g+1,1,none⟩=some (.int .i64 a):=by rw [bB.cell];rfl
   have e2:wr.cell? ⟨g+1,2,none⟩=some (.int .i64 b):=by rw [bB.cell];rfl
   have e3:wr.cell? ⟨g+1,3,none⟩=some (.int .i64 c):=by rw [bB.cell];rfl
   have e4:wr.cell? ⟨g+1,4,none⟩=some (.int .i64 0):=by rw [bB.cell];rfl
   go_wp2
   go_ret
   exact ⟨Q04 (Hins.out.2 ⟨⟨K.out.1,K.out.2.1,K.out.2.2,by trivial⟩,by first | trivial | omega⟩).symm,X.out⟩
set_option maxRecDepth 100000 in
set_option maxHeartbeats 4000000 in
theorem Qmv (p:Q00) (vp:Value) (R:Int) (op:Int) (a b c n:Int) (fa:R64 a) (fb:R64 b) (fc:R64 c) (fn:R64 n) (fR:R64 R) (w:World) (hp:Q0b w vp p) (fo:R64 op) (h20:20 < op) (h30:op≤30) (n1:(op == 1)=false) (n2:(op == 2)=false) (n3:(op == 3)=false) (n4:(op == 4)=false) (n5:(op == 5)=false) (n6:(op == 6)=false) (n7:(op == 7)=false) (n8:(op == 8)=false) (n9:(op == 9)=false) (n10:(op == 10)=false) (n11:(op == 11)=false) (n12:(op == 12)=false) :
  Calls Try.prog 100 #[vp,.agg #[.int .i64 op,.int .i64 a,.int .i64 b,.int .i64 c,.int .i64 n],.int .i64 R] w fun e w'=>e=.returned (.bool (Q01 p R ⟨op,a,b,c,n⟩))∧Ext w w':=by
 have HP:=Lib.hid hp
 obtain ⟨v1,v2,rfl,⟨hb,oa,cap,b0,o,rfl,hc1,hc2,hrow⟩,⟨hf,ob,capb,b2,o2,rfl,hd1,hd2,hrow2⟩⟩:=hp
 have hlen:=Q1l hc1 hc2
 have hlen2:=Q1l hd1 hd2
 have Hrow:=Lib.hid hrow
 have hat:=hrow.at_
 have r0:=fR.1;have r1:=fR.2
 have a0:=fa.1;have a1:=fa.2;have b00:=fb.1;have b01:=fb.2;have c0':=fc.1;have c1':=fc.2;have n0':=fn.1;have n1':=fn.2
 clear hc1 hc2 hd1 hd2 hrow hrow2 hb hf
 have Hgoal:∀ r:Bool,Hid ((r=true ↔ Q01 p R ⟨op,a,b,c,n⟩=true)→Q01 p R ⟨op,a,b,c,n⟩=r):=fun r=>Lib.hid fun h=>by
  cases r <;> cases hh:Q01 p R ⟨op,a,b,c,n⟩ <;> simp_all
 have Hins:Hid (Q01 p R ⟨op,a,b,c,n⟩=true ↔ (fok R 1 a=true∧fok R 1 b=true∧fok R 1 c=true∧n=0)∧(21≤op∧op≤30)):=Lib.hid (by
  simp only [Q03]
  have e:∀ k:Int,(op == k)=false→¬ op=k:=fun k h=>by simpa using h
  have m1:=e 1 n1;have m2:=e 2 n2;have m3:=e 3 n3;have m4:=e 4 n4;have m5:=e 5 n5;have m6:=e 6 n6;have m7:=e 7 n7;have m8:=e 8 n8;have m9:=e 9 n9;have m10:=e 10 n10;have m11:=e 11 n11;have m12:=e 12 n12
  unfold Q01;simp [m1,m2,m3,m4,m5,m6,m7,m8,m9,m10,m11,m12,okIn]
  try omega)
 go_enter Try.func100,Try.ntmps100
 go_wp2_with fail
 obtain ⟨W,g,hg,hW,hx,bA,bB⟩:=Q0i w #[.slice oa p.regs.length cap,.slice ob p.code.length capb] #[.int .i64 op,.int .i64 a,.int .i64 b,.int .i64 c,.int .i64 n] 25 70
 rw [hW,hg]
 have X:=Lib.hid hx
 clear hW hg hx
 have C:=(Ql1 op h20 h30 W)
 (with_reducible refine C.mono ?_)
 clear C
 rintro e w1 ⟨rfl,hw1⟩
 have bS:Blk w1 W.heap.size 3 #[.int .i64 1,.int .i64 1,.int .i64 1]:=by rw [hw1];exact Blk.new W _ _
 have h1:Ext W w1:=by rw [hw1];exact (Ext.refl W).alloc _
 clear hw1
 generalize W.heap.size=ks at *
 have bA:=bA.ext h1
 have bB:=bB.ext h1
 have X:=Lib.hid (X.out.trans h1)
 clear h1
 have p0:w1.cell? ⟨g,0,none⟩=some (.slice oa p.regs.length cap):=by rw [bA.cell];rfl
 have p1:w1.cell? ⟨g,1,none⟩=some (.slice ob p.code.length capb):=by rw [bA.cell];rfl
 have e0:w1.cell? ⟨g+1,0,none⟩=some (.int .i64 op):=by rw [bB.cell];rfl
 have e1:w1.cell? ⟨g+1,1,none⟩=some (.int .i64 a):=by rw [bB.cell];rfl
 have e2:w1.cell? ⟨g+1,2,none⟩=some (.int .i64 b):=by rw [bB.cell];rfl
 have e3:w1.cell? ⟨g+1,3,none⟩=some (.int .i64 c):=by rw [bB.cell];rfl
 have e4:w1.cell? ⟨g+1,4,none⟩=some (.int .i64 n):=by rw [bB.cell];rfl
 by_cases hn:n=0
 rotate_left
 ·have hn1:(n != 0)=true:=by simpa using hn
  go_wp2
  go_ret
  refine ⟨Q04 ?_,X.out⟩
  cases hh:Q01 p R ⟨op,a,b,c,n⟩
  ·rfl
  ·exfalso
   have hq:=Hins.out.1 hh
   (simp [Q03] at hq) <;> omega
 subst hn
 clear n0' n1'
 go_wp2_with fail
 obtain ⟨w2,hw2⟩:∃ w2,w2=w1.alloc (.cells #[.int .i64 a,.int .i64 b,.int .i64 c] 3):=⟨_,rfl⟩
 have bF:Blk w2 w1.heap.size 3 #[.int .i64 a,.int .i64 b,.int .i64 c]:=by rw [hw2];exact Blk.new w1 _ _
 have h2:Ext w1 w2:=by rw [hw2];exact (Ext.refl w1).alloc _
 rw [← hw2]
 clear hw2
 generalize w1.heap.size=kf at *
 have bA:=bA.ext h2
 have bB:=bB.ext h2
 have bS:=bS.ext h2
 have X:=Lib.hid (X.out.trans h2)
 clear h2 p0 p1 e0 e1 e2 e3 e4
 go_loopw [11] (fun i wr => ∃ j:Nat,j≤3∧i=.int .i64 j∧Ext w2 wr∧∀ t,t < j→fok R (tri 1 1 1 t) (tri a b c t)=true) (fun i _=>3 - (intOf i).toNat)
 case atStart=>exact ⟨0,by omega,rfl,Ext.refl _,fun t ht=>by omega⟩
 case round =>
  obtain ⟨j,hj,rfl,hE,hok⟩:=hrel
  have bA:=bA.ext hE
  have bB:=bB.ext hE
  have bS:=bS.ext hE
  have bF:=bF.ext hE
  have X:=Lib.hid (X.out.trans hE)
  have HE:=Lib.hid hE
  have Hok:=Lib.hid hok
  clear hE hok
  by_cases hlt:j < 3
  ·have hjj:j=0∨j=1∨j=2:=by omega
   rcases hjj with rfl | rfl | rfl
   ·have s0:wr.cell? ⟨ks,0,none⟩=some (.int .i64 1):=by rw [bS.cell];rfl
    have f0:wr.cell? ⟨kf,0,none⟩=some (.int .i64 a):=by rw [bF.cell];rfl
    by_cases hz:0≤a
    ·by_cases hy:a < R
     ·go_wp2
      go_roundw
      case rel=>exact ⟨1,by omega,by first | rfl | go_num,HE.out,fun t ht=>by
       rcases (show t < 0∨t=0 by omega) with h | h
       ·exact Hok.out t h
       ·subst h;exact Q03.2 ⟨fun h=>absurd h (by decide),fun _=>⟨hz,hy⟩⟩⟩
      case measure=>simp [intOf]
     ·go_wp2
      go_ret
      refine ⟨Q04 ?_,X.out⟩
      cases hh:Q01 p R ⟨op,a,b,c,0⟩
      ·rfl
      ·exfalso
       have hq:=Hins.out.1 hh
       (simp [Q03] at hq) <;> omega
    ·go_wp2
     go_ret
     refine ⟨Q04 ?_,X.out⟩
     cases hh:Q01 p R ⟨op,a,b,c,0⟩
     ·rfl
     ·exfalso
      have hq:=Hins.out.1 hh
      (simp [Q03] at hq) <;> omega
   ·have s0:wr.cell? ⟨ks,1,none⟩=some (.int .i64 1):=by rw [bS.cell];rfl
    have f0:wr.cell? ⟨kf,1,none⟩=some (.int .i64 b):=by rw [bF.cell];rfl
    by_cases hz:0≤b
    ·by_cases hy:b < R
     ·go_wp2
      go_roundw
      case rel=>exact ⟨2,by omega,by first | rfl | go_num,HE.out,fun t ht=>by
       rcases (show t < 1∨t=1 by omega) with h | h
       ·exact Hok.out t h
       ·subst h;exact Q03.2 ⟨fun h=>absurd h (by decide),fun _=>⟨hz,hy⟩⟩⟩
      case measure=>simp [intOf]
     ·go_wp2
      go_ret
      refine ⟨Q04 ?_,X.out⟩
      cases hh:Q01 p R ⟨op,a,b,c,0⟩
      ·rfl
      ·exfalso
       have hq:=Hins.out.1 hh
       (simp [Q03] at hq) <;> omega
    ·go_wp2
     go_ret
     refine ⟨Q04 ?_,X.out⟩
     cases hh:Q01 p R ⟨op,a,b,c,0⟩
     ·rfl
     ·exfalso
      have hq:=Hins.out.1 hh
      (simp [Q03] at hq) <;> omega
   ·have s0:wr.cell? ⟨ks,2,none⟩=some (.int .i64 1):=by rw [bS.cell];rfl
    have f0:wr.cell? ⟨kf,2,none⟩=some (.int .i64 c):=by rw [bF.cell];rfl
    by_cases hz:0≤c
    ·by_cases hy:c < R
     ·go_wp2
      go_roundw
      case rel=>exact ⟨3,by omega,by first | rfl | go_num,HE.out,fun t ht=>by
       rcases (show t < 2∨t=2 by omega) with h | h
       ·exact Hok.out t h
       ·subst h;exact Q03.2 ⟨fun h=>absurd h (by decide),fun _=>⟨hz,hy⟩⟩⟩
      case measure=>simp [intOf]
     ·go_wp2
      go_ret
      refine ⟨Q04 ?_,X.out⟩
      cases hh:Q01 p R ⟨op,a,b,c,0⟩
      ·rfl
      ·exfalso
       have hq:=Hins.out.1 hh
       (simp [Q03] at hq) <;> omega
    ·go_wp2
     go_ret
     refine ⟨Q04 ?_,X.out⟩
     cases hh:Q01 p R ⟨op,a,b,c,0⟩
     ·rfl
     ·exfalso
      have hq:=Hins.out.1 hh
      (simp [Q03] at hq) <;> omega
  ·obtain rfl:j=3:=by omega
   have k0:=Hok.out 0 (by omega)
   have k1:=Hok.out 1 (by omega)
   have k2:=Hok.out 2 (by omega)
   have K:=Lib.hid (And.intro k0 (And.intro k1 k2))
   clear k0 k1 k2
   have p0:wr.cell? ⟨g,0,none⟩=some (.slice oa p.regs.length cap):=by rw [bA.cell];rfl
   have p1:wr.cell? ⟨g,1,none⟩=some (.slice ob p.code.length capb):=by rw [bA.cell];rfl
   have e0:wr.cell? ⟨g+1,0,none⟩=some (.int .i64 op):=by rw [bB.cell];rfl
   have e1:wr.cell? ⟨g+1,1,none⟩=some (.int .i64 a):=by rw [bB.cell];rfl
   have e2:wr.cell? ⟨g+1,2,none⟩=some (.int .i64 b):=by rw [bB.cell];rfl
   have e3:wr.cell? ⟨g+1,3,none⟩=some (.int .i64 c):=by rw [bB.cell];rfl
   have e4:wr.cell? ⟨g+1,4,none⟩=some (.int .i64 0):=by rw [bB.cell];rfl
   go_wp2
   go_ret
   exact ⟨Q04 (Hins.out.2 ⟨⟨K.out.1,K.out.2.1,K.out.2.2,by trivial⟩,by first | trivial | omega⟩).symm,X.out⟩
set_option maxRecDepth 100000 in
set_option maxHeartbeats 1000000 in
theorem Qmw (p:Q00) (vp:Value) (R:Int) (op:Int) (h:op≤20∨30 < op) (n1:(op == 1)=false) (n2:(op == 2)=false) (n3:(op == 3)=false) (n4:(op == 4)=false) (n5:(op == 5)=false) (n6:(op == 6)=false) (n7:(op == 7)=false) (n8:(op == 8)=false) (n9:(op == 9)=false) (n10:(op == 10)=false) (n11:(op == 11)=false) (n12:(op == 12)=false) (a b c n:Int) (w:World) (hp:Q0b w vp p) :
  Calls Try.prog 100 #[vp,.agg #[.int .i64 op,.int .i64 a,.int .i64 b,.int .i64 c,.int .i64 n],.int .i64 R] w fun e w'=>e=.returned (.bool (Q01 p R ⟨op,a,b,c,n⟩))∧Ext w w':=by
 obtain ⟨v1,v2,rfl,-⟩:=hp
 have Hf:Hid (Q01 p R ⟨op,a,b,c,n⟩=false):=Lib.hid (by
  have e:∀ k:Int,(op == k)=false→¬ op=k:=fun k h=>by simpa using h
  have m1:=e 1 n1;have m2:=e 2 n2;have m3:=e 3 n3;have m4:=e 4 n4;have m5:=e 5 n5;have m6:=e 6 n6;have m7:=e 7 n7;have m8:=e 8 n8;have m9:=e 9 n9;have m10:=e 10 n10;have m11:=e 11 n11;have m12:=e 12 n12
  unfold Q01;simp [m1,m2,m3,m4,m5,m6,m7,m8,m9,m10,m11,m12,okIn];omega)
 rw [Hf.out]
 go_enter Try.func100,Try.ntmps100
 go_wp2_with fail
 obtain ⟨W,g,hg,hW,hx,bA,bB⟩:=Q0i w #[v1,v2] #[.int .i64 op,.int .i64 a,.int .i64 b,.int .i64 c,.int .i64 n] 25 70
 rw [hW,hg]
 have X:=Lib.hid hx
 clear hW hg hx
 have C:=Ql2 op h n1 n2 n3 n4 n5 n6 n7 n8 n9 n10 n11 n12 W
 (with_reducible refine C.mono ?_)
 clear C
 rintro e w1 ⟨rfl,rfl⟩
 go_wp2
 go_ret
 exact ⟨rfl,X.out⟩
theorem Qmx (p:Q00) (vp:Value) (R:Int) (fR:R64 R) (i:LIns) (hi:i.fits) (w:World) (hp:Q0b w vp p) (hreg:∀ r ∈ p.regs,0≤r.log∧r.log≤6) :
  Calls Try.prog 100 #[vp,.agg #[.int .i64 i.op,.int .i64 i.a,.int .i64 i.b,.int .i64 i.c,.int .i64 i.n],.int .i64 R] w fun e w'=>e=.returned (.bool (Q01 p R i))∧Ext w w':=by
 obtain ⟨op,a,b,c,n⟩:=i
 obtain ⟨fo,fa,fb,fc,fn⟩:=hi
 by_cases e1:op=1
 ·subst e1;exact Q7n p vp R a b c n fa fb fc fn fR w hp
 by_cases e2:op=2
 ·subst e2;exact Qn5 p vp R a b c n fa fb fc fn fR w hp
 by_cases e3:op=3
 ·subst e3;exact Qn4 p vp R a b c n fa fb fc fn fR w hp
 by_cases e4:op=4
 ·subst e4;exact Qn3 p vp R a b c n fa fb fc fn fR w hp
 by_cases e5:op=5
 ·subst e5;exact Qn2 p vp R a b c n fa fb fc fn fR w hp hreg
 by_cases e6:op=6
 ·subst e6;exact Qn1 p vp R a b c n fa fb fc fn fR w hp hreg
 by_cases e7:op=7
 ·subst e7;exact Qn0 p vp R a b c n fa fb fc fn fR w hp
 by_cases e8:op=8
 ·subst e8;exact Qmz p vp R a b c n fa fb fc fn fR w hp
 by_cases e9:op=9
 ·subst e9;exact Qmy p vp R a b c n fa fb fc fn fR w hp
 by_cases e10:op=10
 ·subst e10;exact Qn8 p vp R a b c n fa fb fc fn fR w hp
 by_cases e11:op=11
 ·subst e11;exact Qn7 p vp R a b c n fa fb fc fn fR w hp
 by_cases e12:op=12
 ·subst e12;exact Qn6 p vp R a b c n fa fb fc fn fR w hp
 by_cases hr:20 < op∧op≤30
 ·exact Qmv p vp R op a b c n fa fb fc fn fR w hp fo hr.1 hr.2 (by simpa using e1) (by simpa using e2) (by simpa using e3) (by simpa using e4) (by simpa using e5) (by simpa using e6) (by simpa using e7) (by simpa using e8) (by simpa using e9) (by simpa using e10) (by simpa using e11) (by simpa using e12)
 ·exact Qmw p vp R op (by omega) (by simpa using e1) (by simpa using e2) (by simpa using e3) (by simpa using e4) (by simpa using e5) (by simpa using e6) (by simpa using e7) (by simpa using e8) (by simpa using e9) (by simpa using e10) (by simpa using e11) (by simpa using e12) a b c n w hp
theorem Qmj {l:List LReg} (h:Q02 l=true):∀ r ∈ l,0≤r.log∧r.log≤6:=by
 intro r hr
 simp only [Q02,Bool.and_eq_true,List.all_eq_true] at h
 have:=h.1 r hr
 simpa [Q3a] using this
set_option maxHeartbeats 4000000 in
theorem is_c (p:Q00) (v:Value) (most R:Int) (hm:R64 most) (fR:R64 R) (w:World) (hp:Q0b w v p) :
  Calls Try.prog 59 #[v,.int .i64 most,.int .i64 R] w fun e w'=>e=.returned (.bool (Q46 p most R))∧Ext w w':=by
 have hp':=hp
 obtain ⟨v1,v2,rfl,⟨hb,oa,cap,b,o,rfl,hc1,hc2,hrow⟩,⟨hf,ob,capb,b2,o2,rfl,hd1,hd2,hrow2⟩⟩:=hp
 have HP:=Lib.hid hp'
 have hm0:=hm.1
 have hm1:=hm.2
 have hlen:=Q1l hc1 hc2
 have hlen2:=Q1l hd1 hd2
 have hix:=Q1g (cap:=capb) hrow2.at_
 have Hrow2:=Lib.hid hrow2
 clear hrow hrow2 hc1 hc2 hd1 hd2 hp'
 go_enter Try.func59,Try.ntmps59
 go_wp2_with fail
 obtain ⟨w0,g,hg,hW,hx,c0,c1⟩:=new2 w 25 (.slice oa p.regs.length cap) (.slice ob p.code.length capb)
 rw [hW,hg]
 have X:=Lib.hid hx
 clear hW hg hx
 have C:=Qfv p _ w0 (HP.out.ext X.out)
 have Hgoal:∀ r:Bool,Hid (r=Q46 p most R→Ending.returned (.bool r)=.returned (.bool (Q46 p most R))):=fun r=>Lib.hid fun h=>by rw [h]
 cases hr:Q02 p.regs
 ·rw [hr] at C
  have Hr:=Lib.hid hr
  clear hr
  (with_reducible refine C.mono ?_)
  rintro e w1 ⟨rfl,h1⟩
  have X:=Lib.hid (X.out.trans h1)
  clear h1 C
  go_wp2
  go_ret
  exact ⟨(Hgoal _).out (by simp [Q46,Hr.out]),X.out⟩
 rw [hr] at C
 have Hr:=Lib.hid hr
 clear hr
 (with_reducible refine C.mono ?_)
 rintro e w1 ⟨rfl,h1⟩
 have X:=Lib.hid (X.out.trans h1)
 have c0:=Q0a h1 c0
 have c1:=Q0a h1 c1
 clear h1 C
 by_cases q0:(p.code.length:Int) < 1
 ·go_wp2
  go_ret
  exact ⟨(Hgoal _).out (by
   have:¬ 1≤p.code.length:=by omega
   simp [Q46,this]),X.out⟩
 have q0d:decide ((p.code.length:Int) < 1)=false:=by simpa using q0
 by_cases q1:most < (p.code.length:Int)
 ·go_wp2
  go_ret
  exact ⟨(Hgoal _).out (by
   have:¬ (p.code.length:Int)≤most:=by omega
   simp [Q46,this]),X.out⟩
 have q1d:decide (most < (p.code.length:Int))=false:=by simpa using q1
 go_wp2_with fail
 go_loopw [7] (fun i wr => ∃ j:Nat,j≤p.code.length∧i=.int .i64 j∧Ext w1 wr∧(p.code.take j).all (Q01 p R)=true) (fun i _=>p.code.length - (intOf i).toNat)
 case atStart=>exact ⟨0,by omega,rfl,Ext.refl _,by simp⟩
 case round =>
  obtain ⟨j,hj,rfl,hE,hall⟩:=hrel
  have c0:=Q0a hE c0
  have c1:=Q0a hE c1
  have X:=Lib.hid (X.out.trans hE)
  have HE:=Lib.hid hE
  have Hall:=Lib.hid hall
  clear hE hall
  by_cases hlt:j < p.code.length
  ·obtain ⟨e0,e1,e2,e3,e4⟩:=(Hrow2.out.ext X.out).ins j hlt
   have hfi:=hf _ (Q2b hlt)
   have Hs:=Lib.hid (Qbr (Q01 p R) p.code j default hlt Hall.out)
   have Hfalse:=Lib.hid (Qbf (Q01 p R) p.code j default hlt)
   generalize p.code.getD j default=i at *
   have HC:∀ W,Ext wr W→Hid (Calls Try.prog 100 #[.agg #[.slice oa p.regs.length cap,.slice ob p.code.length capb],.agg #[.int .i64 i.op,.int .i64 i.a,.int .i64 i.b,.int .i64 i.c,.int .i64 i.n],.int .i64 R] W fun e w'=>e=.returned (.bool (Q01 p R i))∧Ext W w'):=fun W h=>Lib.hid (Qmx p _ R fR i hfi W (HP.out.ext (X.out.trans h)) (Qmj Hr.out))
   have k0:∀ W,Ext wr W→W.cell? ⟨g,0,none⟩=some (.slice oa p.regs.length cap):=fun _ h=>h.kept c0.1
   have k1:∀ W,Ext wr W→W.cell? ⟨g,1,none⟩=some (.slice ob p.code.length capb):=fun _ h=>h.kept c1.1
   have m0:∀ W,Ext wr W→W.cell? ⟨b2,o2+j * 5,none⟩=some (.int .i64 i.op):=fun _ h=>h.kept e0
   have m1:∀ W,Ext wr W→W.cell? ⟨b2,o2+j * 5+1,none⟩=some (.int .i64 i.a):=fun _ h=>h.kept e1
   have m2:∀ W,Ext wr W→W.cell? ⟨b2,o2+j * 5+2,none⟩=some (.int .i64 i.b):=fun _ h=>h.kept e2
   have m3:∀ W,Ext wr W→W.cell? ⟨b2,o2+j * 5+3,none⟩=some (.int .i64 i.c):=fun _ h=>h.kept e3
   have m4:∀ W,Ext wr W→W.cell? ⟨b2,o2+j * 5+4,none⟩=some (.int .i64 i.n):=fun _ h=>h.kept e4
   clear e0 e1 e2 e3 e4
   go_upto_region 6 with fail
   refine Q0z 9 (by kernel_rfl) (by kernel_rfl) ?_
   simp only [List.take_succ_cons,List.take_zero,List.drop_succ_cons,List.drop_zero]
   repeat (first | (refine Q0p ?_ ?_ (fun wc hE=>?_) ?_;(decide);rfl;(focus (go_simp;done));go_simp) | (refine Q0h ?_ ?_ ?_;(decide);(first | rfl | (focus (go_simp;done)));apply Exists.intro;refine ⟨fun wc hE=>?_,?_⟩;(go_simp;exact rfl);go_simp) | (refine Q0q ?_ ?_ ?_;(decide);(first | rfl | (focus (go_simp;done)));apply Exists.intro;refine ⟨fun wc hE=>?_,?_⟩;(go_simp;(first | (with_reducible exact Q1p ((HC _ ‹_›).out))));go_simp) | (refine Q0n ?_ ?_ ?_;(decide);(focus (go_simp;done));go_simp))
   refine Q0o ?_
   intro wx hx
   have HX:=Lib.hid (HE.out.trans hx)
   have X:=Lib.hid (X.out.trans hx)
   clear hx k0 k1 m0 m1 m2 m3 m4 HC
   cases hi:Q01 p R i
   ·have Hi:=Lib.hid hi
    clear hi
    go_wp2
    go_ret
    exact ⟨(Hgoal _).out (by simp only [Q46,Hfalse.out Hi.out,Bool.and_false]),X.out⟩
   ·rw [hi] at Hs
    clear hi
    go_wp2
    go_roundw
    case rel=>exact ⟨j+1,by omega,by go_num,HX.out,Hs.out⟩
    case measure=>first | (simp [intOf];done) | (simp [intOf];omega)
  ·have hje:j=p.code.length:=by omega
   subst hje
   go_wp2
   go_ret
   refine ⟨(Hgoal _).out ?_,X.out⟩
   have h:=Hall.out
   rw [List.take_length] at h
   have h1:1≤p.code.length:=by omega
   have h2:(p.code.length:Int)≤most:=by omega
   simp only [Q46,Hr.out,h,h1,h2,decide_true,Bool.and_true]
theorem Qmt (p:Q00) (v:Value) (w:World) (hp:Q0b w v p) :
  Calls Try.prog 26 #[v] w fun e w'=>e=.returned (.bool (Q36 p))∧Ext w w':=by
 have HP:=Lib.hid hp
 obtain ⟨v1,v2,rfl,-⟩:=hp
 go_enter Try.func26,Try.ntmps26
 go_wp2_with fail
 have hA:=(Ext.refl w).alloc (.cells #[v1,v2] 25)
 have C:=is_c p _ 200 8 (by unfold R64;omega) (by unfold R64;omega) _ (HP.out.ext hA)
 (with_reducible refine C.mono ?_)
 rintro e w1 ⟨rfl,hx⟩
 have HX:=Lib.hid (hA.trans hx)
 clear hx hA C
 go_wp2
 go_ret
 exact ⟨rfl,HX.out⟩
theorem Q8h {oa:Option Addr} {n b o cap:Nat} (h:0 < n→oa=some ⟨b,o,none⟩) (W:World) (i:Int) (h0:0≤i) (h1:i < n) :
  (Instr.indexAt 31 (.slice oa n cap) (.int .i64 i)).run Try.prog W=.ok (.pointer (some ⟨b,o+i.toNat,none⟩)) W:=by
 obtain rfl:=h (by omega)
 have hs:(Try.prog.info? 71).map (·.size)=some 1:=by kernel_rfl
 simp [Instr.indexAt,run_underlying Try.underlying31,asIntOf,h0,h1]
 exact Q3w b o _
def Q6r (p:Q00) (m:List (List Int)) (i:Nat):Bool:=decide ((m.getD i default).length=Q0e (p.regs.getD i default))
theorem Qet (f:Nat→Bool) (k n:Nat) (hk:k < n) (h:(List.range k).all f=true):(List.range (k+1)).all f=f k:=by
 rw [List.range_succ,List.all_append,h];simp
theorem Qfu (f:Nat→Bool) (k n:Nat) (hk:k < n) (h:f k=false):(List.range n).all f=false:=by
 rw [List.all_eq_false];exact ⟨k,List.mem_range.2 hk,by simp [h]⟩
theorem Q77 (p:Q00) (m:List (List Int)):Q2f p m=(Q02 p.regs && decide (m.length=p.regs.length) && (List.range p.regs.length).all (Q6r p m)):=rfl
theorem Qh7 {l:List LReg} (h:Q02 l=true):∀ r ∈ l,0≤r.log∧r.log≤6:=by
 intro r hr
 simp only [Q02,Bool.and_eq_true,List.all_eq_true] at h
 have:=h.1 r hr
 simpa [Q3a] using this
theorem Qen {r:LReg} (h:r.log≤6):Q0e r≤64:=by
 unfold Q0e
 exact Nat.le_trans (Nat.pow_le_pow_right (by omega) (show r.log.toNat≤6 by omega)) (by decide)
set_option maxHeartbeats 4000000 in
theorem Qqq (p:Q00) (v:Value) (m:List (List Int)) (vm:Value) (w:World) (hp:Q0b w v p) (hm:Q2w w vm m) :
  Calls Try.prog 104 #[v,vm] w fun e w'=>e=.returned (.bool (Q2f p m))∧Ext w w':=by
 have hp':=hp
 have hm':=hm
 obtain ⟨v1,v2,rfl,⟨hb,oa,cap,b,o,rfl,hc1,hc2,hrow⟩,hcode⟩:=hp
 obtain ⟨om,capm,bm,um,rfl,hd1,hd2,vs,hrow2,hvs⟩:=hm
 have HP:=Lib.hid hp'
 have hlen:=Q1l hc1 hc2
 have hlen2:=Q1l hd1 hd2
 have hix:=Q33 (cap:=cap) hrow.at_
 have hixm:=Q8h (cap:=capm) hrow2.at_
 have Hrow:=Lib.hid hrow
 have Hrow2:=Lib.hid hrow2
 have Hvs:=Lib.hid hvs
 have Hgoal:∀ r:Bool,Hid (r=Q2f p m→Ending.returned (.bool r)=.returned (.bool (Q2f p m))):=fun r=>Lib.hid fun h=>by rw [h]
 clear hrow hrow2 hc1 hc2 hd1 hd2 hp' hcode hvs hm'
 go_enter Try.func104,Try.ntmps104
 go_wp2_with fail
 obtain ⟨w0,g,hg,hW,hx,c0,c1⟩:=new2 w 25 (.slice oa p.regs.length cap) v2
 rw [hW,hg]
 have X:=Lib.hid hx
 clear hW hg hx
 have C:=Qfq p _ w0 (HP.out.ext X.out)
 cases hr:Q02 p.regs
 ·rw [hr] at C
  have Hr:=Lib.hid hr
  clear hr
  (with_reducible refine C.mono ?_)
  rintro e w1 ⟨rfl,h1⟩
  have X:=Lib.hid (X.out.trans h1)
  clear h1 C
  go_wp2
  go_ret
  exact ⟨(Hgoal _).out (by simp [Q77,Hr.out]),X.out⟩
 rw [hr] at C
 have Hr:=Lib.hid hr
 clear hr
 (with_reducible refine C.mono ?_)
 rintro e w1 ⟨rfl,h1⟩
 have X:=Lib.hid (X.out.trans h1)
 have c0:=Q0a h1 c0
 have c1:=Q0a h1 c1
 clear h1 C
 by_cases q0:m.length=p.regs.length
 rotate_left
 ·have q0d:((m.length:Int) != (p.regs.length:Int))=true:=by simp;omega
  have Q:=Lib.hid q0
  clear q0
  go_wp2
  go_ret
  exact ⟨(Hgoal _).out (by simp [Q77,Q.out]),X.out⟩
 have q0d:((m.length:Int) != (p.regs.length:Int))=false:=by simp;omega
 have Q:=Lib.hid q0
 have hml:m.length≤p.regs.length∧p.regs.length≤m.length:=by omega
 clear q0
 go_wp2_with fail
 go_loopw [21] (fun i wr => ∃ j:Nat,j≤p.regs.length∧i=.int .i64 j∧Ext w1 wr∧(List.range j).all (Q6r p m)=true) (fun i _=>p.regs.length - (intOf i).toNat)
 case atStart=>exact ⟨0,by omega,rfl,Ext.refl _,by simp⟩
 case round =>
  obtain ⟨j,hj,rfl,hE,hall⟩:=hrel
  have c0:=Q0a hE c0
  have c1:=Q0a hE c1
  have X:=Lib.hid (X.out.trans hE)
  have HE:=Lib.hid hE
  have Hall:=Lib.hid hall
  clear hE hall
  by_cases hlt:j < p.regs.length
  ·obtain ⟨e0,e1⟩:=(Hrow.out.ext X.out).reg j hlt
   have hjm:j < m.length:=by omega
   have f0:=(Hrow2.out.ext X.out).one j hjm
   obtain ⟨-,oj,capj,bj,uj,hvj,hj1,hj2,-⟩:=Hvs.out j hjm
   rw [hvj] at f0
   clear hvj
   have hlj:=Q1l hj1 hj2
   have hlog:=Qh7 Hr.out _ (Q2b hlt)
   have Hs:=Lib.hid (Qet (Q6r p m) j p.regs.length hlt Hall.out)
   have Hfalse:=Lib.hid (Qfu (Q6r p m) j p.regs.length hlt)
   have Hone:Hid (Q6r p m j=decide ((m.getD j default).length=Q0e (p.regs.getD j default))):=Lib.hid rfl
   have Hw:=Lib.hid (Qen hlog.2)
   generalize p.regs.getD j default=r at *
   generalize hmj:(m.getD j default).length=lm at *
   clear hmj hj1 hj2
   go_upto_region 6 with fail
   obtain ⟨w2,hw2⟩:∃ w2,w2=wr.alloc (.cells #[.int .i64 r.log,.bool r.secret] 68):=⟨_,rfl⟩
   have bR:Blk w2 wr.heap.size 68 #[.int .i64 r.log,.bool r.secret]:=by rw [hw2];exact Blk.new wr _ _
   have h2:Ext wr w2:=by rw [hw2];exact (Ext.refl wr).alloc _
   rw [← hw2]
   clear hw2
   have r0:w2.cell? ⟨wr.heap.size,0,none⟩=some (.int .i64 r.log):=by rw [bR.cell];rfl
   have r1:w2.cell? ⟨wr.heap.size,1,none⟩=some (.bool r.secret):=by rw [bR.cell];rfl
   generalize wr.heap.size=kr at *
   have k0:∀ W,Ext w2 W→W.cell? ⟨kr,0,none⟩=some (.int .i64 r.log):=fun _ h=>h.kept r0
   have k1:∀ W,Ext w2 W→W.cell? ⟨kr,1,none⟩=some (.bool r.secret):=fun _ h=>h.kept r1
   have k2:∀ W,Ext w2 W→W.cell? ⟨bm,um+j,none⟩=some (.slice oj lm capj):=fun _ h=>h.kept (h2.kept f0)
   have X:=Lib.hid (X.out.trans h2)
   have HE:=Lib.hid (HE.out.trans h2)
   have c0:=Q0a h2 c0
   have c1:=Q0a h2 c1
   clear h2 e0 e1 f0 r0 r1 bR
   have hjm':(j:Int) < (m.length:Int):=by omega
   refine Q0z 8 (by kernel_rfl) (by kernel_rfl) ?_
   simp only [List.take_succ_cons,List.take_zero,List.drop_succ_cons,List.drop_zero]
   repeat (first | (refine Q0p ?_ ?_ (fun wc hE=>?_) ?_;(decide);rfl;(focus (go_simp;done));go_simp) | (refine Q0h ?_ ?_ ?_;(decide);(first | rfl | (focus (go_simp;done)));apply Exists.intro;refine ⟨fun wc hE=>?_,?_⟩;(go_simp;exact rfl);go_simp) | (refine Q0q ?_ ?_ ?_;(decide);(first | rfl | (focus (go_simp;done)));apply Exists.intro;refine ⟨fun wc hE=>?_,?_⟩;(go_simp;(first | (with_reducible exact Q1p (Q7e r hlog.1 hlog.2 _))));go_simp) | (refine Q0n ?_ ?_ ?_;(decide);(focus (go_simp;done));go_simp))
   refine Q0o ?_
   intro wx hx
   have HX:=Lib.hid (HE.out.trans hx)
   have X:=Lib.hid (X.out.trans hx)
   clear hx k0 k1 k2
   by_cases hq:lm=Q0e r
   ·have hqd:((lm:Int) != ((Q0e r:Nat):Int))=false:=by simp;omega
    have HQ:=Lib.hid hq
    clear hq
    go_wp2
    go_roundw
    case rel=>exact ⟨j+1,by omega,by go_num,HX.out,by rw [Hs.out,Hone.out];simp [HQ.out]⟩
    case measure=>first | (simp [intOf];done) | (simp [intOf];omega)
   ·have hqd:((lm:Int) != ((Q0e r:Nat):Int))=true:=by simp;omega
    have HQ:=Lib.hid hq
    clear hq
    go_wp2
    go_ret
    exact ⟨(Hgoal _).out (by rw [Q77,Hfalse.out (by rw [Hone.out];simp [HQ.out]),Bool.and_false]),X.out⟩
  ·have hje:j=p.regs.length:=by omega
   subst hje
   have hjm:m.length≤p.regs.length:=by omega
   go_wp2
   go_ret
   exact ⟨(Hgoal _).out (by simp [Q77,Hr.out,Q.out,Hall.out]),X.out⟩
set_option maxHeartbeats 4000000 in
theorem Qfz (p:Q00) (v:Value) (m:List (List Int)) (vm:Value) (w:World) (hp:Q0b w v p) (hm:Q2w w vm m) :
  Calls Try.prog 27 #[v,vm] w fun e w'=>e=.returned (.bool (Q2f p m))∧Ext w w':=by
 have hp':=hp
 have hm':=hm
 obtain ⟨v1,v2,rfl,⟨hb,oa,cap,b,o,rfl,hc1,hc2,hrow⟩,hcode⟩:=hp
 obtain ⟨om,capm,bm,um,rfl,hd1,hd2,vs,hrow2,hvs⟩:=hm
 have HP:=Lib.hid hp'
 have hlen:=Q1l hc1 hc2
 have hlen2:=Q1l hd1 hd2
 have hix:=Q33 (cap:=cap) hrow.at_
 have hixm:=Q8h (cap:=capm) hrow2.at_
 have Hrow:=Lib.hid hrow
 have Hrow2:=Lib.hid hrow2
 have Hvs:=Lib.hid hvs
 have Hgoal:∀ r:Bool,Hid (r=Q2f p m→Ending.returned (.bool r)=.returned (.bool (Q2f p m))):=fun r=>Lib.hid fun h=>by rw [h]
 clear hrow hrow2 hc1 hc2 hd1 hd2 hp' hcode hvs hm'
 go_enter Try.func27,Try.ntmps27
 go_wp2_with fail
 obtain ⟨w0,g,hg,hW,hx,c0,c1⟩:=new2 w 25 (.slice oa p.regs.length cap) v2
 rw [hW,hg]
 have X:=Lib.hid hx
 clear hW hg hx
 have C:=Qfv p _ w0 (HP.out.ext X.out)
 cases hr:Q02 p.regs
 ·rw [hr] at C
  have Hr:=Lib.hid hr
  clear hr
  (with_reducible refine C.mono ?_)
  rintro e w1 ⟨rfl,h1⟩
  have X:=Lib.hid (X.out.trans h1)
  clear h1 C
  go_wp2
  go_ret
  exact ⟨(Hgoal _).out (by simp [Q77,Hr.out]),X.out⟩
 rw [hr] at C
 have Hr:=Lib.hid hr
 clear hr
 (with_reducible refine C.mono ?_)
 rintro e w1 ⟨rfl,h1⟩
 have X:=Lib.hid (X.out.trans h1)
 have c0:=Q0a h1 c0
 have c1:=Q0a h1 c1
 clear h1 C
 by_cases q0:m.length=p.regs.length
 rotate_left
 ·have q0d:((m.length:Int) != (p.regs.length:Int))=true:=by simp;omega
  have Q:=Lib.hid q0
  clear q0
  go_wp2
  go_ret
  exact ⟨(Hgoal _).out (by simp [Q77,Q.out]),X.out⟩
 have q0d:((m.length:Int) != (p.regs.length:Int))=false:=by simp;omega
 have Q:=Lib.hid q0
 have hml:m.length≤p.regs.length∧p.regs.length≤m.length:=by omega
 clear q0
 go_wp2_with fail
 go_loopw [5] (fun i wr => ∃ j:Nat,j≤p.regs.length∧i=.int .i64 j∧Ext w1 wr∧(List.range j).all (Q6r p m)=true) (fun i _=>p.regs.length - (intOf i).toNat)
 case atStart=>exact ⟨0,by omega,rfl,Ext.refl _,by simp⟩
 case round =>
  obtain ⟨j,hj,rfl,hE,hall⟩:=hrel
  have c0:=Q0a hE c0
  have c1:=Q0a hE c1
  have X:=Lib.hid (X.out.trans hE)
  have HE:=Lib.hid hE
  have Hall:=Lib.hid hall
  clear hE hall
  by_cases hlt:j < p.regs.length
  ·obtain ⟨e0,e1⟩:=(Hrow.out.ext X.out).reg j hlt
   have hjm:j < m.length:=by omega
   have f0:=(Hrow2.out.ext X.out).one j hjm
   obtain ⟨-,oj,capj,bj,uj,hvj,hj1,hj2,-⟩:=Hvs.out j hjm
   rw [hvj] at f0
   clear hvj
   have hlj:=Q1l hj1 hj2
   have hlog:=Qh7 Hr.out _ (Q2b hlt)
   have Hs:=Lib.hid (Qet (Q6r p m) j p.regs.length hlt Hall.out)
   have Hfalse:=Lib.hid (Qfu (Q6r p m) j p.regs.length hlt)
   have Hone:Hid (Q6r p m j=decide ((m.getD j default).length=Q0e (p.regs.getD j default))):=Lib.hid rfl
   have Hw:=Lib.hid (Qen hlog.2)
   generalize p.regs.getD j default=r at *
   generalize hmj:(m.getD j default).length=lm at *
   clear hmj hj1 hj2
   have hjm':(j:Int) < (m.length:Int):=by omega
   have C:=Qce r hlog.1 hlog.2 wr
   go_wp2_with fail
   (with_reducible refine C.mono ?_)
   clear C
   rintro e' w2 ⟨rfl,h2⟩
   have f0:=h2.kept f0
   have X:=Lib.hid (X.out.trans h2)
   have HE:=Lib.hid (HE.out.trans h2)
   clear h2 e0 e1
   by_cases hq:lm=Q0e r
   ·have hqd:((lm:Int) != ((Q0e r:Nat):Int))=false:=by simp;omega
    have HQ:=Lib.hid hq
    clear hq
    go_wp2
    go_roundw
    case rel=>exact ⟨j+1,by omega,by go_num,HE.out,by rw [Hs.out,Hone.out];simp [HQ.out]⟩
    case measure=>first | (simp [intOf];done) | (simp [intOf];omega)
   ·have hqd:((lm:Int) != ((Q0e r:Nat):Int))=true:=by simp;omega
    have HQ:=Lib.hid hq
    clear hq
    go_wp2
    go_ret
    exact ⟨(Hgoal _).out (by rw [Q77,Hfalse.out (by rw [Hone.out];simp [HQ.out]),Bool.and_false]),X.out⟩
  ·have hje:j=p.regs.length:=by omega
   subst hje
   have hjm:m.length≤p.regs.length:=by omega
   go_wp2
   go_ret
   exact ⟨(Hgoal _).out (by simp [Q77,Hr.out,Q.out,Hall.out]),X.out⟩
end Go.Proofs.Yteiknefajlocoaa
