/- Laid together from: Tx8, Tx9, Txa. -/
import Derived.Test.YtiafchefbehfbaaGreatDoorDriveOnB39
import Derived.Laws.RangeString
import Derived.Laws.RangeAny
import Derived.Test.YtiafchefbehfbaaGreatDoorDriveOnB23

namespace Go.Proofs.YtiafchefbehfbaaGreatDoor
open Go.ChangeShapes Go.WideShapes Go.ChangeAt Go.RowKit
set_option linter.unusedVariables false
set_option linter.unusedSimpArgs false
def Q57 (op:Int):List UInt8 :=
 if 20 < op then [65,66,67] else if op=1∨op=11 then [65,78] else if op=2 then [65,66] else if op=10∨op=8 then [65,66,78] else if op=3∨op=4 then [65,67,66,78] else if op=5∨op=6 then [65,67,78] else if op=7 then [78] else if op=9 then [65] else []
def Q6m (op:Int):List UInt8 :=
 if 20 < op then [114,114,114] else if op=1∨op=11 then [114,110] else if op=2 then [114,114] else if op=10∨op=8 then [114,114,110] else if op=3∨op=4 then [114,103,114,110] else if op=5∨op=6 then [114,103,110] else if op=7 then [110] else if op=9 then [114] else []
def valT (i:LIns) (f:UInt8):Int:=if f=65 then i.a else if f=66 then i.b else if f=67 then i.c else i.n
def Q2f (i:LIns) (kd f:UInt8):List UInt8:=32 :: ((if kd=110 then [] else [kd]) ++ Lib.itoa (valT i f))
def Q5f (i:LIns) (K F:List UInt8) (j:Nat):List UInt8:=(List.range j).flatMap fun m=>Q2f i (K.getD m 0) (F.getD m 0)
theorem Qgo (i:LIns) (K F:List UInt8) (j:Nat):Q5f i K F (j+1)=Q5f i K F j ++ Q2f i (K.getD j 0) (F.getD j 0):=by
 unfold Q5f
 rw [List.range_succ,List.flatMap_append]
 simp
theorem Qlk (op c:Int) (ho:opIs op) (hc:op=8→1≤c∧c≤4):∃ oc:Int,Q25 (Q3c op c)=(⟨op,oc,Q6m op,Q57 op⟩,true):=by
 by_cases h8:op=8
 ·obtain ⟨c0,c1⟩:=hc h8
  subst h8
  have:c=1∨c=2∨c=3∨c=4:=by omega
  rcases this with rfl | rfl | rfl | rfl
  ·exact ⟨1,by rfl⟩
  ·exact ⟨2,by rfl⟩
  ·exact ⟨3,by rfl⟩
  ·exact ⟨4,by rfl⟩
 ·have:op=1∨op=2∨op=3∨op=4∨op=5∨op=6∨op=7∨op=9∨op=10∨op=11∨op=12∨op=21∨op=22∨op=23∨op=24∨op=25∨op=26∨op=27∨op=28∨op=29∨op=30:=by unfold opIs at ho;omega
  have hw:∀ c',Q3c op c=Q3c op c':=fun c'=>by unfold Q3c;rw [if_neg h8,if_neg h8]
  rw [hw 0]
  clear hw
  rcases this with rfl | rfl | rfl | rfl | rfl | rfl | rfl | rfl | rfl | rfl | rfl | rfl | rfl | rfl | rfl | rfl | rfl | rfl | rfl | rfl | rfl <;> exact ⟨0,by rfl⟩
theorem Qqa (i:LIns) (ho:opIs i.op):Q3c i.op i.c ++ Q5f i (Q6m i.op) (Q57 i.op) (Q57 i.op).length=Q49 i:=by
 obtain ⟨op,a,b,c,n⟩:=i
 simp only at ho ⊢
 unfold Q49
 congr 1
 simp only
 have:op=1∨op=2∨op=3∨op=4∨op=5∨op=6∨op=7∨op=8∨op=9∨op=10∨op=11∨op=12∨op=21∨op=22∨op=23∨op=24∨op=25∨op=26∨op=27∨op=28∨op=29∨op=30:=by unfold opIs at ho;omega
 rcases this with rfl | rfl | rfl | rfl | rfl | rfl | rfl | rfl | rfl | rfl | rfl | rfl | rfl | rfl | rfl | rfl | rfl | rfl | rfl | rfl | rfl | rfl <;> simp [Q5f,Q2f,valT,Q6m,Q57,Q8r,Q7u,List.range_succ]
theorem Qsq (op:Int):(Q6m op).length=(Q57 op).length∧(Q57 op).length≤4∧∀ j,j < (Q57 op).length→((Q57 op).getD j 0=65∨(Q57 op).getD j 0=66∨(Q57 op).getD j 0=67∨(Q57 op).getD j 0=78)∧((Q6m op).getD j 0=114∨(Q6m op).getD j 0=103∨(Q6m op).getD j 0=110):=by
 unfold Q57 Q6m
 repeat' split
 all_goals
  refine ⟨rfl,by simp,fun j hj=>?_⟩
  match j,hj with
  | 0,hj=>first | (simp;done) | (exfalso;simp only [List.length_cons,List.length_nil] at hj;omega)
  | 1,hj=>first | (simp;done) | (exfalso;simp only [List.length_cons,List.length_nil] at hj;omega)
  | 2,hj=>first | (simp;done) | (exfalso;simp only [List.length_cons,List.length_nil] at hj;omega)
  | 3,hj=>first | (simp;done) | (exfalso;simp only [List.length_cons,List.length_nil] at hj;omega)
  | j+4,hj=>exfalso;simp only [List.length_cons,List.length_nil] at hj;omega
def Q4y (w:World) (k:Nat) (l:List UInt8) (pos:Nat):Prop:=w.heap[k]? = some (.stringIter ⟨l.toArray⟩ pos)
def Q7l (w:World) (k:Nat) (l:List UInt8) (pos:Nat):World:={ w with heap:=w.heap.setIfInBounds k (.stringIter ⟨l.toArray⟩ pos) }
theorem Qr5 (w:World) (l:List UInt8):Q4y (w.iter ⟨l.toArray⟩ 0) w.heap.size l 0:=World.iter_heap w _ 0
theorem Q4y.ext {w w':World} {k pos:Nat} {l:List UInt8} (h:Q4y w k l pos) (hx:Ext w w'):Q4y w' k l pos:=(Below.block hx k (Array.getElem?_eq_some_iff.1 h).1).trans h
theorem Qr4 {w:World} {k pos:Nat} {l:List UInt8} (h:Q4y w k l pos) (p:Nat):Q4y (Q7l w k l p) k l p:=by
 have hk:=(Array.getElem?_eq_some_iff.1 h).1
 unfold Q4y Q7l
 simp [hk]
theorem Qr6 {w0 w:World} {k:Nat} {l:List UInt8} (h:Ext w0 w) (hk:w0.heap.size≤k) (p:Nat):Ext w0 (Q7l w k l p):=by
 refine ⟨h.os,h.tape,h.output,by simpa [Q7l] using h.size,fun j hj=>?_⟩
 show (w.heap.setIfInBounds k _)[j]? = _
 rw [Array.getElem?_setIfInBounds_ne (by omega)]
 exact Below.block h j hj
theorem Qp1 {w:World} {k pos:Nat} {l:List UInt8} {x:UInt8} (h:Q4y w k l pos) (hx:l[pos]? = some x) (ha:x.toNat < 128) (ty:TypeId) :
  (Instr.next (.pointer (some ⟨k,0,none⟩)) true ty).run Tryz.prog w=.ok (.tuple #[.bool true,.int .i64 pos,.int .i32 x.toNat]) (Q7l w k l (pos+1)):=by
 obtain ⟨hp,rfl⟩:=List.getElem?_eq_some_iff.1 hx
 have hs:pos < (⟨l.toArray⟩:ByteArray).size:=by rw [Q6g];exact hp
 have hd:=decode_ascii ⟨l.toArray⟩ pos hs ha
 unfold Q4y at h
 simp only [Instr.next,getObj,setObj,Sem.run_bind,Sem.run,h,Result.andThen,hs,if_true,hd]
 simp [goInt,Sem.run,h,Q7l]
 rfl
theorem Q55 {w:World} {k pos:Nat} {l:List UInt8} (h:Q4y w k l pos):w.iterPos k=pos:=by
 unfold Q4y at h
 unfold World.iterPos
 rw [h]
theorem Qoz {w:World} {k:Nat} {l:List UInt8} (h:Q4y w k l l.length) (ty:TypeId) :
  (Instr.next (.pointer (some ⟨k,0,none⟩)) true ty).run Tryz.prog w=.ok (.tuple #[.bool false]) w:=by
 have hs:¬ l.length < (⟨l.toArray⟩:ByteArray).size:=by rw [Q6g];omega
 unfold Q4y at h
 simp [Instr.next,getObj,Sem.run,h,hs]
theorem Q9o (w:World) (k:Nat) (os:Array Obj):Ext w (Go.Sort.grow (w.drewN k) os):=by
 have h0:Ext w (w.drewN k):=(Ext.refl w).drewN k
 refine ⟨h0.os,h0.tape,h0.output,by simp [Go.Sort.grow],fun j hj=>?_⟩
 show ((w.drewN k).heap ++ os)[j]? = _
 rw [Array.getElem?_append_left (Nat.lt_of_lt_of_le hj h0.size)]
 exact Below.block h0 j hj
theorem Q74 (n:Int) (h:R64 n) (w:World) (ht:Tabs w):Calls Tryz.prog 80 #[.int .i64 n,.int .i64 10] w fun e w'=>e=.returned (str (Lib.itoa n))∧Ext w w' :=
 (Tryz.strconv_FormatInt_10 n h.1 h.2 w ht.ten).mono fun e w' ⟨h1,k,os,h2⟩=>⟨h1,by rw [h2];exact Q9o w k os⟩
theorem Qkl (l:List UInt8) (j:Nat) (hj:j < l.length):(⟨l.toArray⟩:ByteArray).extract j (j+1)=⟨[l.getD j 0].toArray⟩:=by
 apply ByteArray.ext
 rw [ByteArray.data_extract]
 apply Array.ext'
 simp only [List.getD_eq_getElem?_getD,List.getElem?_eq_getElem hj,Option.getD_some,Array.toList_extract]
 simp
 rw [List.drop_eq_getElem_cons hj]
 rfl
set_option maxHeartbeats 8000000 in
theorem Qaz (i:LIns) (ho:opIs i.op) (hc:i.op=8→1≤i.c∧i.c≤4) (hf:i.fits) (w:World) (ht:Tabs w) :
  Calls Tryz.prog 72 #[.agg #[.int .i64 i.op,.int .i64 i.a,.int .i64 i.b,.int .i64 i.c,.int .i64 i.n]] w fun e w'=>e=.returned (str (Q49 i))∧Ext w w':=by
 have hfits:=hf
 obtain ⟨h1,h2,h3,h4,h5⟩:=hf
 have la:=Q5j h2
 have lb:=Q5j h3
 have lc:=Q5j h4
 have ln:=Q5j h5
 have Ht:=Lib.hid ht
 have Hw:=Lib.hid fun W (X:Ext w W)=>Qjt i ho hc W (Ht.out.ext X)
 have Hs:=Lib.hid fun W (X:Ext w W)=>Qlj (Q3c i.op i.c) W (Ht.out.ext X)
 obtain ⟨oc,hsw⟩:=Qlk i.op i.c ho hc
 rw [hsw] at Hs
 obtain ⟨hKl,hFl,hFx⟩:=Qsq i.op
 have hwl:=Qeu i.op i.c
 have HFx:=Lib.hid hFx
 have HL:=Lib.hid (Qqa i ho)
 have Ha:=Lib.hid fun W (X:Ext w W)=>Q74 i.a h2 W (Ht.out.ext X)
 have Hb:=Lib.hid fun W (X:Ext w W)=>Q74 i.b h3 W (Ht.out.ext X)
 have Hc:=Lib.hid fun W (X:Ext w W)=>Q74 i.c h4 W (Ht.out.ext X)
 have Hn:=Lib.hid fun W (X:Ext w W)=>Q74 i.n h5 W (Ht.out.ext X)
 have hval:Hid (∀ f kd:UInt8,(Q2f i kd f).length≤22):=Lib.hid fun f kd=>by
  unfold Q2f valT
  repeat' split
  all_goals (simp only [List.length_cons,List.length_append,List.length_nil];omega)
 have Hps:Hid (∀ K F j,(Q5f i K F j).length≤22 * j):=Lib.hid fun K F j=>by
  induction j with
  | zero=>simp [Q5f]
  | succ j ih =>
   rw [Qgo,List.length_append]
   have:=hval.out (F.getD j 0) (K.getD j 0)
   omega
 have HV:Hid (valT i 65=i.a∧valT i 66=i.b∧valT i 67=i.c∧valT i 78=i.n):=Lib.hid ⟨by rfl,by rfl,by rfl,by rfl⟩
 generalize hT:Q3c i.op i.c=T at *
 generalize Q6m i.op=K at *
 generalize Q57 i.op=F at *
 clear hsw ho hc hFx h1 h2 h3 h4 h5 hfits ht hval hT
 go_enter Tryz.func72,Tryz.ntmps72
 go_wp2_with fail
 obtain ⟨W,g,hg,hW,hx,bI⟩:=Q2p w #[.int .i64 i.op,.int .i64 i.a,.int .i64 i.b,.int .i64 i.c,.int .i64 i.n] 41
 rw [hW,hg]
 have X:=Lib.hid hx
 clear hW hg hx
 (with_reducible refine (Hw.out W X.out).mono ?_)
 clear Hw
 rintro e w1 ⟨rfl,hx⟩
 have X:=Lib.hid (X.out.trans hx)
 have bI:=bI.ext hx
 clear hx
 go_wp2_with fail
 (with_reducible refine (Hs.out w1 X.out).mono ?_)
 clear Hs
 rintro e w2 ⟨rfl,hx⟩
 have X:=Lib.hid (X.out.trans hx)
 have bI:=bI.ext hx
 clear hx
 simp only
 go_wp2_with fail
 obtain ⟨w3,gs,hg,hW,hx,bS⟩:=Q2p w2 #[.int .i64 i.op,.int .i64 oc,str K,str F] 165
 rw [hW]
 have BI:=Lib.hid (bI.ext hx)
 have X3:=Lib.hid (X.out.trans hx)
 have BS:=Lib.hid bS
 have hit:=Qr5 w3 F
 have hx4:Ext w3 (w3.iter ⟨F.toArray⟩ 0):=(Ext.refl _).alloc _
 rw [hg]
 generalize w3.iter ⟨F.toArray⟩ 0=w4 at *
 have hk:w3.heap.size=gs+1:=by rw [← hW,← hg];simp
 rw [hk] at hit
 have HK:=Lib.hid hk
 have Hit:=Lib.hid hit
 have X4:=Lib.hid hx4
 clear hW hg hx bI bS hk hit hx4
 go_loopw [3,6,7,8] (fun s _ _ _ wr => ∃ j:Nat,j≤F.length∧s=str (T ++ Q5f i K F j)∧Q4y wr (gs+1) F j∧Ext w3 wr) (fun _ _ _ _ wr=>F.length - wr.iterPos (gs+1))
 case atStart=>exact ⟨0,by omega,by simp [Q5f],Hit.out,X4.out⟩
 case round =>
  obtain ⟨j,hj,rfl,hit,hE⟩:=hrel
  have Hpos:=Lib.hid (Q55 hit)
  have hMl:(T ++ Q5f i K F j).length≤93:=by
   have h1:=Hps.out K F j
   rw [List.length_append]
   omega
  by_cases hlt:j < F.length
  ·have hxg:F[j]? = some (F.getD j 0):=by simp [hlt]
   have hkg:K[j]? = some (K.getD j 0):=by rw [List.getD_eq_getElem?_getD,List.getElem?_eq_getElem (by omega)];rfl
   obtain ⟨hm1,hm2⟩:=HFx.out j hlt
   have Hsucc:=Lib.hid (Qgo i K F j)
   have hix:=Qkm K j (K.getD j 0) hkg
   have hex:=Qkl K j (by omega)
   have hKs:(⟨K.toArray⟩:ByteArray).size=F.length:=by rw [Q6g,hKl]
   have hasc:(F.getD j 0).toNat < 128:=by rcases hm1 with h | h | h | h <;> rw [h] <;> decide
   have hnx:=Qp1 hit hxg hasc
   have Hit5:=Lib.hid (Qr4 hit (j+1))
   have hE5:=Qr6 (p:=j+1) (l:=F) hE (Nat.le_of_eq HK.out)
   have bI5:=BI.out.ext hE5
   have bS5:=BS.out.ext hE5
   generalize Q7l wr (gs+1) F (j+1)=w5 at *
   have c1:w5.cell? ⟨g,1,none⟩=some (.int .i64 i.a):=by rw [bI5.cell];rfl
   have c2:w5.cell? ⟨g,2,none⟩=some (.int .i64 i.b):=by rw [bI5.cell];rfl
   have c3:w5.cell? ⟨g,3,none⟩=some (.int .i64 i.c):=by rw [bI5.cell];rfl
   have c4:w5.cell? ⟨g,4,none⟩=some (.int .i64 i.n):=by rw [bI5.cell];rfl
   have d2:w5.cell? ⟨gs,2,none⟩=some (str K):=by rw [bS5.cell];rfl
   have hgl:=bI5.lt
   have hgs:=bS5.lt
   have X5:=Lib.hid (X3.out.trans hE5)
   have E5:=Lib.hid hE5
   generalize F.getD j 0=x at *
   generalize K.getD j 0=kd at *
   generalize hM:T ++ Q5f i K F j=M at *
   have HM:=Lib.hid hM
   clear hM hit hE hxg hkg hasc hE5 bI5 bS5
   rcases hm1 with rfl | rfl | rfl | rfl
   ·have hv:valT i 65=i.a:=by rfl
    rcases hm2 with rfl | rfl | rfl
    ·have hp2:Q2f i 114 65=[32,114] ++ Lib.itoa i.a:=by simp [Q2f,hv]
     rw [hp2] at Hsucc
     clear hp2 hv
     go_wp2_with fail
     (with_reducible refine (Ha.out w5 X5.out).mono ?_)
     rintro e w6 ⟨rfl,hx⟩
     have E6:=Lib.hid (E5.out.trans hx)
     have Hit6:=Lib.hid (Hit5.out.ext hx)
     clear hx c1 c2 c3 c4 d2 hnx hix hex
     go_wp2
     go_roundw
     case rel=>exact ⟨j+1,by omega,by rw [Hsucc.out,← List.append_assoc,HM.out];simp [str,Q3h],Hit6.out,E6.out⟩
     case measure=>rw [Hpos.out,Q55 Hit6.out];omega
    ·have hp2:Q2f i 103 65=[32,103] ++ Lib.itoa i.a:=by simp [Q2f,hv]
     rw [hp2] at Hsucc
     clear hp2 hv
     go_wp2_with fail
     (with_reducible refine (Ha.out w5 X5.out).mono ?_)
     rintro e w6 ⟨rfl,hx⟩
     have E6:=Lib.hid (E5.out.trans hx)
     have Hit6:=Lib.hid (Hit5.out.ext hx)
     clear hx c1 c2 c3 c4 d2 hnx hix hex
     go_wp2
     go_roundw
     case rel=>exact ⟨j+1,by omega,by rw [Hsucc.out,← List.append_assoc,HM.out];simp [str,Q3h],Hit6.out,E6.out⟩
     case measure=>rw [Hpos.out,Q55 Hit6.out];omega
    ·have hp2:Q2f i 110 65=[32] ++ Lib.itoa i.a:=by simp [Q2f,hv]
     rw [hp2] at Hsucc
     clear hp2 hv
     go_wp2_with fail
     (with_reducible refine (Ha.out w5 X5.out).mono ?_)
     rintro e w6 ⟨rfl,hx⟩
     have E6:=Lib.hid (E5.out.trans hx)
     have Hit6:=Lib.hid (Hit5.out.ext hx)
     clear hx c1 c2 c3 c4 d2 hnx hix hex
     go_wp2
     go_roundw
     case rel=>exact ⟨j+1,by omega,by rw [Hsucc.out,← List.append_assoc,HM.out];simp [str,Q3h],Hit6.out,E6.out⟩
     case measure=>rw [Hpos.out,Q55 Hit6.out];omega
   ·have hv:valT i 66=i.b:=by rfl
    rcases hm2 with rfl | rfl | rfl
    ·have hp2:Q2f i 114 66=[32,114] ++ Lib.itoa i.b:=by simp [Q2f,hv]
     rw [hp2] at Hsucc
     clear hp2 hv
     go_wp2_with fail
     (with_reducible refine (Hb.out w5 X5.out).mono ?_)
     rintro e w6 ⟨rfl,hx⟩
     have E6:=Lib.hid (E5.out.trans hx)
     have Hit6:=Lib.hid (Hit5.out.ext hx)
     clear hx c1 c2 c3 c4 d2 hnx hix hex
     go_wp2
     go_roundw
     case rel=>exact ⟨j+1,by omega,by rw [Hsucc.out,← List.append_assoc,HM.out];simp [str,Q3h],Hit6.out,E6.out⟩
     case measure=>rw [Hpos.out,Q55 Hit6.out];omega
    ·have hp2:Q2f i 103 66=[32,103] ++ Lib.itoa i.b:=by simp [Q2f,hv]
     rw [hp2] at Hsucc
     clear hp2 hv
     go_wp2_with fail
     (with_reducible refine (Hb.out w5 X5.out).mono ?_)
     rintro e w6 ⟨rfl,hx⟩
     have E6:=Lib.hid (E5.out.trans hx)
     have Hit6:=Lib.hid (Hit5.out.ext hx)
     clear hx c1 c2 c3 c4 d2 hnx hix hex
     go_wp2
     go_roundw
     case rel=>exact ⟨j+1,by omega,by rw [Hsucc.out,← List.append_assoc,HM.out];simp [str,Q3h],Hit6.out,E6.out⟩
     case measure=>rw [Hpos.out,Q55 Hit6.out];omega
    ·have hp2:Q2f i 110 66=[32] ++ Lib.itoa i.b:=by simp [Q2f,hv]
     rw [hp2] at Hsucc
     clear hp2 hv
     go_wp2_with fail
     (with_reducible refine (Hb.out w5 X5.out).mono ?_)
     rintro e w6 ⟨rfl,hx⟩
     have E6:=Lib.hid (E5.out.trans hx)
     have Hit6:=Lib.hid (Hit5.out.ext hx)
     clear hx c1 c2 c3 c4 d2 hnx hix hex
     go_wp2
     go_roundw
     case rel=>exact ⟨j+1,by omega,by rw [Hsucc.out,← List.append_assoc,HM.out];simp [str,Q3h],Hit6.out,E6.out⟩
     case measure=>rw [Hpos.out,Q55 Hit6.out];omega
   ·have hv:valT i 67=i.c:=by rfl
    rcases hm2 with rfl | rfl | rfl
    ·have hp2:Q2f i 114 67=[32,114] ++ Lib.itoa i.c:=by simp [Q2f,hv]
     rw [hp2] at Hsucc
     clear hp2 hv
     go_wp2_with fail
     (with_reducible refine (Hc.out w5 X5.out).mono ?_)
     rintro e w6 ⟨rfl,hx⟩
     have E6:=Lib.hid (E5.out.trans hx)
     have Hit6:=Lib.hid (Hit5.out.ext hx)
     clear hx c1 c2 c3 c4 d2 hnx hix hex
     go_wp2
     go_roundw
     case rel=>exact ⟨j+1,by omega,by rw [Hsucc.out,← List.append_assoc,HM.out];simp [str,Q3h],Hit6.out,E6.out⟩
     case measure=>rw [Hpos.out,Q55 Hit6.out];omega
    ·have hp2:Q2f i 103 67=[32,103] ++ Lib.itoa i.c:=by simp [Q2f,hv]
     rw [hp2] at Hsucc
     clear hp2 hv
     go_wp2_with fail
     (with_reducible refine (Hc.out w5 X5.out).mono ?_)
     rintro e w6 ⟨rfl,hx⟩
     have E6:=Lib.hid (E5.out.trans hx)
     have Hit6:=Lib.hid (Hit5.out.ext hx)
     clear hx c1 c2 c3 c4 d2 hnx hix hex
     go_wp2
     go_roundw
     case rel=>exact ⟨j+1,by omega,by rw [Hsucc.out,← List.append_assoc,HM.out];simp [str,Q3h],Hit6.out,E6.out⟩
     case measure=>rw [Hpos.out,Q55 Hit6.out];omega
    ·have hp2:Q2f i 110 67=[32] ++ Lib.itoa i.c:=by simp [Q2f,hv]
     rw [hp2] at Hsucc
     clear hp2 hv
     go_wp2_with fail
     (with_reducible refine (Hc.out w5 X5.out).mono ?_)
     rintro e w6 ⟨rfl,hx⟩
     have E6:=Lib.hid (E5.out.trans hx)
     have Hit6:=Lib.hid (Hit5.out.ext hx)
     clear hx c1 c2 c3 c4 d2 hnx hix hex
     go_wp2
     go_roundw
     case rel=>exact ⟨j+1,by omega,by rw [Hsucc.out,← List.append_assoc,HM.out];simp [str,Q3h],Hit6.out,E6.out⟩
     case measure=>rw [Hpos.out,Q55 Hit6.out];omega
   ·have hv:valT i 78=i.n:=by rfl
    rcases hm2 with rfl | rfl | rfl
    ·have hp2:Q2f i 114 78=[32,114] ++ Lib.itoa i.n:=by simp [Q2f,hv]
     rw [hp2] at Hsucc
     clear hp2 hv
     go_wp2_with fail
     (with_reducible refine (Hn.out w5 X5.out).mono ?_)
     rintro e w6 ⟨rfl,hx⟩
     have E6:=Lib.hid (E5.out.trans hx)
     have Hit6:=Lib.hid (Hit5.out.ext hx)
     clear hx c1 c2 c3 c4 d2 hnx hix hex
     go_wp2
     go_roundw
     case rel=>exact ⟨j+1,by omega,by rw [Hsucc.out,← List.append_assoc,HM.out];simp [str,Q3h],Hit6.out,E6.out⟩
     case measure=>rw [Hpos.out,Q55 Hit6.out];omega
    ·have hp2:Q2f i 103 78=[32,103] ++ Lib.itoa i.n:=by simp [Q2f,hv]
     rw [hp2] at Hsucc
     clear hp2 hv
     go_wp2_with fail
     (with_reducible refine (Hn.out w5 X5.out).mono ?_)
     rintro e w6 ⟨rfl,hx⟩
     have E6:=Lib.hid (E5.out.trans hx)
     have Hit6:=Lib.hid (Hit5.out.ext hx)
     clear hx c1 c2 c3 c4 d2 hnx hix hex
     go_wp2
     go_roundw
     case rel=>exact ⟨j+1,by omega,by rw [Hsucc.out,← List.append_assoc,HM.out];simp [str,Q3h],Hit6.out,E6.out⟩
     case measure=>rw [Hpos.out,Q55 Hit6.out];omega
    ·have hp2:Q2f i 110 78=[32] ++ Lib.itoa i.n:=by simp [Q2f,hv]
     rw [hp2] at Hsucc
     clear hp2 hv
     go_wp2_with fail
     (with_reducible refine (Hn.out w5 X5.out).mono ?_)
     rintro e w6 ⟨rfl,hx⟩
     have E6:=Lib.hid (E5.out.trans hx)
     have Hit6:=Lib.hid (Hit5.out.ext hx)
     clear hx c1 c2 c3 c4 d2 hnx hix hex
     go_wp2
     go_roundw
     case rel=>exact ⟨j+1,by omega,by rw [Hsucc.out,← List.append_assoc,HM.out];simp [str,Q3h],Hit6.out,E6.out⟩
     case measure=>rw [Hpos.out,Q55 Hit6.out];omega
  ·have hje:j=F.length:=by omega
   subst hje
   have hnx:=Qoz hit
   have XX:=Lib.hid (X3.out.trans hE)
   generalize hM:T ++ Q5f i K F F.length=M at *
   clear hit hE
   go_wp2
   go_ret
   exact ⟨by rw [← HL.out];rfl,XX.out⟩
theorem Qgu {w:World} {base:Nat} {e:TypeId} {c n:Nat} {v:Value} {xs:List Value} (h:w.ownsRow base e c v n xs):∀ k,v.ownBlock=some k→base≤k:=fun k hk=>(h.lt k hk).1
theorem Qrr:(Tryz.prog.info? 9).map (fun i=>(i.zero,i.size,i.bytes))=some (some (.string ⟨#[]⟩),1,16):=by kernel_rfl
set_option maxHeartbeats 4000000 in
theorem Qk9 (r:LReg) (h0:0≤r.log) (h6:r.log≤6) (w:World) :
  Calls Tryz.prog 71 #[.agg #[.int .i64 r.log,.bool r.secret]] w fun e w'=>e=.returned (str (regT r))∧Ext w w':=by
 obtain ⟨log,sec⟩:=r
 simp only at h0 h6
 obtain ⟨k,rfl⟩:∃ k:Nat,log=(k:Int):=⟨log.toNat,by omega⟩
 have hk:k < 100:=by omega
 have C:=Lib.hid fun W=>Tryz.strconv_Itoa_small k hk W
 have hi:Hid (Lib.itoa (k:Int)=Lib.decDigits k):=Lib.hid (by unfold Lib.itoa;rw [if_neg (by omega)];simp)
 have hl:(Lib.decDigits k).length≤2:=Q9r 1 k (by simpa using hk)
 cases sec
 all_goals
  unfold regT
  simp only
  rw [hi.out]
  generalize Lib.decDigits k=D at *
  go_enter Tryz.func71,Tryz.ntmps71
  go_wp2_with fail
  (with_reducible refine (C.out _).mono ?_)
  rintro e w1 ⟨rfl,rfl⟩
  go_wp2
  go_ret
  exact ⟨by simp [str,Q3h],(Ext.refl _).alloc _⟩
def Q4p (p:Q00):List (List UInt8):=p.regs.map regT ++ p.code.map Q49
def Qjc (p:Q00) (w:World) (e:Ending) (w':World):Prop := ∃ u B,e=.returned u∧w'.ownsRow B 9 1 u (Q4p p).length ((Q4p p).map str)∧Ext w w'
set_option maxRecDepth 100000 in
set_option maxHeartbeats 8000000 in
theorem Qq5 (p:Q00) (v:Value) (w:World) (hp:Q0v w v p) (hr:∀ r ∈ p.regs,0≤r.log∧r.log≤6) (hr6:p.regs.length≤6) (hc8:p.code.length≤8000) (hall:∀ i ∈ p.code,Q01 p 10 i=true) (ht:Tabs w) :
  Calls Tryz.prog 38 #[v] w (Qjc p w):=by
 obtain ⟨v1,v2,rfl,⟨h64,oR,cR,bR,fR,rfl,hr1,hr2,hrow⟩,⟨hfit,oC,cC,bC,fC,rfl,hc1,hc2,hrowc⟩⟩:=hp
 have hixR:=Q4h (cap:=cR) hrow.at_
 have hixC:=Q1n (cap:=cC) hrowc.at_
 have Hrow:=Lib.hid hrow
 have Hrowc:=Lib.hid hrowc
 have Hall:=Lib.hid hall
 have Hfit:=Lib.hid hfit
 have Hr:=Lib.hid hr
 have Ht:=Lib.hid ht
 obtain ⟨i0,hi0,hz0,hz1,hz2⟩:=info_parts Qrr
 clear hrow hrowc hall hfit h64 hr ht
 go_enter Tryz.func38,Tryz.ntmps38
 go_wp2_with fail
 obtain ⟨W,g,hg,hW,hx,bP⟩:=Q2p w #[.slice oR p.regs.length cR,.slice oC p.code.length cC] 28
 rw [hW,hg]
 have X0:=Lib.hid hx
 have BP:=Lib.hid bP
 clear hW hg hx bP
 go_loopw [3,5,11] (fun s _ k wr => ∃ j:Nat,j≤p.regs.length∧k=.int .i64 j∧wr.ownsRow W.heap.size 9 1 s ((p.regs.take j).map regT).length (((p.regs.take j).map regT).map str)∧Ext W wr) (fun _ _ k _=>p.regs.length - (intOf k).toNat)
 case atStart=>exact ⟨0,by omega,rfl,World.ownsRow_nil _ _ _ _,Ext.refl _⟩
 case round =>
  obtain ⟨j,hj,rfl,hown,hE⟩:=hrel
  have XE:=Lib.hid hE
  have X:=Lib.hid (X0.out.trans hE)
  have hml:((p.regs.take j).map regT).length=j:=by rw [List.length_map,List.length_take];omega
  rw [hml] at hown
  obtain ⟨os,cs,rfl⟩:=Q02 hown
  have HO:=Lib.hid hown
  have hBs:=hE.size
  clear hE hown hml
  by_cases hlt:j < p.regs.length
  ·obtain ⟨e0,e1⟩:=(Hrow.out.ext X.out).reg j hlt
   have hbl:=Q0c e0
   simp only at hbl
   obtain ⟨hg0,hg6⟩:=Hr.out _ (Q1p hlt)
   have Htk:Hid (((p.regs.take (j+1)).map regT).map str=((p.regs.take j).map regT).map str ++ [str (regT (p.regs.getD j default))]):=Lib.hid (by rw [List.take_succ_eq_append_getElem hlt,List.map_append,List.map_append];simp only [List.map_cons,List.map_nil,List.getD_eq_getElem?_getD,List.getElem?_eq_getElem hlt,Option.getD_some])
   have Hlen:Hid (((p.regs.take (j+1)).map regT).length=j+1):=Lib.hid (by rw [List.length_map,List.length_take];omega)
   have Hd:=Lib.hid fun W=>Qk9 _ hg0 hg6 W
   generalize p.regs.getD j default=r at *
   generalize ((p.regs.take j).map regT).map str=M at *
   go_wp2_with fail
   (with_reducible refine (Hd.out _).mono ?_)
   rintro e w4 ⟨rfl,hx⟩
   have hxa:Ext wr w4:=((Ext.refl wr).alloc _).trans hx
   have XE:=Lib.hid (XE.out.trans hxa)
   have HO:=Lib.hid (Q2d HO.out hxa)
   have hBs:=hxa.size
   have hBs2:=XE.out.size
   generalize regT r=L at *
   clear hx hxa Hd e0 e1 hbl hg0 hg6
   go_wp2_with (at_builtin;refine Q1z _ rfl _ _ 22 rfl W.heap.size 9 i0 _ 1 16 Tryz.underlying22 hi0 hz0 hz1 hz2 rfl (by decide) _ _ _ rfl (Q2s HO.out) (some ⟨w4.heap.size,0,none⟩) 1 1 [str L] rfl ?c1 ?c3 ?c4 ?c5 ?_)
   case c1=>exact Q35 (size:=1) (Blk.new w4 9 #[str L]) rfl (by simp [Value.oneCell'])
   case c3=>unfold maxLen;omega
   case c4=>omega
   case c5=>simp;omega
   intro v5 w5 hown hgrow hat
   obtain ⟨o5,c5',rfl⟩:=Q02 hown
   have X5:=Lib.hid ((XE.out.alloc (.cells #[str L] 9)).grown hgrow (fun k hk=>Qgu HO.out k hk))
   have HO5:=Lib.hid hown
   clear hown hgrow hat
   go_wp2
   go_roundw
   case rel=>exact ⟨j+1,by omega,by go_num,by rw [Hlen.out,Htk.out];exact HO5.out,X5.out⟩
   case measure=>first | (simp [intOf];done) | (simp [intOf];omega)
  ·have hje:j=p.regs.length:=by omega
   subst hje
   have hlt2:decide ((p.regs.length:Int) < (p.regs.length:Int))=false:=by simp
   rw [List.take_length] at HO
   have BP2:=Lib.hid (BP.out.ext XE.out)
   have c1:wr.cell? ⟨g,1,none⟩=some (.slice oC p.code.length cC):=by rw [BP2.out.cell];rfl
   have hgl:=BP2.out.lt
   have hRl:Hid ((p.regs.map regT).length=p.regs.length):=Lib.hid (by simp)
   go_wp2_with fail
   go_loopw [3,7,24] (fun s _ k wr2 => ∃ j:Nat,j≤p.code.length∧k=.int .i64 j∧wr2.ownsRow W.heap.size 9 1 s (p.regs.map regT ++ (p.code.take j).map Q49).length ((p.regs.map regT ++ (p.code.take j).map Q49).map str)∧Ext W wr2) (fun _ _ k _=>p.code.length - (intOf k).toNat)
   case atStart=>exact ⟨0,by omega,rfl,by simpa using HO.out,XE.out⟩
   case round =>
    obtain ⟨j,hj,rfl,hown,hE⟩:=hrel
    have XE:=Lib.hid hE
    have X:=Lib.hid (X0.out.trans hE)
    have hml:(p.regs.map regT ++ (p.code.take j).map Q49).length=p.regs.length+j:=by rw [List.length_append,List.length_map,List.length_map,List.length_take];omega
    rw [hml] at hown
    obtain ⟨os,cs,rfl⟩:=Q02 hown
    have HO:=Lib.hid hown
    have hBs:=hE.size
    clear hE hown hml
    by_cases hlt:j < p.code.length
    ·obtain ⟨e0,e1,e2,e3,e4⟩:=(Hrowc.out.ext X.out).ins j hlt
     have hbl:=Q0c e0
     simp only at hbl
     obtain ⟨ho,hc⟩:=Qk7 (Hall.out _ (Q1p hlt))
     have hfi:=Hfit.out _ (Q1p hlt)
     have Htk:Hid ((p.regs.map regT ++ (p.code.take (j+1)).map Q49).map str=(p.regs.map regT ++ (p.code.take j).map Q49).map str ++ [str (Q49 (p.code.getD j default))]):=Lib.hid (by rw [List.take_succ_eq_append_getElem hlt];simp only [List.map_append,List.append_assoc,List.map_cons,List.map_nil,List.getD_eq_getElem?_getD,List.getElem?_eq_getElem hlt,Option.getD_some])
     have Hlen:Hid ((p.regs.map regT ++ (p.code.take (j+1)).map Q49).length=p.regs.length+j+1):=Lib.hid (by rw [List.length_append,List.length_map,List.length_map,List.length_take];omega)
     have Hd:=Lib.hid fun W' (X':Ext w W')=>Qaz _ ho hc hfi W' (Ht.out.ext X')
     generalize p.code.getD j default=ii at *
     generalize (p.regs.map regT ++ (p.code.take j).map Q49).map str=M at *
     go_wp2_with fail
     (with_reducible refine (Hd.out _ (X.out.alloc _)).mono ?_)
     rintro e w4 ⟨rfl,hx⟩
     have hxa:Ext wr w4:=((Ext.refl wr).alloc _).trans hx
     have XE:=Lib.hid (XE.out.trans hxa)
     have HO:=Lib.hid (Q2d HO.out hxa)
     have hBs:=hxa.size
     have hBs2:=XE.out.size
     generalize Q49 ii=L at *
     clear hx hxa Hd e0 e1 e2 e3 e4 hbl ho hc hfi
     go_wp2_with (at_builtin;refine Q1z _ rfl _ _ 22 rfl W.heap.size 9 i0 _ 1 16 Tryz.underlying22 hi0 hz0 hz1 hz2 rfl (by decide) _ _ _ rfl (Q2s HO.out) (some ⟨w4.heap.size,0,none⟩) 1 1 [str L] rfl ?c1 ?c3 ?c4 ?c5 ?_)
     case c1=>exact Q35 (size:=1) (Blk.new w4 9 #[str L]) rfl (by simp [Value.oneCell'])
     case c3=>unfold maxLen;omega
     case c4=>omega
     case c5=>simp;omega
     intro v5 w5 hown hgrow hat
     obtain ⟨o5,c5',rfl⟩:=Q02 hown
     have X5:=Lib.hid ((XE.out.alloc (.cells #[str L] 9)).grown hgrow (fun k hk=>Qgu HO.out k hk))
     have HO5:=Lib.hid hown
     clear hown hgrow hat
     go_wp2
     go_roundw
     case rel=>exact ⟨j+1,by omega,by go_num,by rw [Hlen.out,Htk.out];exact HO5.out,X5.out⟩
     case measure=>first | (simp [intOf];done) | (simp [intOf];omega)
    ·have hje:j=p.code.length:=by omega
     subst hje
     have hlt3:decide ((p.code.length:Int) < (p.code.length:Int))=false:=by simp
     rw [List.take_length] at HO
     have hll:(Q4p p).length=p.regs.length+p.code.length:=by simp [Q4p]
     go_wp2
     go_ret
     exact ⟨_,W.heap.size,rfl,by rw [hll];exact HO.out,X.out⟩
theorem Qhs (s:List UInt8):∀ L:List (List UInt8),Lib.joinTail s L ++ s=s ++ L.flatMap (· ++ s)
 | []=>by simp [Lib.joinTail]
 | x :: r=>by
  have:=Qhs s r
  simp only [Lib.joinTail,List.map_cons,List.flatten_cons,List.flatMap_cons,List.append_assoc] at this ⊢
  rw [this]
theorem Qqy (s:List UInt8) (L:List (List UInt8)) (h:L≠[]):Lib.join L s ++ s=L.flatMap (· ++ s):=by
 cases L with
 | nil=>exact absurd rfl h
 | cons x r=>rw [Lib.join_cons,List.append_assoc,Qhs];simp
theorem Qf1 (p:Q00):Q6f p=(Q4p p).flatMap (· ++ [10]):=by
 unfold Q6f Q4p
 rw [List.flatMap_append,List.flatMap_map,List.flatMap_map]
theorem Qmf (r:LReg) (h0:0≤r.log) (h6:r.log≤6):(regT r).length≤34:=by
 have:=Q5j (n:=r.log) ⟨by omega,by omega⟩
 unfold regT
 split <;> simp <;> omega
theorem Qsm (L:List (List UInt8)) (h:∀ l ∈ L,l.length≤93):(L.flatMap (· ++ [10])).length≤94 * L.length:=by
 induction L with
 | nil=>simp
 | cons x r ih =>
  have h1:=h x (by simp)
  have h2:=ih (fun l hl=>h l (List.mem_cons_of_mem _ hl))
  simp only [List.flatMap_cons,List.length_append,List.length_cons,List.length_nil]
  omega
theorem Qie {p:Q00} (h:Q37 p=true):(∀ r ∈ p.regs,0≤r.log∧r.log≤6)∧p.regs.length≤6∧1≤p.code.length∧p.code.length≤8000∧∀ i ∈ p.code,Q01 p 10 i=true:=by
 unfold Q37 Q67 Q0a at h
 simp only [Bool.and_eq_true,decide_eq_true_eq,List.all_eq_true] at h
 obtain ⟨⟨⟨⟨h1,h2⟩,h3⟩,h4⟩,h5⟩:=h
 refine ⟨fun r hr=>?_,h2,by omega,by omega,h5⟩
 have:=h1 r hr
 unfold Q4l at this
 simpa using this
theorem Qd1 {p:Q00} (hh:Q37 p=true) (hf:∀ i ∈ p.code,i.fits):(Q6f p).length≤94 * 8006∧(Q4p p).length≤8006∧1≤(Q4p p).length:=by
 obtain ⟨h1,h2,h3,h4,-⟩:=Qie hh
 have hl:(Q4p p).length=p.regs.length+p.code.length:=by simp [Q4p]
 have:=Qsm (Q4p p) (by
  intro l hm
  simp only [Q4p,List.mem_append,List.mem_map] at hm
  rcases hm with ⟨r,hr,rfl⟩ | ⟨i,hi,rfl⟩
  ·have:=Qmf r (h1 r hr).1 (h1 r hr).2
   omega
  ·exact Qq8 (hf i hi))
 rw [Qf1]
 omega
theorem Qnv {w:World} {B:Nat} {e:TypeId} {v:Value} {n:Nat} {xs:List Value} (h:w.ownsRow B e 1 v n xs) (hn:0 < n):∃ k cap,v=.slice (some ⟨k,0,none⟩) n cap∧k < w.heap.size∧n≤cap∧∀ j x,j < n→xs[j]? = some x→w.cell? ⟨k,j,none⟩=some x:=by
 have h':=h
 rcases h.2 with ⟨-,h0⟩ | ⟨k,cap,cur,rfl,a1,a2,a3⟩
 ·omega
 ·refine ⟨k,cap,rfl,(h'.lt k rfl).2,?_,fun j x hj hx=>by rw [h'.cellAt j (by omega),hx]⟩
  omega
theorem Qj3 (L:List (List UInt8)):L.map ((fun x:ByteArray=>x.data.toList) ∘ fun l:List UInt8=>(⟨l.toArray⟩:ByteArray))=L:=by
 induction L with
 | nil=>rfl
 | cons x r ih=>rw [List.map_cons,ih];rfl
def Q4m (p:Q00):List UInt8:=if Q37 p then Q6f p else []
def Q48 (p:Q00):Int:=if Q37 p then 0 else 2
set_option maxRecDepth 100000 in
set_option maxHeartbeats 8000000 in
theorem Qn4 (p:Q00) (v:Value) (w:World) (hp:Q0v w v p) (ht:Tabs w) :
  Calls Tryz.prog 17 #[v] w fun e w'=>e=.returned (.tuple #[str (Q4m p),.int .i64 (Q48 p)])∧Ext w w':=by
 have HP:=Lib.hid hp
 have Ht:=Lib.hid ht
 obtain ⟨v1,v2,rfl,-,hcode⟩:=hp
 have Hf:=Lib.hid hcode.1
 clear hcode ht
 have C:=Lib.hid fun W (X:Ext w W)=>Q9j p _ W (HP.out.ext X)
 cases hh:Q37 p
 ·have hT:Q4m p=[]:=by simp [Q4m,hh]
  have hE:Q48 p=2:=by simp [Q48,hh]
  rw [hT,hE]
  rw [hh] at C
  go_enter Tryz.func17,Tryz.ntmps17
  go_wp2_with fail
  have hA:=(Ext.refl w).alloc (.cells #[v1,v2] 28)
  (with_reducible refine (C.out _ hA).mono ?_)
  rintro e w1 ⟨rfl,hx⟩
  have X:=hA.trans hx
  go_wp2
  go_ret2
  exact ⟨rfl,X⟩
 ·have hT:Q4m p=Q6f p:=by simp [Q4m,hh]
  have hE:Q48 p=0:=by simp [Q48,hh]
  rw [hT,hE]
  rw [hh] at C
  obtain ⟨hr,hr6,hc1,hc8,hall⟩:=Qie hh
  obtain ⟨htl,hll,hl1⟩:=Qd1 hh Hf.out
  have D:=Lib.hid fun W (X:Ext w W)=>Qq5 p _ W (HP.out.ext X) hr hr6 hc8 hall (Ht.out.ext X)
  have hjl:=Qqy [10] (Q4p p) (by intro h;rw [h] at hl1;simp at hl1)
  rw [← Qf1] at hjl
  rw [← hjl] at htl ⊢
  unfold Qjc at D
  generalize Q4p p=L at *
  generalize Q6f p=T at *
  clear hjl hT hE hr hr6 hc8 hall hc1 hh
  go_enter Tryz.func17,Tryz.ntmps17
  go_wp2_with fail
  obtain ⟨W,g,hg,hW,hx,bP⟩:=Q2p w #[v1,v2] 28
  rw [hW,hg]
  have X:=Lib.hid hx
  clear hW hg hx
  (with_reducible refine (C.out _ X.out).mono ?_)
  rintro e w1 ⟨rfl,hx⟩
  have X:=Lib.hid (X.out.trans hx)
  have bP:=bP.ext hx
  clear hx
  have c0:w1.cell? ⟨g,0,none⟩=some v1:=by rw [bP.cell];rfl
  have c1:w1.cell? ⟨g,1,none⟩=some v2:=by rw [bP.cell];rfl
  have hgl:=bP.lt
  go_wp2_with fail
  (with_reducible refine (D.out _ X.out).mono ?_)
  rintro e w2 ⟨u,B,rfl,hown,hx⟩
  have X:=Lib.hid (X.out.trans hx)
  clear hx c0 c1 bP C D
  obtain ⟨k,cap,rfl,hkl,hcap,hcell⟩:=Qnv hown (by omega)
  have J:=Tryz.strings_Join k 0 cap (L.map fun l=>⟨l.toArray⟩) ⟨[10].toArray⟩ w2 (by
   intro j x hx
   rw [List.getElem?_map,Option.map_eq_some_iff] at hx
   obtain ⟨l,hl,rfl⟩:=hx
   rw [Nat.zero_add]
   exact (hcell j _ (List.getElem?_eq_some_iff.1 hl).1 (by rw [List.getElem?_map,hl];rfl))) hkl (by rw [List.length_map];omega) (by rw [List.length_map];omega) (by
   rw [List.map_map]
   rw [Qj3]
   rw [List.length_append] at htl
   show (Lib.join L [10]).length≤_
   omega)
  rw [List.length_map,List.map_map] at J
  rw [Qj3] at J
  have J:=Lib.hid J
  have hM:(Lib.join L [10]).length≤94 * 8006:=by rw [List.length_append] at htl;omega
  generalize hMe:Lib.join L [10]=M at *
  clear hcell hown
  go_wp2_with fail
  (with_reducible refine (J.out).mono ?_)
  rintro e w3 ⟨rfl,hb⟩
  have X:=Lib.hid (X.out.trans hb)
  clear hb J
  go_wp2
  go_ret2
  exact ⟨by simp [str,Q3h,hMe],X.out⟩
end Go.Proofs.YtiafchefbehfbaaGreatDoor
