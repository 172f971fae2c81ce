/- Laid together from: Tx8, Tx9, Txa. -/
import Derived.Test.YtiafchefbehfbaaGreatDoorDriveTellsB39
import Derived.Laws.RangeString
import Derived.Laws.RangeAny
import Derived.Test.YtiafchefbehfbaaGreatDoorDriveTellsB23

namespace Go.Proofs.YtiafchefbehfbaaGreatDoor
open Go.ChangeShapes Go.WideShapes Go.ChangeAt Go.RowKit
set_option linter.unusedVariables false
set_option linter.unusedSimpArgs false
def Q5n (op:Int):List UInt8 :=
 if 20 < op then [65,66,67] else if op=1∨op=11 then [65,78] else if op=2 then [65,66] else if op=10∨op=8 then [65,66,78] else if op=3∨op=4 then [65,67,66,78] else if op=5∨op=6 then [65,67,78] else if op=7 then [78] else if op=9 then [65] else []
def Q71 (op:Int):List UInt8 :=
 if 20 < op then [114,114,114] else if op=1∨op=11 then [114,110] else if op=2 then [114,114] else if op=10∨op=8 then [114,114,110] else if op=3∨op=4 then [114,103,114,110] else if op=5∨op=6 then [114,103,110] else if op=7 then [110] else if op=9 then [114] else []
def valT (i:LIns) (f:UInt8):Int:=if f=65 then i.a else if f=66 then i.b else if f=67 then i.c else i.n
def Q2r (i:LIns) (kd f:UInt8):List UInt8:=32 :: ((if kd=110 then [] else [kd]) ++ Lib.itoa (valT i f))
def Q5t (i:LIns) (K F:List UInt8) (j:Nat):List UInt8:=(List.range j).flatMap fun m=>Q2r i (K.getD m 0) (F.getD m 0)
theorem Qht (i:LIns) (K F:List UInt8) (j:Nat):Q5t i K F (j+1)=Q5t i K F j ++ Q2r i (K.getD j 0) (F.getD j 0):=by
 unfold Q5t
 rw [List.range_succ,List.flatMap_append]
 simp
theorem Qne (op c:Int) (ho:opIs op) (hc:op=8→1≤c∧c≤4):∃ oc:Int,Q2j (Q3l op c)=(⟨op,oc,Q71 op,Q5n op⟩,true):=by
 by_cases h8:op=8
 ·obtain ⟨c0,c1⟩:=hc h8
  subst h8
  have:c=1∨c=2∨c=3∨c=4:=by omega
  rcases this with rfl | rfl | rfl | rfl
  ·exact ⟨1,by rfl⟩
  ·exact ⟨2,by rfl⟩
  ·exact ⟨3,by rfl⟩
  ·exact ⟨4,by rfl⟩
 ·have:op=1∨op=2∨op=3∨op=4∨op=5∨op=6∨op=7∨op=9∨op=10∨op=11∨op=12∨op=21∨op=22∨op=23∨op=24∨op=25∨op=26∨op=27∨op=28∨op=29∨op=30:=by unfold opIs at ho;omega
  have hw:∀ c',Q3l op c=Q3l op c':=fun c'=>by unfold Q3l;rw [if_neg h8,if_neg h8]
  rw [hw 0]
  clear hw
  rcases this with rfl | rfl | rfl | rfl | rfl | rfl | rfl | rfl | rfl | rfl | rfl | rfl | rfl | rfl | rfl | rfl | rfl | rfl | rfl | rfl | rfl <;> exact ⟨0,by rfl⟩
theorem Qrj (i:LIns) (ho:opIs i.op):Q3l i.op i.c ++ Q5t i (Q71 i.op) (Q5n i.op) (Q5n i.op).length=Q4h i:=by
 obtain ⟨op,a,b,c,n⟩:=i
 simp only at ho ⊢
 unfold Q4h
 congr 1
 simp only
 have:op=1∨op=2∨op=3∨op=4∨op=5∨op=6∨op=7∨op=8∨op=9∨op=10∨op=11∨op=12∨op=21∨op=22∨op=23∨op=24∨op=25∨op=26∨op=27∨op=28∨op=29∨op=30:=by unfold opIs at ho;omega
 rcases this with rfl | rfl | rfl | rfl | rfl | rfl | rfl | rfl | rfl | rfl | rfl | rfl | rfl | rfl | rfl | rfl | rfl | rfl | rfl | rfl | rfl | rfl <;> simp [Q5t,Q2r,valT,Q71,Q5n,Q9k,Q8h,List.range_succ]
theorem Qu5 (op:Int):(Q71 op).length=(Q5n op).length∧(Q5n op).length≤4∧∀ j,j < (Q5n op).length→((Q5n op).getD j 0=65∨(Q5n op).getD j 0=66∨(Q5n op).getD j 0=67∨(Q5n op).getD j 0=78)∧((Q71 op).getD j 0=114∨(Q71 op).getD j 0=103∨(Q71 op).getD j 0=110):=by
 unfold Q5n Q71
 repeat' split
 all_goals
  refine ⟨rfl,by simp,fun j hj=>?_⟩
  match j,hj with
  | 0,hj=>first | (simp;done) | (exfalso;simp only [List.length_cons,List.length_nil] at hj;omega)
  | 1,hj=>first | (simp;done) | (exfalso;simp only [List.length_cons,List.length_nil] at hj;omega)
  | 2,hj=>first | (simp;done) | (exfalso;simp only [List.length_cons,List.length_nil] at hj;omega)
  | 3,hj=>first | (simp;done) | (exfalso;simp only [List.length_cons,List.length_nil] at hj;omega)
  | j+4,hj=>exfalso;simp only [List.length_cons,List.length_nil] at hj;omega
def Q57 (w:World) (k:Nat) (l:List UInt8) (pos:Nat):Prop:=w.heap[k]? = some (.stringIter ⟨l.toArray⟩ pos)
def Q88 (w:World) (k:Nat) (l:List UInt8) (pos:Nat):World:={ w with heap:=w.heap.setIfInBounds k (.stringIter ⟨l.toArray⟩ pos) }
theorem Qsn (w:World) (l:List UInt8):Q57 (w.iter ⟨l.toArray⟩ 0) w.heap.size l 0:=World.iter_heap w _ 0
theorem Q57.ext {w w':World} {k pos:Nat} {l:List UInt8} (h:Q57 w k l pos) (hx:Ext w w'):Q57 w' k l pos:=(Below.block hx k (Array.getElem?_eq_some_iff.1 h).1).trans h
theorem Qsm {w:World} {k pos:Nat} {l:List UInt8} (h:Q57 w k l pos) (p:Nat):Q57 (Q88 w k l p) k l p:=by
 have hk:=(Array.getElem?_eq_some_iff.1 h).1
 unfold Q57 Q88
 simp [hk]
theorem Qso {w0 w:World} {k:Nat} {l:List UInt8} (h:Ext w0 w) (hk:w0.heap.size≤k) (p:Nat):Ext w0 (Q88 w k l p):=by
 refine ⟨h.os,h.tape,h.output,by simpa [Q88] using h.size,fun j hj=>?_⟩
 show (w.heap.setIfInBounds k _)[j]? = _
 rw [Array.getElem?_setIfInBounds_ne (by omega)]
 exact Below.block h j hj
theorem Qqh {w:World} {k pos:Nat} {l:List UInt8} {x:UInt8} (h:Q57 w k l pos) (hx:l[pos]? = some x) (ha:x.toNat < 128) (ty:TypeId) :
  (Instr.next (.pointer (some ⟨k,0,none⟩)) true ty).run Tryz.prog w=.ok (.tuple #[.bool true,.int .i64 pos,.int .i32 x.toNat]) (Q88 w k l (pos+1)):=by
 obtain ⟨hp,rfl⟩:=List.getElem?_eq_some_iff.1 hx
 have hs:pos < (⟨l.toArray⟩:ByteArray).size:=by rw [Q59];exact hp
 have hd:=decode_ascii ⟨l.toArray⟩ pos hs ha
 unfold Q57 at h
 simp only [Instr.next,getObj,setObj,Sem.run_bind,Sem.run,h,Result.andThen,hs,if_true,hd]
 simp [goInt,Sem.run,h,Q88]
 rfl
theorem Q5j {w:World} {k pos:Nat} {l:List UInt8} (h:Q57 w k l pos):w.iterPos k=pos:=by
 unfold Q57 at h
 unfold World.iterPos
 rw [h]
theorem Qqg {w:World} {k:Nat} {l:List UInt8} (h:Q57 w k l l.length) (ty:TypeId) :
  (Instr.next (.pointer (some ⟨k,0,none⟩)) true ty).run Tryz.prog w=.ok (.tuple #[.bool false]) w:=by
 have hs:¬ l.length < (⟨l.toArray⟩:ByteArray).size:=by rw [Q59];omega
 unfold Q57 at h
 simp [Instr.next,getObj,Sem.run,h,hs]
theorem Qam (w:World) (k:Nat) (os:Array Obj):Ext w (Go.Sort.grow (w.drewN k) os):=by
 have h0:Ext w (w.drewN k):=(Ext.refl w).drewN k
 refine ⟨h0.os,h0.tape,h0.output,by simp [Go.Sort.grow],fun j hj=>?_⟩
 show ((w.drewN k).heap ++ os)[j]? = _
 rw [Array.getElem?_append_left (Nat.lt_of_lt_of_le hj h0.size)]
 exact Below.block h0 j hj
theorem Q7o (n:Int) (h:R64 n) (w:World) (ht:Tabs w):Calls Tryz.prog 80 #[.int .i64 n,.int .i64 10] w fun e w'=>e=.returned (str (Lib.itoa n))∧Ext w w' :=
 (Tryz.strconv_FormatInt_10 n h.1 h.2 w ht.ten).mono fun e w' ⟨h1,k,os,h2⟩=>⟨h1,by rw [h2];exact Qam w k os⟩
theorem Qmg (l:List UInt8) (j:Nat) (hj:j < l.length):(⟨l.toArray⟩:ByteArray).extract j (j+1)=⟨[l.getD j 0].toArray⟩:=by
 apply ByteArray.ext
 rw [ByteArray.data_extract]
 apply Array.ext'
 simp only [List.getD_eq_getElem?_getD,List.getElem?_eq_getElem hj,Option.getD_some,Array.toList_extract]
 simp
 rw [List.drop_eq_getElem_cons hj]
 rfl
set_option maxHeartbeats 8000000 in
theorem Q8j (i:LIns) (ho:opIs i.op) (hc:i.op=8→1≤i.c∧i.c≤4) (hf:i.fits) (w:World) (ht:Tabs w) :
  Calls Tryz.prog 72 #[.agg #[.int .i64 i.op,.int .i64 i.a,.int .i64 i.b,.int .i64 i.c,.int .i64 i.n]] w fun e w'=>e=.returned (str (Q4h i))∧Ext w w':=by
 have hfits:=hf
 obtain ⟨h1,h2,h3,h4,h5⟩:=hf
 have la:=Q5i h2
 have lb:=Q5i h3
 have lc:=Q5i h4
 have ln:=Q5i h5
 have Ht:=zh ht
 have Hw:=zh fun W (X:Ext w W)=>Qlo i ho hc W (Ht.out.ext X)
 have Hs:=zh fun W (X:Ext w W)=>Qnd (Q3l i.op i.c) W (Ht.out.ext X)
 obtain ⟨oc,hsw⟩:=Qne i.op i.c ho hc
 rw [hsw] at Hs
 obtain ⟨hKl,hFl,hFx⟩:=Qu5 i.op
 have hwl:=Qfx i.op i.c
 have HFx:=zh hFx
 have HL:=zh (Qrj i ho)
 have Ha:=zh fun W (X:Ext w W)=>Q7o i.a h2 W (Ht.out.ext X)
 have Hb:=zh fun W (X:Ext w W)=>Q7o i.b h3 W (Ht.out.ext X)
 have Hc:=zh fun W (X:Ext w W)=>Q7o i.c h4 W (Ht.out.ext X)
 have Hn:=zh fun W (X:Ext w W)=>Q7o i.n h5 W (Ht.out.ext X)
 have hval:Hid (∀ f kd:UInt8,(Q2r i kd f).length≤22):=zh fun f kd=>by
  unfold Q2r valT
  repeat' split
  all_goals (simp only [List.length_cons,List.length_append,List.length_nil];omega)
 have Hps:Hid (∀ K F j,(Q5t i K F j).length≤22 * j):=zh fun K F j=>by
  induction j with
  | zero=>simp [Q5t]
  | succ j ih =>
   rw [Qht,List.length_append]
   have:=hval.out (F.getD j 0) (K.getD j 0)
   omega
 have HV:Hid (valT i 65=i.a∧valT i 66=i.b∧valT i 67=i.c∧valT i 78=i.n):=zh ⟨by rfl,by rfl,by rfl,by rfl⟩
 generalize hT:Q3l i.op i.c=T at *
 generalize Q71 i.op=K at *
 generalize Q5n i.op=F at *
 clear hsw ho hc hFx h1 h2 h3 h4 h5 hfits ht hval hT
 go_enter Tryz.func72,Tryz.ntmps72
 go_wp2_with fail
 obtain ⟨W,g,hg,hW,hx,bI⟩:=Q16 w #[.int .i64 i.op,.int .i64 i.a,.int .i64 i.b,.int .i64 i.c,.int .i64 i.n] 41
 rw [hW,hg]
 have X:=zh hx
 clear hW hg hx
 (with_reducible refine (Hw.out W X.out).mono ?_)
 clear Hw
 rintro e w1 ⟨rfl,hx⟩
 have X:=zh (X.out.trans hx)
 have bI:=bI.ext hx
 clear hx
 go_wp2_with fail
 (with_reducible refine (Hs.out w1 X.out).mono ?_)
 clear Hs
 rintro e w2 ⟨rfl,hx⟩
 have X:=zh (X.out.trans hx)
 have bI:=bI.ext hx
 clear hx
 simp only
 go_wp2_with fail
 obtain ⟨w3,gs,hg,hW,hx,bS⟩:=Q16 w2 #[.int .i64 i.op,.int .i64 oc,str K,str F] 165
 rw [hW]
 have BI:=zh (bI.ext hx)
 have X3:=zh (X.out.trans hx)
 have BS:=zh bS
 have hit:=Qsn w3 F
 have hx4:Ext w3 (w3.iter ⟨F.toArray⟩ 0):=(Ext.refl _).alloc _
 rw [hg]
 generalize w3.iter ⟨F.toArray⟩ 0=w4 at *
 have hk:w3.heap.size=gs+1:=by rw [← hW,← hg];simp
 rw [hk] at hit
 have HK:=zh hk
 have Hit:=zh hit
 have X4:=zh hx4
 clear hW hg hx bI bS hk hit hx4
 go_loopw [3,6,7,8] (fun s _ _ _ wr => ∃ j:Nat,j≤F.length∧s=str (T ++ Q5t i K F j)∧Q57 wr (gs+1) F j∧Ext w3 wr) (fun _ _ _ _ wr=>F.length - wr.iterPos (gs+1))
 case atStart=>exact ⟨0,by omega,by simp [Q5t],Hit.out,X4.out⟩
 case round =>
  obtain ⟨j,hj,rfl,hit,hE⟩:=hrel
  have Hpos:=zh (Q5j hit)
  have hMl:(T ++ Q5t i K F j).length≤93:=by
   have h1:=Hps.out K F j
   rw [List.length_append]
   omega
  by_cases hlt:j < F.length
  ·have hxg:F[j]? = some (F.getD j 0):=by simp [hlt]
   have hkg:K[j]? = some (K.getD j 0):=by rw [List.getD_eq_getElem?_getD,List.getElem?_eq_getElem (by omega)];rfl
   obtain ⟨hm1,hm2⟩:=HFx.out j hlt
   have Hsucc:=zh (Qht i K F j)
   have hix:=Q6v K j (K.getD j 0) hkg
   have hex:=Qmg K j (by omega)
   have hKs:(⟨K.toArray⟩:ByteArray).size=F.length:=by rw [Q59,hKl]
   have hasc:(F.getD j 0).toNat < 128:=by rcases hm1 with h | h | h | h <;> rw [h] <;> decide
   have hnx:=Qqh hit hxg hasc
   have Hit5:=zh (Qsm hit (j+1))
   have hE5:=Qso (p:=j+1) (l:=F) hE (Nat.le_of_eq HK.out)
   have bI5:=BI.out.ext hE5
   have bS5:=BS.out.ext hE5
   generalize Q88 wr (gs+1) F (j+1)=w5 at *
   have c1:w5.cell? ⟨g,1,none⟩=some (.int .i64 i.a):=by rw [bI5.cell];rfl
   have c2:w5.cell? ⟨g,2,none⟩=some (.int .i64 i.b):=by rw [bI5.cell];rfl
   have c3:w5.cell? ⟨g,3,none⟩=some (.int .i64 i.c):=by rw [bI5.cell];rfl
   have c4:w5.cell? ⟨g,4,none⟩=some (.int .i64 i.n):=by rw [bI5.cell];rfl
   have d2:w5.cell? ⟨gs,2,none⟩=some (str K):=by rw [bS5.cell];rfl
   have hgl:=bI5.lt
   have hgs:=bS5.lt
   have X5:=zh (X3.out.trans hE5)
   have E5:=zh hE5
   generalize F.getD j 0=x at *
   generalize K.getD j 0=kd at *
   generalize hM:T ++ Q5t i K F j=M at *
   have HM:=zh hM
   clear hM hit hE hxg hkg hasc hE5 bI5 bS5
   rcases hm1 with rfl | rfl | rfl | rfl
   ·have hv:valT i 65=i.a:=by rfl
    rcases hm2 with rfl | rfl | rfl
    ·have hp2:Q2r i 114 65=[32,114] ++ Lib.itoa i.a:=by simp [Q2r,hv]
     rw [hp2] at Hsucc
     clear hp2 hv
     go_wp2_with fail
     (with_reducible refine (Ha.out w5 X5.out).mono ?_)
     rintro e w6 ⟨rfl,hx⟩
     have E6:=zh (E5.out.trans hx)
     have Hit6:=zh (Hit5.out.ext hx)
     clear hx c1 c2 c3 c4 d2 hnx hix hex
     go_wp2
     go_roundw
     case rel=>exact ⟨j+1,by omega,by rw [Hsucc.out,← List.append_assoc,HM.out];simp [str,Q2h],Hit6.out,E6.out⟩
     case measure=>rw [Hpos.out,Q5j Hit6.out];omega
    ·have hp2:Q2r i 103 65=[32,103] ++ Lib.itoa i.a:=by simp [Q2r,hv]
     rw [hp2] at Hsucc
     clear hp2 hv
     go_wp2_with fail
     (with_reducible refine (Ha.out w5 X5.out).mono ?_)
     rintro e w6 ⟨rfl,hx⟩
     have E6:=zh (E5.out.trans hx)
     have Hit6:=zh (Hit5.out.ext hx)
     clear hx c1 c2 c3 c4 d2 hnx hix hex
     go_wp2
     go_roundw
     case rel=>exact ⟨j+1,by omega,by rw [Hsucc.out,← List.append_assoc,HM.out];simp [str,Q2h],Hit6.out,E6.out⟩
     case measure=>rw [Hpos.out,Q5j Hit6.out];omega
    ·have hp2:Q2r i 110 65=[32] ++ Lib.itoa i.a:=by simp [Q2r,hv]
     rw [hp2] at Hsucc
     clear hp2 hv
     go_wp2_with fail
     (with_reducible refine (Ha.out w5 X5.out).mono ?_)
     rintro e w6 ⟨rfl,hx⟩
     have E6:=zh (E5.out.trans hx)
     have Hit6:=zh (Hit5.out.ext hx)
     clear hx c1 c2 c3 c4 d2 hnx hix hex
     go_wp2
     go_roundw
     case rel=>exact ⟨j+1,by omega,by rw [Hsucc.out,← List.append_assoc,HM.out];simp [str,Q2h],Hit6.out,E6.out⟩
     case measure=>rw [Hpos.out,Q5j Hit6.out];omega
   ·have hv:valT i 66=i.b:=by rfl
    rcases hm2 with rfl | rfl | rfl
    ·have hp2:Q2r i 114 66=[32,114] ++ Lib.itoa i.b:=by simp [Q2r,hv]
     rw [hp2] at Hsucc
     clear hp2 hv
     go_wp2_with fail
     (with_reducible refine (Hb.out w5 X5.out).mono ?_)
     rintro e w6 ⟨rfl,hx⟩
     have E6:=zh (E5.out.trans hx)
     have Hit6:=zh (Hit5.out.ext hx)
     clear hx c1 c2 c3 c4 d2 hnx hix hex
     go_wp2
     go_roundw
     case rel=>exact ⟨j+1,by omega,by rw [Hsucc.out,← List.append_assoc,HM.out];simp [str,Q2h],Hit6.out,E6.out⟩
     case measure=>rw [Hpos.out,Q5j Hit6.out];omega
    ·have hp2:Q2r i 103 66=[32,103] ++ Lib.itoa i.b:=by simp [Q2r,hv]
     rw [hp2] at Hsucc
     clear hp2 hv
     go_wp2_with fail
     (with_reducible refine (Hb.out w5 X5.out).mono ?_)
     rintro e w6 ⟨rfl,hx⟩
     have E6:=zh (E5.out.trans hx)
     have Hit6:=zh (Hit5.out.ext hx)
     clear hx c1 c2 c3 c4 d2 hnx hix hex
     go_wp2
     go_roundw
     case rel=>exact ⟨j+1,by omega,by rw [Hsucc.out,← List.append_assoc,HM.out];simp [str,Q2h],Hit6.out,E6.out⟩
     case measure=>rw [Hpos.out,Q5j Hit6.out];omega
    ·have hp2:Q2r i 110 66=[32] ++ Lib.itoa i.b:=by simp [Q2r,hv]
     rw [hp2] at Hsucc
     clear hp2 hv
     go_wp2_with fail
     (with_reducible refine (Hb.out w5 X5.out).mono ?_)
     rintro e w6 ⟨rfl,hx⟩
     have E6:=zh (E5.out.trans hx)
     have Hit6:=zh (Hit5.out.ext hx)
     clear hx c1 c2 c3 c4 d2 hnx hix hex
     go_wp2
     go_roundw
     case rel=>exact ⟨j+1,by omega,by rw [Hsucc.out,← List.append_assoc,HM.out];simp [str,Q2h],Hit6.out,E6.out⟩
     case measure=>rw [Hpos.out,Q5j Hit6.out];omega
   ·have hv:valT i 67=i.c:=by rfl
    rcases hm2 with rfl | rfl | rfl
    ·have hp2:Q2r i 114 67=[32,114] ++ Lib.itoa i.c:=by simp [Q2r,hv]
     rw [hp2] at Hsucc
     clear hp2 hv
     go_wp2_with fail
     (with_reducible refine (Hc.out w5 X5.out).mono ?_)
     rintro e w6 ⟨rfl,hx⟩
     have E6:=zh (E5.out.trans hx)
     have Hit6:=zh (Hit5.out.ext hx)
     clear hx c1 c2 c3 c4 d2 hnx hix hex
     go_wp2
     go_roundw
     case rel=>exact ⟨j+1,by omega,by rw [Hsucc.out,← List.append_assoc,HM.out];simp [str,Q2h],Hit6.out,E6.out⟩
     case measure=>rw [Hpos.out,Q5j Hit6.out];omega
    ·have hp2:Q2r i 103 67=[32,103] ++ Lib.itoa i.c:=by simp [Q2r,hv]
     rw [hp2] at Hsucc
     clear hp2 hv
     go_wp2_with fail
     (with_reducible refine (Hc.out w5 X5.out).mono ?_)
     rintro e w6 ⟨rfl,hx⟩
     have E6:=zh (E5.out.trans hx)
     have Hit6:=zh (Hit5.out.ext hx)
     clear hx c1 c2 c3 c4 d2 hnx hix hex
     go_wp2
     go_roundw
     case rel=>exact ⟨j+1,by omega,by rw [Hsucc.out,← List.append_assoc,HM.out];simp [str,Q2h],Hit6.out,E6.out⟩
     case measure=>rw [Hpos.out,Q5j Hit6.out];omega
    ·have hp2:Q2r i 110 67=[32] ++ Lib.itoa i.c:=by simp [Q2r,hv]
     rw [hp2] at Hsucc
     clear hp2 hv
     go_wp2_with fail
     (with_reducible refine (Hc.out w5 X5.out).mono ?_)
     rintro e w6 ⟨rfl,hx⟩
     have E6:=zh (E5.out.trans hx)
     have Hit6:=zh (Hit5.out.ext hx)
     clear hx c1 c2 c3 c4 d2 hnx hix hex
     go_wp2
     go_roundw
     case rel=>exact ⟨j+1,by omega,by rw [Hsucc.out,← List.append_assoc,HM.out];simp [str,Q2h],Hit6.out,E6.out⟩
     case measure=>rw [Hpos.out,Q5j Hit6.out];omega
   ·have hv:valT i 78=i.n:=by rfl
    rcases hm2 with rfl | rfl | rfl
    ·have hp2:Q2r i 114 78=[32,114] ++ Lib.itoa i.n:=by simp [Q2r,hv]
     rw [hp2] at Hsucc
     clear hp2 hv
     go_wp2_with fail
     (with_reducible refine (Hn.out w5 X5.out).mono ?_)
     rintro e w6 ⟨rfl,hx⟩
     have E6:=zh (E5.out.trans hx)
     have Hit6:=zh (Hit5.out.ext hx)
     clear hx c1 c2 c3 c4 d2 hnx hix hex
     go_wp2
     go_roundw
     case rel=>exact ⟨j+1,by omega,by rw [Hsucc.out,← List.append_assoc,HM.out];simp [str,Q2h],Hit6.out,E6.out⟩
     case measure=>rw [Hpos.out,Q5j Hit6.out];omega
    ·have hp2:Q2r i 103 78=[32,103] ++ Lib.itoa i.n:=by simp [Q2r,hv]
     rw [hp2] at Hsucc
     clear hp2 hv
     go_wp2_with fail
     (with_reducible refine (Hn.out w5 X5.out).mono ?_)
     rintro e w6 ⟨rfl,hx⟩
     have E6:=zh (E5.out.trans hx)
     have Hit6:=zh (Hit5.out.ext hx)
     clear hx c1 c2 c3 c4 d2 hnx hix hex
     go_wp2
     go_roundw
     case rel=>exact ⟨j+1,by omega,by rw [Hsucc.out,← List.append_assoc,HM.out];simp [str,Q2h],Hit6.out,E6.out⟩
     case measure=>rw [Hpos.out,Q5j Hit6.out];omega
    ·have hp2:Q2r i 110 78=[32] ++ Lib.itoa i.n:=by simp [Q2r,hv]
     rw [hp2] at Hsucc
     clear hp2 hv
     go_wp2_with fail
     (with_reducible refine (Hn.out w5 X5.out).mono ?_)
     rintro e w6 ⟨rfl,hx⟩
     have E6:=zh (E5.out.trans hx)
     have Hit6:=zh (Hit5.out.ext hx)
     clear hx c1 c2 c3 c4 d2 hnx hix hex
     go_wp2
     go_roundw
     case rel=>exact ⟨j+1,by omega,by rw [Hsucc.out,← List.append_assoc,HM.out];simp [str,Q2h],Hit6.out,E6.out⟩
     case measure=>rw [Hpos.out,Q5j Hit6.out];omega
  ·have hje:j=F.length:=by omega
   subst hje
   have hnx:=Qqg hit
   have XX:=zh (X3.out.trans hE)
   generalize hM:T ++ Q5t i K F F.length=M at *
   clear hit hE
   go_wp2
   go_ret
   exact ⟨by rw [← HL.out];rfl,XX.out⟩
theorem Qi1 {w:World} {base:Nat} {e:TypeId} {c n:Nat} {v:Value} {xs:List Value} (h:w.ownsRow base e c v n xs):∀ k,v.ownBlock=some k→base≤k:=fun k hk=>(h.lt k hk).1
theorem Qek:(Tryz.prog.info? 9).map (fun i=>(i.zero,i.size,i.bytes))=some (some (.string ⟨#[]⟩),1,16):=by kernel_rfl
set_option maxHeartbeats 4000000 in
theorem Qm2 (r:LReg) (h0:0≤r.log) (h6:r.log≤6) (w:World) :
  Calls Tryz.prog 71 #[.agg #[.int .i64 r.log,.bool r.secret]] w fun e w'=>e=.returned (str (regT r))∧Ext w w':=by
 obtain ⟨log,sec⟩:=r
 simp only at h0 h6
 obtain ⟨k,rfl⟩:∃ k:Nat,log=(k:Int):=⟨log.toNat,by omega⟩
 have hk:k < 100:=by omega
 have C:=zh fun W=>Tryz.strconv_Itoa_small k hk W
 have hi:Hid (Lib.itoa (k:Int)=Lib.decDigits k):=zh (by unfold Lib.itoa;rw [if_neg (by omega)];simp)
 have hl:(Lib.decDigits k).length≤2:=Q9n 1 k (by simpa using hk)
 cases sec
 all_goals
  unfold regT
  simp only
  rw [hi.out]
  generalize Lib.decDigits k=D at *
  go_enter Tryz.func71,Tryz.ntmps71
  go_wp2_with fail
  (with_reducible refine (C.out _).mono ?_)
  rintro e w1 ⟨rfl,rfl⟩
  go_wp2
  go_ret
  exact ⟨by simp [str,Q2h],(Ext.refl _).alloc _⟩
def Q4w (p:Q00):List (List UInt8):=p.regs.map regT ++ p.code.map Q4h
def Ql7 (p:Q00) (w:World) (e:Ending) (w':World):Prop := ∃ u B,e=.returned u∧w'.ownsRow B 9 1 u (Q4w p).length ((Q4w p).map str)∧Ext w w'
set_option maxRecDepth 100000 in
set_option maxHeartbeats 8000000 in
theorem Qrg (p:Q00) (v:Value) (w:World) (hp:Q29 w v p) (hr:∀ r ∈ p.regs,0≤r.log∧r.log≤6) (hr6:p.regs.length≤6) (hc8:p.code.length≤8000) (hall:∀ i ∈ p.code,Q04 p 10 i=true) (ht:Tabs w) :
  Calls Tryz.prog 38 #[v] w (Ql7 p w):=by
 obtain ⟨v1,v2,rfl,⟨h64,oR,cR,bR,fR,rfl,hr1,hr2,hrow⟩,⟨hfit,oC,cC,bC,fC,rfl,hc1,hc2,hrowc⟩⟩:=hp
 have hixR:=Q50 (cap:=cR) hrow.at_
 have hixC:=Q24 (cap:=cC) hrowc.at_
 have Hrow:=zh hrow
 have Hrowc:=zh hrowc
 have Hall:=zh hall
 have Hfit:=zh hfit
 have Hr:=zh hr
 have Ht:=zh ht
 obtain ⟨i0,hi0,hz0,hz1,hz2⟩:=info_parts Qek
 clear hrow hrowc hall hfit h64 hr ht
 go_enter Tryz.func38,Tryz.ntmps38
 go_wp2_with fail
 obtain ⟨W,g,hg,hW,hx,bP⟩:=Q16 w #[.slice oR p.regs.length cR,.slice oC p.code.length cC] 28
 rw [hW,hg]
 have X0:=zh hx
 have BP:=zh bP
 clear hW hg hx bP
 go_loopw [3,5,11] (fun s _ k wr => ∃ j:Nat,j≤p.regs.length∧k=.int .i64 j∧wr.ownsRow W.heap.size 9 1 s ((p.regs.take j).map regT).length (((p.regs.take j).map regT).map str)∧Ext W wr) (fun _ _ k _=>p.regs.length - (intOf k).toNat)
 case atStart=>exact ⟨0,by omega,rfl,World.ownsRow_nil _ _ _ _,Ext.refl _⟩
 case round =>
  obtain ⟨j,hj,rfl,hown,hE⟩:=hrel
  have XE:=zh hE
  have X:=zh (X0.out.trans hE)
  have hml:((p.regs.take j).map regT).length=j:=by rw [List.length_map,List.length_take];omega
  rw [hml] at hown
  obtain ⟨os,cs,rfl⟩:=Q02 hown
  have HO:=zh hown
  have hBs:=hE.size
  clear hE hown hml
  by_cases hlt:j < p.regs.length
  ·obtain ⟨e0,e1⟩:=(Hrow.out.ext X.out).reg j hlt
   have hbl:=Q0k e0
   simp only at hbl
   obtain ⟨hg0,hg6⟩:=Hr.out _ (Q25 hlt)
   have Htk:Hid (((p.regs.take (j+1)).map regT).map str=((p.regs.take j).map regT).map str ++ [str (regT (p.regs.getD j default))]):=zh (by rw [List.take_succ_eq_append_getElem hlt,List.map_append,List.map_append];simp only [List.map_cons,List.map_nil,List.getD_eq_getElem?_getD,List.getElem?_eq_getElem hlt,Option.getD_some])
   have Hlen:Hid (((p.regs.take (j+1)).map regT).length=j+1):=zh (by rw [List.length_map,List.length_take];omega)
   have Hd:=zh fun W=>Qm2 _ hg0 hg6 W
   generalize p.regs.getD j default=r at *
   generalize ((p.regs.take j).map regT).map str=M at *
   go_wp2_with fail
   (with_reducible refine (Hd.out _).mono ?_)
   rintro e w4 ⟨rfl,hx⟩
   have hxa:Ext wr w4:=((Ext.refl wr).alloc _).trans hx
   have XE:=zh (XE.out.trans hxa)
   have HO:=zh (Q19 HO.out hxa)
   have hBs:=hxa.size
   have hBs2:=XE.out.size
   generalize regT r=L at *
   clear hx hxa Hd e0 e1 hbl hg0 hg6
   go_wp2_with (at_builtin;refine Q1b _ rfl _ _ 22 rfl W.heap.size 9 i0 _ 1 16 Tryz.underlying22 hi0 hz0 hz1 hz2 rfl (by decide) _ _ _ rfl (Q1r HO.out) (some ⟨w4.heap.size,0,none⟩) 1 1 [str L] rfl ?c1 ?c3 ?c4 ?c5 ?_)
   case c1=>exact Q1y (size:=1) (Blk.new w4 9 #[str L]) rfl (by simp [Value.oneCell'])
   case c3=>unfold maxLen;omega
   case c4=>omega
   case c5=>simp;omega
   intro v5 w5 hown hgrow hat
   obtain ⟨o5,c5',rfl⟩:=Q02 hown
   have X5:=zh ((XE.out.alloc (.cells #[str L] 9)).grown hgrow (fun k hk=>Qi1 HO.out k hk))
   have HO5:=zh hown
   clear hown hgrow hat
   go_wp2
   go_roundw
   case rel=>exact ⟨j+1,by omega,by go_num,by rw [Hlen.out,Htk.out];exact HO5.out,X5.out⟩
   case measure=>first | (simp [intOf];done) | (simp [intOf];omega)
  ·have hje:j=p.regs.length:=by omega
   subst hje
   have hlt2:decide ((p.regs.length:Int) < (p.regs.length:Int))=false:=by simp
   rw [List.take_length] at HO
   have BP2:=zh (BP.out.ext XE.out)
   have c1:wr.cell? ⟨g,1,none⟩=some (.slice oC p.code.length cC):=by rw [BP2.out.cell];rfl
   have hgl:=BP2.out.lt
   have hRl:Hid ((p.regs.map regT).length=p.regs.length):=zh (by simp)
   go_wp2_with fail
   go_loopw [3,7,24] (fun s _ k wr2 => ∃ j:Nat,j≤p.code.length∧k=.int .i64 j∧wr2.ownsRow W.heap.size 9 1 s (p.regs.map regT ++ (p.code.take j).map Q4h).length ((p.regs.map regT ++ (p.code.take j).map Q4h).map str)∧Ext W wr2) (fun _ _ k _=>p.code.length - (intOf k).toNat)
   case atStart=>exact ⟨0,by omega,rfl,by simpa using HO.out,XE.out⟩
   case round =>
    obtain ⟨j,hj,rfl,hown,hE⟩:=hrel
    have XE:=zh hE
    have X:=zh (X0.out.trans hE)
    have hml:(p.regs.map regT ++ (p.code.take j).map Q4h).length=p.regs.length+j:=by rw [List.length_append,List.length_map,List.length_map,List.length_take];omega
    rw [hml] at hown
    obtain ⟨os,cs,rfl⟩:=Q02 hown
    have HO:=zh hown
    have hBs:=hE.size
    clear hE hown hml
    by_cases hlt:j < p.code.length
    ·obtain ⟨e0,e1,e2,e3,e4⟩:=(Hrowc.out.ext X.out).ins j hlt
     have hbl:=Q0k e0
     simp only at hbl
     obtain ⟨ho,hc⟩:=Qm0 (Hall.out _ (Q25 hlt))
     have hfi:=Hfit.out _ (Q25 hlt)
     have Htk:Hid ((p.regs.map regT ++ (p.code.take (j+1)).map Q4h).map str=(p.regs.map regT ++ (p.code.take j).map Q4h).map str ++ [str (Q4h (p.code.getD j default))]):=zh (by rw [List.take_succ_eq_append_getElem hlt];simp only [List.map_append,List.append_assoc,List.map_cons,List.map_nil,List.getD_eq_getElem?_getD,List.getElem?_eq_getElem hlt,Option.getD_some])
     have Hlen:Hid ((p.regs.map regT ++ (p.code.take (j+1)).map Q4h).length=p.regs.length+j+1):=zh (by rw [List.length_append,List.length_map,List.length_map,List.length_take];omega)
     have Hd:=zh fun W' (X':Ext w W')=>Q8j _ ho hc hfi W' (Ht.out.ext X')
     generalize p.code.getD j default=ii at *
     generalize (p.regs.map regT ++ (p.code.take j).map Q4h).map str=M at *
     go_wp2_with fail
     (with_reducible refine (Hd.out _ (X.out.alloc _)).mono ?_)
     rintro e w4 ⟨rfl,hx⟩
     have hxa:Ext wr w4:=((Ext.refl wr).alloc _).trans hx
     have XE:=zh (XE.out.trans hxa)
     have HO:=zh (Q19 HO.out hxa)
     have hBs:=hxa.size
     have hBs2:=XE.out.size
     generalize Q4h ii=L at *
     clear hx hxa Hd e0 e1 e2 e3 e4 hbl ho hc hfi
     go_wp2_with (at_builtin;refine Q1b _ rfl _ _ 22 rfl W.heap.size 9 i0 _ 1 16 Tryz.underlying22 hi0 hz0 hz1 hz2 rfl (by decide) _ _ _ rfl (Q1r HO.out) (some ⟨w4.heap.size,0,none⟩) 1 1 [str L] rfl ?c1 ?c3 ?c4 ?c5 ?_)
     case c1=>exact Q1y (size:=1) (Blk.new w4 9 #[str L]) rfl (by simp [Value.oneCell'])
     case c3=>unfold maxLen;omega
     case c4=>omega
     case c5=>simp;omega
     intro v5 w5 hown hgrow hat
     obtain ⟨o5,c5',rfl⟩:=Q02 hown
     have X5:=zh ((XE.out.alloc (.cells #[str L] 9)).grown hgrow (fun k hk=>Qi1 HO.out k hk))
     have HO5:=zh hown
     clear hown hgrow hat
     go_wp2
     go_roundw
     case rel=>exact ⟨j+1,by omega,by go_num,by rw [Hlen.out,Htk.out];exact HO5.out,X5.out⟩
     case measure=>first | (simp [intOf];done) | (simp [intOf];omega)
    ·have hje:j=p.code.length:=by omega
     subst hje
     have hlt3:decide ((p.code.length:Int) < (p.code.length:Int))=false:=by simp
     rw [List.take_length] at HO
     have hll:(Q4w p).length=p.regs.length+p.code.length:=by simp [Q4w]
     go_wp2
     go_ret
     exact ⟨_,W.heap.size,rfl,by rw [hll];exact HO.out,X.out⟩
theorem Qjj (s:List UInt8):∀ L:List (List UInt8),Lib.joinTail s L ++ s=s ++ L.flatMap (· ++ s)
 | []=>by simp [Lib.joinTail]
 | x :: r=>by
  have:=Qjj s r
  simp only [Lib.joinTail,List.map_cons,List.flatten_cons,List.flatMap_cons,List.append_assoc] at this ⊢
  rw [this]
theorem Qsg (s:List UInt8) (L:List (List UInt8)) (h:L≠[]):Lib.join L s ++ s=L.flatMap (· ++ s):=by
 cases L with
 | nil=>exact absurd rfl h
 | cons x r=>rw [Lib.join_cons,List.append_assoc,Qjj];simp
theorem Qg4 (p:Q00):Q6u p=(Q4w p).flatMap (· ++ [10]):=by
 unfold Q6u Q4w
 rw [List.flatMap_append,List.flatMap_map,List.flatMap_map]
theorem Qoa (r:LReg) (h0:0≤r.log) (h6:r.log≤6):(regT r).length≤34:=by
 have:=Q5i (n:=r.log) ⟨by omega,by omega⟩
 unfold regT
 split <;> simp <;> omega
theorem Qtx (L:List (List UInt8)) (h:∀ l ∈ L,l.length≤93):(L.flatMap (· ++ [10])).length≤94 * L.length:=by
 induction L with
 | nil=>simp
 | cons x r ih =>
  have h1:=h x (by simp)
  have h2:=ih (fun l hl=>h l (List.mem_cons_of_mem _ hl))
  simp only [List.flatMap_cons,List.length_append,List.length_cons,List.length_nil]
  omega
theorem Qk7 {p:Q00} (h:Q3f p=true):(∀ r ∈ p.regs,0≤r.log∧r.log≤6)∧p.regs.length≤6∧1≤p.code.length∧p.code.length≤8000∧∀ i ∈ p.code,Q04 p 10 i=true:=by
 unfold Q3f Q6p Q0p at h
 simp only [Bool.and_eq_true,decide_eq_true_eq,List.all_eq_true] at h
 obtain ⟨⟨⟨⟨h1,h2⟩,h3⟩,h4⟩,h5⟩:=h
 refine ⟨fun r hr=>?_,h2,by omega,by omega,h5⟩
 have:=h1 r hr
 unfold Q4s at this
 simpa using this
theorem Qe3 {p:Q00} (hh:Q3f p=true) (hf:∀ i ∈ p.code,i.fits):(Q6u p).length≤94 * 8006∧(Q4w p).length≤8006∧1≤(Q4w p).length:=by
 obtain ⟨h1,h2,h3,h4,-⟩:=Qk7 hh
 have hl:(Q4w p).length=p.regs.length+p.code.length:=by simp [Q4w]
 have:=Qtx (Q4w p) (by
  intro l hm
  simp only [Q4w,List.mem_append,List.mem_map] at hm
  rcases hm with ⟨r,hr,rfl⟩ | ⟨i,hi,rfl⟩
  ·have:=Qoa r (h1 r hr).1 (h1 r hr).2
   omega
  ·exact Qrh (hf i hi))
 rw [Qg4]
 omega
theorem Qpn {w:World} {B:Nat} {e:TypeId} {v:Value} {n:Nat} {xs:List Value} (h:w.ownsRow B e 1 v n xs) (hn:0 < n):∃ k cap,v=.slice (some ⟨k,0,none⟩) n cap∧k < w.heap.size∧n≤cap∧∀ j x,j < n→xs[j]? = some x→w.cell? ⟨k,j,none⟩=some x:=by
 have h':=h
 rcases h.2 with ⟨-,h0⟩ | ⟨k,cap,cur,rfl,a1,a2,a3⟩
 ·omega
 ·refine ⟨k,cap,rfl,(h'.lt k rfl).2,?_,fun j x hj hx=>by rw [h'.cellAt j (by omega),hx]⟩
  omega
theorem Qkx (L:List (List UInt8)):L.map ((fun x:ByteArray=>x.data.toList) ∘ fun l:List UInt8=>(⟨l.toArray⟩:ByteArray))=L:=by
 induction L with
 | nil=>rfl
 | cons x r ih=>rw [List.map_cons,ih];rfl
def Q46 (p:Q00):List UInt8:=if Q3f p then Q6u p else []
def Q3r (p:Q00):Int:=if Q3f p then 0 else 2
set_option maxRecDepth 100000 in
set_option maxHeartbeats 8000000 in
theorem Qhi (p:Q00) (v:Value) (w:World) (hp:Q29 w v p) (ht:Tabs w) :
  Calls Tryz.prog 17 #[v] w fun e w'=>e=.returned (.tuple #[str (Q46 p),.int .i64 (Q3r p)])∧Ext w w':=by
 have HP:=zh hp
 have Ht:=zh ht
 obtain ⟨v1,v2,rfl,-,hcode⟩:=hp
 have Hf:=zh hcode.1
 clear hcode ht
 have C:=zh fun W (X:Ext w W)=>Qaf p _ W (HP.out.ext X)
 cases hh:Q3f p
 ·have hT:Q46 p=[]:=by simp [Q46,hh]
  have hE:Q3r p=2:=by simp [Q3r,hh]
  rw [hT,hE]
  rw [hh] at C
  go_enter Tryz.func17,Tryz.ntmps17
  go_wp2_with fail
  have hA:=(Ext.refl w).alloc (.cells #[v1,v2] 28)
  (with_reducible refine (C.out _ hA).mono ?_)
  rintro e w1 ⟨rfl,hx⟩
  have X:=hA.trans hx
  go_wp2
  go_ret2
  exact ⟨rfl,X⟩
 ·have hT:Q46 p=Q6u p:=by simp [Q46,hh]
  have hE:Q3r p=0:=by simp [Q3r,hh]
  rw [hT,hE]
  rw [hh] at C
  obtain ⟨hr,hr6,hc1,hc8,hall⟩:=Qk7 hh
  obtain ⟨htl,hll,hl1⟩:=Qe3 hh Hf.out
  have D:=zh fun W (X:Ext w W)=>Qrg p _ W (HP.out.ext X) hr hr6 hc8 hall (Ht.out.ext X)
  have hjl:=Qsg [10] (Q4w p) (by intro h;rw [h] at hl1;simp at hl1)
  rw [← Qg4] at hjl
  rw [← hjl] at htl ⊢
  unfold Ql7 at D
  generalize Q4w p=L at *
  generalize Q6u p=T at *
  clear hjl hT hE hr hr6 hc8 hall hc1 hh
  go_enter Tryz.func17,Tryz.ntmps17
  go_wp2_with fail
  obtain ⟨W,g,hg,hW,hx,bP⟩:=Q16 w #[v1,v2] 28
  rw [hW,hg]
  have X:=zh hx
  clear hW hg hx
  (with_reducible refine (C.out _ X.out).mono ?_)
  rintro e w1 ⟨rfl,hx⟩
  have X:=zh (X.out.trans hx)
  have bP:=bP.ext hx
  clear hx
  have c0:w1.cell? ⟨g,0,none⟩=some v1:=by rw [bP.cell];rfl
  have c1:w1.cell? ⟨g,1,none⟩=some v2:=by rw [bP.cell];rfl
  have hgl:=bP.lt
  go_wp2_with fail
  (with_reducible refine (D.out _ X.out).mono ?_)
  rintro e w2 ⟨u,B,rfl,hown,hx⟩
  have X:=zh (X.out.trans hx)
  clear hx c0 c1 bP C D
  obtain ⟨k,cap,rfl,hkl,hcap,hcell⟩:=Qpn hown (by omega)
  have J:=Tryz.strings_Join k 0 cap (L.map fun l=>⟨l.toArray⟩) ⟨[10].toArray⟩ w2 (by
   intro j x hx
   rw [List.getElem?_map,Option.map_eq_some_iff] at hx
   obtain ⟨l,hl,rfl⟩:=hx
   rw [Nat.zero_add]
   exact (hcell j _ (List.getElem?_eq_some_iff.1 hl).1 (by rw [List.getElem?_map,hl];rfl))) hkl (by rw [List.length_map];omega) (by rw [List.length_map];omega) (by
   rw [List.map_map]
   rw [Qkx]
   rw [List.length_append] at htl
   show (Lib.join L [10]).length≤_
   omega)
  rw [List.length_map,List.map_map] at J
  rw [Qkx] at J
  have J:=zh J
  have hM:(Lib.join L [10]).length≤94 * 8006:=by rw [List.length_append] at htl;omega
  generalize hMe:Lib.join L [10]=M at *
  clear hcell hown
  go_wp2_with fail
  (with_reducible refine (J.out).mono ?_)
  rintro e w3 ⟨rfl,hb⟩
  have X:=zh (X.out.trans hb)
  clear hb J
  go_wp2
  go_ret2
  exact ⟨by simp [str,Q2h,hMe],X.out⟩
end Go.Proofs.YtiafchefbehfbaaGreatDoor
