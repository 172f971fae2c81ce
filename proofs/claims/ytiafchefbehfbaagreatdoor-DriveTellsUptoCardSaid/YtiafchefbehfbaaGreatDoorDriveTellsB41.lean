/- Laid together from: Txe, Dr1, Txd. -/
import Derived.Test.YtiafchefbehfbaaGreatDoorDriveTellsB29
import Derived.Test.YtiafchefbehfbaaGreatDoorDriveTellsB10

namespace Go.Proofs.YtiafchefbehfbaaGreatDoor
open Go.ChangeShapes Go.WideShapes Go.ChangeAt Go.RowKit
set_option linter.unusedVariables false
set_option linter.unusedSimpArgs false
theorem Qt8:(Tryz.prog.info? 9).map (fun i=>(i.zero,i.size,i.bytes))=some (some (.string ⟨#[]⟩),1,16):=by kernel_rfl
theorem Qi2 {w:World} {base:Nat} {e:TypeId} {c n:Nat} {v:Value} {xs:List Value} (h:w.ownsRow base e c v n xs):∀ k,v.ownBlock=some k→base≤k:=fun k hk=>(h.lt k hk).1
def Qfo (c:UInt8) (s:List UInt8) (w:World) (e:Ending) (w':World):Prop := ∃ v,e=.returned v∧w'.ownsRow w.heap.size 9 1 v (Q08 c s).length ((Q08 c s).map str)∧Ext w w'
set_option maxHeartbeats 2000000 in
theorem Qsf (n:Int) (h:R64 n) (w:World) :
  Calls Tryz.prog 21 #[.int .i64 n] w fun e w'=>e=.returned (str (Lib.itoa n))∧Ext w w':=by
 obtain ⟨h0,h1⟩:=h
 have hadd:=Q85
 go_enter Tryz.func21,Tryz.ntmps21
 go_wp2_with fail
 go_loopw [3,4,5] (fun s l d wr => ∃ (m:List UInt8) (x:Int),s=str m∧l=.int .i64 x∧m.length≤20∧(0≤n→0≤x)∧(n < 0→x≤0)∧x.natAbs≤n.natAbs∧Lib.decDigits n.natAbs=Lib.decDigits x.natAbs ++ m∧Ext w wr) (fun s l d _=>(intOf l).natAbs)
 case atStart=>exact ⟨[],n,rfl,rfl,by simp,fun h=>h,fun h=>by omega,Nat.le_refl _,by simp,Ext.refl _⟩
 case round =>
  obtain ⟨m,x,rfl,rfl,hm,hp,hn,hle,hd,hE⟩:=hrel
  have Hd:=zh hd
  have X:=zh hE
  clear hd hE
  have hconv:∀ (k:Nat) (z:Int) (W:World),W.cell? ⟨k,0,none⟩=some (.int .u8 z)→(convert 111 9 (.slice (some ⟨k,0,none⟩) 1 1)).run Tryz.prog W=.ok (str [UInt8.ofNat z.toNat]) W:=fun k z W hc =>
   run_convert_bytes_arg W 111 5 Tryz.underlying111 Tryz.underlying5 k 0 1 1 [z] rfl (fun i hi=>by
    obtain rfl:i=0:=by omega
    exact hc) 9 Tryz.underlying9
  obtain ⟨u,d,q,hu,hd10,hdq,hx⟩:=Qm6 x
  have Hu:=zh hu
  have hwd:((48:Int)+(d:Int)) % 256=48+(d:Int):=by omega
  have hdn:Hid (Lib.decDigits x.natAbs=if q=0 then [UInt8.ofNat (48+d)] else Lib.decDigits q ++ [UInt8.ofNat (48+d)]):=zh (by
   rw [hu]
   by_cases hq:q=0
   ·rw [if_pos hq,Quv (by omega),show u=d by omega]
   ·rw [if_neg hq,Quw (by omega),show u / 10=q by omega,show u % 10=d by omega])
  have Hs0:Hid (q=0→Lib.decDigits n.natAbs=UInt8.ofNat (48+d) :: m):=zh fun hq=>by
   rw [Hd.out,hdn.out,if_pos hq]
   rfl
  have Hs1:Hid (q≠0→Lib.decDigits n.natAbs=Lib.decDigits q ++ (UInt8.ofNat (48+d) :: m)):=zh fun hq=>by
   rw [Hd.out,hdn.out,if_neg hq,List.append_assoc]
   rfl
  have hql:q≤n.natAbs∧(q≠0→q < x.natAbs):=⟨by omega,fun h=>by omega⟩
  have Hql:=zh hql
  have hqb:q≤1000000000000000000:=by omega
  have hdx:(d:Int) % 10=(d:Int):=by omega
  have Hdq:=zh hdq
  clear hdn Hd hdq hle hql
  have Hlen:Hid (q≠0→(UInt8.ofNat (48+d) :: m).length≤20):=zh fun hq=>by
   have h2:=Q9n 19 n.natAbs (by simp;omega)
   rw [Hs1.out hq,List.length_append] at h2
   omega
  rcases hx with ⟨hx0,hx1,hx2,hx3⟩ | ⟨hx0,hx1,hx2,hx3⟩
  ·have hqx:10 * (q:Int)≤x:=by have:=Hdq.out;omega
   clear hx1 hu
   by_cases hq:q=0
   ·subst hq
    by_cases hn0:n < 0
    ·skip
     have Hi:Hid (Lib.itoa n=45 :: UInt8.ofNat (48+d) :: m):=zh (by unfold Lib.itoa;rw [if_pos hn0,Hs0.out rfl])
     go_wp2
     go_ret
     refine ⟨?_,X.out.alloc _⟩
     rw [Hi.out]
     simp [Q2h,str]
    ·skip
     have Hi:Hid (Lib.itoa n=UInt8.ofNat (48+d) :: m):=zh (by unfold Lib.itoa;rw [if_neg hn0,show n.toNat=n.natAbs by omega,Hs0.out rfl])
     go_wp2
     go_ret
     refine ⟨?_,X.out.alloc _⟩
     rw [Hi.out]
     simp [Q2h,str]
   ·skip
    have hq1:((q:Int) == 0)=false:=by simpa using hq
    have hq2:(-(q:Int) == 0)=false:=by simpa using hq
    go_wp2
    go_roundw
    case rel=>exact ⟨UInt8.ofNat (48+d) :: m,_,by simp [str,Q2h],rfl,Hlen.out hq,by omega,by omega,by simpa using Hql.out.1,by rw [Hs1.out hq];simp,X.out.alloc _⟩
    case measure=>simpa [intOf] using Hql.out.2 hq
  ·have hn0:n < 0:=by omega
   clear hx1 hu
   by_cases hd0:d=0
   ·subst hd0
    have hx2:x.tmod 10=0:=by simpa using hx2
    by_cases hq:q=0
    ·subst hq
     have hx3:x.tdiv 10=0:=by simpa using hx3
     have Hi:Hid (Lib.itoa n=45 :: UInt8.ofNat (48+0) :: m):=zh (by unfold Lib.itoa;rw [if_pos hn0,Hs0.out rfl])
     go_wp2
     go_ret
     refine ⟨?_,X.out.alloc _⟩
     rw [Hi.out]
     simp [Q2h,str]
    ·skip
     have hq1:((q:Int) == 0)=false:=by simpa using hq
     have hq2:(-(q:Int) == 0)=false:=by simpa using hq
     go_wp2
     go_roundw
     case rel=>exact ⟨UInt8.ofNat (48+0) :: m,_,by simp [str,Q2h],rfl,Hlen.out hq,by omega,by omega,by simpa using Hql.out.1,by rw [Hs1.out hq];simp,X.out.alloc _⟩
     case measure=>simpa [intOf] using Hql.out.2 hq
   ·have hdp:0 < d:=by omega
    by_cases hq:q=0
    ·subst hq
     have hx3:x.tdiv 10=0:=by simpa using hx3
     have Hi:Hid (Lib.itoa n=45 :: UInt8.ofNat (48+d) :: m):=zh (by unfold Lib.itoa;rw [if_pos hn0,Hs0.out rfl])
     go_wp2
     go_ret
     refine ⟨?_,X.out.alloc _⟩
     rw [Hi.out]
     simp [Q2h,str]
    ·skip
     have hq1:((q:Int) == 0)=false:=by simpa using hq
     have hq2:(-(q:Int) == 0)=false:=by simpa using hq
     go_wp2
     go_roundw
     case rel=>exact ⟨UInt8.ofNat (48+d) :: m,_,by simp [str,Q2h],rfl,Hlen.out hq,by omega,by omega,by simpa using Hql.out.1,by rw [Hs1.out hq];simp,X.out.alloc _⟩
     case measure=>simpa [intOf] using Hql.out.2 hq
set_option maxRecDepth 100000 in
set_option maxHeartbeats 8000000 in
theorem Qja (c:UInt8) (s:List UInt8) (hs:s.length≤1000000000) (w:World) :
  Calls Tryz.prog 5 #[str s,.int .u8 c.toNat] w (Qfo c s w):=by
 obtain ⟨i0,hi0,hz0,hz1,hz2⟩:=info_parts Qt8
 have hsz:=Q59 s
 have hlen:=Q8z c s
 have hcl:=List.count_le_length (a:=c) (l:=s)
 go_enter Tryz.func5,Tryz.ntmps5
 go_wp2_with fail
 go_loopw [5,6,7] (fun l f i wr => ∃ (D:List (List UInt8)) (a j:Nat),a≤j∧f=.int .i64 a∧i=.int .i64 j∧wr.ownsRow w.heap.size 9 1 l D.length (D.map str)∧Ext w wr ∧
  ((j≤s.length∧Q08 c s=D ++ Q08 c (s.drop a)∧c ∉ (s.drop a).take (j - a))∨(j=s.length+1∧Q08 c s=D))) (fun _ _ i _=>s.length+1 - (intOf i).toNat)
 case atStart=>exact ⟨[],0,0,Nat.le_refl _,rfl,rfl,World.ownsRow_nil _ _ _ _,Ext.refl _,.inl ⟨Nat.zero_le _,by simp,by simp⟩⟩
 case round =>
  obtain ⟨D,a,j,haj,rfl,rfl,hown,hE,hc⟩:=hrel
  obtain ⟨os,cs,rfl⟩:=Q02 hown
  have XE:=zh hE
  have HO:=zh hown
  have hBs:=hE.size
  have hsl':s.length≤1000000000:=by rw [← hsz];exact hsz ▸ hs
  have hDl:D.length≤1000000001:=by
   rcases hc with ⟨-,h,-⟩ | ⟨-,h⟩
   ·have:=congrArg List.length h
    rw [List.length_append] at this
    omega
   ·rw [h] at hlen
    omega
  clear hE hown
  rcases hc with ⟨hj,hD,hno⟩ | ⟨rfl,hD⟩
  ·have HD:=zh hD
   have Hno:=zh hno
   clear hD hno
   by_cases hlt:j < s.length
   ·have hix:=Q6v s j s[j] (by simp [hlt])
    by_cases hx:s[j]=c
    ·have hq:((s[j].toNat:Int) == (c.toNat:Int))=true:=by rw [hx];simp
     have Hs:Hid (Q08 c s=(D ++ [(s.drop a).take (j - a)]) ++ Q08 c (s.drop (j+1))):=zh (by
      rw [HD.out,List.append_assoc]
      congr 1
      have e:s.drop a=(s.drop a).take (j - a) ++ c :: s.drop (j+1):=by
       conv=>lhs;rw [← List.take_append_drop (j - a) (s.drop a)]
       rw [List.drop_drop,show a+(j - a)=j by omega,List.drop_eq_getElem_cons hlt,hx]
      conv=>lhs;rw [e]
      exact Qcz _ Hno.out)
     have hsl:((⟨s.toArray⟩:ByteArray).extract a j)=⟨((s.drop a).take (j - a)).toArray⟩:=by
      apply ByteArray.ext
      rw [ByteArray.data_extract]
      apply Array.ext'
      simp [List.extract]
     clear hx
     generalize s[j]=x at *
     generalize (s.drop a).take (j - a)=L at *
     go_wp2_with (at_builtin;refine Q1b _ rfl _ _ 22 rfl w.heap.size 9 i0 _ 1 16 Tryz.underlying22 hi0 hz0 hz1 hz2 rfl (by decide) _ _ _ rfl (Q1r HO.out) (some ⟨wr.heap.size,0,none⟩) 1 1 [str L] rfl ?c1 ?c3 ?c4 ?c5 ?_)
     case c1=>exact Q1y (size:=1) (Blk.new wr 9 #[str L]) rfl (by simp [Value.oneCell'])
     case c3=>unfold maxLen;omega
     case c4=>omega
     case c5=>simp;omega
     intro v5 w5 hown hgrow hat
     obtain ⟨o5,c5',rfl⟩:=Q02 hown
     have X5:=zh ((XE.out.alloc (.cells #[str L] 9)).grown hgrow (fun k hk=>Qi2 HO.out k hk))
     have HO5:=zh hown
     clear hown hgrow hat
     go_wp2
     go_roundw
     case rel=>exact ⟨D ++ [L],j+1,j+1,Nat.le_refl _,by go_num,by go_num,by simpa using HO5.out,X5.out,.inl ⟨by omega,Hs.out,by simp⟩⟩
     case measure=>first | (simp [intOf];done) | (simp [intOf];omega)
    ·have hq:((s[j].toNat:Int) == (c.toNat:Int))=false:=by
      have:¬ s[j].toNat=c.toNat:=fun e=>hx (UInt8.toNat_inj.1 e)
      simpa using (show ¬ (s[j].toNat:Int)=(c.toNat:Int) by omega)
     have Hn2:Hid (c ∉ (s.drop a).take (j+1 - a)):=zh (by
      have hl2:j - a < (s.drop a).length:=by rw [List.length_drop];omega
      rw [show j+1 - a=j - a+1 by omega,List.take_succ_eq_append_getElem hl2,List.mem_append,not_or]
      refine ⟨Hno.out,?_⟩
      rw [List.getElem_drop]
      simp only [show a+(j - a)=j by omega]
      simpa using fun e=>hx e.symm)
     clear hx
     generalize s[j]=x at *
     go_wp2
     go_roundw
     case rel=>exact ⟨D,a,j+1,by omega,rfl,by go_num,HO.out,XE.out,.inl ⟨by omega,HD.out,Hn2.out⟩⟩
     case measure=>first | (simp [intOf];done) | (simp [intOf];omega)
   ·obtain rfl:j=s.length:=by omega
    have Hs:Hid (Q08 c s=D ++ [(s.drop a).take (s.length - a)]):=zh (by
     rw [HD.out]
     congr 1
     have hno:=Hno.out
     rw [List.take_of_length_le (by rw [List.length_drop];omega)] at hno ⊢
     exact Qcy hno)
    have hsl:((⟨s.toArray⟩:ByteArray).extract a s.length)=⟨((s.drop a).take (s.length - a)).toArray⟩:=by
     apply ByteArray.ext
     rw [ByteArray.data_extract]
     apply Array.ext'
     simp [List.extract]
    generalize (s.drop a).take (s.length - a)=L at *
    go_wp2_with (at_builtin;refine Q1b _ rfl _ _ 22 rfl w.heap.size 9 i0 _ 1 16 Tryz.underlying22 hi0 hz0 hz1 hz2 rfl (by decide) _ _ _ rfl (Q1r HO.out) (some ⟨wr.heap.size,0,none⟩) 1 1 [str L] rfl ?c1 ?c3 ?c4 ?c5 ?_)
    case c1=>exact Q1y (size:=1) (Blk.new wr 9 #[str L]) rfl (by simp [Value.oneCell'])
    case c3=>unfold maxLen;omega
    case c4=>omega
    case c5=>simp;omega
    intro v5 w5 hown hgrow hat
    obtain ⟨o5,c5',rfl⟩:=Q02 hown
    have X5:=zh ((XE.out.alloc (.cells #[str L] 9)).grown hgrow (fun k hk=>Qi2 HO.out k hk))
    have HO5:=zh hown
    clear hown hgrow hat
    go_wp2
    go_roundw
    case rel=>exact ⟨D ++ [L],s.length+1,s.length+1,Nat.le_refl _,by go_num,by go_num,by simpa using HO5.out,X5.out,.inr ⟨rfl,Hs.out⟩⟩
    case measure=>first | (simp [intOf];done) | (simp [intOf];omega)
  ·have hlt:decide (((s.length+1:Nat):Int)≤(s.length:Int))=false:=by simp;omega
   have HD:=zh hD
   clear hD
   go_wp2
   go_ret
   exact ⟨_,rfl,by rw [HD.out];exact HO.out,XE.out⟩
theorem Qrt (s:List UInt8) (hs:s.length≤1000000000) (w:World):Calls Tryz.prog 5 #[str s,.int .u8 10] w (Qfo 10 s w):=Qja 10 s hs w
theorem Q68 (s:List UInt8) (hs:s.length≤1000000000) (w:World):Calls Tryz.prog 5 #[str s,.int .u8 32] w (Qfo 32 s w):=Qja 32 s hs w
def Qbd (below:Bool) (T:List UInt8):Option Int :=
 match Q64 below 0 T with
 | none=>none
 | some n=>some (if below then n else 0 - n)
theorem Qh8 (s T:List UInt8) (d:UInt8) (r:List UInt8) (hT:T=d :: r) (below:Bool) (hb:below=decide (s.head? = some 45)) (ht:T=if s.head? = some 45 then s.drop 1 else s) (most:Nat) :
  refN s most=if most < T.length∨(d.toNat=48∧(1 < T.length∨below=true)) then none else Qbd below T:=by
 unfold refN Qbd
 rw [← hb,← ht]
 have e:(T.head? = some 48)=(d.toNat=48):=by
  rw [hT,List.head?_cons,Option.some.injEq]
  exact propext ⟨fun e=>by rw [e];rfl,fun e=>UInt8.toNat_inj.1 e⟩
 have e2:(T.length < 1)=False:=by rw [hT];simp
 simp only [e,e2,false_or]
 by_cases h:most < T.length∨(d.toNat=48∧(1 < T.length∨below=true))
 ·rw [if_pos h,if_pos h]
 ·rw [if_neg h,if_neg h]
  rfl
end Go.Proofs.YtiafchefbehfbaaGreatDoor
