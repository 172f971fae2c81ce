/- Laid together from: Dr7. -/
import Derived.Test.YtiafchefbehfbaaGreatDoorDriveTellsB47
import Derived.Test.YtiafchefbehfbaaGreatDoorDriveTellsB28
import Derived.Laws.CopyOwn

namespace Go.Proofs.YtiafchefbehfbaaGreatDoor
open Go.ChangeShapes Go.WideShapes Go.ChangeAt Go.RowKit
set_option linter.unusedVariables false
set_option linter.unusedSimpArgs false
section
variable {P : Program} {w : World} {ops : Array Oper} {rest : List Oper} {a : Act} {Q : Exit → Act → World → Prop} {dst : Tmp} {T : TypeId} {d s : Operand} {dT sT : TypeId}
theorem Qv6 {pos after} (elem:TypeId) (hu:P.underlying dT=some (.slice elem)) (hsz:(P.info? elem).map (·.size)=some 1)
  (dp sp:Option Addr) (dLen dCap sLen sCap:Nat) (hd:a.eval d=.slice dp dLen dCap) (hs:a.eval s=.slice sp sLen sCap) (hn:Nat.min sLen dLen=0)
  (h:wpList P ops Q rest (a.put dst (goInt 0)) w):wpList P ops Q (⟨dst,.call { callee:=.builtin .copy,args:=#[d,s],argTypes:=#[dT,sT] },T,pos,after,none⟩ :: rest) a w :=
 wpList_copy_nothing rfl d s dT sT rfl elem hu hsz dp sp dLen dCap sLen sCap hd hs hn h
theorem Qv5 {pos after} (elem:TypeId) (hu:P.underlying dT=some (.slice elem)) (hsz:(P.info? elem).map (·.size)=some 1)
  (g off dLen dCap:Nat) (ad:Addr) (sLen sCap:Nat) (hd:a.eval d=.slice (some ⟨g,off,none⟩) dLen dCap) (hs:a.eval s=.slice (some ad) sLen sCap)
  (cur:Array Value) (t:TypeId) (hg:w.heap[g]? = some (.cells cur t (0,0))) (cs:List Value) (hn:cs.length=Nat.min sLen dLen)
  (hsrc:∀ j v,cs[j]? = some v→w.cell? (ad.add j)=some v) (hfit:off+cs.length≤cur.size) (h1:∀ v ∈ cs,v.oneCell'=true)
  (h:wpList P ops Q rest (a.put dst (goInt cs.length)) (w.setRow g (cur.toList.take off ++ (cs ++ cur.toList.drop (off+cs.length))).toArray)):wpList P ops Q (⟨dst,.call { callee:=.builtin .copy,args:=#[d,s],argTypes:=#[dT,sT] },T,pos,after,none⟩ :: rest) a w :=
 wpList_copy_own rfl d s dT sT rfl elem hu hsz g off dLen dCap ad sLen sCap hd hs cur t hg cs hn hsrc hfit h1 h
end
theorem Qo3 (w:World) (k:Nat) (cs:Array Value):w.grownBy (w.setRow k cs) (some k) :=
 ⟨rfl,rfl,rfl,by simp,fun j hj hne=>setRow_other w k j cs (by intro e;exact hne (by rw [e]))⟩
theorem Qpm {w:World} {B k cap:Nat} {l cs:List Int} (h:w.ownsRow B 2 1 (.slice (some ⟨k,0,none⟩) l.length cap) l.length (l.map (Value.int .i64))) (hc:cs.length≤l.length) :
  ∃ cur:Array Value,w.heap[k]? = some (.cells cur 2 (0,0))∧cs.length≤cur.size∧(w.setRow k (cur.toList.take 0 ++ (cs.map (Value.int .i64) ++ cur.toList.drop (0+(cs.map (Value.int .i64)).length))).toArray).ownsRow B 2 1 (.slice (some ⟨k,0,none⟩) l.length cap) (cs ++ l.drop cs.length).length ((cs ++ l.drop cs.length).map (Value.int .i64)):=by
 obtain ⟨h0,⟨h1,-⟩ | ⟨g,cap',cur,hv,h1,h2,h3,h4,h5,h6⟩⟩:=h
 ·cases h1
 simp only [Value.slice.injEq,Option.some.injEq,Addr.mk.injEq,and_true,true_and] at hv
 obtain ⟨rfl,rfl⟩:=hv
 have hlen:(cs ++ l.drop cs.length).length=l.length:=by rw [List.length_append,List.length_drop];omega
 refine ⟨cur,h2,by omega,?_⟩
 rw [hlen]
 refine ⟨by rw [List.length_map,hlen];simp,.inr ⟨k,cap,_,rfl,h1,setRow_heap w k cur _ _ _ h2,h3,h4,?_,?_⟩⟩
 ·simp only [List.take_zero,List.nil_append,List.length_map,Nat.zero_add,List.size_toArray,List.length_append,List.length_drop,Array.length_toList]
  omega
 ·simp only [List.take_zero,List.nil_append,List.length_map,Nat.zero_add,Nat.mul_one,List.map_append,List.map_drop] at h6 ⊢
  rw [← h6,List.take_append,List.length_map,List.take_of_length_le (by simp;omega),List.drop_take]
theorem Qd2 {L:List (Value × List Int)} {i:Nat} {v:Value} {l:List Int}:(L.set i (v,l)).map (·.2)=(L.map (·.2)).set i l:=by rw [List.map_set]
theorem Qk8 {L:List (Value × List Int)} {i:Nat} {v:Value} {l:List Int} (hi:L[i]? = some (v,l)):(L.map (·.2)).getD i []=l:=by simp [hi]
theorem Q8l {w:World} {v:Value} {a:Int} {cs:List Int} (h:Q2z w v (a :: cs)):∃ bl o cap,v=.slice (some ⟨bl,o,none⟩) (cs.length+1) cap∧cs.length+1≤cap∧w.cell? ⟨bl,o,none⟩=some (.int .i64 a)∧∀ j x,cs[j]? = some x→w.cell? ⟨bl,o+1+j,none⟩=some (.int .i64 x):=by
 obtain ⟨-,oa,cap,bl,o,rfl,hc,-,hrow⟩:=h
 have h0:=hrow.one 0 (by simp)
 obtain rfl:=hrow.at_ (by simp)
 refine ⟨bl,o,cap,rfl,hc,h0,fun j x hj=>?_⟩
 have hjl:=(List.getElem?_eq_some_iff.1 hj).1
 have h1:=hrow.one (j+1) (by simp;omega)
 rw [show o+1+j=o+(j+1) by omega,h1]
 simp [hj]
set_option maxRecDepth 100000 in
set_option maxHeartbeats 8000000 in
theorem Quu {w0 w:World} {B g:Nat} {vR vC vM:Value} {p:Q00} {L:List (Value × List Int)} (h:PlSt w0 w B g 65 vR vC vM p L) (hg:Q0x ⟨p,L.map (·.2)⟩) (a:Int) (cs:List Int) (v:Value) (hv:Q2z w v (a :: cs)) (hcl:cs.length≤1000000001) :
  Calls Tryz.prog 44 #[.pointer (some ⟨g,0,none⟩),v] w (Q07 (Q36 ⟨p,L.map (·.2)⟩ (a :: cs)) w0 B g 65):=by
 have h64:=hv.1
 obtain ⟨bl,ol,cl,rfl,hcc,c0,hcs⟩:=Q8l hv
 have HS:=zh h
 have Hcs:=zh hcs
 have hix:=Q3o (oa:=some ⟨bl,ol,none⟩) (n:=cs.length+1) (b:=bl) (o:=ol) (cap:=cl) (fun _=>rfl)
 have hL6:L.length≤6:=by
  have h1:=hg.len
  have h2:=hg.regs6
  simp only [List.length_map] at h1 h2
  omega
 have hwe:wrap64 (((cs.length+1:Nat):Int) - 1)=(cs.length:Int):=by unfold wrap64;omega
 have hwe2:wrap64 (cs.length:Int)=(cs.length:Int):=by unfold wrap64;omega
 have Hrows:=zh hg.rows
 clear hcs hv hg
 by_cases hr:a < 0∨(L.length:Int)≤a
 ·have HD:Hid (Q36 ⟨p,L.map (·.2)⟩ (a :: cs)=([63],⟨p,L.map (·.2)⟩)):=zh (by
   unfold Q36
   rw [if_pos]
   simp only [List.getD_cons_zero,List.length_map]
   rcases hr with h | h
   ·exact .inl h
   ·exact .inr (.inl h))
  have C:=zh (Qkm h hr)
  have hnn:=Qqc
  clear h hr
  go_enter Tryz.func44,Tryz.ntmps44
  go_wp2_with fail
  (with_reducible refine C.out.mono ?_)
  rintro e w1 ⟨rfl,rfl⟩
  go_wp2
  go_ret
  rw [HD.out]
  exact Q07.same (s:=⟨p,L.map (·.2)⟩) rfl HS.out
 ·obtain ⟨i,rfl⟩:∃ i:Nat,a=(i:Int):=⟨a.toNat,by omega⟩
  have hil:i < L.length:=by omega
  obtain ⟨⟨vr,r⟩,hi⟩:∃ x,L[i]? = some x:=⟨L[i],by simp [hil]⟩
  have hrow:=h.fam.at_ hi
  have hr1:=(Hrows.out r (List.mem_map.2 ⟨(vr,r),List.mem_of_getElem? hi,rfl⟩))
  obtain ⟨k,cr,rfl,hBk,-⟩:=own_at' hrow (by omega)
  have C:=zh (Qkn h hi hL6)
  have hsl:=Qgk ⟨k,0,none⟩ r.length cr
  have Hr:=zh (Qk8 hi)
  have Hi:=zh hi
  have Hrow:=zh hrow
  clear h hr hi hrow hBk
  by_cases hlen:r.length < cs.length
  ·have HD:Hid (Q36 ⟨p,L.map (·.2)⟩ ((i:Int) :: cs)=([63],⟨p,L.map (·.2)⟩)):=zh (by
    unfold Q36
    rw [if_pos]
    simp only [List.getD_cons_zero,List.length_map,Int.toNat_natCast,Hr.out,List.length_cons,Nat.add_sub_cancel]
    exact .inr (.inr hlen))
   go_enter Tryz.func44,Tryz.ntmps44
   go_wp2_with fail
   (with_reducible refine C.out.mono ?_)
   rintro e w1 ⟨rfl,rfl⟩
   go_wp2
   go_ret
   rw [HD.out]
   exact Q07.same (s:=⟨p,L.map (·.2)⟩) rfl HS.out
  ·have HD:Hid (Q36 ⟨p,L.map (·.2)⟩ ((i:Int) :: cs)=(okW,⟨p,(L.map (·.2)).set i (cs ++ r.drop cs.length)⟩)):=zh (by
    unfold Q36
    rw [if_neg]
    ·simp only [List.getD_cons_zero,Int.toNat_natCast,Hr.out,List.length_cons,Nat.add_sub_cancel,List.drop_succ_cons,List.drop_zero]
    ·simp only [List.getD_cons_zero,List.length_map,Int.toNat_natCast,Hr.out,List.length_cons,Nat.add_sub_cancel]
     omega)
   have Hf:Hid (∀ z ∈ cs ++ r.drop cs.length,R64 z):=zh (fun z hz=>by
    rcases List.mem_append.1 hz with q | q
    ·exact h64 z (List.mem_cons_of_mem _ q)
    ·exact HS.out.f64 _ (List.mem_of_getElem? Hi.out) z (List.mem_of_mem_drop q))
   by_cases h0:cs.length=0
   ·have hcn:cs=[]:=List.length_eq_zero_iff.1 h0
    have HSe:Hid (PlSt w0 w B g 65 vR vC vM p (L.set i (.slice (some ⟨k,0,none⟩) r.length cr,cs ++ r.drop cs.length))):=zh (HS.out.row_ Hi.out (Qf1 (Ext.refl w) _) (by rw [hcn];exact Hrow.out) Hf.out)
    have Hcn:=zh hcn
    clear hcn
    go_enter Tryz.func44,Tryz.ntmps44
    go_wp2_with fail
    (with_reducible refine C.out.mono ?_)
    rintro e w1 ⟨rfl,rfl⟩
    go_wp2_with (refine Qv6 2 Tryz.underlying35 (by kernel_rfl) _ _ _ _ _ _ rfl rfl ?cn ?_)
    all_goals first | (case cn=>simp [h0]) | skip
    all_goals go_wp2
    all_goals go_ret
    all_goals
     unfold Q07
     rw [HD.out]
     exact ⟨rfl,_,_,_,_,Qd2,HSe.out⟩
   ·obtain ⟨cur,hcur,hcz,hown⟩:=Qpm (cs:=cs) Hrow.out (by omega)
    have HSe:=zh (HS.out.row_ Hi.out (Qo3 w k _) hown Hf.out)
    have Hcur:=zh hcur
    have hc1:¬ cl=1:=by omega
    have Hmin:Hid ((cs.map (Value.int .i64)).length=Nat.min cs.length r.length):=zh (by rw [List.length_map];exact (Nat.min_eq_left (by omega)).symm)
    have Hfit:Hid (0+(cs.map (Value.int .i64)).length≤cur.size):=zh (by rw [List.length_map];omega)
    clear hown hcur
    go_enter Tryz.func44,Tryz.ntmps44
    go_wp2_with fail
    (with_reducible refine C.out.mono ?_)
    rintro e w1 ⟨rfl,rfl⟩
    go_wp2_with (refine Qv5 2 Tryz.underlying35 (by kernel_rfl) k 0 r.length cr ⟨bl,ol+1,none⟩ cs.length (cl - 1) rfl rfl cur 2 Hcur.out (cs.map (Value.int .i64)) Hmin.out ?cs Hfit.out ?c1 ?_)
    case cs =>
     intro j x hx
     rw [List.getElem?_map,Option.map_eq_some_iff] at hx
     obtain ⟨y,hy,rfl⟩:=hx
     rw [Q4d]
     exact Hcs.out j y hy
    case c1 =>
     intro x hx
     rw [List.mem_map] at hx
     obtain ⟨y,-,rfl⟩:=hx
     rfl
    go_wp2
    go_ret
    unfold Q07
    rw [HD.out]
    have Z:=HSe.out
    simp only [List.take_zero,List.nil_append,Nat.zero_add,List.length_map] at Z
    exact ⟨rfl,_,_,_,_,Qd2,Z⟩
end Go.Proofs.YtiafchefbehfbaaGreatDoor
