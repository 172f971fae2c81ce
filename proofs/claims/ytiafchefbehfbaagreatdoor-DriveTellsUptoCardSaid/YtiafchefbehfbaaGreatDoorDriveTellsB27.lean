/- Laid together from: Word1. -/
import Derived.Test.YtiafchefbehfbaaGreatDoorDriveTellsB23
import Derived.Test.YtiafchefbehfbaaGreatDoorDriveTellsB13
import Derived.Test.YtiafchefbehfbaaGreatDoorDriveTellsB18

namespace Go.Proofs.YtiafchefbehfbaaGreatDoor
open Go.ChangeShapes Go.WideShapes Go.ChangeAt Go.RowKit
set_option linter.unusedVariables false
set_option linter.unusedSimpArgs false
theorem Q9z {P:Program} {w:World} {g:Nat} {T t p ty:Nat} {cs:Array Value} {fn:Func} {d:TypeDesc} {v:Value} (h:Blk w g T cs) (hr:fn.results=#[.tmp t,.cell p ty]) (tmps:Array Value) (ht:tmps.getD t undef=v) (hp:tmps.getD p undef=.pointer (some ⟨g,0,none⟩))
  (hu:P.underlying ty=some d) (hd:d.isRow=true) (hi:(P.info? ty).map (·.size)=some cs.size):(results fn tmps).run P w=.ok (.tuple #[v,.agg cs]) w:=by
 have hp':tmps[p]?.getD undef=.pointer (some ⟨g,0,none⟩):=by simpa using hp
 have ht':tmps[t]?.getD undef=v:=by simpa using ht
 have hc:w.rangeAt g 0 cs.toList:=h.range 0 cs.toList (fun j v hv=>by simpa using hv)
 have:=run_loadVar_mid w g 0 ty cs.toList d hc hu hd (by simpa using hi)
 simp only [Array.toArray_toList] at this
 simp [results,hr,hp',ht',asAddr,this]
theorem Qaz (n:Int) (w:World):Calls Tryz.prog 74 #[.int .i64 n] w fun e w'=>e=.returned (.bool (Q1f n))∧w=w':=by
 by_cases h0 : -8192≤n
 ·by_cases h1:n≤8191
  ·have hg:Hid (Q1f n=true):=zh (by simp [Q1f,h0,h1])
   go_enter Tryz.func74,Tryz.ntmps74
   go_wp2
   go_ret
   exact ⟨Q1z hg.out.symm,rfl⟩
  ·have hg:Hid (Q1f n=false):=zh (by simp [Q1f,h1])
   have hd:decide (n≤8191)=false:=by simpa using h1
   go_enter Tryz.func74,Tryz.ntmps74
   go_wp2
   go_ret
   exact ⟨Q1z hg.out.symm,rfl⟩
 ·have hg:Hid (Q1f n=false):=zh (by simp [Q1f,h0])
  have hd:decide (-8192≤n)=false:=by simpa using h0
  go_enter Tryz.func74,Tryz.ntmps74
  go_wp2
  go_ret
  exact ⟨Q1z hg.out.symm,rfl⟩
theorem Qt7:(Tryz.prog.info? 138).map (fun i=>(i.zero,i.size,i.bytes))=some (some (.int .u32 0),1,4):=by kernel_rfl
theorem Qt1 {p:Q00} (h:Q3f p=true) {i:LIns} (hi:i ∈ p.code):(0≤i.op∧i.op < 64)∧(0≤i.a∧i.a < 16)∧(0≤i.b∧i.b < 16)∧0≤i.c∧i.c < 16:=by
 obtain ⟨p1,p2,p3,p4⟩:=Q5m h
 obtain ⟨a,b,c,d⟩:=Qef (Q4g p1) (p4 i hi)
 exact ⟨a,b,c,d⟩
theorem wrap_u32' (z:Int) (h0:0≤z) (h1:z < 4294967296):IntKind.u32.wrap z=z:=by
 have e:IntKind.u32.wrap z=z % 4294967296:=rfl
 rw [e];omega
theorem Qbn (x y:Int) (k a:Nat) (hx:x=((2 ^ k * a:Nat):Int)) (hy:0≤y) (hk:y.toNat < 2 ^ k) (hs:2 ^ k * a+y.toNat < 4294967296):bits .or .u32 x y=x+y:=by
 have e:bits .or .u32 x y=IntKind.u32.wrap ((BitVec.ofInt 32 x ||| BitVec.ofInt 32 y).toNat:Int):=rfl
 rw [e,BitVec.toNat_or,BitVec.toNat_ofInt,BitVec.toNat_ofInt]
 generalize hz:2 ^ k * a=z at *
 have h1:(x % ((2 ^ 32:Nat):Int)).toNat=z:=by rw [hx];omega
 have h2:(y % ((2 ^ 32:Nat):Int)).toNat=y.toNat:=by omega
 rw [h1,h2,← hz,← Nat.two_pow_add_eq_or_of_lt hk,hz,wrap_u32' _ (by omega) (by omega),hx]
 omega
theorem Qvw (n:Int):bits .and .u32 (n % 4294967296) 16383=n % 16384:=by
 have e:bits .and .u32 (n % 4294967296) 16383=IntKind.u32.wrap ((BitVec.ofInt 32 (n % 4294967296) &&& BitVec.ofInt 32 16383).toNat:Int):=rfl
 have h63:(BitVec.ofInt 32 16383).toNat=2 ^ 14 - 1:=by decide
 rw [e,BitVec.toNat_and,h63,Nat.and_two_pow_sub_one_eq_mod,BitVec.toNat_ofInt,wrap_u32' _ (by omega) (by omega)]
 omega
theorem Qlk {i:LIns} (hi:(0≤i.op∧i.op < 64)∧(0≤i.a∧i.a < 16)∧(0≤i.b∧i.b < 16)∧0≤i.c∧i.c < 16) (hf:Q1f i.n=true) :
  bits BinOp.or IntKind.u32 (bits BinOp.or IntKind.u32 (bits BinOp.or IntKind.u32 (bits BinOp.or IntKind.u32 (i.op * 67108864) (i.a * 4194304)) (i.b * 262144)) (i.c * 16384)) (bits BinOp.and IntKind.u32 (i.n % 4294967296) 16383)=Q58 i:=by
 obtain ⟨⟨h1,h2⟩,⟨h3,h4⟩,⟨h5,h6⟩,h7,h8⟩:=hi
 simp only [Q1f,Bool.and_eq_true,decide_eq_true_eq] at hf
 have e1:=Qbn (i.op * 67108864) (i.a * 4194304) 26 i.op.toNat (by omega) (by omega) (by omega) (by omega)
 have e2:=Qbn (i.op * 67108864+i.a * 4194304) (i.b * 262144) 22 (i.op * 16+i.a).toNat (by omega) (by omega) (by omega) (by omega)
 have e3:=Qbn (i.op * 67108864+i.a * 4194304+i.b * 262144) (i.c * 16384) 18 ((i.op * 16+i.a) * 16+i.b).toNat (by omega) (by omega) (by omega) (by omega)
 have e4:=Qbn (i.op * 67108864+i.a * 4194304+i.b * 262144+i.c * 16384) (i.n % 16384) 14 (((i.op * 16+i.a) * 16+i.b) * 16+i.c).toNat (by omega) (by omega) (by omega) (by omega)
 rw [Qvw,e1,e2,e3,e4]
 unfold Q58
 split <;> omega
theorem Qpl {w:World} {base:Nat} {e:TypeId} {c n:Nat} {v:Value} {xs:List Value} (h:w.ownsRow base e c v n xs):∀ k,v.ownBlock=some k→base≤k:=by
 intro k hk
 obtain ⟨-,⟨rfl,-⟩ | ⟨g,cap,cur,rfl,hb,-⟩⟩:=h
 ·cases hk
 ·simp [Value.ownBlock] at hk;omega
theorem Qg2 (w:World):Q6e w (.slice none 0 0) []:=⟨by simp,none,0,0,0,rfl,by simp,by decide,⟨fun h=>by simp at h,fun i j hi hj=>by simp at hi⟩⟩
theorem Qak {w:World} {g:Nat} {T:TypeId} {a b x y:Value} (h:Blk w g T #[a,b]):Blk ((w.setCell ⟨g,0,none⟩ x).setCell ⟨g,1,none⟩ y) g T #[x,y]:=(h.set_ 0 x).set_ 1 y
theorem Qan {w w1:World} {g:Nat} {x y:Value} (h:Ext w w1) (hg:w.heap.size≤g):Ext w ((w1.setCell ⟨g,0,none⟩ x).setCell ⟨g,1,none⟩ y):=(h.setCell hg _).setCell hg _
def Put2' (q:List Int × Int × Nat) (w:World) (e:Ending) (w':World):Prop := ∃ u,e=.returned (.tuple #[u,.agg #[.int .i64 q.2.1,.int .i64 q.2.2]])∧Q6e w' u q.1∧Ext w w'
theorem Qdc {l:List Int} {code at_:Int} {q:List Int × Int × Nat} {w w':World} {u:Value} (hq:q=(l,code,at_.toNat)) (h0:0≤at_) (hu:Q6e w' u l) (hx:Ext w w') :
  Put2' q w (.returned (.tuple #[u,.agg #[.int .i64 code,.int .i64 at_]])) w':=by
 subst hq
 exact ⟨u,by simp only;rw [Int.toNat_of_nonneg h0],hu,hx⟩
theorem Qil:∀ (l:List LIns) (k n:Nat),k < l.length→(∀ i ∈ l.take k,Q7r i=true)→Q7r (l.getD k default)=false→Q5f l n=some (n+k)
 | [],k,n,h,_,_=>by simp at h
 | i :: l,0,n,_,_,h=>by
  simp only [List.getD_cons_zero] at h
  rw [Q5f,if_neg (by simp [h])];rfl
 | i :: l,k+1,n,h,ha,hk=>by
  simp only [List.getD_cons_succ] at hk
  rw [Q5f,if_pos (ha i (by simp)),Qil l k (n+1) (by simpa using h) (fun j hj=>ha j (by simp [hj])) hk]
  congr 1;omega
set_option maxHeartbeats 4000000 in
theorem Qlt (p:Q00) (v:Value) (w:World) (hp:Q29 w v p) :
  Calls Tryz.prog 40 #[v] w (Put2' (putW p) w):=by
 have hp':=hp
 obtain ⟨v1,v2,rfl,⟨hb,oa,cap,b,o,rfl,hc1,hc2,hrow⟩,⟨hf,ob,capb,b2,o2,rfl,hd1,hd2,hrow2⟩⟩:=hp
 have HP:=zh hp'
 have hlen2:=Q5h hd1 hd2
 have hix:=Q24 (cap:=capb) hrow2.at_
 have Hrow2:=zh hrow2
 clear hrow hrow2 hc1 hc2 hd1 hd2 hp' hb
 go_enter Tryz.func40,Tryz.ntmps40
 go_wp2_with fail
 obtain ⟨W,g,hg,hW,hx,bA,bB⟩:=Q14 w #[.slice oa p.regs.length cap,.slice ob p.code.length capb] #[.int .i64 0,.int .i64 0] 28 52
 rw [hW,hg]
 have X:=zh hx
 have hgs:w.heap.size≤g:=by omega
 clear hW hg hx
 have C:=Qaf p _ W (HP.out.ext X.out)
 cases hh:Q3f p
 ·have Hp:Hid (putW p=([],2,0)):=zh (by unfold putW;rw [hh];rfl)
  rw [hh] at C
  clear hh
  (with_reducible refine C.mono ?_)
  rintro e w1 ⟨rfl,h1⟩
  have bB:=bB.ext h1
  have X:=zh (X.out.trans h1)
  have p0:w1.cell? ⟨g+1,0,none⟩=some (.int .i64 0)∧w1.frozen? ⟨g+1,0,none⟩=false:=⟨by rw [bB.cell];rfl,bB.frozen 0⟩
  have p1:w1.cell? ⟨g+1,1,none⟩=some (.int .i64 0)∧w1.frozen? ⟨g+1,1,none⟩=false:=⟨by rw [bB.cell];rfl,bB.frozen 1⟩
  clear h1 C
  go_wp2
  exact bodyPost_ret (Q9z (Qak bB) rfl _ rfl rfl Tryz.underlying52 rfl (by kernel_rfl)) rfl (Qdc Hp.out (by omega) (Qg2 _) (Qan X.out (by omega)))
 have Hh:=zh hh
 rw [hh] at C
 clear hh
 (with_reducible refine C.mono ?_)
 rintro e w1 ⟨rfl,h1⟩
 have bA:=bA.ext h1
 have bB:=bB.ext h1
 have X:=zh (X.out.trans h1)
 have c1:w1.cell? ⟨g,1,none⟩=some (.slice ob p.code.length capb):=by rw [bA.cell];rfl
 clear h1 C
 have hg1:g+1 < w1.heap.size:=bB.lt
 obtain ⟨i0,hi0,hz0,hz1,hz2⟩:=info_parts Qt7
 have hcl:p.code.length≤8000:=(Q5m Hh.out).2.2.1
 go_wp2_with fail
 go_loopw [4,14] (fun l i wr => ∃ j:Nat,j≤p.code.length∧i=.int .i64 j∧wr.ownsRow w1.heap.size 138 1 l j (((p.code.take j).map Q58).map (Value.int .u32))∧Below w1.heap.size w1 wr∧(∀ i ∈ p.code.take j,Q7r i=true)) (fun _ i _=>p.code.length - (intOf i).toNat)
 case atStart=>exact ⟨0,by omega,rfl,World.ownsRow_nil _ _ _ _,Below.refl _ _,by simp⟩
 case round =>
  obtain ⟨j,hj,rfl,hown,hE,hall⟩:=hrel
  have hx:Ext w1 wr:=hE
  have bB:=bB.ext hx
  have X:=zh (X.out.trans hx)
  have HE:=zh hE
  have Hall:=zh hall
  have Hown:=zh hown
  clear hE hall hx hown
  by_cases hlt:j < p.code.length
  ·obtain ⟨e0,e1,e2,e3,e4⟩:=(Hrow2.out.ext X.out).ins j hlt
   have hfi:=hf _ (Q25 hlt)
   have Hmiss:=zh (Qil p.code j 0 hlt Hall.out)
   have Hin:Hid (p.code.getD j default ∈ p.code):=zh (Q25 hlt)
   have Htk:Hid (p.code.take (j+1)=p.code.take j ++ [p.code.getD j default]):=zh (by rw [List.take_succ_eq_append_getElem hlt];simp [hlt])
   generalize p.code.getD j default=i at *
   go_wp2_with fail
   refine (Qaz i.n _).mono ?_
   rintro e w2 ⟨rfl,rfl⟩
   cases hfit:Q1f i.n
   ·have hgl:=bB.lt
    have p0:wr.cell? ⟨g+1,0,none⟩=some (.int .i64 0)∧wr.frozen? ⟨g+1,0,none⟩=false:=⟨by rw [bB.cell];rfl,bB.frozen 0⟩
    have p1:wr.cell? ⟨g+1,1,none⟩=some (.int .i64 0)∧wr.frozen? ⟨g+1,1,none⟩=false:=⟨by rw [bB.cell];rfl,bB.frozen 1⟩
    have Hf:=zh hfit
    clear hfit
    have Hq:Hid (putW p=([],3,((j:Int)).toNat)):=zh (by
     unfold putW
     rw [Hh.out,Hmiss.out Hf.out]
     simp)
    go_wp2
    exact bodyPost_ret (Q9z ((Qak bB).alloc _) rfl _ rfl rfl Tryz.underlying52 rfl (by kernel_rfl)) rfl (Qdc Hq.out (by omega) (Qg2 _) ((Qan X.out (by omega)).alloc _))
   ·have Hf:=zh hfit
    clear hfit
    have hi:=Qt1 Hh.out Hin.out
    have hb0:=HE.out.size
    go_wp2_with (at_builtin;refine wpList_append_own _ rfl _ _ 59 rfl w1.heap.size 138 i0 (.int .u32 0) 1 4 Tryz.underlying59 hi0 hz0 hz1 hz2 rfl (by decide) _ _ _ rfl ((Hown.out.alloc _).alloc _) ⟨wr.heap.size+1,0,none⟩ 1 1 [.int .u32 (bits BinOp.or IntKind.u32 (bits BinOp.or IntKind.u32 (bits BinOp.or IntKind.u32 (bits BinOp.or IntKind.u32 (i.op * 67108864) (i.a * 4194304)) (i.b * 262144)) (i.c * 16384)) (bits BinOp.and IntKind.u32 (i.n % 4294967296) 16383))] rfl rfl ?c1 ?c2 ?c3 ?c4 ?c5 ?_)
    case c1 =>
     intro j u hj
     match j,hj with
     | 0,hj=>simp at hj;subst hj;simp [Addr.add]
    case c2=>intro u hu;simp at hu;subst hu;rfl
    case c3=>unfold maxLen;omega
    case c4=>omega
    case c5=>simp;omega
    intro v' w3 hown' hgrow _
    have hv:=Qlk hi Hf.out
    rw [hv] at hown'
    have Hw3:Hid (w3.ownsRow w1.heap.size 138 1 v' (j+1) (((p.code.take (j+1)).map Q58).map (Value.int .u32))):=zh (by
     rw [Htk.out]
     simpa [List.map_take] using hown')
    have Hb3:=zh (Below.grown ((HE.out.alloc hb0 _).alloc (by simp;omega) _) hgrow (by simp;omega) (Qpl Hown.out))
    have Hall3:Hid (∀ i ∈ p.code.take (j+1),Q7r i=true):=zh (by
     rw [Htk.out]
     intro x hx
     simp only [List.mem_append,List.mem_singleton] at hx
     rcases hx with hx | rfl
     ·exact Hall.out x hx
     ·exact Hf.out)
    clear hown' hgrow hv
    go_wp2
    go_roundw
    case rel=>exact ⟨j+1,by omega,by go_num,Hw3.out,Hb3.out,Hall3.out⟩
    case measure=>first | (simp [intOf];done) | (simp [intOf];omega)
  ·have hje:j=p.code.length:=by omega
   subst hje
   have p0:wr.cell? ⟨g+1,0,none⟩=some (.int .i64 0)∧wr.frozen? ⟨g+1,0,none⟩=false:=⟨by rw [bB.cell];rfl,bB.frozen 0⟩
   have p1:wr.cell? ⟨g+1,1,none⟩=some (.int .i64 0)∧wr.frozen? ⟨g+1,1,none⟩=false:=⟨by rw [bB.cell];rfl,bB.frozen 1⟩
   have Hq:Hid (putW p=(p.code.map Q58,0,((0:Int)).toNat)):=zh (by
    have h:=Hall.out
    rw [List.take_length] at h
    unfold putW
    rw [Hh.out,Qim 0 h]
    rfl)
   have Hu:Hid (Q6e ((wr.setCell ⟨g+1,0,none⟩ (.int .i64 0)).setCell ⟨g+1,1,none⟩ (.int .i64 0)) u4 (p.code.map Q58)):=zh (by
    have h:=ownsRow_setCell_below (ownsRow_setCell_below Hown.out (a:=⟨g+1,0,none⟩) hg1 (.int .i64 0)) (a:=⟨g+1,1,none⟩) hg1 (.int .i64 0)
    rw [List.take_length] at h
    have hl:(p.code.map Q58).length=p.code.length:=by simp
    refine Qlz (base:=w1.heap.size) (e:=138) (by rw [hl];exact h) ?_
    intro x hx
    simp only [List.mem_map] at hx
    obtain ⟨i,hi,rfl⟩:=hx
    have hfit:=Hall.out
    rw [List.take_length] at hfit
    obtain ⟨p1,p2,p3,p4⟩:=Q5m Hh.out
    exact Qln (Qef (Q4g p1) (p4 i hi)) (hfit i hi))
   go_wp2
   exact bodyPost_ret (Q9z (v:=u4) (Qak bB) rfl _ rfl rfl Tryz.underlying52 rfl (by kernel_rfl)) rfl (Qdc Hq.out (by omega) Hu.out (Qan X.out (by omega)))
end Go.Proofs.YtiafchefbehfbaaGreatDoor
