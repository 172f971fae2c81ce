/- Laid together from: Tx5, Tx6, Tx7. -/
import Derived.Test.YtiafchefbehfbaaGreatDoorDriveTellsB29
import Derived.Test.YtiafchefbehfbaaGreatDoorDriveTellsB9
import Derived.Shelf.Abstract
import Derived.Test.YtiafchefbehfbaaGreatDoorDriveTellsB14

namespace Go.Proofs.YtiafchefbehfbaaGreatDoor
open Go.ChangeShapes Go.WideShapes Go.ChangeAt Go.RowKit
set_option linter.unusedVariables false
set_option linter.unusedSimpArgs false
structure Tabs (w:World):Prop where
 sp : Lib.TabIs Tryz.prog w "strings.asciiSpace" .u8 Lib.asciiSpaceTab
 ten : Lib.TabIs Tryz.prog w "internal/strconv.uint64pow10" .u64 Lib.pow10Tab
theorem Qg5 {n:String} {g:Nat} {k:IntKind} {zs:List Int} {w w':World} (hg:Tryz.prog.globalNamed n=some g) (h:Lib.TabIs Tryz.prog w n k zs) (hb:Ext w w'):Lib.TabIs Tryz.prog w' n k zs:=by
 unfold Lib.TabIs World.var? at h ⊢
 rw [hg] at h ⊢
 simp only [Option.bind_some] at h ⊢
 have hlt:g < w.heap.size:=by
  rcases Nat.lt_or_ge g w.heap.size with h' | h'
  ·exact h'
  ·rw [Array.getElem?_eq_none h'] at h;cases h
 rw [Below.block hb g hlt]
 exact h
theorem Qn0 : ∃ g, Tryz.prog.globalNamed "strings.asciiSpace" = some g := ⟨1, by kernel_rfl⟩
theorem Qm5 : ∃ g, Tryz.prog.globalNamed "internal/strconv.uint64pow10" = some g := ⟨6, by kernel_rfl⟩
theorem Tabs.ext {w w':World} (h:Tabs w) (hx:Ext w w'):Tabs w':=by
 obtain ⟨g1,h1⟩:=Qn0
 obtain ⟨g2,h2⟩:=Qm5
 exact ⟨Qg5 h1 h.sp hx,Qg5 h2 h.ten hx⟩
def idxW:List (List UInt8)→List UInt8→Nat
 | [],_=>0
 | a :: l,x=>if a=x then 1 else if idxW l x=0 then 0 else idxW l x+1
theorem Qk3:∀ (L:List (List UInt8)) (x:List UInt8) (k:Nat),k < L.length→L.getD k []=x→(∀ j,j < k→L.getD j []≠x)→idxW L x=k+1
 | [],x,k,hk,_,_=>by simp at hk
 | a :: l,x,0,_,h,_=>by
  have:a=x:=by simpa using h
  rw [idxW,if_pos this]
 | a :: l,x,k+1,hk,h,hb=>by
  have h0:a≠x:=by simpa using hb 0 (by omega)
  have h1:=Qk3 l x k (by simpa using hk) (by simpa using h) (fun j hj=>by simpa using hb (j+1) (by omega))
  rw [idxW,if_neg h0,h1,if_neg (by omega)]
theorem Qk1:∀ (L:List (List UInt8)) (x:List UInt8),(∀ j,j < L.length→L.getD j []≠x)→idxW L x=0
 | [],x,_=>rfl
 | a :: l,x,hb=>by
  have h0:a≠x:=by simpa using hb 0 (by simp)
  have h1:=Qk1 l x (fun j hj=>by simpa using hb (j+1) (by simpa using hj))
  rw [idxW,if_neg h0,h1,if_pos rfl]
theorem Q5l {oa:Option Addr} {n b o cap:Nat} (h:0 < n→oa=some ⟨b,o,none⟩) (W:World) (i:Int) (h0:0≤i) (h1:i < n) :
  (Instr.indexAt 22 (.slice oa n cap) (.int .i64 i)).run Tryz.prog W=.ok (.pointer (some ⟨b,o+i.toNat,none⟩)) W:=by
 obtain rfl:=h (by omega)
 have hs:(Tryz.prog.info? 9).map (·.size)=some 1:=by kernel_rfl
 simp [Instr.indexAt,run_underlying Tryz.underlying22,asIntOf,h0,h1]
 exact Q4d b o _
theorem Qkw (l:List UInt8):(⟨l.toArray⟩:ByteArray).toList=l:=by
 rw [ByteArray.toList_eq]
set_option maxHeartbeats 4000000 in
theorem Qk2 (L:List (List UInt8)) (T x:List UInt8) (b:Nat) (w:World) (hL:Lib.fields T=L) (hT:T.length≤1000) (hasc:∀ (j:Nat) c,T[j]? = some c→c.toNat < 128) (hn:L.length≤1000) (hc:w.cell? ⟨b,0,none⟩=some (str x)) (ht:Tabs w) :
  Calls Tryz.prog 116 #[str T,.pointer (some ⟨b,0,none⟩)] w fun e w'=>e=.returned (.int .i64 (idxW L x))∧Ext w w':=by
 have hb:=Q0k hc
 simp only at hb
 have C:=Tryz.strings_Fields ⟨T.toArray⟩ w (by rw [Q59];omega) (by simpa using hasc) ht.sp
 simp only [hL] at C
 go_enter Tryz.func116,Tryz.ntmps116
 go_wp2_with fail
 (with_reducible refine C.mono ?_)
 clear C
 rintro e w1 ⟨rfl,rfl⟩
 have hbk:=Blk.new w 9 (L.map fun l=>Value.string ⟨l.toArray⟩).toArray
 have hx:Ext w (w.alloc (.cells (L.map fun l=>Value.string ⟨l.toArray⟩).toArray 9)):=(Ext.refl _).alloc _
 have hrow:Rows (w.alloc (.cells (L.map fun l=>Value.string ⟨l.toArray⟩).toArray 9)) (some ⟨w.heap.size,0,none⟩) w.heap.size 0 L.length 1 fun i _=>str (L.getD i []):=by
  refine ⟨fun _=>rfl,fun i j hi hj=>?_⟩
  obtain rfl:j=0:=by omega
  rw [hbk.cell]
  simp [hi]
 generalize w.alloc (.cells (L.map fun l=>Value.string ⟨l.toArray⟩).toArray 9)=w1 at *
 have hix:=Q5l (cap:=L.length) hrow.at_
 have Hrow:=zh hrow
 have HC:=zh (hx.kept hc)
 have X:=zh hx
 have hTL:=Qkw
 generalize w.heap.size=k at *
 clear hc hb hbk hrow hx hL
 go_wp2_with fail
 go_loopw [4,5,9] (fun _ _ i wr => ∃ j:Nat,j≤L.length∧i=.int .i64 j∧(∀ m,m < j→L.getD m []≠x)∧Ext w1 wr) (fun _ _ i _=>L.length - (intOf i).toNat)
 case atStart=>exact ⟨0,by omega,rfl,fun m hm=>by omega,Ext.refl _⟩
 case round =>
  obtain ⟨j,hj,rfl,hall,hE⟩:=hrel
  have Hall:=zh hall
  have XE:=zh hE
  have XX:=zh (X.out.trans hE)
  have hc:=hE.kept HC.out
  have hb:=Q0k hc
  simp only at hb
  clear hall hE
  by_cases hlt:j < L.length
  ·have e0:=(Hrow.out.ext XE.out).one j hlt
   rw [Nat.zero_add] at e0
   have hbl:=Q0k e0
   simp only at hbl
   by_cases hq:L.getD j []=x
   ·have Hi:=zh (Qk3 L x j hlt hq Hall.out)
    generalize L.getD j []=y at *
    have hd:(y == x)=true:=by simpa using hq
    clear hq
    go_wp2
    go_ret
    exact ⟨by rw [Hi.out];simp,XX.out⟩
   ·have Hq:=zh hq
    have hd:(L.getD j [] == x)=false:=by simpa using hq
    generalize hy:L.getD j []=y at *
    have Hy:=zh hy
    clear hq hy
    go_wp2
    go_roundw
    case rel=>exact ⟨j+1,by omega,by go_num,fun m hm=>by
     rcases Nat.lt_or_ge m j with h | h
     ·exact Hall.out m h
     ·obtain rfl:m=j:=by omega
      rw [Hy.out];exact Hq.out,XE.out⟩
    case measure=>first | (simp [intOf];done) | (simp [intOf];omega)
  ·have hje:j=L.length:=by omega
   subst hje
   have Hi:=zh (Qk1 L x Hall.out)
   have hlt2:decide ((L.length:Int) < (L.length:Int))=false:=by simp
   go_wp2
   go_ret
   exact ⟨by rw [Hi.out];rfl,XX.out⟩
abbrev opsB:List UInt8:=[97,100,100,32,115,117,98,32,109,117,108,32,97,110,100,32,111,114,32,120,111,114,32,115,104,108,32,115,104,114,32,100,105,118,32,109,111,100]
abbrev Qf7:List UInt8:=[115,97,109,101,32,111,116,104,101,114,32,108,101,115,115,32,109,111,115,116]
theorem Qi4:Lib.fields opsB=opsW:=by decide +kernel
theorem Qkt:Lib.fields Qf7=Q4b:=by decide +kernel
theorem Qfi {l:List UInt8} (h:l.all (fun c=>decide (c.toNat < 128))=true):∀ (j:Nat) c,l[j]? = some c→c.toNat < 128:=by
 intro j c hj
 have:=List.all_eq_true.1 h c (List.mem_of_getElem? hj)
 simpa using this
theorem Qke (T:List UInt8) (L:List (List UInt8)) (n:Nat) (hL:Lib.fields T=L) (hn:L.length=n) (hT:T.length≤1000) (hasc:T.all (fun c=>decide (c.toNat < 128))=true) (w:World) (ht:Tabs w) :
  Calls Tryz.prog 115 #[str T] w fun e w'=>e=.returned (.slice (some ⟨w.heap.size,0,none⟩) n n)∧Blk w' w.heap.size 9 (L.map fun l=>str l).toArray∧Ext w w':=by
 have C:=Tryz.strings_Fields ⟨T.toArray⟩ w (by rw [Q59];omega) (by simpa using Qfi hasc) ht.sp
 simp only [hL,hn] at C
 refine C.mono ?_
 rintro e w1 ⟨rfl,rfl⟩
 exact ⟨rfl,Blk.new w 9 _,(Ext.refl _).alloc _⟩
set_option maxHeartbeats 16000000 in
theorem Qll (op a b c n:Int) (ho:21≤op∧op≤30) (w:World) (ht:Tabs w) :
  Calls Tryz.prog 97 #[.agg #[.int .i64 op,.int .i64 a,.int .i64 b,.int .i64 c,.int .i64 n]] w fun e w'=>e=.returned (str (Q3l op c))∧Ext w w':=by
 have Ht:=zh ht
 have HC:=zh fun W (X:Ext w W)=>Qke opsB opsW 10 Qi4 rfl (by decide) (by decide +kernel) W (Ht.out.ext X)
 have hix:∀ (k:Nat) (W:World) (i:Int),0≤i→i < 10→(Instr.indexAt 22 (.slice (some ⟨k,0,none⟩) 10 10) (.int .i64 i)).run Tryz.prog W=.ok (.pointer (some ⟨k,i.toNat,none⟩)) W:=fun k W i h0 h1=>by
  have:=Q5l (oa:=some ⟨k,0,none⟩) (n:=10) (cap:=10) (b:=k) (o:=0) (fun _=>rfl) W i h0 (by omega)
  simpa using this
 have hw:Hid (Q3l op c=opsW.getD (op - 21).toNat []):=zh (by unfold Q3l;rw [if_pos (by omega)])
 have hidx:Hid ((op - 21).toNat < 10):=zh (by omega)
 obtain ⟨ho0,ho1⟩:=ho
 clear ht
 go_enter Tryz.func97,Tryz.ntmps97
 go_upto_region 2 with fail
 obtain ⟨W,g,hg,hW,hx,bI⟩:=Q16 w #[.int .i64 op,.int .i64 a,.int .i64 b,.int .i64 c,.int .i64 n] 41
 rw [hW,hg]
 have X:=zh hx
 have c0:W.cell? ⟨g,0,none⟩=some (.int .i64 op):=by rw [bI.cell];rfl
 have k0:∀ Wx,Ext W Wx→Wx.cell? ⟨g,0,none⟩=some (.int .i64 op):=fun _ h=>h.kept c0
 have hgl:=bI.lt
 clear hW hg hx bI c0
 refine Q23 [0,5,6,7] 1 (by kernel_rfl) (by kernel_rfl) ?_
 repeat (first | (refine Q1x ?_ ?_;(decide)) | (refine Q1o ?_ ?_ ?_;(decide);(first | rfl | (focus (go_simp;done)));apply Exists.intro;refine ⟨fun wc hE=>?_,?_⟩;(go_simp;exact rfl);go_simp) | (refine Q1v ?_ ?_ ?_;(decide);(focus (go_simp;done));go_simp))
 refine Q1w ?_
 intro w3 hx
 have X3:=zh (X.out.trans hx)
 have XX:=zh hx
 clear k0 hx hgl
 refine Q01 rfl ?_
 go_wp2_with fail
 have C:=HC.out w3 X3.out
 (with_reducible refine C.mono ?_)
 clear C HC
 rintro e w4 ⟨rfl,hb,hx⟩
 have X4:=zh (X3.out.trans hx)
 have X4':=zh (XX.out.trans hx)
 have hcell:w4.cell? ⟨w3.heap.size,(op - 20).toNat - 1,none⟩=some (str (Q3l op c)):=by
  rw [hb.cell,show (op - 20).toNat - 1=(op - 21).toNat by omega,hw.out]
  have h:=hidx.out
  rw [List.getElem?_toArray,List.getElem?_map,List.getElem?_eq_getElem (show (op - 21).toNat < opsW.length from h)]
  simp [List.getD_eq_getElem?_getD,List.getElem?_eq_getElem (show (op - 21).toNat < opsW.length from h)]
 have hbl:=hb.lt
 generalize w3.heap.size=k at *
 clear hb hx
 go_wp2
 refine ⟨X4'.out,?_⟩
 refine Q1q (Q0c rfl (Q0c rfl (Q0c rfl (Q22)))) ?_
 go_wp2
 go_ret
 exact ⟨rfl,X4.out⟩
set_option maxHeartbeats 16000000 in
theorem Qlm (a b c n:Int) (ho:1≤c∧c≤4) (w:World) (ht:Tabs w) :
  Calls Tryz.prog 97 #[.agg #[.int .i64 8,.int .i64 a,.int .i64 b,.int .i64 c,.int .i64 n]] w fun e w'=>e=.returned (str (Q3l 8 c))∧Ext w w':=by
 have Ht:=zh ht
 have HC:=zh fun W (X:Ext w W)=>Qke Qf7 Q4b 4 Qkt rfl (by decide) (by decide +kernel) W (Ht.out.ext X)
 have hix:∀ (k:Nat) (W:World) (i:Int),0≤i→i < 4→(Instr.indexAt 22 (.slice (some ⟨k,0,none⟩) 4 4) (.int .i64 i)).run Tryz.prog W=.ok (.pointer (some ⟨k,i.toNat,none⟩)) W:=fun k W i h0 h1=>by
  have:=Q5l (oa:=some ⟨k,0,none⟩) (n:=4) (cap:=4) (b:=k) (o:=0) (fun _=>rfl) W i h0 (by omega)
  simpa using this
 have hw:Hid (Q3l 8 c=Q4b.getD (c - 1).toNat []):=zh (by unfold Q3l;rw [if_neg (by omega),if_pos rfl])
 have hidx:Hid ((c - 1).toNat < 4):=zh (by omega)
 obtain ⟨ho0,ho1⟩:=ho
 clear ht
 go_enter Tryz.func97,Tryz.ntmps97
 go_upto_region 5 with fail
 obtain ⟨W,g,hg,hW,hx,bI⟩:=Q16 w #[.int .i64 8,.int .i64 a,.int .i64 b,.int .i64 c,.int .i64 n] 41
 rw [hW,hg]
 have X:=zh hx
 have c0:W.cell? ⟨g,0,none⟩=some (.int .i64 8):=by rw [bI.cell];rfl
 have c3:W.cell? ⟨g,3,none⟩=some (.int .i64 c):=by rw [bI.cell];rfl
 have k0:∀ Wx,Ext W Wx→Wx.cell? ⟨g,3,none⟩=some (.int .i64 c):=fun _ h=>h.kept c3
 have hgl:=bI.lt
 clear hW hg hx bI c0 c3
 refine Q23 [0,4,5,6] 1 (by kernel_rfl) (by kernel_rfl) ?_
 repeat (first | (refine Q1x ?_ ?_;(decide)) | (refine Q1o ?_ ?_ ?_;(decide);(first | rfl | (focus (go_simp;done)));apply Exists.intro;refine ⟨fun wc hE=>?_,?_⟩;(go_simp;exact rfl);go_simp) | (refine Q1v ?_ ?_ ?_;(decide);(focus (go_simp;done));go_simp))
 refine Q1w ?_
 intro w3 hx
 have X3:=zh (X.out.trans hx)
 have XX:=zh hx
 clear k0 hx hgl
 refine Q01 rfl ?_
 go_wp2_with fail
 have C:=HC.out w3 X3.out
 (with_reducible refine C.mono ?_)
 clear C HC
 rintro e w4 ⟨rfl,hb,hx⟩
 have X4:=zh (X3.out.trans hx)
 have X4':=zh (XX.out.trans hx)
 have hcell:w4.cell? ⟨w3.heap.size,c.toNat - 1,none⟩=some (str (Q3l 8 c)):=by
  rw [hb.cell,show c.toNat - 1=(c - 1).toNat by omega,hw.out]
  have h:=hidx.out
  generalize (c - 1).toNat=q at h ⊢
  rw [List.getElem?_toArray,List.getElem?_map,List.getElem?_eq_getElem (show q < Q4b.length from h)]
  simp [List.getD_eq_getElem?_getD,List.getElem?_eq_getElem (show q < Q4b.length from h)]
 have hbl:=hb.lt
 generalize w3.heap.size=k at *
 clear hb hx
 go_wp2
 refine ⟨X4'.out,?_⟩
 refine Q1q (Q0c rfl (Q0c rfl (Q0c rfl (Q22)))) ?_
 go_wp2
 go_ret
 exact ⟨rfl,X4.out⟩
set_option maxHeartbeats 4000000 in
theorem Qlo (i:LIns) (ho:opIs i.op) (hc:i.op=8→1≤i.c∧i.c≤4) (w:World) (ht:Tabs w) :
  Calls Tryz.prog 97 #[.agg #[.int .i64 i.op,.int .i64 i.a,.int .i64 i.b,.int .i64 i.c,.int .i64 i.n]] w fun e w'=>e=.returned (str (Q3l i.op i.c))∧Ext w w':=by
 obtain ⟨op,a,b,c,n⟩:=i
 simp only at *
 by_cases h20:21≤op
 ·exact Qll op a b c n ⟨h20,by unfold opIs at ho;omega⟩ w ht
 by_cases h8:op=8
 ·subst h8
  exact Qlm a b c n (hc rfl) w ht
 have:op=1∨op=2∨op=3∨op=4∨op=5∨op=6∨op=7∨op=9∨op=10∨op=11∨op=12:=by unfold opIs at ho;omega
 clear hc ho h8 h20 ht
 rcases this with rfl | rfl | rfl | rfl | rfl | rfl | rfl | rfl | rfl | rfl | rfl
 all_goals
  go_enter Tryz.func97,Tryz.ntmps97
  go_wp2
  go_ret
  exact ⟨rfl,(Ext.refl _).alloc _⟩
structure Ql8 where
 op:Int
 c:Int
 kinds:List UInt8
 fields:List UInt8
abbrev Qnf (s:Ql8):Value:=.agg #[.int .i64 s.op,.int .i64 s.c,str s.kinds,str s.fields]
def Q2j (x:List UInt8):Ql8 × Bool :=
 if idxW opsW x≠0 then (⟨20+idxW opsW x,0,[114,114,114],[65,66,67]⟩,true) else if idxW Q4b x≠0 then (⟨8,idxW Q4b x,[114,114,110],[65,66,78]⟩,true)
 else if x=[115,101,116] then (⟨1,0,[114,110],[65,78]⟩,true)
 else if x=[109,111,118,101] then (⟨2,0,[114,114],[65,66]⟩,true)
 else if x=[112,108,117,115] then (⟨10,0,[114,114,110],[65,66,78]⟩,true)
 else if x=[108,111,97,100] then (⟨3,0,[114,103,114,110],[65,67,66,78]⟩,true)
 else if x=[112,117,116] then (⟨4,0,[114,103,114,110],[65,67,66,78]⟩,true)
 else if x=[108,111,97,100,107] then (⟨5,0,[114,103,110],[65,67,78]⟩,true)
 else if x=[112,117,116,107] then (⟨6,0,[114,103,110],[65,67,78]⟩,true)
 else if x=[106,117,109,112] then (⟨7,0,[110],[78]⟩,true)
 else if x=[104,97,108,116] then (⟨9,0,[114],[65]⟩,true)
 else if x=[109,97,115,107] then (⟨11,0,[114,110],[65,78]⟩,true)
 else if x=[102,101,110,99,101] then (⟨12,0,[],[]⟩,true)
 else (⟨0,0,[],[]⟩,false)
theorem Qeq:∀ (L:List (List UInt8)) (x:List UInt8),idxW L x≤L.length
 | [],x=>Nat.le_refl _
 | a :: l,x=>by
  have:=Qeq l x
  rw [idxW,List.length_cons]
  split
  ·omega
  ·split <;> omega
theorem Q4r {P:Program} {w:World} {g:Nat} {T t p ty:Nat} {cs:Array Value} {fn:Func} {d:TypeDesc} {v:Value} (h:Blk w g T cs) (hr:fn.results=#[.cell p ty,.tmp t]) (tmps:Array Value) (ht:tmps.getD t undef=v) (hp:tmps.getD p undef=.pointer (some ⟨g,0,none⟩))
  (hu:P.underlying ty=some d) (hd:d.isRow=true) (hi:(P.info? ty).map (·.size)=some cs.size):(results fn tmps).run P w=.ok (.tuple #[.agg cs,v]) w:=by
 have hp':tmps[p]?.getD undef=.pointer (some ⟨g,0,none⟩):=by simpa using hp
 have ht':tmps[t]?.getD undef=v:=by simpa using ht
 have hc:w.rangeAt g 0 cs.toList:=h.range 0 cs.toList (fun j v hv=>by simpa using hv)
 have:=run_loadVar_mid w g 0 ty cs.toList d hc hu hd (by simpa using hi)
 simp only [Array.toArray_toList] at this
 simp [results,hr,hp',ht',asAddr,this]
set_option maxHeartbeats 8000000 in
theorem Qnd (x:List UInt8) (w:World) (ht:Tabs w) :
  Calls Tryz.prog 98 #[str x] w fun e w'=>e=.returned (.tuple #[Qnf (Q2j x).1,.bool (Q2j x).2])∧Ext w w':=by
 have Ht:=zh ht
 have hmf:∀ (fn:Fn) (first cap:Array Value) (w:World),(Instr.makeFunc fn first cap).run Tryz.prog w=.ok (.func fn first cap) w:=fun _ _ _ _=>rfl
 have eg:∀ args w,(callFunc 116 args).run Tryz.prog w=.ok (.enter 116 args) w:=enters_of Tryz.func116 (by kernel_rfl) rfl
 have C1:=zh fun (b:Nat) W (hc:W.cell? ⟨b,0,none⟩=some (str x)) (X:Ext w W)=>Qk2 opsW opsB x b W Qi4 (by decide) (Qfi (by decide +kernel)) (by decide) hc (Ht.out.ext X)
 have C2:=zh fun (b:Nat) W (hc:W.cell? ⟨b,0,none⟩=some (str x)) (X:Ext w W)=>Qk2 Q4b Qf7 x b W Qkt (by decide) (Qfi (by decide +kernel)) (by decide) hc (Ht.out.ext X)
 have hi1:=Qeq opsW x
 have hi2:=Qeq Q4b x
 have hl1:opsW.length=10:=rfl
 have hl2:Q4b.length=4:=rfl
 clear ht
 go_enter Tryz.func98,Tryz.ntmps98
 go_wp2_with fail
 obtain ⟨W,g,hg,hW,hx,bx,bS⟩:=Q14 w #[str x] #[.int .i64 0,.int .i64 0,.string ⟨#[]⟩,.string ⟨#[]⟩] 9 165
 rw [hW,hg]
 have X:=zh hx
 have Hg:Hid (w.heap.size≤g+1):=zh (by omega)
 (with_reducible refine (C1.out g W (by rw [bx.cell];simp) hx).mono ?_)
 clear hW hg hx C1
 rintro e W2 ⟨rfl,hx⟩
 have X:=zh (X.out.trans hx)
 have bx:=bx.ext hx
 have bS:=bS.ext hx
 clear hx
 generalize W2=W at *
 by_cases h1:idxW opsW x=0
 ·have HO:=zh h1
  rw [h1]
  clear h1 hi1
  go_wp2_with fail
  (with_reducible refine (C2.out g W (by rw [bx.cell];simp) X.out).mono ?_)
  clear C2
  rintro e W2 ⟨rfl,hx⟩
  have X:=zh (X.out.trans hx)
  have bx:=bx.ext hx
  have bS:=bS.ext hx
  clear hx
  generalize W2=W at *
  have hgl:=bS.lt
  have hgx:=bx.lt
  have r0:W.cell? ⟨g+1,0,none⟩=some (.int .i64 0)∧W.frozen? ⟨g+1,0,none⟩=false:=⟨by rw [bS.cell];rfl,bS.frozen _⟩
  have r1:W.cell? ⟨g+1,1,none⟩=some (.int .i64 0)∧W.frozen? ⟨g+1,1,none⟩=false:=⟨by rw [bS.cell];rfl,bS.frozen _⟩
  have r2:W.cell? ⟨g+1,2,none⟩=some (.string ⟨#[]⟩)∧W.frozen? ⟨g+1,2,none⟩=false:=⟨by rw [bS.cell];rfl,bS.frozen _⟩
  have r3:W.cell? ⟨g+1,3,none⟩=some (.string ⟨#[]⟩)∧W.frozen? ⟨g+1,3,none⟩=false:=⟨by rw [bS.cell];rfl,bS.frozen _⟩
  have cx:W.cell? ⟨g,0,none⟩=some (str x):=by rw [bx.cell];rfl
  clear bx
  by_cases h2:idxW Q4b x=0
  ·have HC:=zh h2
   rw [h2]
   clear h2 hi2
   have hTL:=Qkw
   by_cases e1:x=[115,101,116]
   ·have HS:Hid (Q2j x=(⟨1,0,[114,110],[65,78]⟩,true)):=zh (by unfold Q2j;rw [if_neg (by simpa using HO.out),if_neg (by simpa using HC.out),if_pos e1])
    have q1:(x == [115,101,116])=true:=by simpa using e1
    clear e1
    have hBk:=zh ((((bS.set_ 0 (.int .i64 1)).set_ 1 (.int .i64 0)).set_ 2 (str [114,110])).set_ 3 (str [65,78]))
    have XX:=zh ((((X.out.setCell (p:=⟨g+1,0,none⟩) Hg.out (.int .i64 1)).setCell (p:=⟨g+1,1,none⟩) Hg.out (.int .i64 0)).setCell (p:=⟨g+1,2,none⟩) Hg.out (str [114,110])).setCell (p:=⟨g+1,3,none⟩) Hg.out (str [65,78]))
    clear bS
    go_wp2
    exact bodyPost_ret (Q4r hBk.out rfl _ rfl rfl Tryz.underlying165 rfl (by kernel_rfl)) rfl ⟨by rw [HS.out];rfl,XX.out⟩
   have q1:(x == [115,101,116])=false:=by simpa using e1
   by_cases e2:x=[109,111,118,101]
   ·have HS:Hid (Q2j x=(⟨2,0,[114,114],[65,66]⟩,true)):=zh (by unfold Q2j;rw [if_neg (by simpa using HO.out),if_neg (by simpa using HC.out),if_neg e1,if_pos e2])
    have q2:(x == [109,111,118,101])=true:=by simpa using e2
    clear e2 e1
    have hBk:=zh ((((bS.set_ 0 (.int .i64 2)).set_ 1 (.int .i64 0)).set_ 2 (str [114,114])).set_ 3 (str [65,66]))
    have XX:=zh ((((X.out.setCell (p:=⟨g+1,0,none⟩) Hg.out (.int .i64 2)).setCell (p:=⟨g+1,1,none⟩) Hg.out (.int .i64 0)).setCell (p:=⟨g+1,2,none⟩) Hg.out (str [114,114])).setCell (p:=⟨g+1,3,none⟩) Hg.out (str [65,66]))
    clear bS
    go_wp2
    exact bodyPost_ret (Q4r hBk.out rfl _ rfl rfl Tryz.underlying165 rfl (by kernel_rfl)) rfl ⟨by rw [HS.out];rfl,XX.out⟩
   have q2:(x == [109,111,118,101])=false:=by simpa using e2
   by_cases e10:x=[112,108,117,115]
   ·have HS:Hid (Q2j x=(⟨10,0,[114,114,110],[65,66,78]⟩,true)):=zh (by unfold Q2j;rw [if_neg (by simpa using HO.out),if_neg (by simpa using HC.out),if_neg e1,if_neg e2,if_pos e10])
    have q10:(x == [112,108,117,115])=true:=by simpa using e10
    clear e10 e1 e2
    have hBk:=zh ((((bS.set_ 0 (.int .i64 10)).set_ 1 (.int .i64 0)).set_ 2 (str [114,114,110])).set_ 3 (str [65,66,78]))
    have XX:=zh ((((X.out.setCell (p:=⟨g+1,0,none⟩) Hg.out (.int .i64 10)).setCell (p:=⟨g+1,1,none⟩) Hg.out (.int .i64 0)).setCell (p:=⟨g+1,2,none⟩) Hg.out (str [114,114,110])).setCell (p:=⟨g+1,3,none⟩) Hg.out (str [65,66,78]))
    clear bS
    go_wp2
    exact bodyPost_ret (Q4r hBk.out rfl _ rfl rfl Tryz.underlying165 rfl (by kernel_rfl)) rfl ⟨by rw [HS.out];rfl,XX.out⟩
   have q10:(x == [112,108,117,115])=false:=by simpa using e10
   by_cases e3:x=[108,111,97,100]
   ·have HS:Hid (Q2j x=(⟨3,0,[114,103,114,110],[65,67,66,78]⟩,true)):=zh (by unfold Q2j;rw [if_neg (by simpa using HO.out),if_neg (by simpa using HC.out),if_neg e1,if_neg e2,if_neg e10,if_pos e3])
    have q3:(x == [108,111,97,100])=true:=by simpa using e3
    clear e3 e1 e2 e10
    have hBk:=zh ((((bS.set_ 0 (.int .i64 3)).set_ 1 (.int .i64 0)).set_ 2 (str [114,103,114,110])).set_ 3 (str [65,67,66,78]))
    have XX:=zh ((((X.out.setCell (p:=⟨g+1,0,none⟩) Hg.out (.int .i64 3)).setCell (p:=⟨g+1,1,none⟩) Hg.out (.int .i64 0)).setCell (p:=⟨g+1,2,none⟩) Hg.out (str [114,103,114,110])).setCell (p:=⟨g+1,3,none⟩) Hg.out (str [65,67,66,78]))
    clear bS
    go_wp2
    exact bodyPost_ret (Q4r hBk.out rfl _ rfl rfl Tryz.underlying165 rfl (by kernel_rfl)) rfl ⟨by rw [HS.out];rfl,XX.out⟩
   have q3:(x == [108,111,97,100])=false:=by simpa using e3
   by_cases e4:x=[112,117,116]
   ·have HS:Hid (Q2j x=(⟨4,0,[114,103,114,110],[65,67,66,78]⟩,true)):=zh (by unfold Q2j;rw [if_neg (by simpa using HO.out),if_neg (by simpa using HC.out),if_neg e1,if_neg e2,if_neg e10,if_neg e3,if_pos e4])
    have q4:(x == [112,117,116])=true:=by simpa using e4
    clear e4 e1 e2 e10 e3
    have hBk:=zh ((((bS.set_ 0 (.int .i64 4)).set_ 1 (.int .i64 0)).set_ 2 (str [114,103,114,110])).set_ 3 (str [65,67,66,78]))
    have XX:=zh ((((X.out.setCell (p:=⟨g+1,0,none⟩) Hg.out (.int .i64 4)).setCell (p:=⟨g+1,1,none⟩) Hg.out (.int .i64 0)).setCell (p:=⟨g+1,2,none⟩) Hg.out (str [114,103,114,110])).setCell (p:=⟨g+1,3,none⟩) Hg.out (str [65,67,66,78]))
    clear bS
    go_wp2
    exact bodyPost_ret (Q4r hBk.out rfl _ rfl rfl Tryz.underlying165 rfl (by kernel_rfl)) rfl ⟨by rw [HS.out];rfl,XX.out⟩
   have q4:(x == [112,117,116])=false:=by simpa using e4
   by_cases e5:x=[108,111,97,100,107]
   ·have HS:Hid (Q2j x=(⟨5,0,[114,103,110],[65,67,78]⟩,true)):=zh (by unfold Q2j;rw [if_neg (by simpa using HO.out),if_neg (by simpa using HC.out),if_neg e1,if_neg e2,if_neg e10,if_neg e3,if_neg e4,if_pos e5])
    have q5:(x == [108,111,97,100,107])=true:=by simpa using e5
    clear e5 e1 e2 e10 e3 e4
    have hBk:=zh ((((bS.set_ 0 (.int .i64 5)).set_ 1 (.int .i64 0)).set_ 2 (str [114,103,110])).set_ 3 (str [65,67,78]))
    have XX:=zh ((((X.out.setCell (p:=⟨g+1,0,none⟩) Hg.out (.int .i64 5)).setCell (p:=⟨g+1,1,none⟩) Hg.out (.int .i64 0)).setCell (p:=⟨g+1,2,none⟩) Hg.out (str [114,103,110])).setCell (p:=⟨g+1,3,none⟩) Hg.out (str [65,67,78]))
    clear bS
    go_wp2
    exact bodyPost_ret (Q4r hBk.out rfl _ rfl rfl Tryz.underlying165 rfl (by kernel_rfl)) rfl ⟨by rw [HS.out];rfl,XX.out⟩
   have q5:(x == [108,111,97,100,107])=false:=by simpa using e5
   by_cases e6:x=[112,117,116,107]
   ·have HS:Hid (Q2j x=(⟨6,0,[114,103,110],[65,67,78]⟩,true)):=zh (by unfold Q2j;rw [if_neg (by simpa using HO.out),if_neg (by simpa using HC.out),if_neg e1,if_neg e2,if_neg e10,if_neg e3,if_neg e4,if_neg e5,if_pos e6])
    have q6:(x == [112,117,116,107])=true:=by simpa using e6
    clear e6 e1 e2 e10 e3 e4 e5
    have hBk:=zh ((((bS.set_ 0 (.int .i64 6)).set_ 1 (.int .i64 0)).set_ 2 (str [114,103,110])).set_ 3 (str [65,67,78]))
    have XX:=zh ((((X.out.setCell (p:=⟨g+1,0,none⟩) Hg.out (.int .i64 6)).setCell (p:=⟨g+1,1,none⟩) Hg.out (.int .i64 0)).setCell (p:=⟨g+1,2,none⟩) Hg.out (str [114,103,110])).setCell (p:=⟨g+1,3,none⟩) Hg.out (str [65,67,78]))
    clear bS
    go_wp2
    exact bodyPost_ret (Q4r hBk.out rfl _ rfl rfl Tryz.underlying165 rfl (by kernel_rfl)) rfl ⟨by rw [HS.out];rfl,XX.out⟩
   have q6:(x == [112,117,116,107])=false:=by simpa using e6
   by_cases e7:x=[106,117,109,112]
   ·have HS:Hid (Q2j x=(⟨7,0,[110],[78]⟩,true)):=zh (by unfold Q2j;rw [if_neg (by simpa using HO.out),if_neg (by simpa using HC.out),if_neg e1,if_neg e2,if_neg e10,if_neg e3,if_neg e4,if_neg e5,if_neg e6,if_pos e7])
    have q7:(x == [106,117,109,112])=true:=by simpa using e7
    clear e7 e1 e2 e10 e3 e4 e5 e6
    have hBk:=zh ((((bS.set_ 0 (.int .i64 7)).set_ 1 (.int .i64 0)).set_ 2 (str [110])).set_ 3 (str [78]))
    have XX:=zh ((((X.out.setCell (p:=⟨g+1,0,none⟩) Hg.out (.int .i64 7)).setCell (p:=⟨g+1,1,none⟩) Hg.out (.int .i64 0)).setCell (p:=⟨g+1,2,none⟩) Hg.out (str [110])).setCell (p:=⟨g+1,3,none⟩) Hg.out (str [78]))
    clear bS
    go_wp2
    exact bodyPost_ret (Q4r hBk.out rfl _ rfl rfl Tryz.underlying165 rfl (by kernel_rfl)) rfl ⟨by rw [HS.out];rfl,XX.out⟩
   have q7:(x == [106,117,109,112])=false:=by simpa using e7
   by_cases e9:x=[104,97,108,116]
   ·have HS:Hid (Q2j x=(⟨9,0,[114],[65]⟩,true)):=zh (by unfold Q2j;rw [if_neg (by simpa using HO.out),if_neg (by simpa using HC.out),if_neg e1,if_neg e2,if_neg e10,if_neg e3,if_neg e4,if_neg e5,if_neg e6,if_neg e7,if_pos e9])
    have q9:(x == [104,97,108,116])=true:=by simpa using e9
    clear e9 e1 e2 e10 e3 e4 e5 e6 e7
    have hBk:=zh ((((bS.set_ 0 (.int .i64 9)).set_ 1 (.int .i64 0)).set_ 2 (str [114])).set_ 3 (str [65]))
    have XX:=zh ((((X.out.setCell (p:=⟨g+1,0,none⟩) Hg.out (.int .i64 9)).setCell (p:=⟨g+1,1,none⟩) Hg.out (.int .i64 0)).setCell (p:=⟨g+1,2,none⟩) Hg.out (str [114])).setCell (p:=⟨g+1,3,none⟩) Hg.out (str [65]))
    clear bS
    go_wp2
    exact bodyPost_ret (Q4r hBk.out rfl _ rfl rfl Tryz.underlying165 rfl (by kernel_rfl)) rfl ⟨by rw [HS.out];rfl,XX.out⟩
   have q9:(x == [104,97,108,116])=false:=by simpa using e9
   by_cases e11:x=[109,97,115,107]
   ·have HS:Hid (Q2j x=(⟨11,0,[114,110],[65,78]⟩,true)):=zh (by unfold Q2j;rw [if_neg (by simpa using HO.out),if_neg (by simpa using HC.out),if_neg e1,if_neg e2,if_neg e10,if_neg e3,if_neg e4,if_neg e5,if_neg e6,if_neg e7,if_neg e9,if_pos e11])
    have q11:(x == [109,97,115,107])=true:=by simpa using e11
    clear e11 e1 e2 e10 e3 e4 e5 e6 e7 e9
    have hBk:=zh ((((bS.set_ 0 (.int .i64 11)).set_ 1 (.int .i64 0)).set_ 2 (str [114,110])).set_ 3 (str [65,78]))
    have XX:=zh ((((X.out.setCell (p:=⟨g+1,0,none⟩) Hg.out (.int .i64 11)).setCell (p:=⟨g+1,1,none⟩) Hg.out (.int .i64 0)).setCell (p:=⟨g+1,2,none⟩) Hg.out (str [114,110])).setCell (p:=⟨g+1,3,none⟩) Hg.out (str [65,78]))
    clear bS
    go_wp2
    exact bodyPost_ret (Q4r hBk.out rfl _ rfl rfl Tryz.underlying165 rfl (by kernel_rfl)) rfl ⟨by rw [HS.out];rfl,XX.out⟩
   have q11:(x == [109,97,115,107])=false:=by simpa using e11
   by_cases e12:x=[102,101,110,99,101]
   ·have HS:Hid (Q2j x=(⟨12,0,[],[]⟩,true)):=zh (by unfold Q2j;rw [if_neg (by simpa using HO.out),if_neg (by simpa using HC.out),if_neg e1,if_neg e2,if_neg e10,if_neg e3,if_neg e4,if_neg e5,if_neg e6,if_neg e7,if_neg e9,if_neg e11,if_pos e12])
    have q12:(x == [102,101,110,99,101])=true:=by simpa using e12
    clear e12 e1 e2 e10 e3 e4 e5 e6 e7 e9 e11
    have hBk:=zh ((((bS.set_ 0 (.int .i64 12)).set_ 1 (.int .i64 0)).set_ 2 (str [])).set_ 3 (str []))
    have XX:=zh ((((X.out.setCell (p:=⟨g+1,0,none⟩) Hg.out (.int .i64 12)).setCell (p:=⟨g+1,1,none⟩) Hg.out (.int .i64 0)).setCell (p:=⟨g+1,2,none⟩) Hg.out (str [])).setCell (p:=⟨g+1,3,none⟩) Hg.out (str []))
    clear bS
    go_wp2
    exact bodyPost_ret (Q4r hBk.out rfl _ rfl rfl Tryz.underlying165 rfl (by kernel_rfl)) rfl ⟨by rw [HS.out];rfl,XX.out⟩
   have q12:(x == [102,101,110,99,101])=false:=by simpa using e12
   have HS:Hid (Q2j x=(⟨0,0,[],[]⟩,false)):=zh (by unfold Q2j;rw [if_neg (by simpa using HO.out),if_neg (by simpa using HC.out),if_neg e1,if_neg e2,if_neg e10,if_neg e3,if_neg e4,if_neg e5,if_neg e6,if_neg e7,if_neg e9,if_neg e11,if_neg e12])
   clear e1 e2 e10 e3 e4 e5 e6 e7 e9 e11 e12
   have hBk:=zh ((((bS.set_ 0 (.int .i64 0)).set_ 1 (.int .i64 0)).set_ 2 (str [])).set_ 3 (str []))
   have XX:=zh ((((X.out.setCell (p:=⟨g+1,0,none⟩) Hg.out (.int .i64 0)).setCell (p:=⟨g+1,1,none⟩) Hg.out (.int .i64 0)).setCell (p:=⟨g+1,2,none⟩) Hg.out (str [])).setCell (p:=⟨g+1,3,none⟩) Hg.out (str []))
   clear bS
   go_wp2
   exact bodyPost_ret (Q4r hBk.out rfl _ rfl rfl Tryz.underlying165 rfl (by kernel_rfl)) rfl ⟨by rw [HS.out];rfl,XX.out⟩
  ·have HS:Hid (Q2j x=(⟨8,idxW Q4b x,[114,114,110],[65,66,78]⟩,true)):=zh (by unfold Q2j;rw [if_neg (by simpa using HO.out),if_pos h2])
   have hpos:0 < idxW Q4b x:=by omega
   generalize idxW Q4b x=k at *
   clear h2
   have hBk:=zh ((((bS.set_ 0 (.int .i64 8)).set_ 1 (.int .i64 (k:Int))).set_ 2 (str [114,114,110])).set_ 3 (str [65,66,78]))
   have XX:=zh ((((X.out.setCell (p:=⟨g+1,0,none⟩) Hg.out (.int .i64 8)).setCell (p:=⟨g+1,1,none⟩) Hg.out (.int .i64 (k:Int))).setCell (p:=⟨g+1,2,none⟩) Hg.out (str [114,114,110])).setCell (p:=⟨g+1,3,none⟩) Hg.out (str [65,66,78]))
   clear bS
   go_wp2
   exact bodyPost_ret (Q4r hBk.out rfl _ rfl rfl Tryz.underlying165 rfl (by kernel_rfl)) rfl ⟨by rw [HS.out];rfl,XX.out⟩
 ·have HS:Hid (Q2j x=(⟨20+idxW opsW x,0,[114,114,114],[65,66,67]⟩,true)):=zh (by unfold Q2j;rw [if_pos h1])
  have hpos:0 < idxW opsW x:=by omega
  have hgl:=bS.lt
  have r0:W.cell? ⟨g+1,0,none⟩=some (.int .i64 0)∧W.frozen? ⟨g+1,0,none⟩=false:=⟨by rw [bS.cell];rfl,bS.frozen _⟩
  have r1:W.cell? ⟨g+1,1,none⟩=some (.int .i64 0)∧W.frozen? ⟨g+1,1,none⟩=false:=⟨by rw [bS.cell];rfl,bS.frozen _⟩
  have r2:W.cell? ⟨g+1,2,none⟩=some (.string ⟨#[]⟩)∧W.frozen? ⟨g+1,2,none⟩=false:=⟨by rw [bS.cell];rfl,bS.frozen _⟩
  have r3:W.cell? ⟨g+1,3,none⟩=some (.string ⟨#[]⟩)∧W.frozen? ⟨g+1,3,none⟩=false:=⟨by rw [bS.cell];rfl,bS.frozen _⟩
  generalize idxW opsW x=k at *
  clear h1 bx
  have hBk:=zh ((((bS.set_ 0 (.int .i64 (20+(k:Int)))).set_ 1 (.int .i64 0)).set_ 2 (str [114,114,114])).set_ 3 (str [65,66,67]))
  have XX:=zh ((((X.out.setCell (p:=⟨g+1,0,none⟩) Hg.out (.int .i64 (20+(k:Int)))).setCell (p:=⟨g+1,1,none⟩) Hg.out (.int .i64 0)).setCell (p:=⟨g+1,2,none⟩) Hg.out (str [114,114,114])).setCell (p:=⟨g+1,3,none⟩) Hg.out (str [65,66,67]))
  clear bS
  go_wp2
  exact bodyPost_ret (Q4r hBk.out rfl _ rfl rfl Tryz.underlying165 rfl (by kernel_rfl)) rfl ⟨by rw [HS.out];rfl,XX.out⟩
end Go.Proofs.YtiafchefbehfbaaGreatDoor
