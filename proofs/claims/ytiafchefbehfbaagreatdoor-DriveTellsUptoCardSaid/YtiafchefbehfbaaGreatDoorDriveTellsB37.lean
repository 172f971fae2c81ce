/- Laid together from: Ck7, Hm, DrH, LoadW, Lm. -/
import Derived.Test.YtiafchefbehfbaaGreatDoorDriveTellsB34
import Derived.Test.YtiafchefbehfbaaGreatDoorDriveTellsB5
import Derived.Test.YtiafchefbehfbaaGreatDoorDriveTellsB23
import Derived.Deep.OwnRows
import Derived.Test.YtiafchefbehfbaaGreatDoorDriveTellsB28
import Derived.Test.YtiafchefbehfbaaGreatDoorDriveTellsB24
import Derived.Test.YtiafchefbehfbaaGreatDoorDriveTellsB18
import Derived.Test.YtiafchefbehfbaaGreatDoorDriveTellsB27
import Derived.Test.YtiafchefbehfbaaGreatDoorDriveTellsB14

namespace Go.Proofs.YtiafchefbehfbaaGreatDoor
open Go.ChangeShapes Go.WideShapes Go.ChangeAt Go.RowKit
set_option linter.unusedVariables false
set_option linter.unusedSimpArgs false
theorem Qf8 (k n cap:Nat) (W:World) (i:Int) (h0:0≤i) (h1:i < n) :
  (Instr.indexAt 49 (.slice (some ⟨k,0,none⟩) n cap) (.int .i64 i)).run Tryz.prog W=.ok (.pointer (some ⟨k,i.toNat,none⟩)) W:=by
 have hs:(Tryz.prog.info? 3).map (·.size)=some 1:=by kernel_rfl
 simp [Instr.indexAt,run_underlying Tryz.underlying49,asIntOf,h0,h1]
 have:=Q4d k 0 i.toNat
 simpa using this
theorem Qao {w:World} {B:Nat} {e:TypeId} {v:Value} {n:Nat} {xs:List Value} (h:w.ownsRow B e 1 v n xs) (hn:0 < n):∃ k cap,v=.slice (some ⟨k,0,none⟩) n cap∧B≤k∧∀ j x,j < n→xs[j]? = some x→w.cell? ⟨k,j,none⟩=some x∧w.frozen? ⟨k,j,none⟩=false:=by
 have h':=h
 rcases h.2 with ⟨-,h0⟩ | ⟨k,cap,cur,rfl,a1,a2,a3⟩
 ·omega
 ·exact ⟨k,cap,rfl,a1,fun j x hj hx=>⟨by rw [h'.cellAt j (by omega),hx],h'.frozenAt j⟩⟩
theorem Qv9 {w:World} {B k n cap:Nat} {e:TypeId} {s:Nat} {xs:List Value} (h:w.ownsRow B e s (.slice (some ⟨k,0,none⟩) n cap) n xs):n≤cap∧cap≤maxLen:=by
 rcases h.2 with ⟨h0,-⟩ | ⟨k',cap',cur,hh,a1,a2,a3,a4,-⟩
 ·cases h0
 ·simp only [Value.slice.injEq,Option.some.injEq,Addr.mk.injEq,and_true,true_and] at hh
  obtain ⟨rfl,rfl⟩:=hh
  exact ⟨a3,a4⟩
theorem Qpk {w:World} {B n cap:Nat} {oa:Option Addr} {e:TypeId} {xs:List Value} {x:Value} (h:w.ownsRow B e 1 (.slice oa (n+1) cap) (n+1) (xs ++ [x])):w.ownsRow B e 1 (.slice oa n cap) n xs:=by
 obtain ⟨h0,h⟩:=h
 have hl:xs.length=n:=by simp at h0;omega
 refine ⟨by omega,?_⟩
 rcases h with ⟨h1,h2⟩ | ⟨g,c,cur,h1,h2,h3,h4,h5,h6,h7⟩
 ·omega
 ·simp only [Value.slice.injEq,true_and] at h1
  obtain ⟨rfl,rfl⟩:=h1
  refine .inr ⟨g,cap,cur,rfl,h2,h3,by omega,h5,h6,?_⟩
  have h8:(cur.toList.take ((n+1) * 1)).take n=(xs ++ [x]).take n:=by rw [h7]
  rw [List.take_take,Nat.mul_one,Nat.min_eq_left (by omega),List.take_append_of_le_length (by omega),List.take_of_length_le (l:=xs) (by omega)] at h8
  rw [Nat.mul_one]
  exact h8
theorem CSt.pop {w:World} {B g ks n cap:Nat} {vR vC:Value} {oa:Option Addr} {p:Q00} {T:Tab} {wk:List Int} {x:Int} (h:CSt w B g ks vR vC (.slice oa (n+1) cap) p T (wk ++ [x])) (hn:wk.length=n) :
  CSt (w.setCell ⟨g,3,none⟩ (.slice oa n cap)) B g ks vR vC (.slice oa n cap) p T wk:=by
 have ho:=h.wk
 have hl:(wk ++ [x]).length=n+1:=by simp [hn]
 rw [hl,List.map_append] at ho
 have ho:=Qpk ho
 have hne:some g≠(Value.slice oa n cap).ownBlock:=Q09 ho h.box (by decide)
 refine ⟨h.box.set_ 3 _,h.row.far (p:=⟨g,3,none⟩) h.box (by decide) (by decide) _,?_,h.tok,h.hg,h.hk⟩
 rw [hn]
 exact Q0r ho hne _
theorem Qrm {P:Nat→Prop} (h:∃ n,P n):∃ n,P n∧∀ m,P m→n≤m:=by
 obtain ⟨n,hn⟩:=h
 induction n using Nat.strongRecOn with
 | ind n ih =>
  by_cases hs:∃ m,m < n∧P m
  ·obtain ⟨m,h1,h2⟩:=hs
   exact ih m h1 h2
  ·exact ⟨n,hn,fun m hm=>by
    rcases Nat.lt_or_ge m n with h1 | h1
    ·exact absurd ⟨m,h1,hm⟩ hs
    ·exact h1⟩
theorem Qql (P:World→Nat→Prop):∃ mu:World→Nat,∀ w n,P w n→P w (mu w)∧mu w≤n:=by
 refine ⟨fun w=>Classical.epsilon fun n=>P w n∧∀ m,P w m→n≤m,fun w n h=>?_⟩
 have:=Classical.epsilon_spec (Qrm ⟨n,h⟩)
 exact ⟨this.1,this.2 n h⟩
def Rnd (p:Q00) (w0:World) (g ks:Nat) (vR vC:Value) (w:World) (n:Nat):Prop :=
 ∃ (T:Tab) (wk:List Int) (vK:Value),meas T wk=n∧n≤87001∧Work p T wk (fun _=>False)∧CSt w w0.heap.size g ks vR vC vK p T wk∧Ext w0 w
def Qwa (p:Q00) (w:World) (e:Ending) (w':World):Prop :=
 ∃ F:Int × Nat,e=.returned (.agg #[.int .i64 F.1,.int .i64 (F.2:Int)])∧Ext w w'∧(Q2p p=true→∃ T,Q6q p T∧F=Q3x p T)∧(Q2p p=false→F=(2,0))
theorem Qu8 {p:Q00} {T:Tab} {n k:Nat} (h:tg T k=none):Q28 p T (n+1) k=Q28 p T n (k+1):=by rw [Q28,h]
theorem Qu7 {p:Q00} {T:Tab} {n k:Nat} {s:KSt} (h:tg T k=some s):Q28 p T (n+1) k=if !Q37 p k s (Q1t p k) then (4,k) else if !Q31 p s (Q1t p k) then (5,k) else Q28 p T n (k+1):=by rw [Q28,h]
theorem Q7n:(Tryz.prog.info? 52).map (·.size)=some 2:=by kernel_rfl
theorem Qtb:(Tryz.prog.info? 95).map (fun i=>(i.zero,i.size,i.bytes))=some (some (.pointer none),1,8):=by kernel_rfl
theorem Qoy (k:Nat) (w:World):(binOp .eql 95 (.pointer (some ⟨k,0,none⟩)) (.pointer none)).run Tryz.prog w=.ok (.bool false) w:=by
 first | (kernel_rfl;done) | (go_simp;done)
theorem Qc3 {w:World} {g:Nat} {T:TypeId} {a b x y:Value} (h:Blk w g T #[a,b]):Blk ((w.setCell ⟨g,0,none⟩ x).setCell ⟨g,1,none⟩ y) g T #[x,y]:=(h.set_ 0 x).set_ 1 y
theorem Qc4 {w w1:World} {g:Nat} {x y:Value} (h:Ext w w1) (hg:w.heap.size≤g):Ext w ((w1.setCell ⟨g,0,none⟩ x).setCell ⟨g,1,none⟩ y):=(h.setCell hg _).setCell hg _
theorem Qo2 (w:World) (k n B:Nat) (hb:Blk w k 95 (madeCells #[.pointer none] n)):Q53 w B k n (List.replicate n none):=by
 refine ⟨_,hb,by simp [madeCells],fun j hj=>?_⟩
 have:tg (List.replicate n (none:Option KSt)) j=none:=by
  unfold tg
  rw [List.getD_eq_getElem?_getD,List.getElem?_replicate,if_pos hj]
  rfl
 rw [this]
 simp [madeCells,hj,Nat.mod_one]
set_option maxRecDepth 100000 in
set_option maxHeartbeats 8000000 in
theorem Qf9 (p:Q00) (v:Value) (w:World) (hp:Q29 w v p):Calls Tryz.prog 14 #[v] w (Qwa p w):=by
 have HP:=zh hp
 obtain ⟨oa,capa,oc,capc,rfl⟩:∃ a b c d,v=.agg #[.slice a p.regs.length b,.slice c p.code.length d]:=by
  obtain ⟨v1,v2,rfl,⟨-,oa,cap,b,o,rfl,-⟩,⟨-,ob,capb,b2,o2,rfl,-⟩⟩:=hp
  exact ⟨_,_,_,_,rfl⟩
 clear hp
 go_enter Tryz.func14,Tryz.ntmps14
 go_upto_region 1 with fail
 obtain ⟨W,gb,hg,hW,hx,bP,bF⟩:=Q14 w #[.slice oa p.regs.length capa,.slice oc p.code.length capc] #[.int .i64 0,.int .i64 0] 28 52
 rw [hW,hg]
 have X:=zh hx
 have hgb:w.heap.size≤gb:=by omega
 have Hgb:=zh hgb
 have p0:W.cell? ⟨gb,0,none⟩=some (.slice oa p.regs.length capa):=by rw [bP.cell];rfl
 have p1:W.cell? ⟨gb,1,none⟩=some (.slice oc p.code.length capc):=by rw [bP.cell];rfl
 clear hW hg hx
 go_wp2_with fail
 have C:=Qqv p _ W (HP.out.ext X.out)
 (with_reducible refine C.mono ?_)
 clear C
 rintro e w1 ⟨rfl,hx⟩
 have bP:=bP.ext hx
 have bF:=bF.ext hx
 have X:=zh (X.out.trans hx)
 have p0:=hx.kept p0
 have p1:=hx.kept p1
 have f0:w1.cell? ⟨gb+1,0,none⟩=some (.int .i64 0)∧w1.frozen? ⟨gb+1,0,none⟩=false:=⟨by rw [bF.cell];rfl,bF.frozen _⟩
 have f1:w1.cell? ⟨gb+1,1,none⟩=some (.int .i64 0)∧w1.frozen? ⟨gb+1,1,none⟩=false:=⟨by rw [bF.cell];rfl,bF.frozen _⟩
 have hgl:=bF.lt
 clear hx hgb
 cases hmay:Q2p p
 ·have BF:=zh bF
  have BP:=zh bP
  clear bF bP
  go_wp2
  exact bodyPost_ret (Q4f (Qc3 BF.out) rfl _ rfl Tryz.underlying52 rfl Q7n) rfl ⟨(2,0),rfl,Qc4 X.out (by have:=Hgb.out;omega),fun h=>(by rw [hmay] at h;cases h),fun _=>rfl⟩
 ·obtain ⟨hr,hc1,hcl,hins⟩:=Q5g hmay
  have Hr:=zh hr
  have Hins:=zh hins
  have Hmay:=zh hmay
  have hmk:∀ wx,(Instr.makeSlice 87 (.int .i64 (p.code.length:Int)) (.int .i64 (p.code.length:Int))).run Tryz.prog wx=.ok (.slice (some ⟨wx.heap.size,0,none⟩) p.code.length p.code.length) (wx.alloc (.cells (madeCells #[.pointer none] p.code.length) 95)):=fun wx =>
   run_make_row' (P:=Tryz.prog) 87 95 (.pointer none) 8 Tryz.underlying87 Qtb rfl .i64 .i64 p.code.length (by omega) (by omega) wx
  clear hr hins hmay
  go_upto_region 3 with fail
  have kp0:∀ W,Ext w1 W→W.cell? ⟨gb,0,none⟩=some (.slice oa p.regs.length capa):=fun _ h=>h.kept p0
  have kp1:∀ W,Ext w1 W→W.cell? ⟨gb,1,none⟩=some (.slice oc p.code.length capc):=fun _ h=>h.kept p1
  have BF:=zh bF
  have BP:=zh bP
  clear f0 f1 bF bP
  refine Q23 [4,5,6,7] 3 (by kernel_rfl) (by kernel_rfl) ?_
  repeat (first | (refine Q1x ?_ ?_;(decide)) | (refine Q1o ?_ ?_ ?_;(decide);(first | rfl | (focus (go_simp;done)));apply Exists.intro;refine ⟨fun wc hE=>?_,?_⟩;(go_simp;exact rfl);go_simp) | (refine Q1v ?_ ?_ ?_;(decide);(focus (go_simp;done));go_simp))
  refine Q1w ?_
  intro w2 hx
  clear kp0 kp1 p0 p1
  refine Q01 rfl ?_
  go_wp2
  refine ⟨hx.alloc _,?_⟩
  refine Q01 rfl ?_
  go_wp2
  refine ⟨hx.alloc _,?_⟩
  refine Q01 rfl ?_
  go_wp2
  refine ⟨(hx.alloc _).alloc _,?_⟩
  refine Q1q (Q0c rfl Q22) ?_
  obtain ⟨w3,hw3,hP3⟩:∃ w3,((w2.alloc (.cells (madeCells #[.pointer none] p.code.length) 95)).alloc (.cells #[.slice oa p.regs.length capa,.slice oc p.code.length capc,.slice (some ⟨w2.heap.size,0,none⟩) p.code.length p.code.length,.slice none 0 0] 89))=w3 ∧
    CSt w3 w1.heap.size (w2.heap.size+1) w2.heap.size (.slice oa p.regs.length capa) (.slice oc p.code.length capc) (.slice none 0 0) p (List.replicate p.code.length none) []∧Ext w1 w3:=by
   have hz:=hx.size
   have b1:=Blk.new w2 95 (madeCells #[.pointer none] p.code.length)
   refine ⟨_,rfl,⟨?_,Qo2 _ _ _ _ (b1.alloc _),World.ownsRow_nil _ _ _ _,⟨by simp,fun k s hk=>?_⟩,by omega,by omega⟩,(hx.alloc _).alloc _⟩
   ·have:=Blk.new (w2.alloc (.cells (madeCells #[.pointer none] p.code.length) 95)) 89 #[.slice oa p.regs.length capa,.slice oc p.code.length capc,.slice (some ⟨w2.heap.size,0,none⟩) p.code.length p.code.length,.slice none 0 0]
    simpa using this
   ·exfalso
    unfold tg at hk
    rw [List.getD_eq_getElem?_getD,List.getElem?_replicate] at hk
    split at hk <;> cases hk
  have hP3:=zh hP3
  try rw [hw3]
  clear hw3
  generalize w2.heap.size=ks at *
  generalize ks+1=g at *
  clear hx hmk
  have hk8:Q49.length=8:=rfl
  have Hcl:=zh hcl
  go_wp2_with fail
  rw [st0]
  have C:=Q4x p 0 Q49 Qj9 hcl (by simp) w3 hP3.out.1
  have e00:((0:Nat):Int)=0:=rfl
  rw [e00] at C
  (with_reducible refine C.mono ?_)
  clear C
  rintro e w4 ⟨rfl,vK,P4,T4⟩
  have hl1:=Qrp p hc1
  rw [hl1.1,hl1.2] at P4
  have E4:=zh (Below.trans hP3.out.2 (Q4y hP3.out.1 T4))
  have P4:=zh P4
  clear T4 hl1 hP3
  obtain ⟨mu,hmu⟩:=Qql (Rnd p w1 g ks (.slice oa p.regs.length capa) (.slice oc p.code.length capc))
  have Hmu:=zh hmu
  clear hmu
  go_wp2_with fail
  go_loopw [] (fun wr => ∃ n,Rnd p w1 g ks (.slice oa p.regs.length capa) (.slice oc p.code.length capc) wr n) (fun wr=>mu wr)
  case atStart=>exact ⟨_,_,_,_,rfl,Qqu p hcl,Qlh p (by omega),P4.out,E4.out⟩
  case round =>
   obtain ⟨n0,hn0⟩:=hrel
   obtain ⟨T,wk,vK,hm,hmb,hw,P,hE⟩:=(Hmu.out wr n0 hn0).1
   clear hn0
   have PP:=zh P
   have XE:=zh hE
   have HW:=zh hw
   have Hm:=zh hm
   have Hmb:=zh hmb
   have hwl:wk.length≤87001:=by unfold meas at hm;omega
   obtain ⟨-,-,g2,g3⟩:=P.cells
   have hgl2:=P.box.lt
   by_cases hne:0 < wk.length
   ·obtain ⟨wk',x,rfl⟩:=Qlg hne
    obtain ⟨k,rfl,hk,s,hs⟩:=hw.elems x (by simp)
    have hl:(wk' ++ [(k:Int)]).length=wk'.length+1:=by simp
    obtain ⟨kb,capb,hvb,hkb,hcs⟩:=Qao P.wk hne
    obtain ⟨hx0,-⟩:=hcs wk'.length (.int .i64 (k:Int)) (by omega) (by simp)
    subst hvb
    have hcap:=Qv9 P.wk
    rw [hl] at g3 hcap hwl
    have P:=PP.out
    rw [hl] at P
    have Hs:=zh hs
    obtain ⟨N,hN⟩:∃ N,wk'.length=N:=⟨_,rfl⟩
    rw [hN] at g3 hcap hwl hx0 P
    have PP:=zh P
    have HN:=zh hN
    have hcap1:=hcap.1
    have hwrN:IntKind.i64.wrap (N:Int)=(N:Int):=Go.IntWalk.i64_in _ (by omega)
    have hsB:(N:Int)≤(capb:Int):=by omega
    have hsD:¬ capb=0:=by omega
    have hixb:∀ W,(Instr.indexAt 49 (.slice (some ⟨kb,0,none⟩) (N+1) capb) (.int .i64 (N:Int))).run Tryz.prog W=.ok (.pointer (some ⟨kb,N,none⟩)) W:=fun W=>by
     have:=Qf8 kb (N+1) capb W (N:Int) (by omega) (by omega)
     simpa using this
    clear hcs hl hw P hE hm hmb hne hs hN
    go_upto_region 6 with fail
    have k3:∀ W,Ext wr W→W.cell? ⟨g,3,none⟩=some (.slice (some ⟨kb,0,none⟩) (N+1) capb):=fun _ h=>h.kept g3.1
    have kx:∀ W,Ext wr W→W.cell? ⟨kb,N,none⟩=some (.int .i64 (k:Int)):=fun _ h=>h.kept hx0
    refine Q0j 13 (by kernel_rfl) (by kernel_rfl) ?_
    simp only [List.take_succ_cons,List.take_zero,List.drop_succ_cons,List.drop_zero]
    repeat (first | (refine Q0d ?_ ?_ ?_;(decide);(first | rfl | (focus (go_simp;done)));apply Exists.intro;refine ⟨fun wc hE=>?_,?_⟩;(go_simp;exact rfl);go_simp) | (refine Q0e ?_ ?_ ?_;(decide);(focus (go_simp;done));go_simp))
    refine Q0f ?_
    intro w5 hx
    clear k3 kx hx0 g2
    have g3:=Q0i hx g3
    have PP:=zh (PP.out.ext hx)
    have XE:=zh (XE.out.trans hx)
    have hgl2:=PP.out.box.lt
    clear hx hixb
    go_upto_region 7 with fail
    have k3:∀ W,Ext w5 W→W.cell? ⟨g,3,none⟩=some (.slice (some ⟨kb,0,none⟩) (N+1) capb):=fun _ h=>h.kept g3.1
    refine Q23 [14] 0 (by kernel_rfl) (by kernel_rfl) ?_
    repeat (first | (refine Q1x ?_ ?_;(decide)) | (refine Q1o ?_ ?_ ?_;(decide);(first | rfl | (focus (go_simp;done)));apply Exists.intro;refine ⟨fun wc hE=>?_,?_⟩;(go_simp;exact rfl);go_simp) | (refine Q1v ?_ ?_ ?_;(decide);(focus (go_simp;done));go_simp))
    refine Q1w ?_
    intro w6 hx
    clear k3
    have g3:=Q0i hx g3
    have PP:=PP.out.ext hx
    have XE:=XE.out.trans hx
    have hgl2:=PP.box.lt
    refine Q1q (Q0c rfl Q22) ?_
    obtain ⟨w7,hw7,hP7⟩:∃ w7,w6.setCell ⟨g,3,none⟩ (.slice (some ⟨kb,0,none⟩) N capb)=w7∧CSt w7 w1.heap.size g ks (.slice oa p.regs.length capa) (.slice oc p.code.length capc) (.slice (some ⟨kb,0,none⟩) N capb) p T wk'∧Ext w1 w7 :=
     ⟨_,rfl,PP.pop HN.out,XE.setCell (p:=⟨g,3,none⟩) PP.hg _⟩
    have P7:=zh hP7.1
    have X7:=zh hP7.2
    clear hx XE PP hP7
    go_upto_region 8 with fail
    try rw [hw7]
    clear g3 hgl2 hw7
    obtain ⟨-,-,g2,-⟩:=P7.out.cells
    have hgl2:=P7.out.box.lt
    obtain ⟨kk,q0,hkk,bS⟩:=(P7.out.row_at hk).2 s Hs.out
    have hq0:=Q0k q0.1
    have hkl:=bS.lt
    have hso:=P7.out.tok.ok k s Hs.out
    have hst:∀ W,(Instr.indexAt 87 (.slice (some ⟨ks,0,none⟩) p.code.length p.code.length) (.int .i64 (k:Int))).run Tryz.prog W=.ok (.pointer (some ⟨ks,k,none⟩)) W:=fun W=>by
     have:=Qen W ks p.code.length p.code.length (k:Int) (by omega) (by omega)
     simpa using this
    have hl8:=hso.len
    have Hso:=zh hso
    clear hso
    go_wp2_with (first | ((with_reducible refine Q3c bS ?_ Tryz.underlying94 ?_ ?_ ?_);rfl;rfl;(rw [Q0v hl8];exact infoState')) | fail)
    have C:=Q48 p k s Hso.out Hr.out Hcl.out hk (Hins.out _ (Q25 hk)) (by rw [HN.out];omega) w7 (HP.out.ext (X.out.trans X7.out)) P7.out
    (with_reducible refine C.mono ?_)
    clear C
    rintro e w8 ⟨rfl,vK',P8,B8⟩
    have HR:=Qle HW.out Hs.out
    have Hnew:Rnd p w1 g ks (.slice oa p.regs.length capa) (.slice oc p.code.length capc) w8 (meas (Q4n p (Q0o p k s (Q1t p k)) (T,wk')).1 (Q4n p (Q0o p k s (Q1t p k)) (T,wk')).2) :=
     ⟨_,_,vK',rfl,by have:=Hm.out;have:=Hmb.out;have:=HR.2;omega,HR.1,P8,Below.trans X7.out B8⟩
    have Hnew:=zh Hnew
    have Hless:Hid (mu w8 < mu wr):=zh (by
     have h1:=(Hmu.out _ _ Hnew.out).2
     have h2:=HR.2
     have h3:=Hm.out
     omega)
    clear HR P8 B8 bS g2 q0
    go_wp2
    go_roundw
    case rel=>exact ⟨_,Hnew.out⟩
    case measure=>exact Hless.out
   ·have hwk:wk=[]:=by
     cases wk with
     | nil=>rfl
     | cons a b=>simp at hne
    subst hwk
    have HL:=zh (Qlf hw)
    obtain ⟨ok,okc,rfl⟩:=Q02 P.wk
    have hl0:(([]:List Int).length:Nat)=0:=rfl
    rw [hl0] at g3
    clear hw P hE hm hmb hne HW Hm Hmb Hmu hl0
    rename World=>wA
    go_wp2_with fail
    go_loopw [70] (fun i wr => ∃ j:Nat,j≤p.code.length∧i=.int .i64 j∧Ext wA wr∧Q28 p T (p.code.length - j) j=Q3x p T) (fun i _=>p.code.length - (intOf i).toNat)
    case atStart=>exact ⟨0,by omega,rfl,Ext.refl _,rfl⟩
    case round =>
     obtain ⟨j,hj,rfl,hE2,hF⟩:=hrel
     have P:=PP.out.ext hE2
     have X2:=zh hE2
     have HF:=zh hF
     clear g2 g3 hgl2
     obtain ⟨-,-,g2,-⟩:=P.cells
     have hgl2:=P.box.lt
     clear hE2 hF
     by_cases hlt:j < p.code.length
     ·have hst:∀ W,(Instr.indexAt 87 (.slice (some ⟨ks,0,none⟩) p.code.length p.code.length) (.int .i64 (j:Int))).run Tryz.prog W=.ok (.pointer (some ⟨ks,j,none⟩)) W:=fun W=>by
       have:=Qen W ks p.code.length p.code.length (j:Int) (by omega) (by omega)
       simpa using this
      have hnj:p.code.length - j=(p.code.length - (j+1))+1:=by omega
      cases ht:tg T j with
      | none =>
       obtain ⟨q0,-⟩:=(P.row_at hlt).1 ht
       have Hn:=zh (show Q28 p T (p.code.length - (j+1)) (j+1)=Q3x p T by rw [← HF.out,hnj,Qu8 ht])
       clear P ht hnj
       go_wp2
       go_roundw
       case rel=>exact ⟨j+1,by omega,by go_num,X2.out,Hn.out⟩
       case measure=>first | (simp [intOf];done) | (simp [intOf];omega)
      | some s =>
       obtain ⟨kk,q0,hkk,bS⟩:=(P.row_at hlt).2 s ht
       have hq0:=Q0k q0.1
       have hkl:=bS.lt
       have hso:=P.tok.ok j s ht
       have hl8:=hso.len
       have Hso:=zh hso
       have hpn:=Qoy kk
       have BS:=zh bS
       have Hf:=zh (Qu7 (p:=p) (n:=p.code.length - (j+1)) ht)
       have HF2:Hid (Q28 p T (p.code.length - (j+1)+1) j=Q3x p T):=zh (by rw [← hnj];exact HF.out)
       clear hso hnj ht
       go_wp2_with (first | ((with_reducible refine Q3c bS ?_ Tryz.underlying94 ?_ ?_ ?_);rfl;rfl;(rw [Q0v hl8];exact infoState')) | fail)
       have C:=Qvh p j s Hso.out Hr.out Hcl.out hlt (Hins.out _ (Q25 hlt)) wr (HP.out.ext (X.out.trans (XE.out.trans X2.out))) P
       (with_reducible refine C.mono ?_)
       clear C
       rintro e w5 ⟨rfl,hx⟩
       have P:=P.ext hx
       have X2:=zh (X2.out.trans hx)
       have bS:=BS.out.ext hx
       have BS:=zh bS
       have q0:=Q0i hx q0
       have hkl:=bS.lt
       have hq0:=Q0k q0.1
       clear hx
       cases hb:Q37 p j s (Q1t p j)
       ·have HE:=zh (show ((4:Int),j)=Q3x p T by rw [← HF2.out,Hf.out,hb];rfl)
        have bF:=BF.out.ext (XE.out.trans X2.out)
        have f0:w5.cell? ⟨gb+1,0,none⟩=some (.int .i64 0)∧w5.frozen? ⟨gb+1,0,none⟩=false:=⟨by rw [bF.cell];rfl,bF.frozen _⟩
        have f1:w5.cell? ⟨gb+1,1,none⟩=some (.int .i64 0)∧w5.frozen? ⟨gb+1,1,none⟩=false:=⟨by rw [bF.cell];rfl,bF.frozen _⟩
        have hgl3:=bF.lt
        clear bF
        clear bS q0 P hb
        go_wp2
        exact bodyPost_ret (Q4f (Qc3 (BF.out.ext (XE.out.trans X2.out))) rfl _ rfl Tryz.underlying52 rfl Q7n) rfl ⟨(4,j),rfl,Qc4 (X.out.trans (XE.out.trans X2.out)) (by have:=Hgb.out;omega),fun _=>⟨T,HL.out,HE.out⟩,fun h=>(by rw [Hmay.out] at h;cases h)⟩
       ·have Hb:=zh hb
        clear hb
        go_wp2_with (first | ((with_reducible refine Q3c bS ?_ Tryz.underlying94 ?_ ?_ ?_);rfl;rfl;(rw [Q0v hl8];exact infoState')) | fail)
        have C:=Qos p j s Hso.out Hr.out Hcl.out hlt (Hins.out _ (Q25 hlt)) w5 (HP.out.ext (X.out.trans (XE.out.trans X2.out))) P
        (with_reducible refine C.mono ?_)
        clear C
        rintro e w6 ⟨rfl,hx⟩
        have X2:=zh (X2.out.trans hx)
        clear hx P bS q0
        cases hq:Q31 p s (Q1t p j)
        ·have HE:=zh (show ((5:Int),j)=Q3x p T by rw [← HF2.out,Hf.out,Hb.out,hq];rfl)
         have bF:=BF.out.ext (XE.out.trans X2.out)
         have f0:w6.cell? ⟨gb+1,0,none⟩=some (.int .i64 0)∧w6.frozen? ⟨gb+1,0,none⟩=false:=⟨by rw [bF.cell];rfl,bF.frozen _⟩
         have f1:w6.cell? ⟨gb+1,1,none⟩=some (.int .i64 0)∧w6.frozen? ⟨gb+1,1,none⟩=false:=⟨by rw [bF.cell];rfl,bF.frozen _⟩
         have hgl3:=bF.lt
         clear bF
         clear hq
         go_wp2
         exact bodyPost_ret (Q4f (Qc3 (BF.out.ext (XE.out.trans X2.out))) rfl _ rfl Tryz.underlying52 rfl Q7n) rfl ⟨(5,j),rfl,Qc4 (X.out.trans (XE.out.trans X2.out)) (by have:=Hgb.out;omega),fun _=>⟨T,HL.out,HE.out⟩,fun h=>(by rw [Hmay.out] at h;cases h)⟩
        ·have Hn:=zh (show Q28 p T (p.code.length - (j+1)) (j+1)=Q3x p T by rw [← HF2.out,Hf.out,Hb.out,hq];rfl)
         clear hq
         go_wp2
         go_roundw
         case rel=>exact ⟨j+1,by omega,by go_num,X2.out,Hn.out⟩
         case measure=>first | (simp [intOf];done) | (simp [intOf];omega)
     ·have hje:j=p.code.length:=by omega
      subst hje
      have hlt2:decide ((p.code.length:Int) < (p.code.length:Int))=false:=by simp
      have HE:=zh (show ((0:Int),0)=Q3x p T by rw [← HF.out,Nat.sub_self];rfl)
      have bF:=BF.out.ext (XE.out.trans X2.out)
      have f0:wr.cell? ⟨gb+1,0,none⟩=some (.int .i64 0)∧wr.frozen? ⟨gb+1,0,none⟩=false:=⟨by rw [bF.cell];rfl,bF.frozen _⟩
      have f1:wr.cell? ⟨gb+1,1,none⟩=some (.int .i64 0)∧wr.frozen? ⟨gb+1,1,none⟩=false:=⟨by rw [bF.cell];rfl,bF.frozen _⟩
      have hgl3:=bF.lt
      clear bF
      clear P
      go_wp2
      exact bodyPost_ret (Q4f (Qc3 (BF.out.ext (XE.out.trans X2.out))) rfl _ rfl Tryz.underlying52 rfl Q7n) rfl ⟨(0,0),rfl,Qc4 (X.out.trans (XE.out.trans X2.out)) (by have:=Hgb.out;omega),fun _=>⟨T,HL.out,HE.out⟩,fun h=>(by rw [Hmay.out] at h;cases h)⟩
theorem Qof (p:Q00) {k:Nat} (hk:k < p.code.length):(p.code.take (k+1)).flatMap (Q10 p)=(p.code.take k).flatMap (Q10 p) ++ Q10 p (p.code.getD k default):=by
 rw [List.take_succ_eq_append_getElem hk,List.flatMap_append]
 simp [hk]
theorem Qpc (p:Q00) (k:Nat):(List.range (k+1)).map (fun k=>((Q0s p k:Nat):Int))=(List.range k).map (fun k=>((Q0s p k:Nat):Int)) ++ [((Q0s p k:Nat):Int)]:=by
 rw [List.range_succ,List.map_append]
 rfl
theorem Qdh (p:Q00) (k:Nat):((p.code.take k).flatMap (Q10 p)).length≤3 * p.code.length:=by
 have h1:=Q7q (Q10 p) 3 (p.code.take k) (fun x _=>by rw [Q7y];split <;> omega)
 have h2:(p.code.take k).length≤p.code.length:=by simp;omega
 omega
theorem Qoc {p:Q00} (hins:∀ i ∈ p.code,Q04 p 8 i=true):∀ i ∈ rawH p,i.op=7∨i.op=8→0≤i.n∧i.n.toNat < p.code.length:=by
 intro i hi h
 obtain ⟨j,hj,hij⟩:=List.mem_flatMap.1 hi
 unfold Q10 at hij
 split at hij
 ·rename_i h3
  simp only [List.mem_cons,List.not_mem_nil,or_false] at hij
  exfalso
  rcases hij with rfl | rfl | rfl <;> simp at h <;> omega
 ·simp only [List.mem_singleton] at hij
  subst hij
  have h0:=hins i hj
  obtain ⟨op,a,b,c,n⟩:=i
  simp only at h
  rcases h with rfl | rfl <;> (unfold Q04 at h0;simp [okIn] at h0;simp only;omega)
theorem Qod {p:Q00} (hr:Q0p p.regs=true) (hins:∀ i ∈ p.code,Q04 p 8 i=true) (hf:∀ i ∈ p.code,i.fits):∀ i ∈ rawH p,i.fits:=by
 intro i hi
 obtain ⟨j,hj,hij⟩:=List.mem_flatMap.1 hi
 have hfj:=hf j hj
 unfold Q10 at hij
 split at hij
 ·rename_i h3
  have hc:=Q5s (hins j hj) (by unfold Q0q Q1m;rcases h3 with h | h <;> simp [h])
  have hw:Q0t (Q11 p j)≤64:=by
   have hm:Q11 p j ∈ p.regs:=by
    unfold Q11
    simp [hc.2]
   exact Q6s _ (Q6o hr _ hm).2
  obtain ⟨f1,f2,f3,f4,f5⟩:=hfj
  simp only [List.mem_cons,List.not_mem_nil,or_false] at hij
  rcases hij with rfl | rfl | rfl
  ·exact ⟨by unfold R64;simp,by unfold R64;simp,f3,by unfold R64;simp,f5⟩
  ·exact ⟨by unfold R64;simp,by unfold R64;simp,by unfold R64;simp,by unfold R64;simp,by unfold R64;simp only;omega⟩
  ·exact ⟨f1,f2,by unfold R64;simp,f4,by unfold R64;simp⟩
 ·simp only [List.mem_singleton] at hij
  subst hij
  exact hfj
theorem Qtl {p:Q00} (hr:Q0p p.regs=true) (hcl:p.code.length≤200) (hins:∀ i ∈ p.code,Q04 p 8 i=true) (hf:∀ i ∈ p.code,i.fits):∀ i ∈ (Q06 p).code,i.fits:=by
 intro i hi
 obtain ⟨j,hj,rfl⟩:=List.mem_map.1 hi
 have h:=Qod hr hins hf j hj
 unfold Q1j
 split
 ·obtain ⟨f1,f2,f3,f4,f5⟩:=h
  have hp:Q0s p j.n.toNat≤600:=by
   have:=Qdh p j.n.toNat
   unfold Q0s plc
   omega
  exact ⟨f1,f2,f3,f4,by unfold R64;simp only;omega⟩
 ·exact h
theorem Qbs {w:World} {g:Nat} {T U:TypeId} {a b c d x y z u:Value} (hA:Blk w g T #[a,b]) (hB:Blk w (g+1) U #[c,d]) :
  Blk ((((w.setCell ⟨g,0,none⟩ x).setCell ⟨g,1,none⟩ y).setCell ⟨g+1,0,none⟩ z).setCell ⟨g+1,1,none⟩ u) g T #[x,y]∧Blk ((((w.setCell ⟨g,0,none⟩ x).setCell ⟨g,1,none⟩ y).setCell ⟨g+1,0,none⟩ z).setCell ⟨g+1,1,none⟩ u) (g+1) U #[z,u] :=
 ⟨(((hA.set_ 0 x).set_ 1 y).far (p:=⟨g+1,0,none⟩) (by simp) z).far (p:=⟨g+1,1,none⟩) (by simp) u,(((hB.far (p:=⟨g,0,none⟩) (by simp) x).far (p:=⟨g,1,none⟩) (by simp) y).set_ 0 z).set_ 1 u⟩
theorem Qip {w w1:World} {g:Nat} {x y z u:Value} (h:Ext w w1) (hg:w.heap.size≤g):Ext w ((((w1.setCell ⟨g,0,none⟩ x).setCell ⟨g,1,none⟩ y).setCell ⟨g+1,0,none⟩ z).setCell ⟨g+1,1,none⟩ u) :=
 (((h.setCell (p:=⟨g,0,none⟩) hg _).setCell (p:=⟨g,1,none⟩) hg _).setCell (p:=⟨g+1,0,none⟩) (Nat.le_succ_of_le hg) _).setCell (p:=⟨g+1,1,none⟩) (Nat.le_succ_of_le hg) _
theorem Qhx {w:World} {g base:Nat} {T U e:TypeId} {size n:Nat} {v:Value} {xs:List Value} {A B:Array Value} {x y z u:Value} (h:w.ownsRow base e size v n xs) (hA:Blk w g T A) (hB:Blk w (g+1) U B) (h1:e≠T) (h2:e≠U) :
  ((((w.setCell ⟨g,0,none⟩ x).setCell ⟨g,1,none⟩ y).setCell ⟨g+1,0,none⟩ z).setCell ⟨g+1,1,none⟩ u).ownsRow base e size v n xs:=by
 have n1:=Q09 h hA h1
 have n2:=Q09 h hB h2
 exact Q0r (Q0r (Q0r (Q0r h n1 _) n1 _) n2 _) n2 _
theorem Qkf (p:Q00) (T:Tab):(Q3x p T).1=0→Q3x p T=(0,0):=by
 have key:∀ (n k:Nat),(Q28 p T n k).1=0→Q28 p T n k=(0,0):=by
  intro n
  induction n with
  | zero=>intro k _;rfl
  | succ n ih =>
   intro k h
   rw [Q28] at h ⊢
   split
   ·rename_i h1;rw [h1] at h;exact ih _ h
   ·rename_i s h1
    rw [h1] at h
    simp only at h
    split
    ·rename_i h2;rw [if_pos h2] at h;simp at h
    ·rename_i h2
     rw [if_neg h2] at h
     split
     ·rename_i h3;rw [if_pos h3] at h;simp at h
     ·rename_i h3;rw [if_neg h3] at h;exact ih _ h
 exact key _ _
theorem Qge {w:World} {k:Nat} {l:List LIns} (h:Blk w k 41 (l.flatMap Q21).toArray):Src w 5 (some ⟨k,0,none⟩) l.length (l.flatMap Q21):=by
 have:=Qmx (size:=5) (m:=l.length) h (by rw [List.size_toArray,Qew Q21 5 (fun _=>rfl)]) (by
  rw [Array.all_eq_true']
  intro u hu
  simp only [List.mem_toArray,List.mem_flatMap] at hu
  obtain ⟨i,-,hi⟩:=hu
  simp only [Q21,List.mem_cons,List.not_mem_nil,or_false] at hi
  rcases hi with rfl | rfl | rfl | rfl | rfl <;> rfl)
 simpa using this
def Qw4 (q:Q00→Q00) (p:Q00) (w:World) (e:Ending) (w':World):Prop :=
 ∃ (u:Value) (F:Int × Nat),e=.returned (.tuple #[u,.agg #[.int .i64 F.1,.int .i64 (F.2:Int)]])∧Ext w w'∧(Q2p p=true→∃ T,Q6q p T∧F=Q3x p T)∧(Q2p p=false→F=(2,0))∧(F.1=0→Q2p p=true∧Q29 w' u (q p))∧(F.1≠0→u=.agg #[.slice none 0 0,.slice none 0 0])
def Qw5 (q:Q00→Q00) (p:Q00) (w:World) (e:Ending) (w':World):Prop :=
 ∃ (u:Value) (F:Int × Nat),e=.returned (.tuple #[u,.agg #[.int .i64 F.1,.int .i64 (F.2:Int)]])∧Ext w w'∧(Q2p p=true→∃ T,Q6q p T∧F=Q3x p T)∧(Q2p p=false→F=(2,0)) ∧
  (F.1=0→Q2p p=true∧∃ vR vC,u=.agg #[vR,vC]∧w'.ownsRow w.heap.size 67 2 vR (q p).regs.length ((q p).regs.flatMap Q40)∧w'.ownsRow w.heap.size 41 5 vC (q p).code.length ((q p).code.flatMap Q21)∧∀ i ∈ (q p).code,i.fits)∧(F.1≠0→u=.agg #[.slice none 0 0,.slice none 0 0])
set_option maxRecDepth 100000 in
set_option maxHeartbeats 8000000 in
theorem Qet (p:Q00) (v:Value) (w:World) (hp:Q29 w v p):Calls Tryz.prog 16 #[v] w (Qw5 Q06 p w):=by
 have HP:=zh hp
 obtain ⟨oa,capa,oc,capc,rfl⟩:∃ a b c d,v=.agg #[.slice a p.regs.length b,.slice c p.code.length d]:=by
  obtain ⟨v1,v2,rfl,⟨-,oa,cap,b,o,rfl,-⟩,⟨-,ob,capb,b2,o2,rfl,-⟩⟩:=hp
  exact ⟨_,_,_,_,rfl⟩
 obtain ⟨i0,hi0,hz0,hz1,hz2⟩:=info_parts Qta
 obtain ⟨j0,hj0,hy0,hy1,hy2⟩:=info_parts Qem
 obtain ⟨k0,hk0,hx0,hx1,hx2⟩:=info_parts Qel
 clear hp
 go_enter Tryz.func16,Tryz.ntmps16
 go_upto_region 1 with fail
 obtain ⟨W,g,hg,hW,hx,bP,bR,bF⟩:=Qkz w #[.slice oa p.regs.length capa,.slice oc p.code.length capc] #[.slice none 0 0,.slice none 0 0] #[.int .i64 0,.int .i64 0] 28 28 52
 rw [hW,hg]
 have X:=zh hx
 have Hg:=zh hg
 have BP:=zh bP
 have BR:=zh bR
 have BF:=zh bF
 have p0:W.cell? ⟨g,0,none⟩=some (.slice oa p.regs.length capa):=by rw [bP.cell];rfl
 have p1:W.cell? ⟨g,1,none⟩=some (.slice oc p.code.length capc):=by rw [bP.cell];rfl
 clear hW hg hx bP bR bF
 go_wp2_with fail
 have C:=Qf9 p _ W (HP.out.ext X.out)
 (with_reducible refine C.mono ?_)
 clear C
 rintro e w1 ⟨F,rfl,hx,h1,h2⟩
 have X1:=zh hx
 have H1:=zh h1
 have H2:=zh h2
 clear hx h1 h2 p0 p1
 go_upto_region 2 with fail
 obtain ⟨w2,gf,hgf,hW,hx,bT⟩:=Q16 w1 #[.int .i64 F.1,.int .i64 (F.2:Int)] 52
 rw [hW,hgf]
 have X2:=zh (X1.out.trans hx)
 have BT:=zh bT
 have hgg:g+1+1 < gf:=by have:=(BF.out.ext X1.out).lt;omega
 have t0:w2.cell? ⟨gf,0,none⟩=some (.int .i64 F.1):=by rw [bT.cell];rfl
 have t1:w2.cell? ⟨gf,1,none⟩=some (.int .i64 (F.2:Int)):=by rw [bT.cell];rfl
 clear hW hgf hx bT
 by_cases hF:F.1=0
 ·have hq:(F.1 != (0:Int))=false:=by simp [hF]
  have hmay:Q2p p=true:=by
   cases hm:Q2p p
   ·have:=H2.out hm
    rw [this] at hF
    simp at hF
   ·rfl
  obtain ⟨hr,hc1,hcl,hins⟩:=Q5g hmay
  have hrl:=Q4g hr
  obtain ⟨v1,v2,hv,hR,hC⟩:=HP.out
  simp only [Value.agg.injEq,Array.mk.injEq,List.cons.injEq,and_true] at hv
  obtain ⟨rfl,rfl⟩:=hv
  obtain ⟨hr64,oa',capa',br,orr,hv3,hd1,hd2,hrow2⟩:=hR
  simp only [Value.slice.injEq,true_and] at hv3
  obtain ⟨rfl,rfl⟩:=hv3
  obtain ⟨hfi,oc',capc',bc,oo,hv2,hcc1,hcc2,hrow⟩:=hC
  simp only [Value.slice.injEq,true_and] at hv2
  obtain ⟨rfl,rfl⟩:=hv2
  have HRW:=zh (hrow2.ext (X.out.trans X2.out))
  have HCW:=zh (hrow.ext (X.out.trans X2.out))
  have hixr:=Q50 (cap:=capa) hrow2.at_
  have hixc:=Q24 (cap:=capc) hrow.at_
  have Hr64:=zh hr64
  have Hfi:=zh hfi
  have Hr:=zh hr
  have Hins:=zh hins
  have Hmay:=zh hmay
  have HF:=zh hF
  have bP:=BP.out.ext X2.out
  have p0:w2.cell? ⟨g,0,none⟩=some (.slice oa p.regs.length capa):=by rw [bP.cell];rfl
  have p1:w2.cell? ⟨g,1,none⟩=some (.slice oc p.code.length capc):=by rw [bP.cell];rfl
  have hgl:=bP.lt
  clear hrow hrow2 hr64 hfi hr hins hmay hF hd1 hd2 hcc1 hcc2 bP
  go_wp2_with (at_builtin;refine Q1b _ rfl _ _ 25 rfl w2.heap.size 67 i0 _ 2 16 Tryz.underlying25 hi0 hz0 hz1 hz2 rfl (by decide) _ 0 [] rfl ?c0 oa p.regs.length capa (p.regs.flatMap Q40) rfl ?c1 ?c3 ?c4 ?c5 ?_)
  case c0 =>
   have h:=World.ownsRow_lit (base:=w2.heap.size) (e:=67) (size:=2) w2 #[] 0 (Nat.le_refl _) (by decide) rfl
   simpa [Act.eval] using h
  case c1=>exact Qmu (HRW.out.ext ((Ext.refl w2).alloc _))
  case c3=>unfold maxLen;omega
  case c4=>omega
  case c5=>simp
  intro v1 w3 hown hgrow hat
  obtain ⟨o1,c1,rfl⟩:=Q02 hown
  have hx3:Ext w2 w3:=((Ext.refl w2).alloc _).grown hgrow (by
   intro k hk
   simp [Act.eval,Value.ownBlock] at hk
   omega)
  have X3:=zh hx3
  have OR:Hid (w3.ownsRow w2.heap.size 67 2 (.slice o1 p.regs.length c1) p.regs.length (p.regs.flatMap Q40)):=zh (by simpa using hown)
  have p1:=hx3.kept p1
  have hgl:g < w3.heap.size:=hx3.lt hgl
  clear hown hgrow hat hx3 p0
  go_upto_region 5 with fail
  obtain ⟨w4,go,hg4,hW,hx,bO⟩:=Q16 w3 #[.slice o1 (0+p.regs.length) c1,.slice none 0 0] 28
  try simp only [Nat.zero_add] at hW bO
  rw [hW,hg4]
  have X4:=zh (X3.out.trans hx)
  have HS:Hid (HSt w2 w4 w2.heap.size go (.slice o1 p.regs.length c1) (.slice none 0 0) (.slice none 0 0) p.regs [] []):=zh ⟨bO,Q19 OR.out hx,World.ownsRow_nil _ _ _ _,World.ownsRow_nil _ _ _ _,X3.out.trans hx,by have:=X3.out.size;omega,Nat.le_refl _⟩
  have p1:=hx.kept p1
  clear hW hg4 hx bO OR hgl
  go_wp2_with fail
  go_loopw [6,27] (fun vP i wr => ∃ (k:Nat) (vC:Value),i=.int .i64 (k:Int)∧k≤p.code.length∧HSt w2 wr w2.heap.size go (.slice o1 p.regs.length c1) vC vP p.regs ((p.code.take k).flatMap (Q10 p)) ((List.range k).map fun k=>((Q0s p k:Nat):Int))) (fun _ i _=>p.code.length - (intOf i).toNat)
  case atStart=>exact ⟨0,_,rfl,by omega,by simpa using HS.out⟩
  case round =>
   obtain ⟨k,vC,rfl,hk,hS⟩:=hrel
   have HS:=zh hS
   obtain ⟨op,cp,rfl⟩:=Q02 hS.pl
   obtain ⟨oC,cC,rfl⟩:=Q02 hS.cd
   have hrawl:=Qdh p k
   have hpll:((List.range k).map fun k=>((Q0s p k:Nat):Int)).length=k:=by simp
   rw [hpll] at hS
   have HS:=zh hS
   rw [hpll]
   by_cases hlt:k < p.code.length
   ·obtain ⟨e0,e1,e2,e3,e4⟩:=(HCW.out.ext hS.ext).ins k hlt
    have hjk:p.code[k]? = some (p.code.getD k default):=by simp [hlt]
    have Hraw:=zh (Qof p hlt)
    have Hpls:=zh (Qpc p k)
    have Hpk:Hid (((p.code.take k).flatMap (Q10 p)).length=Q0s p k):=zh rfl
    have Hio:=zh (Hins.out _ (Q25 hlt))
    generalize p.code.getD k default=I at *
    obtain ⟨op',a,b,c,n⟩:=I
    simp only at e0 e1 e2 e3 e4
    obtain ⟨d0,d1⟩:=hS.cells
    have hgol:=hS.box.lt
    have hbl:=Q0k e0
    simp only at hbl
    clear hS hjk
    generalize (p.code.take k).flatMap (Q10 p)=code at *
    generalize ((List.range k).map fun k=>((Q0s p k:Nat):Int))=pls at *
    go_upto_region 9 with fail
    obtain ⟨w5,gi,hgi,hW,hx,bI⟩:=Q16 wr #[.int .i64 op',.int .i64 a,.int .i64 b,.int .i64 c,.int .i64 n] 41
    rw [hW,hgi]
    have HS5:=zh (HS.out.extend hx)
    have BI:=zh bI
    have HcB:Hid (∀ kk,(Value.slice oC code.length cC).ownBlock=some kk→kk < gi):=zh fun kk hkk=>by
     have:=(HS.out.cd.lt kk hkk).2
     omega
    have hBs:=HS5.out.size
    obtain ⟨d0,d1⟩:=HS5.out.cells
    have p1:w5.cell? ⟨g,1,none⟩=some (.slice oc p.code.length capc):=(HS5.out.ext).kept (by rw [(BP.out.ext X2.out).cell];rfl)
    have p0:w5.cell? ⟨g,0,none⟩=some (.slice oa p.regs.length capa):=(HS5.out.ext).kept (by rw [(BP.out.ext X2.out).cell];rfl)
    clear hW hgi hx bI e0 e1 e2 e3 e4 hgol hbl
    go_wp2_with (at_builtin;refine Q1b _ rfl _ _ 49 rfl w2.heap.size 3 k0 _ 1 8 Tryz.underlying49 hk0 hx0 hx1 hx2 rfl (by decide) _ _ _ rfl (Q1r HS5.out.pl) (some ⟨w5.heap.size,0,none⟩) 1 1 [.int .i64 (code.length:Int)] rfl ?c1 ?c3 ?c4 ?c5 ?_)
    case c1=>exact Q1y (size:=1) (Blk.new w5 3 #[.int .i64 (code.length:Int)]) rfl (by simp [Value.oneCell'])
    case c3=>unfold maxLen;omega
    case c4=>omega
    case c5=>simp;omega
    intro vP' w6 hown hgrow hat2
    clear hat2
    obtain ⟨op2,cp2,rfl⟩:=Q02 hown
    have hxa:=(Ext.refl w5).alloc (.cells #[.int .i64 (code.length:Int)] 3)
    have HSa:=HS5.out.extend hxa
    have hgrow:(w5.alloc (.cells #[.int .i64 (code.length:Int)] 3)).grownBy w6 (Value.slice op k cp).ownBlock:=hgrow
    have HS6:=zh (HSa.place (ps:=pls ++ [((Q0s p k:Nat):Int)]) hgrow (by rw [← Hpk.out];simpa [hpll] using hown))
    have bI6:=(BI.out.ext hxa).grown hgrow (Q09 HSa.pl (BI.out.ext hxa) (by decide))
    have BI6:=zh bI6
    obtain ⟨d0,d1⟩:=HS6.out.cells
    have HE6:=HS6.out.ext
    have p0:w6.cell? ⟨g,0,none⟩=some (.slice oa p.regs.length capa):=HE6.kept (by rw [(BP.out.ext X2.out).cell];rfl)
    have i0':w6.cell? ⟨gi,0,none⟩=some (.int .i64 op'):=by rw [bI6.cell];rfl
    have i1':w6.cell? ⟨gi,1,none⟩=some (.int .i64 a):=by rw [bI6.cell];rfl
    have i2':w6.cell? ⟨gi,2,none⟩=some (.int .i64 b):=by rw [bI6.cell];rfl
    have i3':w6.cell? ⟨gi,3,none⟩=some (.int .i64 c):=by rw [bI6.cell];rfl
    have i4':w6.cell? ⟨gi,4,none⟩=some (.int .i64 n):=by rw [bI6.cell];rfl
    have hBs6:=HS6.out.size
    have hgil:=bI6.lt
    clear hown hgrow hxa HSa bI6 p1 HE6
    by_cases h34:op'=3∨op'=4
    ·obtain ⟨hc0,hc1'⟩:=Q5s Hio.out (by unfold Q0q Q1m;rcases h34 with h | h <;> simp [h])
     simp only at hc0 hc1'
     obtain ⟨r0,r1⟩:=(HRW.out.ext HS6.out.ext).reg c.toNat hc1'
     have hcl2:c < (p.regs.length:Int):=by omega
     have hrb:=Q6o Hr.out _ (Q25 hc1')
     have Hbl:Hid (Q10 p ⟨op',a,b,c,n⟩=[⟨10,8,b,0,n⟩,⟨11,8,0,0,((Q0t (p.regs.getD c.toNat default):Nat):Int)⟩,⟨op',a,8,c,0⟩]):=zh (by unfold Q10;rw [if_pos h34];rfl)
     have hq:((op' != (3:Int))=false)∨((op' != (3:Int))=true∧(op' != (4:Int))=false):=by
      rcases h34 with rfl | rfl
      ·left;rfl
      ·right;exact ⟨rfl,rfl⟩
     generalize p.regs.getD c.toNat default=rr at *
     clear h34
     have Hrb:=zh hrb
     clear hrb
     rcases hq with hq | ⟨hq,hq2⟩
     ·go_wp2_with fail
      (with_reducible refine (Q78 rr Hrb.out.1 Hrb.out.2 w6).mono ?_)
      rintro er w8 ⟨rfl,hx⟩
      have HS8:=zh (HS6.out.extend hx)
      have i0':=hx.kept i0'
      have i1':=hx.kept i1'
      have i2':=hx.kept i2'
      have i3':=hx.kept i3'
      have i4':=hx.kept i4'
      have d1:=Q0i hx d1
      have hgil:=hx.lt hgil
      have hBs8:=HS8.out.size
      clear r0 r1 d0 p0 hx
      generalize ((Q0t rr:Nat):Int)=ww at *
      go_wp2_with (at_builtin;refine Q1b _ rfl _ _ 26 rfl w2.heap.size 41 j0 _ 5 40 Tryz.underlying26 hj0 hy0 hy1 hy2 rfl (by decide) _ _ _ rfl (Q1r HS8.out.cd) (some ⟨w8.heap.size,0,none⟩) 3 3 (([⟨10,8,b,0,n⟩,⟨11,8,0,0,ww⟩,⟨op',a,8,c,0⟩]:List LIns).flatMap Q21) rfl ?c1 ?c3 ?c4 ?c5 ?_)
      case c1=>exact Qge (l:=[⟨10,8,b,0,n⟩,⟨11,8,0,0,ww⟩,⟨op',a,8,c,0⟩]) (Blk.new w8 41 #[.int .i64 10,.int .i64 8,.int .i64 b,.int .i64 0,.int .i64 n,.int .i64 11,.int .i64 8,.int .i64 0,.int .i64 0,.int .i64 ww,.int .i64 op',.int .i64 a,.int .i64 8,.int .i64 c,.int .i64 0])
      case c3=>unfold maxLen;omega
      case c4=>omega
      case c5=>simp;omega
      intro vC' w7 hown hgrow hat2
      clear hat2
      obtain ⟨oC2,cC2,rfl⟩:=Q02 hown
      have hxa:=(Ext.refl w8).alloc (.cells #[.int .i64 10,.int .i64 8,.int .i64 b,.int .i64 0,.int .i64 n,.int .i64 11,.int .i64 8,.int .i64 0,.int .i64 0,.int .i64 ww,.int .i64 op',.int .i64 a,.int .i64 8,.int .i64 c,.int .i64 0] 41)
      have HSa:=HS8.out.extend hxa
      have hgrow:(w8.alloc (.cells #[.int .i64 10,.int .i64 8,.int .i64 b,.int .i64 0,.int .i64 n,.int .i64 11,.int .i64 8,.int .i64 0,.int .i64 0,.int .i64 ww,.int .i64 op',.int .i64 a,.int .i64 8,.int .i64 c,.int .i64 0] 41)).grownBy w7 (Value.slice oC code.length cC).ownBlock:=hgrow
      have hlen:(code ++ ([⟨10,8,b,0,n⟩,⟨11,8,0,0,ww⟩,⟨op',a,8,c,0⟩]:List LIns)).length=code.length+3:=by simp
      have HS7:Hid (HSt w2 (w7.setCell ⟨go,1,none⟩ (.slice oC2 (code.length+3) cC2)) w2.heap.size go (.slice o1 p.regs.length c1) (.slice oC2 (code.length+3) cC2) (.slice op2 (k+1) cp2) p.regs (code ++ [⟨10,8,b,0,n⟩,⟨11,8,0,0,ww⟩,⟨op',a,8,c,0⟩]) (pls ++ [((Q0s p k:Nat):Int)])):=zh (HSa.code_ hgrow (by rw [hlen,List.flatMap_append];simpa using hown))
      have hb7:=HSa.box.grown hgrow (Q09 HSa.cd HSa.box (by decide))
      have q1:w7.cell? ⟨go,1,none⟩=some (.slice oC code.length cC)∧w7.frozen? ⟨go,1,none⟩=false:=⟨by rw [hb7.cell];rfl,hb7.frozen _⟩
      have hgo7:=hb7.lt
      clear hown hgrow hxa HSa hb7 hlen
      go_wp2
      go_roundw
      case rel=>exact ⟨k+1,_,by go_num,by omega,by rw [Hraw.out,Hpls.out,Hbl.out];exact HS7.out⟩
      case measure=>first | (simp [intOf];done) | (simp [intOf];omega)
     ·go_wp2_with fail
      (with_reducible refine (Q78 rr Hrb.out.1 Hrb.out.2 w6).mono ?_)
      rintro er w8 ⟨rfl,hx⟩
      have HS8:=zh (HS6.out.extend hx)
      have i0':=hx.kept i0'
      have i1':=hx.kept i1'
      have i2':=hx.kept i2'
      have i3':=hx.kept i3'
      have i4':=hx.kept i4'
      have d1:=Q0i hx d1
      have hgil:=hx.lt hgil
      have hBs8:=HS8.out.size
      clear r0 r1 d0 p0 hx
      generalize ((Q0t rr:Nat):Int)=ww at *
      go_wp2_with (at_builtin;refine Q1b _ rfl _ _ 26 rfl w2.heap.size 41 j0 _ 5 40 Tryz.underlying26 hj0 hy0 hy1 hy2 rfl (by decide) _ _ _ rfl (Q1r HS8.out.cd) (some ⟨w8.heap.size,0,none⟩) 3 3 (([⟨10,8,b,0,n⟩,⟨11,8,0,0,ww⟩,⟨op',a,8,c,0⟩]:List LIns).flatMap Q21) rfl ?c1 ?c3 ?c4 ?c5 ?_)
      case c1=>exact Qge (l:=[⟨10,8,b,0,n⟩,⟨11,8,0,0,ww⟩,⟨op',a,8,c,0⟩]) (Blk.new w8 41 #[.int .i64 10,.int .i64 8,.int .i64 b,.int .i64 0,.int .i64 n,.int .i64 11,.int .i64 8,.int .i64 0,.int .i64 0,.int .i64 ww,.int .i64 op',.int .i64 a,.int .i64 8,.int .i64 c,.int .i64 0])
      case c3=>unfold maxLen;omega
      case c4=>omega
      case c5=>simp;omega
      intro vC' w7 hown hgrow hat2
      clear hat2
      obtain ⟨oC2,cC2,rfl⟩:=Q02 hown
      have hxa:=(Ext.refl w8).alloc (.cells #[.int .i64 10,.int .i64 8,.int .i64 b,.int .i64 0,.int .i64 n,.int .i64 11,.int .i64 8,.int .i64 0,.int .i64 0,.int .i64 ww,.int .i64 op',.int .i64 a,.int .i64 8,.int .i64 c,.int .i64 0] 41)
      have HSa:=HS8.out.extend hxa
      have hgrow:(w8.alloc (.cells #[.int .i64 10,.int .i64 8,.int .i64 b,.int .i64 0,.int .i64 n,.int .i64 11,.int .i64 8,.int .i64 0,.int .i64 0,.int .i64 ww,.int .i64 op',.int .i64 a,.int .i64 8,.int .i64 c,.int .i64 0] 41)).grownBy w7 (Value.slice oC code.length cC).ownBlock:=hgrow
      have hlen:(code ++ ([⟨10,8,b,0,n⟩,⟨11,8,0,0,ww⟩,⟨op',a,8,c,0⟩]:List LIns)).length=code.length+3:=by simp
      have HS7:Hid (HSt w2 (w7.setCell ⟨go,1,none⟩ (.slice oC2 (code.length+3) cC2)) w2.heap.size go (.slice o1 p.regs.length c1) (.slice oC2 (code.length+3) cC2) (.slice op2 (k+1) cp2) p.regs (code ++ [⟨10,8,b,0,n⟩,⟨11,8,0,0,ww⟩,⟨op',a,8,c,0⟩]) (pls ++ [((Q0s p k:Nat):Int)])):=zh (HSa.code_ hgrow (by rw [hlen,List.flatMap_append];simpa using hown))
      have hb7:=HSa.box.grown hgrow (Q09 HSa.cd HSa.box (by decide))
      have q1:w7.cell? ⟨go,1,none⟩=some (.slice oC code.length cC)∧w7.frozen? ⟨go,1,none⟩=false:=⟨by rw [hb7.cell];rfl,hb7.frozen _⟩
      have hgo7:=hb7.lt
      clear hown hgrow hxa HSa hb7 hlen
      go_wp2
      go_roundw
      case rel=>exact ⟨k+1,_,by go_num,by omega,by rw [Hraw.out,Hpls.out,Hbl.out];exact HS7.out⟩
      case measure=>first | (simp [intOf];done) | (simp [intOf];omega)
    ·have hq3:(op' != (3:Int))=true:=by simp;omega
     have hq4:(op' != (4:Int))=true:=by simp;omega
     have Hbl:Hid (Q10 p ⟨op',a,b,c,n⟩=[⟨op',a,b,c,n⟩]):=zh (by unfold Q10;rw [if_neg h34])
     clear h34
     go_wp2_with (at_builtin;refine Q1b _ rfl _ _ 26 rfl w2.heap.size 41 j0 _ 5 40 Tryz.underlying26 hj0 hy0 hy1 hy2 rfl (by decide) _ _ _ rfl (Q1r HS6.out.cd) (some ⟨w6.heap.size,0,none⟩) 1 1 (Q21 ⟨op',a,b,c,n⟩) rfl ?c1 ?c3 ?c4 ?c5 ?_)
     case c1=>exact Q1y (size:=5) (Blk.new w6 41 #[.int .i64 op',.int .i64 a,.int .i64 b,.int .i64 c,.int .i64 n]) rfl (by simp [Value.oneCell'])
     case c3=>unfold maxLen;omega
     case c4=>omega
     case c5=>simp;omega
     intro vC' w7 hown hgrow hat2
     clear hat2
     obtain ⟨oC2,cC2,rfl⟩:=Q02 hown
     have hxa:=(Ext.refl w6).alloc (.cells #[.int .i64 op',.int .i64 a,.int .i64 b,.int .i64 c,.int .i64 n] 41)
     have HSa:=HS6.out.extend hxa
     have hgrow:(w6.alloc (.cells #[.int .i64 op',.int .i64 a,.int .i64 b,.int .i64 c,.int .i64 n] 41)).grownBy w7 (Value.slice oC code.length cC).ownBlock:=hgrow
     have hlen:(code ++ ([⟨op',a,b,c,n⟩]:List LIns)).length=code.length+1:=by simp
     have HS7:Hid (HSt w2 (w7.setCell ⟨go,1,none⟩ (.slice oC2 (code.length+1) cC2)) w2.heap.size go (.slice o1 p.regs.length c1) (.slice oC2 (code.length+1) cC2) (.slice op2 (k+1) cp2) p.regs (code ++ [⟨op',a,b,c,n⟩]) (pls ++ [((Q0s p k:Nat):Int)])):=zh (HSa.code_ hgrow (by rw [hlen,List.flatMap_append];simpa using hown))
     have hb7:=HSa.box.grown hgrow (Q09 HSa.cd HSa.box (by decide))
     have q1:w7.cell? ⟨go,1,none⟩=some (.slice oC code.length cC)∧w7.frozen? ⟨go,1,none⟩=false:=⟨by rw [hb7.cell];rfl,hb7.frozen _⟩
     have hgo7:=hb7.lt
     clear hown hgrow hxa HSa hb7 hlen
     go_wp2
     go_roundw
     case rel=>exact ⟨k+1,_,by go_num,by omega,by rw [Hraw.out,Hpls.out,Hbl.out];exact HS7.out⟩
     case measure=>first | (simp [intOf];done) | (simp [intOf];omega)
   ·have hje:k=p.code.length:=by omega
    subst hje
    have hlt2:decide ((p.code.length:Int) < (p.code.length:Int))=false:=by simp
    rw [List.take_length] at hS
    have hraw0:(p.code.flatMap (Q10 p))=rawH p:=rfl
    rw [hraw0] at hS
    have hL1:0 < (rawH p).length:=by
     have:=Q96 (p:=p) (k:=0) (by omega)
     unfold Q06 at this
     simp only [List.length_map] at this
     omega
    have hL2:(rawH p).length≤600:=by
     have:=Qdh p p.code.length
     rw [List.take_length,hraw0] at this
     omega
    obtain ⟨kc,cC',hv,hkB,hcap1,hcap2,-⟩:=Qbm hS.cd rfl hL1
    simp only [Value.slice.injEq,true_and] at hv
    obtain ⟨rfl,rfl⟩:=hv
    obtain ⟨kp,cp',hv,-,-⟩:=Qao hS.pl (by simp;omega)
    simp only [List.length_map,List.length_range,Value.slice.injEq,true_and] at hv
    obtain ⟨rfl,rfl⟩:=hv
    have hixk:=Q24 (n:=(rawH p).length) (cap:=cC) (b:=kc) (o:=0) (fun _=>rfl)
    simp only [Nat.zero_add] at hixk
    have hixp:=fun W=>Qf8 kp p.code.length cp W
    have Hjump:=zh (Qoc Hins.out)
    obtain ⟨d0,d1⟩:=hS.cells
    have hgol:=hS.box.lt
    have hR0:HSt w2 wr w2.heap.size go (.slice o1 p.regs.length c1) (.slice (some ⟨kc,0,none⟩) (rawH p).length cC) (.slice (some ⟨kp,0,none⟩) p.code.length cp) p.regs (relK (Q0s p) (rawH p) 0) ((List.range p.code.length).map fun k=>((Q0s p k:Nat):Int)):=by rw [Qh1];exact hS
    have HR0:=zh hR0
    have HS:=zh hS
    clear hS hR0 hraw0
    go_wp2_with fail
    go_loopw [81] (fun i wr => ∃ k:Nat,i=.int .i64 (k:Int)∧k≤(rawH p).length∧HSt w2 wr w2.heap.size go (.slice o1 p.regs.length c1) (.slice (some ⟨kc,0,none⟩) (rawH p).length cC) (.slice (some ⟨kp,0,none⟩) p.code.length cp) p.regs (relK (Q0s p) (rawH p) k) ((List.range p.code.length).map fun k=>((Q0s p k:Nat):Int))) (fun i _=>(rawH p).length - (intOf i).toNat)
    case atStart=>exact ⟨0,rfl,by omega,HR0.out⟩
    case round =>
     obtain ⟨k,rfl,hk,hS⟩:=hrel
     have HS:=zh hS
     obtain ⟨d0,d1⟩:=hS.cells
     have hgol:=hS.box.lt
     by_cases hlt:k < (rawH p).length
     ·obtain ⟨kc',cC',hv,-,-,-,hcs⟩:=Qbm hS.cd rfl (by rw [Q7g];exact hL1)
      rw [Q7g] at hv
      simp only [Value.slice.injEq,Option.some.injEq,Addr.mk.injEq,and_true,true_and] at hv
      obtain ⟨rfl,rfl⟩:=hv
      obtain ⟨s0,s4⟩:=hcs k (by rw [Q7g];exact hlt)
      rw [Qa0 _ _ hlt] at s0 s4
      have Hsame:=zh fun h=>Qh2 (Q0s p) (rawH p) hlt h
      have Hsucc:=zh (Qde (Q0s p) (rawH p) hlt)
      have Hj:=zh (Hjump.out _ (Q25 hlt))
      have hkcl:=Q0k s0.1
      simp only at hkcl
      have Hget:=zh (Qa0 (Q0s p) (rawH p) hlt)
      have HkL:=zh (show k < (relK (Q0s p) (rawH p) k).length by rw [Q7g];exact hlt)
      clear hcs hS
      generalize (rawH p).getD k default=I at *
      by_cases h78:I.op=7∨I.op=8
      ·obtain ⟨hn0,hn1⟩:=Hj.out h78
       obtain ⟨kp',cp',hv,-,hpc⟩:=Qao HS.out.pl (by simp;omega)
       simp only [List.length_map,List.length_range,Value.slice.injEq,Option.some.injEq,Addr.mk.injEq,and_true,true_and] at hv
       obtain ⟨rfl,rfl⟩:=hv
       obtain ⟨q0,-⟩:=hpc I.n.toNat (.int .i64 ((Q0s p I.n.toNat:Nat):Int)) (by simp;omega) (by simp [hn1])
       have hq:(I.op == (7:Int))=true∨((I.op == (7:Int))=false∧(I.op == (8:Int))=true):=by
        rcases h78 with h | h
        ·left;simp [h]
        ·right;simp [h]
       have Hnext:Hid (relK (Q0s p) (rawH p) (k+1)=(relK (Q0s p) (rawH p) k).set k { (relK (Q0s p) (rawH p) k).getD k default with n:=((Q0s p I.n.toNat:Nat):Int) }):=zh (by
        rw [Hsucc.out,Hget.out]
        unfold Q1j
        rw [if_pos h78])
       have hn2:I.n < (p.code.length:Int):=by omega
       have hkpl:=Q0k q0
       simp only at hkpl
       clear hpc h78
       rcases hq with hq | ⟨hq,hq2⟩
       ·go_wp2
        go_roundw
        case rel=>exact ⟨k+1,by go_num,by omega,by rw [Hnext.out];exact HS.out.setN HkL.out _⟩
        case measure=>first | (simp [intOf];done) | (simp [intOf];omega)
       ·go_wp2
        go_roundw
        case rel=>exact ⟨k+1,by go_num,by omega,by rw [Hnext.out];exact HS.out.setN HkL.out _⟩
        case measure=>first | (simp [intOf];done) | (simp [intOf];omega)
      ·have hq7:(I.op == (7:Int))=false:=by simp;omega
       have hq8:(I.op == (8:Int))=false:=by simp;omega
       have Hs:=zh (Hsame.out h78)
       clear h78
       go_wp2
       go_roundw
       case rel=>exact ⟨k+1,by go_num,by omega,by rw [Hs.out];exact HS.out⟩
       case measure=>first | (simp [intOf];done) | (simp [intOf];omega)
     ·have hje:k=(rawH p).length:=by omega
      subst hje
      have hlt3:decide (((rawH p).length:Int) < ((rawH p).length:Int))=false:=by simp
      have HSf:Hid (HSt w2 wr w2.heap.size go (.slice o1 p.regs.length c1) (.slice (some ⟨kc,0,none⟩) (rawH p).length cC) (.slice (some ⟨kp,0,none⟩) p.code.length cp) p.regs (Q06 p).code ((List.range p.code.length).map fun k=>((Q0s p k:Nat):Int))):=zh (by
       have:=hS
       rw [Qh3] at this
       exact this)
      have bR:=BR.out.ext (X2.out.trans HSf.out.ext)
      have bF:=BF.out.ext (X2.out.trans HSf.out.ext)
      have r0:wr.cell? ⟨g+1,0,none⟩=some (.slice none 0 0)∧wr.frozen? ⟨g+1,0,none⟩=false:=⟨by rw [bR.cell];rfl,bR.frozen _⟩
      have r1:wr.cell? ⟨g+1,1,none⟩=some (.slice none 0 0)∧wr.frozen? ⟨g+1,1,none⟩=false:=⟨by rw [bR.cell];rfl,bR.frozen _⟩
      have f0:wr.cell? ⟨g+1+1,0,none⟩=some (.int .i64 0)∧wr.frozen? ⟨g+1+1,0,none⟩=false:=⟨by rw [bF.cell];rfl,bF.frozen _⟩
      have f1:wr.cell? ⟨g+1+1,1,none⟩=some (.int .i64 0)∧wr.frozen? ⟨g+1+1,1,none⟩=false:=⟨by rw [bF.cell];rfl,bF.frozen _⟩
      have BR2:=zh bR
      have BF2:=zh bF
      have hgll:=bF.lt
      clear hS bR bF
      go_wp2
      have hgw:w.heap.size≤g+1:=by have:=Hg.out;omega
      have hF2:F=(0,0):=by
       have hf:F.1=0:=HF.out
       obtain ⟨T,hT,hF3⟩:=H1.out Hmay.out
       have:=Qkf p T
       rw [hF3] at hf ⊢
       exact this hf
      refine bodyPost_ret (Qh0 (Qbs BR2.out BF2.out).1 (Qbs BR2.out BF2.out).2 rfl _ rfl rfl Tryz.underlying28 rfl Qjy Tryz.underlying52 rfl Q7n) rfl ?_
      refine ⟨_,F,by rw [hF2];rfl,Qip (X.out.trans (X2.out.trans HSf.out.ext)) hgw,H1.out,H2.out,fun _=>⟨Hmay.out,?_⟩,fun h=>absurd HF.out h⟩
      have hsz:=(X.out.trans X2.out).size
      have hc:=Qhx HSf.out.cd BR2.out BF2.out (x:=.slice o1 p.regs.length c1) (y:=.slice (some ⟨kc,0,none⟩) (rawH p).length cC) (z:=.int .i64 0) (u:=.int .i64 0) (by decide) (by decide)
      exact ⟨_,_,rfl,own_mono' (Qhx HSf.out.rg BR2.out BF2.out (by decide) (by decide)) hsz,own_mono' hc hsz,Qtl Hr.out hcl Hins.out Hfi.out⟩
 ·have hq:(F.1 != (0:Int))=true:=by simp [hF]
  have hF':=zh hF
  have bR:=BR.out.ext X2.out
  have bF:=BF.out.ext X2.out
  have r0:w2.cell? ⟨g+1,0,none⟩=some (.slice none 0 0)∧w2.frozen? ⟨g+1,0,none⟩=false:=⟨by rw [bR.cell];rfl,bR.frozen _⟩
  have r1:w2.cell? ⟨g+1,1,none⟩=some (.slice none 0 0)∧w2.frozen? ⟨g+1,1,none⟩=false:=⟨by rw [bR.cell];rfl,bR.frozen _⟩
  have f0:w2.cell? ⟨g+1+1,0,none⟩=some (.int .i64 0)∧w2.frozen? ⟨g+1+1,0,none⟩=false:=⟨by rw [bF.cell];rfl,bF.frozen _⟩
  have f1:w2.cell? ⟨g+1+1,1,none⟩=some (.int .i64 0)∧w2.frozen? ⟨g+1+1,1,none⟩=false:=⟨by rw [bF.cell];rfl,bF.frozen _⟩
  clear hF bR bF
  go_upto_region 3 with fail
  go_region
  go_wp2
  have bR:=BR.out.ext X2.out
  have bF:=BF.out.ext X2.out
  have hgw:w.heap.size≤g+1:=by have:=Hg.out;omega
  refine bodyPost_ret (Qh0 (Qbs bR bF).1.drew (Qbs bR bF).2.drew rfl _ rfl rfl Tryz.underlying28 rfl Qjy Tryz.underlying52 rfl Q7n) rfl ?_
  exact ⟨_,F,rfl,(Qip (X.out.trans X2.out) hgw).drew,H1.out,H2.out,fun h=>absurd h hF'.out,fun _=>rfl⟩
theorem Qtp (p:Q00) (v:Value) (w:World) (hp:Q29 w v p):Calls Tryz.prog 16 #[v] w (Qw4 Q06 p w):=by
 have hr64:∀ r ∈ p.regs,R64 r.log:=by
  obtain ⟨v1,v2,-,h1,-⟩:=hp
  exact h1.1
 refine (Qet p v w hp).mono fun e w' h=>?_
 obtain ⟨u,F,h1,h2,h3,h4,h5,h6⟩:=h
 refine ⟨u,F,h1,h2,h3,h4,fun h0=>?_,h6⟩
 obtain ⟨hm,vR,vC,rfl,hr,hc,hf⟩:=h5 h0
 exact ⟨hm,vR,vC,rfl,Qdf hr hr64,Qcd hc hf⟩
structure LSt (w0 wr:World) (B go:Nat) (vR vC vP:Value) (code:List LIns) (places:List Int):Prop where
 box:Blk wr go 103 #[vR,vC]
 cd:wr.ownsRow B 41 5 vC code.length (code.flatMap Q21)
 pl:wr.ownsRow B 3 1 vP places.length (places.map (Value.int .i64))
 ext:Ext w0 wr
 hg:B≤go
 hB:w0.heap.size≤B
section
variable {w0 wr w' : World} {B go : Nat} {vR vC vP : Value} {code : List LIns} {places : List Int}
theorem LSt.size (h:LSt w0 wr B go vR vC vP code places):B≤wr.heap.size:=by have:=h.box.lt;have:=h.hg;omega
theorem LSt.extend (h:LSt w0 wr B go vR vC vP code places) (hx:Ext wr w'):LSt w0 w' B go vR vC vP code places :=
 ⟨h.box.ext hx,Q19 h.cd hx,Q19 h.pl hx,h.ext.trans hx,h.hg,h.hB⟩
theorem LSt.cells (h:LSt w0 wr B go vR vC vP code places):(wr.cell? ⟨go,0,none⟩=some vR∧wr.frozen? ⟨go,0,none⟩=false)∧(wr.cell? ⟨go,1,none⟩=some vC∧wr.frozen? ⟨go,1,none⟩=false) :=
 ⟨⟨by rw [h.box.cell];rfl,h.box.frozen _⟩,⟨by rw [h.box.cell];rfl,h.box.frozen _⟩⟩
theorem LSt.place (h:LSt w0 wr B go vR vC vP code places) {vP':Value} {ps:List Int} (hg:wr.grownBy w' vP.ownBlock) (ho:w'.ownsRow B 3 1 vP' ps.length (ps.map (Value.int .i64))):LSt w0 w' B go vR vC vP' code ps :=
 ⟨h.box.grown hg (Q09 h.pl h.box (by decide)),Q27 h.cd hg (fun k hk he=>Q2c h.pl h.cd (by decide) k hk he),ho,
  Q6c h.ext hg h.ext.size (fun k hk=>Nat.le_trans h.hB (Q17 h.pl k hk)),h.hg,h.hB⟩
theorem LSt.code_ (h:LSt w0 wr B go vR vC vP code places) {vC':Value} {cs:List LIns} (hg:wr.grownBy w' vC.ownBlock) (ho:w'.ownsRow B 41 5 vC' cs.length (cs.flatMap Q21)):LSt w0 (w'.setCell ⟨go,1,none⟩ vC') B go vR vC' vP cs places:=by
 have hb:=h.box.grown hg (Q09 h.cd h.box (by decide))
 have hp:=Q27 h.pl hg (fun k hk he=>Q2c h.cd h.pl (by decide) k hk he)
 exact ⟨hb.set_ 1 vC',Q0r ho (Q09 ho hb (by decide)) _,Q0r hp (Q09 hp hb (by decide)) _,
  (Q6c h.ext hg h.ext.size (fun k hk=>Nat.le_trans h.hB (Q17 h.cd k hk))).setCell (p:=⟨go,1,none⟩) (Nat.le_trans h.hB h.hg) _,h.hg,h.hB⟩
theorem LSt.setN {kc cap n:Nat} (h:LSt w0 wr B go vR (.slice (some ⟨kc,0,none⟩) n cap) vP code places) {k:Nat} (hk:k < code.length) (x:Int) :
  LSt w0 (wr.setCell ⟨kc,k * 5+4,none⟩ (.int .i64 x)) B go vR (.slice (some ⟨kc,0,none⟩) n cap) vP (code.set k { code.getD k default with n:=x }) places:=by
 have hkB:=Q17 h.cd kc rfl
 have hp:some kc≠vP.ownBlock:=fun e=>Q2c h.pl h.cd (by decide) kc e.symm rfl
 have hgk:go≠kc:=fun e=>Q09 h.cd h.box (by decide) (by rw [e];rfl)
 exact ⟨h.box.far (p:=⟨kc,k * 5+4,none⟩) hgk _,Qhw h.cd hk x,Q0r h.pl hp _,h.ext.setCell (p:=⟨kc,k * 5+4,none⟩) (Nat.le_trans h.hB hkB) _,h.hg,h.hB⟩
end
structure Q56 (w w':World) (go:Nat) (vC vC':Value):Prop where
 keep:∀ {g:Nat} {T:TypeId} {cs:Array Value},Blk w g T cs→g≠go→vC.ownBlock≠some g→Blk w' g T cs
 old:∀ k,vC'.ownBlock=some k→vC.ownBlock=some k∨w.heap.size≤k
 size:w.heap.size≤w'.heap.size
theorem Q56.trans {w w1 w2:World} {go:Nat} {v v1 v2:Value} (h:Q56 w w1 go v v1) (k:Q56 w1 w2 go v1 v2):Q56 w w2 go v v2 :=
 ⟨fun hb h1 h2=>k.keep (h.keep hb h1 h2) h1 (fun e=>by
  rcases h.old _ e with e | e
  ·exact h2 e
  ·have:=hb.lt;omega),fun j e=>by
  rcases k.old j e with e | e
  ·exact h.old j e
  ·exact .inr (Nat.le_trans h.size e),Nat.le_trans h.size k.size⟩
theorem Q56.refl (w:World) (go:Nat) (v:Value):Q56 w w go v v:=⟨fun h _ _=>h,fun _ e=>.inl e,Nat.le_refl _⟩
def Qat (w0:World) (B go:Nat) (vR vP vC:Value) (w:World) (cs:List LIns) (places:List Int) (e:Ending) (w':World):Prop :=
 e=.returned (.tuple #[])∧∃ oC cC,LSt w0 w' B go vR (.slice oC cs.length cC) vP cs places∧Q56 w w' go vC (.slice oC cs.length cC)
set_option maxRecDepth 100000 in
set_option maxHeartbeats 4000000 in
theorem Q3w {w0:World} {B go:Nat} {vR vP:Value} {oC:Option Addr} {cC:Nat} {code:List LIns} {places:List Int} (op a b c n:Int) (w:World) (h:LSt w0 w B go vR (.slice oC code.length cC) vP code places) (hl:code.length≤1000000) :
  Calls Tryz.prog 75 #[.pointer (some ⟨go,0,none⟩),.int .i64 op,.int .i64 a,.int .i64 b,.int .i64 c,.int .i64 n] w (Qat w0 B go vR vP (.slice oC code.length cC) w (code ++ [⟨op,a,b,c,n⟩]) places):=by
 have H:=zh h
 obtain ⟨j0,hj0,hy0,hy1,hy2⟩:=info_parts Qem
 obtain ⟨d0,d1⟩:=h.cells
 have hgo:=h.box.lt
 have hBs:=h.size
 clear h
 go_enter Tryz.func75,Tryz.ntmps75
 go_wp2_with (at_builtin;refine Q1b _ rfl _ _ 26 rfl B 41 j0 _ 5 40 Tryz.underlying26 hj0 hy0 hy1 hy2 rfl (by decide) _ _ _ rfl (Q1r H.out.cd) (some ⟨w.heap.size,0,none⟩) 1 1 (Q21 ⟨op,a,b,c,n⟩) rfl ?c1 ?c3 ?c4 ?c5 ?_)
 case c1=>exact Q1y (size:=5) (Blk.new w 41 #[.int .i64 op,.int .i64 a,.int .i64 b,.int .i64 c,.int .i64 n]) rfl (by simp [Value.oneCell'])
 case c3=>unfold maxLen;omega
 case c4=>omega
 case c5=>simp;omega
 intro vC' w7 hown hgrow hat2
 obtain ⟨oC2,cC2,rfl⟩:=Q02 hown
 have hxa:=(Ext.refl w).alloc (.cells #[.int .i64 op,.int .i64 a,.int .i64 b,.int .i64 c,.int .i64 n] 41)
 have HSa:=H.out.extend hxa
 have hgrow:(w.alloc (.cells #[.int .i64 op,.int .i64 a,.int .i64 b,.int .i64 c,.int .i64 n] 41)).grownBy w7 (Value.slice oC code.length cC).ownBlock:=hgrow
 have hlen:(code ++ ([⟨op,a,b,c,n⟩]:List LIns)).length=code.length+1:=by simp
 have HS7:Hid (LSt w0 (w7.setCell ⟨go,1,none⟩ (.slice oC2 (code.length+1) cC2)) B go vR (.slice oC2 (code.length+1) cC2) vP (code ++ [⟨op,a,b,c,n⟩]) places):=zh (HSa.code_ hgrow (by rw [hlen,List.flatMap_append];simpa using hown))
 have hb7:=HSa.box.grown hgrow (Q09 HSa.cd HSa.box (by decide))
 have q1:w7.cell? ⟨go,1,none⟩=some (.slice oC code.length cC)∧w7.frozen? ⟨go,1,none⟩=false:=⟨by rw [hb7.cell];rfl,hb7.frozen _⟩
 have hgo7:=hb7.lt
 have Hlen:=zh hlen
 have HK:Hid (Q56 w (w7.setCell ⟨go,1,none⟩ (.slice oC2 (code.length+1) cC2)) go (.slice oC code.length cC) (.slice oC2 (code.length+1) cC2)):=zh ⟨fun hb h1 h2=>((hb.ext hxa).grown hgrow (fun e=>h2 e.symm)).far (p:=⟨go,1,none⟩) h1 _,fun k hk=>by
  rcases hat2 with e | e
  ·left;rw [← e];exact hk
  ·right
   have e2:(Value.slice oC2 (code.length+1) cC2).ownBlock=some k:=hk
   rw [e] at e2
   simp only [Option.some.injEq] at e2
   omega,by
  have h1:=hgrow.size
  rw [World.size_alloc] at h1
  rw [Q3v]
  omega⟩
 clear hown hgrow hxa HSa hb7 hlen d0 d1 hat2
 go_wp2
 try refine bodyPost_end (results_none rfl _ _ _) rfl ?_
 exact ⟨rfl,oC2,cC2,by rw [Hlen.out];exact HS7.out,by rw [Hlen.out];exact HK.out⟩
theorem Qci (x:Int):bits .and .i64 x 8191=x % 8192:=by
 have e:bits .and .i64 x 8191=IntKind.i64.wrap ((BitVec.ofInt 64 x &&& BitVec.ofInt 64 8191).toNat:Int):=rfl
 have h13:(BitVec.ofInt 64 8191).toNat=2 ^ 13 - 1:=by decide
 rw [e,BitVec.toNat_and,h13,Nat.and_two_pow_sub_one_eq_mod,BitVec.toNat_ofInt]
 rw [Go.IntWalk.i64_in _ (by omega)]
 omega
def numP (to_ n:Int) (m:Nat):List LIns:=⟨1,to_,0,0,n / 4503599627370496⟩ :: (List.range m).flatMap fun j=>Q5w to_ (Q33 n (3 - j))
theorem Qq7 (to_ n:Int) {m:Nat} (hm:m≤4):(numP to_ n m).length=1+4 * m:=by
 rcases (show m=0∨m=1∨m=2∨m=3∨m=4 by omega) with rfl | rfl | rfl | rfl | rfl <;> rfl
theorem Qn9 (n:Int):bits .and .i64 (n / 549755813888) 8191=Q33 n 3:=by rw [Qci];rfl
theorem Qna (n:Int):bits .and .i64 (n / 67108864) 8191=Q33 n 2:=by rw [Qci];rfl
theorem Qnb (n:Int):bits .and .i64 (n / 8192) 8191=Q33 n 1:=by rw [Qci];rfl
theorem Qnc (n:Int):bits .and .i64 n 8191=Q33 n 0:=by rw [Qci];unfold Q33;simp
set_option maxRecDepth 100000 in
set_option maxHeartbeats 4000000 in
theorem Qiz {w0:World} {B go:Nat} {vR vP:Value} {oC:Option Addr} {cC:Nat} {code:List LIns} {places:List Int} (to_ n:Int) (w:World) (h:LSt w0 w B go vR (.slice oC code.length cC) vP code places) (hl:code.length≤900000) :
  Calls Tryz.prog 73 #[.pointer (some ⟨go,0,none⟩),.int .i64 to_,.int .i64 n] w (Qat w0 B go vR vP (.slice oC code.length cC) w (code ++ numC to_ n) places):=by
 have H:=zh h
 clear h
 go_enter Tryz.func73,Tryz.ntmps73
 go_wp2_with fail
 (with_reducible refine (Qaz n w).mono ?_)
 rintro e w1 ⟨rfl,rfl⟩
 cases hf:Q1f n
 ·have Hn:Hid (numC to_ n=numP to_ n 4):=zh (by unfold numC;rw [hf];simp [numP,Q5w,List.range_succ])
  clear hf
  go_wp2_with fail
  (with_reducible refine (Q3w 1 to_ 0 0 (n / 4503599627370496) w H.out (by omega)).mono ?_)
  rintro e w2 ⟨rfl,oC2,cC2,hS,hK⟩
  have HS:=zh hS
  have HK:=zh hK
  clear hS hK
  go_wp2_with fail
  go_loopw [6] (fun i wr => ∃ (m:Nat) (oD:Option Addr) (cD:Nat),i=.int .i64 (3 - (m:Int))∧m≤4∧LSt w0 wr B go vR (.slice oD (code ++ numP to_ n m).length cD) vP (code ++ numP to_ n m) places∧Q56 w wr go (.slice oC code.length cC) (.slice oD (code ++ numP to_ n m).length cD)) (fun i _=>(intOf i+1).toNat)
  case atStart=>exact ⟨0,oC2,cC2,rfl,by omega,HS.out,HK.out⟩
  case round =>
   obtain ⟨m,oD,cD,rfl,hm,hS,hK⟩:=hrel
   have HS:=zh hS
   have HK:=zh hK
   clear hS hK
   have hln:(code ++ numP to_ n m).length=code.length+(1+4 * m):=by rw [List.length_append,Qq7 _ _ hm]
   by_cases h4:m=4
   ·subst h4
    go_wp2
    try refine bodyPost_end (results_none rfl _ _ _) rfl ?_
    rw [Hn.out]
    exact ⟨rfl,oD,cD,HS.out,HK.out⟩
   ·rcases (show m=0∨m=1∨m=2∨m=3 by omega) with rfl | rfl | rfl | rfl
    ·have hsh:=Qn9 n
     go_wp2_with fail
     have C:=Q3w 1 9 0 0 13 wr HS.out (by rw [hln];omega)
     (with_reducible refine C.mono ?_)
     clear C
     rintro e0 v0 ⟨rfl,oD0,cD0,hS0,hK0⟩
     have H0:=zh hS0
     have HK:=zh (HK.out.trans hK0)
     clear hS0 hK0
     go_wp2_with fail
     have C:=Q3w 27 to_ to_ 9 0 v0 H0.out (by simp only [List.length_append,hln,List.length_cons,List.length_nil];omega)
     (with_reducible refine C.mono ?_)
     clear C
     rintro e1 v1 ⟨rfl,oD1,cD1,hS1,hK1⟩
     have H1:=zh hS1
     have HK:=zh (HK.out.trans hK1)
     clear hS1 hK1
     go_wp2_with fail
     try rw [hsh]
     have C:=Q3w 1 9 0 0 (Q33 n 3) v1 H1.out (by simp only [List.length_append,hln,List.length_cons,List.length_nil];omega)
     (with_reducible refine C.mono ?_)
     clear C
     rintro e2 v2 ⟨rfl,oD2,cD2,hS2,hK2⟩
     have H2:=zh hS2
     have HK:=zh (HK.out.trans hK2)
     clear hS2 hK2
     go_wp2_with fail
     have C:=Q3w 25 to_ to_ 9 0 v2 H2.out (by simp only [List.length_append,hln,List.length_cons,List.length_nil];omega)
     (with_reducible refine C.mono ?_)
     clear C
     rintro e3 v3 ⟨rfl,oD3,cD3,hS3,hK3⟩
     have H3:=zh hS3
     have HK:=zh (HK.out.trans hK3)
     clear hS3 hK3
     have Hn:Hid (numP to_ n 1=numP to_ n 0 ++ [⟨1,9,0,0,13⟩,⟨27,to_,to_,9,0⟩,⟨1,9,0,0,Q33 n 3⟩,⟨25,to_,to_,9,0⟩]):=zh (by first | rfl | simp [numP,Q5w])
     go_wp2
     go_roundw
     case rel =>
      have h':=H3.out
      have k':=HK.out
      simp only [List.append_assoc,List.cons_append,List.nil_append] at h' k'
      exact ⟨1,_,_,by first | rfl | go_num,by omega,by rw [Hn.out];exact h',by rw [Hn.out];exact k'⟩
     case measure=>first | (simp [intOf];done) | (simp [intOf];omega)
    ·have hsh:=Qna n
     go_wp2_with fail
     have C:=Q3w 1 9 0 0 13 wr HS.out (by rw [hln];omega)
     (with_reducible refine C.mono ?_)
     clear C
     rintro e0 v0 ⟨rfl,oD0,cD0,hS0,hK0⟩
     have H0:=zh hS0
     have HK:=zh (HK.out.trans hK0)
     clear hS0 hK0
     go_wp2_with fail
     have C:=Q3w 27 to_ to_ 9 0 v0 H0.out (by simp only [List.length_append,hln,List.length_cons,List.length_nil];omega)
     (with_reducible refine C.mono ?_)
     clear C
     rintro e1 v1 ⟨rfl,oD1,cD1,hS1,hK1⟩
     have H1:=zh hS1
     have HK:=zh (HK.out.trans hK1)
     clear hS1 hK1
     go_wp2_with fail
     try rw [hsh]
     have C:=Q3w 1 9 0 0 (Q33 n 2) v1 H1.out (by simp only [List.length_append,hln,List.length_cons,List.length_nil];omega)
     (with_reducible refine C.mono ?_)
     clear C
     rintro e2 v2 ⟨rfl,oD2,cD2,hS2,hK2⟩
     have H2:=zh hS2
     have HK:=zh (HK.out.trans hK2)
     clear hS2 hK2
     go_wp2_with fail
     have C:=Q3w 25 to_ to_ 9 0 v2 H2.out (by simp only [List.length_append,hln,List.length_cons,List.length_nil];omega)
     (with_reducible refine C.mono ?_)
     clear C
     rintro e3 v3 ⟨rfl,oD3,cD3,hS3,hK3⟩
     have H3:=zh hS3
     have HK:=zh (HK.out.trans hK3)
     clear hS3 hK3
     have Hn:Hid (numP to_ n 2=numP to_ n 1 ++ [⟨1,9,0,0,13⟩,⟨27,to_,to_,9,0⟩,⟨1,9,0,0,Q33 n 2⟩,⟨25,to_,to_,9,0⟩]):=zh (by first | rfl | simp [numP,Q5w])
     go_wp2
     go_roundw
     case rel =>
      have h':=H3.out
      have k':=HK.out
      simp only [List.append_assoc,List.cons_append,List.nil_append] at h' k'
      exact ⟨2,_,_,by first | rfl | go_num,by omega,by rw [Hn.out];exact h',by rw [Hn.out];exact k'⟩
     case measure=>first | (simp [intOf];done) | (simp [intOf];omega)
    ·have hsh:=Qnb n
     go_wp2_with fail
     have C:=Q3w 1 9 0 0 13 wr HS.out (by rw [hln];omega)
     (with_reducible refine C.mono ?_)
     clear C
     rintro e0 v0 ⟨rfl,oD0,cD0,hS0,hK0⟩
     have H0:=zh hS0
     have HK:=zh (HK.out.trans hK0)
     clear hS0 hK0
     go_wp2_with fail
     have C:=Q3w 27 to_ to_ 9 0 v0 H0.out (by simp only [List.length_append,hln,List.length_cons,List.length_nil];omega)
     (with_reducible refine C.mono ?_)
     clear C
     rintro e1 v1 ⟨rfl,oD1,cD1,hS1,hK1⟩
     have H1:=zh hS1
     have HK:=zh (HK.out.trans hK1)
     clear hS1 hK1
     go_wp2_with fail
     try rw [hsh]
     have C:=Q3w 1 9 0 0 (Q33 n 1) v1 H1.out (by simp only [List.length_append,hln,List.length_cons,List.length_nil];omega)
     (with_reducible refine C.mono ?_)
     clear C
     rintro e2 v2 ⟨rfl,oD2,cD2,hS2,hK2⟩
     have H2:=zh hS2
     have HK:=zh (HK.out.trans hK2)
     clear hS2 hK2
     go_wp2_with fail
     have C:=Q3w 25 to_ to_ 9 0 v2 H2.out (by simp only [List.length_append,hln,List.length_cons,List.length_nil];omega)
     (with_reducible refine C.mono ?_)
     clear C
     rintro e3 v3 ⟨rfl,oD3,cD3,hS3,hK3⟩
     have H3:=zh hS3
     have HK:=zh (HK.out.trans hK3)
     clear hS3 hK3
     have Hn:Hid (numP to_ n 3=numP to_ n 2 ++ [⟨1,9,0,0,13⟩,⟨27,to_,to_,9,0⟩,⟨1,9,0,0,Q33 n 1⟩,⟨25,to_,to_,9,0⟩]):=zh (by first | rfl | simp [numP,Q5w])
     go_wp2
     go_roundw
     case rel =>
      have h':=H3.out
      have k':=HK.out
      simp only [List.append_assoc,List.cons_append,List.nil_append] at h' k'
      exact ⟨3,_,_,by first | rfl | go_num,by omega,by rw [Hn.out];exact h',by rw [Hn.out];exact k'⟩
     case measure=>first | (simp [intOf];done) | (simp [intOf];omega)
    ·have hsh:=Qnc n
     go_wp2_with fail
     have C:=Q3w 1 9 0 0 13 wr HS.out (by rw [hln];omega)
     (with_reducible refine C.mono ?_)
     clear C
     rintro e0 v0 ⟨rfl,oD0,cD0,hS0,hK0⟩
     have H0:=zh hS0
     have HK:=zh (HK.out.trans hK0)
     clear hS0 hK0
     go_wp2_with fail
     have C:=Q3w 27 to_ to_ 9 0 v0 H0.out (by simp only [List.length_append,hln,List.length_cons,List.length_nil];omega)
     (with_reducible refine C.mono ?_)
     clear C
     rintro e1 v1 ⟨rfl,oD1,cD1,hS1,hK1⟩
     have H1:=zh hS1
     have HK:=zh (HK.out.trans hK1)
     clear hS1 hK1
     go_wp2_with fail
     try rw [hsh]
     have C:=Q3w 1 9 0 0 (Q33 n 0) v1 H1.out (by simp only [List.length_append,hln,List.length_cons,List.length_nil];omega)
     (with_reducible refine C.mono ?_)
     clear C
     rintro e2 v2 ⟨rfl,oD2,cD2,hS2,hK2⟩
     have H2:=zh hS2
     have HK:=zh (HK.out.trans hK2)
     clear hS2 hK2
     go_wp2_with fail
     have C:=Q3w 25 to_ to_ 9 0 v2 H2.out (by simp only [List.length_append,hln,List.length_cons,List.length_nil];omega)
     (with_reducible refine C.mono ?_)
     clear C
     rintro e3 v3 ⟨rfl,oD3,cD3,hS3,hK3⟩
     have H3:=zh hS3
     have HK:=zh (HK.out.trans hK3)
     clear hS3 hK3
     have Hn:Hid (numP to_ n 4=numP to_ n 3 ++ [⟨1,9,0,0,13⟩,⟨27,to_,to_,9,0⟩,⟨1,9,0,0,Q33 n 0⟩,⟨25,to_,to_,9,0⟩]):=zh (by first | rfl | simp [numP,Q5w])
     go_wp2
     go_roundw
     case rel =>
      have h':=H3.out
      have k':=HK.out
      simp only [List.append_assoc,List.cons_append,List.nil_append] at h' k'
      exact ⟨4,_,_,by first | rfl | go_num,by omega,by rw [Hn.out];exact h',by rw [Hn.out];exact k'⟩
     case measure=>first | (simp [intOf];done) | (simp [intOf];omega)
 ·have Hn:Hid (numC to_ n=[⟨1,to_,0,0,n⟩]):=zh (by unfold numC;rw [if_pos hf])
  clear hf
  go_wp2_with fail
  (with_reducible refine (Q3w 1 to_ 0 0 n w H.out (by omega)).mono ?_)
  rintro e w2 ⟨rfl,oC2,cC2,hS,hK⟩
  have HS:=zh hS
  have HK:=zh hK
  clear hS hK
  go_wp2
  try refine bodyPost_end (results_none rfl _ _ _) rfl ?_
  rw [Hn.out]
  exact ⟨rfl,oC2,cC2,HS.out,HK.out⟩
set_option maxRecDepth 100000 in
set_option maxHeartbeats 4000000 in
theorem Qrf {w0:World} {B go:Nat} {vR vP:Value} {oC:Option Addr} {cC:Nat} {code:List LIns} {places:List Int} (op a b c n:Int) (w:World) (h:LSt w0 w B go vR (.slice oC code.length cC) vP code places) (hl:code.length≤800000) :
  Calls Tryz.prog 39 #[.pointer (some ⟨go,0,none⟩),.agg #[.int .i64 op,.int .i64 a,.int .i64 b,.int .i64 c,.int .i64 n]] w (Qat w0 B go vR vP (.slice oC code.length cC) w (code ++ insC ⟨op,a,b,c,n⟩) places):=by
 have H:=zh h
 obtain ⟨j0,hj0,hy0,hy1,hy2⟩:=info_parts Qem
 have hB0:=h.size
 clear h
 go_enter Tryz.func39,Tryz.ntmps39
 go_upto_region 2 with fail
 obtain ⟨W,gi,hg,hW,hx,bI⟩:=Q16 w #[.int .i64 op,.int .i64 a,.int .i64 b,.int .i64 c,.int .i64 n] 41
 rw [hW,hg]
 have HS:=zh (H.out.extend hx)
 have BI:=zh bI
 have i0:W.cell? ⟨gi,0,none⟩=some (.int .i64 op):=by rw [bI.cell];rfl
 have i1:W.cell? ⟨gi,1,none⟩=some (.int .i64 a):=by rw [bI.cell];rfl
 have i2:W.cell? ⟨gi,2,none⟩=some (.int .i64 b):=by rw [bI.cell];rfl
 have i3:W.cell? ⟨gi,3,none⟩=some (.int .i64 c):=by rw [bI.cell];rfl
 have i4:W.cell? ⟨gi,4,none⟩=some (.int .i64 n):=by rw [bI.cell];rfl
 have hgi:=bI.lt
 have HgB:Hid (∀ k,(Value.slice oC code.length cC).ownBlock=some k→k < gi):=zh fun k hk=>by
  have:=(H.out.cd.lt k hk).2
  omega
 have HgB2:Hid (w.heap.size=gi):=zh hg
 have hgg:go < gi:=by have:=H.out.box.lt;omega
 have HKW:Hid (Q56 w W go (.slice oC code.length cC) (.slice oC code.length cC)):=zh ⟨fun hb _ _=>hb.ext hx,fun _ e=>.inl e,hx.size⟩
 clear hW hg hx bI
 by_cases h1:op=1
 ·subst h1
  have Hn:Hid (insC ⟨1,a,b,c,n⟩=numC a n):=zh (by unfold insC;simp)
  go_wp2_with fail
  have C:=Qiz a n W HS.out (by omega)
  (with_reducible refine C.mono ?_)
  clear C
  rintro e w2 ⟨rfl,oD,cD,hS,hK⟩
  have HS:=zh hS
  have HK:=zh (HKW.out.trans hK)
  clear hS hK
  go_wp2
  try refine bodyPost_end (results_none rfl _ _ _) rfl ?_
  rw [Hn.out]
  exact ⟨rfl,oD,cD,HS.out,HK.out⟩
 ·have hq1:(op == (1:Int))=false:=by simp [h1]
  by_cases h10:op=10∧Q1f n=false
  ·obtain ⟨rfl,hf⟩:=h10
   have Hn:Hid (insC ⟨10,a,b,c,n⟩=numC 8 n ++ [⟨21,a,b,8,0⟩]):=zh (by unfold insC;simp [hf])
   have hnl:(numC 8 n).length=17:=by rw [Qa3,hf];rfl
   clear h1
   go_wp2_with fail
   (with_reducible refine (Qaz n W).mono ?_)
   rintro e w1 ⟨rfl,rfl⟩
   rw [hf]
   go_wp2_with fail
   have C:=Qiz 8 n W HS.out (by omega)
   (with_reducible refine C.mono ?_)
   clear C
   rintro e w2 ⟨rfl,oD,cD,hS,hK⟩
   have HS2:=zh hS
   have bI2:=hK.keep BI.out (by omega) (fun e=>by have:=HgB.out gi e;omega)
   have HK:=zh (HKW.out.trans hK)
   have i1:w2.cell? ⟨gi,1,none⟩=some (.int .i64 a):=by rw [bI2.cell];rfl
   have i2:w2.cell? ⟨gi,2,none⟩=some (.int .i64 b):=by rw [bI2.cell];rfl
   have hL:(code ++ numC 8 n).length=code.length+17:=by rw [List.length_append,hnl]
   clear hS hK bI2 i0 i3 i4 hf
   go_wp2_with fail
   have C:=Q3w 21 a b 8 0 w2 HS2.out (by rw [hL];omega)
   (with_reducible refine C.mono ?_)
   clear C
   rintro e w3 ⟨rfl,oE,cE,hS,hK⟩
   have HS3:=zh hS
   have HK3:=zh (HK.out.trans hK)
   clear hS hK
   go_wp2
   try refine bodyPost_end (results_none rfl _ _ _) rfl ?_
   rw [Hn.out]
   have h':=HS3.out
   have k':=HK3.out
   rw [List.append_assoc] at h' k'
   exact ⟨rfl,oE,cE,h',k'⟩
  ·have Hn:Hid (insC ⟨op,a,b,c,n⟩=[⟨op,a,b,c,n⟩]):=zh (by unfold insC;simp only;rw [if_neg h1,if_neg h10])
   have hq:((op == (10:Int))=false)∨((op == (10:Int))=true∧Q1f n=true):=by
    by_cases h:op=10
    ·right
     refine ⟨by simp [h],?_⟩
     cases hf:Q1f n
     ·exact absurd ⟨h,hf⟩ h10
     ·rfl
    ·left;simp [h]
   clear h1 h10
   rcases hq with hq | ⟨hq,hf⟩
   ·go_upto_region 1 with fail
    obtain ⟨-,d1⟩:=HS.out.cells
    have hgol:=HS.out.box.lt
    have k1:∀ Wx,Ext W Wx→Wx.cell? ⟨go,1,none⟩=some (.slice oC code.length cC):=fun _ h=>h.kept d1.1
    have q0:∀ Wx,Ext W Wx→Wx.cell? ⟨gi,0,none⟩=some (.int .i64 op):=fun _ h=>h.kept i0
    have q1:∀ Wx,Ext W Wx→Wx.cell? ⟨gi,1,none⟩=some (.int .i64 a):=fun _ h=>h.kept i1
    have q2:∀ Wx,Ext W Wx→Wx.cell? ⟨gi,2,none⟩=some (.int .i64 b):=fun _ h=>h.kept i2
    have q3:∀ Wx,Ext W Wx→Wx.cell? ⟨gi,3,none⟩=some (.int .i64 c):=fun _ h=>h.kept i3
    have q4:∀ Wx,Ext W Wx→Wx.cell? ⟨gi,4,none⟩=some (.int .i64 n):=fun _ h=>h.kept i4
    clear d1 i0 i1 i2 i3 i4
    refine Q23 [7,8,9,10,11,12] 1 (by kernel_rfl) (by kernel_rfl) ?_
    repeat (first | (refine Q1x ?_ ?_;(decide)) | (refine Q1o ?_ ?_ ?_;(decide);(first | rfl | (focus (go_simp;done)));apply Exists.intro;refine ⟨fun wc hE=>?_,?_⟩;(go_simp;exact rfl);go_simp) | (refine Q1v ?_ ?_ ?_;(decide);(focus (go_simp;done));go_simp))
    refine Q1w ?_
    intro w3 hx
    have HS3:=zh (HS.out.extend hx)
    have HK3:Hid (Q56 w w3 go (.slice oC code.length cC) (.slice oC code.length cC)):=zh (HKW.out.trans ⟨fun hb _ _=>hb.ext hx,fun _ e=>.inl e,hx.size⟩)
    have HX:=zh hx
    have hBs:=HS3.out.size
    clear k1 q0 q1 q2 q3 q4 hx
    refine Q01 rfl ?_
    go_wp2
    refine ⟨HX.out.alloc _,?_⟩
    refine Q1q (Q0c rfl (Q0c rfl (Q0c rfl (Q0c rfl (Q0c rfl (Q22)))))) ?_
    refine Q1b _ rfl _ _ 26 rfl B 41 j0 _ 5 40 Tryz.underlying26 hj0 hy0 hy1 hy2 rfl (by decide) _ _ _ rfl (Q1r HS3.out.cd) (some ⟨w3.heap.size,0,none⟩) 1 1 (Q21 ⟨op,a,b,c,n⟩) rfl ?c1 ?c3 ?c4 ?c5 ?_
    case c1=>exact Q1y (size:=5) (Blk.new w3 41 #[.int .i64 op,.int .i64 a,.int .i64 b,.int .i64 c,.int .i64 n]) rfl (by simp [Value.oneCell'])
    case c3=>unfold maxLen;omega
    case c4=>omega
    case c5=>simp;omega
    intro vC' w7 hown hgrow hat2
    obtain ⟨oC2,cC2,rfl⟩:=Q02 hown
    have hxa:=(Ext.refl w3).alloc (.cells #[.int .i64 op,.int .i64 a,.int .i64 b,.int .i64 c,.int .i64 n] 41)
    have HSa:=HS3.out.extend hxa
    have hgrow:(w3.alloc (.cells #[.int .i64 op,.int .i64 a,.int .i64 b,.int .i64 c,.int .i64 n] 41)).grownBy w7 (Value.slice oC code.length cC).ownBlock:=hgrow
    have hlen:(code ++ ([⟨op,a,b,c,n⟩]:List LIns)).length=code.length+1:=by simp
    have HS7:Hid (LSt w0 (w7.setCell ⟨go,1,none⟩ (.slice oC2 (code.length+1) cC2)) B go vR (.slice oC2 (code.length+1) cC2) vP (code ++ [⟨op,a,b,c,n⟩]) places):=zh (HSa.code_ hgrow (by rw [hlen,List.flatMap_append];simpa using hown))
    have hb7:=HSa.box.grown hgrow (Q09 HSa.cd HSa.box (by decide))
    have p1:w7.cell? ⟨go,1,none⟩=some (.slice oC code.length cC)∧w7.frozen? ⟨go,1,none⟩=false:=⟨by rw [hb7.cell];rfl,hb7.frozen _⟩
    have hgo7:=hb7.lt
    have Hlen:=zh hlen
    have HK:Hid (Q56 w3 (w7.setCell ⟨go,1,none⟩ (.slice oC2 (code.length+1) cC2)) go (.slice oC code.length cC) (.slice oC2 (code.length+1) cC2)):=zh ⟨fun hb h1 h2=>((hb.ext hxa).grown hgrow (fun e=>h2 e.symm)).far (p:=⟨go,1,none⟩) h1 _,fun k hk=>by
     rcases hat2 with e | e
     ·left
      rw [e] at hk
      exact hk
     ·right
      have e2:(Value.slice oC2 (code.length+1) cC2).ownBlock=some k:=hk
      rw [e] at e2
      simp only [Option.some.injEq,World.size_alloc] at e2
      omega,by
     have h1:=hgrow.size
     rw [World.size_alloc] at h1
     rw [Q3v]
     omega⟩
    clear hown hgrow hxa HSa hb7 hlen hat2
    go_wp2
    try refine bodyPost_end (results_none rfl _ _ _) rfl ?_
    rw [Hn.out]
    exact ⟨rfl,oC2,cC2,by rw [Hlen.out];exact HS7.out,by rw [Hlen.out];exact HK3.out.trans HK.out⟩
   ·go_wp2_with fail
    (with_reducible refine (Qaz n W).mono ?_)
    rintro e w1 ⟨rfl,rfl⟩
    rw [hf]
    clear hf
    go_upto_region 1 with fail
    obtain ⟨-,d1⟩:=HS.out.cells
    have hgol:=HS.out.box.lt
    have k1:∀ Wx,Ext W Wx→Wx.cell? ⟨go,1,none⟩=some (.slice oC code.length cC):=fun _ h=>h.kept d1.1
    have q0:∀ Wx,Ext W Wx→Wx.cell? ⟨gi,0,none⟩=some (.int .i64 op):=fun _ h=>h.kept i0
    have q1:∀ Wx,Ext W Wx→Wx.cell? ⟨gi,1,none⟩=some (.int .i64 a):=fun _ h=>h.kept i1
    have q2:∀ Wx,Ext W Wx→Wx.cell? ⟨gi,2,none⟩=some (.int .i64 b):=fun _ h=>h.kept i2
    have q3:∀ Wx,Ext W Wx→Wx.cell? ⟨gi,3,none⟩=some (.int .i64 c):=fun _ h=>h.kept i3
    have q4:∀ Wx,Ext W Wx→Wx.cell? ⟨gi,4,none⟩=some (.int .i64 n):=fun _ h=>h.kept i4
    clear d1 i0 i1 i2 i3 i4
    refine Q23 [7,8,9,10,11,12] 1 (by kernel_rfl) (by kernel_rfl) ?_
    repeat (first | (refine Q1x ?_ ?_;(decide)) | (refine Q1o ?_ ?_ ?_;(decide);(first | rfl | (focus (go_simp;done)));apply Exists.intro;refine ⟨fun wc hE=>?_,?_⟩;(go_simp;exact rfl);go_simp) | (refine Q1v ?_ ?_ ?_;(decide);(focus (go_simp;done));go_simp))
    refine Q1w ?_
    intro w3 hx
    have HS3:=zh (HS.out.extend hx)
    have HK3:Hid (Q56 w w3 go (.slice oC code.length cC) (.slice oC code.length cC)):=zh (HKW.out.trans ⟨fun hb _ _=>hb.ext hx,fun _ e=>.inl e,hx.size⟩)
    have HX:=zh hx
    have hBs:=HS3.out.size
    clear k1 q0 q1 q2 q3 q4 hx
    refine Q01 rfl ?_
    go_wp2
    refine ⟨HX.out.alloc _,?_⟩
    refine Q1q (Q0c rfl (Q0c rfl (Q0c rfl (Q0c rfl (Q0c rfl (Q22)))))) ?_
    refine Q1b _ rfl _ _ 26 rfl B 41 j0 _ 5 40 Tryz.underlying26 hj0 hy0 hy1 hy2 rfl (by decide) _ _ _ rfl (Q1r HS3.out.cd) (some ⟨w3.heap.size,0,none⟩) 1 1 (Q21 ⟨op,a,b,c,n⟩) rfl ?c1 ?c3 ?c4 ?c5 ?_
    case c1=>exact Q1y (size:=5) (Blk.new w3 41 #[.int .i64 op,.int .i64 a,.int .i64 b,.int .i64 c,.int .i64 n]) rfl (by simp [Value.oneCell'])
    case c3=>unfold maxLen;omega
    case c4=>omega
    case c5=>simp;omega
    intro vC' w7 hown hgrow hat2
    obtain ⟨oC2,cC2,rfl⟩:=Q02 hown
    have hxa:=(Ext.refl w3).alloc (.cells #[.int .i64 op,.int .i64 a,.int .i64 b,.int .i64 c,.int .i64 n] 41)
    have HSa:=HS3.out.extend hxa
    have hgrow:(w3.alloc (.cells #[.int .i64 op,.int .i64 a,.int .i64 b,.int .i64 c,.int .i64 n] 41)).grownBy w7 (Value.slice oC code.length cC).ownBlock:=hgrow
    have hlen:(code ++ ([⟨op,a,b,c,n⟩]:List LIns)).length=code.length+1:=by simp
    have HS7:Hid (LSt w0 (w7.setCell ⟨go,1,none⟩ (.slice oC2 (code.length+1) cC2)) B go vR (.slice oC2 (code.length+1) cC2) vP (code ++ [⟨op,a,b,c,n⟩]) places):=zh (HSa.code_ hgrow (by rw [hlen,List.flatMap_append];simpa using hown))
    have hb7:=HSa.box.grown hgrow (Q09 HSa.cd HSa.box (by decide))
    have p1:w7.cell? ⟨go,1,none⟩=some (.slice oC code.length cC)∧w7.frozen? ⟨go,1,none⟩=false:=⟨by rw [hb7.cell];rfl,hb7.frozen _⟩
    have hgo7:=hb7.lt
    have Hlen:=zh hlen
    have HK:Hid (Q56 w3 (w7.setCell ⟨go,1,none⟩ (.slice oC2 (code.length+1) cC2)) go (.slice oC code.length cC) (.slice oC2 (code.length+1) cC2)):=zh ⟨fun hb h1 h2=>((hb.ext hxa).grown hgrow (fun e=>h2 e.symm)).far (p:=⟨go,1,none⟩) h1 _,fun k hk=>by
     rcases hat2 with e | e
     ·left
      rw [e] at hk
      exact hk
     ·right
      have e2:(Value.slice oC2 (code.length+1) cC2).ownBlock=some k:=hk
      rw [e] at e2
      simp only [Option.some.injEq,World.size_alloc] at e2
      omega,by
     have h1:=hgrow.size
     rw [World.size_alloc] at h1
     rw [Q3v]
     omega⟩
    clear hown hgrow hxa HSa hb7 hlen hat2
    go_wp2
    try refine bodyPost_end (results_none rfl _ _ _) rfl ?_
    rw [Hn.out]
    exact ⟨rfl,oC2,cC2,by rw [Hlen.out];exact HS7.out,by rw [Hlen.out];exact HK3.out.trans HK.out⟩
theorem Qrc {p:Q00} (hm:Q2p p=true) (hn:∀ i ∈ p.code,R64 i.n):putW (Q1s p)=((Q1s p).code.map Q58,0,0):=by
 have h1:=Qrd hm hn
 have h2:=Qim (l:=(Q1s p).code) 0 (fun i hi=>(Qe2 hm hn i hi).2)
 unfold putW
 rw [h1,h2]
 rfl
theorem Qt3 (p:Q00) {k:Nat} (hk:k < (Q06 p).code.length):((Q06 p).code.take (k+1)).flatMap insC=((Q06 p).code.take k).flatMap insC ++ insC ((Q06 p).code.getD k default):=by
 rw [List.take_succ_eq_append_getElem hk,List.flatMap_append]
 simp [hk]
theorem Qpd (p:Q00) (k:Nat):(List.range (k+1)).map (fun k=>((Q1c p k:Nat):Int))=(List.range k).map (fun k=>((Q1c p k:Nat):Int)) ++ [((Q1c p k:Nat):Int)]:=by
 rw [List.range_succ,List.map_append]
 rfl
theorem Qha (p:Q00) (k:Nat):((((Q06 p).code.take k).flatMap insC)).length≤18 * (Q06 p).code.length:=by
 have h1:=Q7q insC 18 ((Q06 p).code.take k) (fun x _=>Q6b x)
 have h2:((Q06 p).code.take k).length≤(Q06 p).code.length:=by simp;omega
 omega
theorem Qoe {p:Q00} (hm:Q2p p=true):∀ i ∈ (Q06 p).code.flatMap insC,i.op=7∨i.op=8→0≤i.n∧i.n.toNat < (Q06 p).code.length:=by
 intro i hi h
 obtain ⟨j,hj,hij⟩:=List.mem_flatMap.1 hi
 have hh:=(Q5m (Qk5 hm)).2.2.2 j hj
 have key:i=j:=by
  unfold insC at hij
  split at hij
  ·exfalso
   unfold numC at hij
   split at hij
   ·simp at hij;rw [hij] at h;simp at h
   ·simp only [List.mem_cons,List.mem_append,Q5w,List.not_mem_nil,or_false] at hij
    rcases hij with rfl | ((((rfl | rfl | rfl | rfl) | (rfl | rfl | rfl | rfl)) | (rfl | rfl | rfl | rfl)) | (rfl | rfl | rfl | rfl)) <;> simp at h
  ·split at hij
   ·exfalso
    rename_i h10
    simp only [List.mem_append,List.mem_singleton] at hij
    rcases hij with hij | rfl
    ·unfold numC at hij
     rw [if_neg (by simp [h10.2])] at hij
     simp only [List.mem_cons,List.mem_append,Q5w,List.not_mem_nil,or_false] at hij
     rcases hij with rfl | ((((rfl | rfl | rfl | rfl) | (rfl | rfl | rfl | rfl)) | (rfl | rfl | rfl | rfl)) | (rfl | rfl | rfl | rfl)) <;> simp at h
    ·simp at h
   ·simpa using hij
 subst key
 obtain ⟨op,a,b,c,n⟩:=i
 simp only at h
 rcases h with rfl | rfl <;> (unfold Q04 at hh;simp [okIn] at hh;simp only;omega)
theorem Qre {p:Q00} (hm:Q2p p=true) (hn:∀ i ∈ p.code,R64 i.n):∀ i ∈ (Q1s p).code,i.fits:=by
 intro i hi
 obtain ⟨h1,h2⟩:=Qe2 hm hn i hi
 have hr:(Q1s p).regs.length≤6:=Q4g (Q5g hm).1
 obtain ⟨⟨a1,a2⟩,⟨a3,a4⟩,⟨a5,a6⟩,a7,a8⟩:=Qef hr h1
 simp only [Q1f,Bool.and_eq_true,decide_eq_true_eq] at h2
 exact ⟨⟨by omega,by omega⟩,⟨by omega,by omega⟩,⟨by omega,by omega⟩,⟨by omega,by omega⟩,⟨by omega,by omega⟩⟩
theorem Qly {w:World} {v:Value} {l:List Int} {g:Nat} {T:TypeId} {a b:Int} {x y:Value} (h:Q6e w v l) (hb:Blk w g T #[.int .i64 a,.int .i64 b]):Q6e ((w.setCell ⟨g,0,none⟩ x).setCell ⟨g,1,none⟩ y) v l:=by
 obtain ⟨h0,oa,cap,bb,o,h1,h2,h3,h4⟩:=h
 have key:∀ i,i < l.length→bb≠g:=by
  intro i hi e
  have hc:=h4.cell i 0 hi (by omega)
  subst e
  rw [hb.cell] at hc
  generalize o+i * 1+0=k at hc
  match k,hc with
  | 0,hc=>simp at hc
  | 1,hc=>simp at hc
  | k+2,hc=>simp at hc
 refine ⟨h0,oa,cap,bb,o,h1,h2,h3,⟨h4.at_,fun i j hi hj=>?_⟩⟩
 have hk:=key i hi
 rw [World.cell?_setCell_other _ _ _ _ (by intro e;simp only [Addr.mk.injEq] at e;omega),World.cell?_setCell_other _ _ _ _ (by intro e;simp only [Addr.mk.injEq] at e;omega)]
 exact h4.cell i j hi hj
def Qw6 (p:Q00) (w:World) (e:Ending) (w':World):Prop :=
 ∃ (u:Value) (F:Int × Nat),e=.returned (.tuple #[u,.agg #[.int .i64 F.1,.int .i64 (F.2:Int)]])∧Ext w w'∧(Q2p p=true→∃ T,Q6q p T∧F=Q3x p T)∧(Q2p p=false→F=(2,0))∧(F.1=0→Q2p p=true∧Q6e w' u ((Q1s p).code.map Q58))∧(F.1≠0→u=.slice none 0 0)
set_option maxRecDepth 100000 in
set_option maxHeartbeats 8000000 in
theorem Qix (p:Q00) (v:Value) (w:World) (hp:Q29 w v p):Calls Tryz.prog 18 #[v] w (Qw6 p w):=by
 have HP:=zh hp
 obtain ⟨oa,capa,oc,capc,rfl⟩:∃ a b c d,v=.agg #[.slice a p.regs.length b,.slice c p.code.length d]:=by
  obtain ⟨v1,v2,rfl,⟨-,oa,cap,b,o,rfl,-⟩,⟨-,ob,capb,b2,o2,rfl,-⟩⟩:=hp
  exact ⟨_,_,_,_,rfl⟩
 obtain ⟨k0,hk0,hx0,hx1,hx2⟩:=info_parts Qel
 clear hp
 go_enter Tryz.func18,Tryz.ntmps18
 go_upto_region 1 with fail
 obtain ⟨W,g,hg,hW,hx,bP,bF⟩:=Q14 w #[.slice oa p.regs.length capa,.slice oc p.code.length capc] #[.int .i64 0,.int .i64 0] 28 52
 rw [hW,hg]
 have X:=zh hx
 have Hg:=zh hg
 have BF:=zh bF
 have p0:W.cell? ⟨g,0,none⟩=some (.slice oa p.regs.length capa):=by rw [bP.cell];rfl
 have p1:W.cell? ⟨g,1,none⟩=some (.slice oc p.code.length capc):=by rw [bP.cell];rfl
 clear hW hg hx bP bF
 go_wp2_with fail
 have C:=Qtp p _ W (HP.out.ext X.out)
 (with_reducible refine C.mono ?_)
 clear C
 rintro e w1 ⟨u,F,rfl,hx,h1,h2,h3,h4⟩
 have X1:=zh hx
 have H1:=zh h1
 have H2:=zh h2
 clear hx h1 h2 p0 p1
 by_cases hF:F.1=0
 ·have hq:(F.1 != (0:Int))=false:=by simp [hF]
  obtain ⟨hmay,hU⟩:=h3 hF
  obtain ⟨hr,hc1,hcl,hins⟩:=Q5g hmay
  have hhl:(Q06 p).code.length≤600:=by have:=Q8p p;omega
  have hh1:0 < (Q06 p).code.length:=by have:=Q96 (p:=p) (k:=0) (by omega);omega
  have hn64:∀ i ∈ p.code,R64 i.n:=by
   obtain ⟨v1,v2,hv,-,hC⟩:=HP.out
   intro i hi
   exact (hC.1 i hi).2.2.2.2
  have Hn64:=zh hn64
  have Hmay:=zh hmay
  have HF:=zh hF
  have HU:=zh hU
  obtain ⟨b1,b2,b3,b4,rfl,hRu,hCu⟩:=Qp0 hU
  obtain ⟨hfi,oc',capc',bc,oo,hv2,hcc1,hcc2,hrow⟩:=hCu
  simp only [Value.slice.injEq,true_and] at hv2
  obtain ⟨rfl,rfl⟩:=hv2
  have HCW:=zh hrow
  have HRu:=zh hRu
  have hixc:=Q24 (cap:=b4) hrow.at_
  have Hfi:=zh hfi
  clear hrow hRu hfi hr hins hmay hF hU h3 h4 hcc1 hcc2 hn64
  go_upto_region 2 with fail
  obtain ⟨w2,gh,hgh,hW,hx,bH,bT⟩:=Q14 w1 #[.slice b1 (Q06 p).regs.length b2,.slice b3 (Q06 p).code.length b4] #[.int .i64 F.1,.int .i64 (F.2:Int)] 28 52
  rw [hW,hgh]
  have X2:=zh (X1.out.trans hx)
  have BH:=zh bH
  have HCW:=zh (HCW.out.ext hx)
  have HRu:=zh (HRu.out.ext hx)
  have t0:w2.cell? ⟨gh+1,0,none⟩=some (.int .i64 F.1):=by rw [bT.cell];rfl
  have h0:w2.cell? ⟨gh,0,none⟩=some (.slice b1 (Q06 p).regs.length b2):=by rw [bH.cell];rfl
  clear hW hgh hx bH bT
  go_upto_region 5 with fail
  obtain ⟨w4,go,hg4,hW,hx,bO⟩:=Q16 w2 #[.slice b1 (Q06 p).regs.length b2,.slice none 0 0] 103
  rw [hW,hg4]
  have HS:Hid (LSt w2 w4 w2.heap.size go (.slice b1 (Q06 p).regs.length b2) (.slice none 0 0) (.slice none 0 0) [] []):=zh ⟨bO,World.ownsRow_nil _ _ _ _,World.ownsRow_nil _ _ _ _,hx,by omega,Nat.le_refl _⟩
  have h1:w4.cell? ⟨gh,1,none⟩=some (.slice b3 (Q06 p).code.length b4):=hx.kept (by rw [BH.out.cell];rfl)
  clear hW hg4 hx bO t0 h0
  go_wp2_with fail
  go_loopw [7,29] (fun vP i wr => ∃ (k:Nat) (vC:Value),i=.int .i64 (k:Int)∧k≤(Q06 p).code.length∧LSt w2 wr w2.heap.size go (.slice b1 (Q06 p).regs.length b2) vC vP (((Q06 p).code.take k).flatMap insC) ((List.range k).map fun k=>((Q1c p k:Nat):Int))) (fun _ i _=>(Q06 p).code.length - (intOf i).toNat)
  case atStart=>exact ⟨0,_,rfl,by omega,by simpa using HS.out⟩
  case round =>
   obtain ⟨k,vC,rfl,hk,hS⟩:=hrel
   obtain ⟨op,cp,rfl⟩:=Q02 hS.pl
   obtain ⟨oC,cC,rfl⟩:=Q02 hS.cd
   have hrawl:=Qha p k
   have hpll:((List.range k).map fun k=>((Q1c p k:Nat):Int)).length=k:=by simp
   rw [hpll] at hS
   have HS:=zh hS
   rw [hpll]
   by_cases hlt:k < (Q06 p).code.length
   ·obtain ⟨e0,e1,e2,e3,e4⟩:=(HCW.out.ext hS.ext).ins k hlt
    have Hraw:=zh (Qt3 p hlt)
    have Hpls:=zh (Qpd p k)
    have Hpk:Hid ((((Q06 p).code.take k).flatMap insC).length=Q1c p k):=zh rfl
    generalize (Q06 p).code.getD k default=I at *
    obtain ⟨op',a,b,c,n⟩:=I
    simp only at e0 e1 e2 e3 e4
    have hbl:=Q0k e0
    simp only at hbl
    clear hS
    generalize ((Q06 p).code.take k).flatMap insC=code at *
    generalize ((List.range k).map fun k=>((Q1c p k:Nat):Int))=pls at *
    go_upto_region 9 with fail
    obtain ⟨w5,gi,hgi,hW,hx,bI⟩:=Q16 wr #[.int .i64 op',.int .i64 a,.int .i64 b,.int .i64 c,.int .i64 n] 41
    rw [hW,hgi]
    have HS5:=zh (HS.out.extend hx)
    have BI:=zh bI
    have hBs:=HS5.out.size
    obtain ⟨-,d1⟩:=HS5.out.cells
    clear hW hgi hx bI e0 e1 e2 e3 e4 hbl
    go_wp2_with (at_builtin;refine Q1b _ rfl _ _ 49 rfl w2.heap.size 3 k0 _ 1 8 Tryz.underlying49 hk0 hx0 hx1 hx2 rfl (by decide) _ _ _ rfl (Q1r HS5.out.pl) (some ⟨w5.heap.size,0,none⟩) 1 1 [.int .i64 (code.length:Int)] rfl ?c1 ?c3 ?c4 ?c5 ?_)
    case c1=>exact Q1y (size:=1) (Blk.new w5 3 #[.int .i64 (code.length:Int)]) rfl (by simp [Value.oneCell'])
    case c3=>unfold maxLen;omega
    case c4=>omega
    case c5=>simp;omega
    intro vP' w6 hown hgrow hat2
    clear hat2
    obtain ⟨op2,cp2,rfl⟩:=Q02 hown
    have hxa:=(Ext.refl w5).alloc (.cells #[.int .i64 (code.length:Int)] 3)
    have HSa:=HS5.out.extend hxa
    have hgrow:(w5.alloc (.cells #[.int .i64 (code.length:Int)] 3)).grownBy w6 (Value.slice op k cp).ownBlock:=hgrow
    have HS6:=zh (HSa.place (ps:=pls ++ [((Q1c p k:Nat):Int)]) hgrow (by rw [← Hpk.out];simpa [hpll] using hown))
    have bI6:=(BI.out.ext hxa).grown hgrow (Q09 HSa.pl (BI.out.ext hxa) (by decide))
    have i0':w6.cell? ⟨gi,0,none⟩=some (.int .i64 op'):=by rw [bI6.cell];rfl
    have i1':w6.cell? ⟨gi,1,none⟩=some (.int .i64 a):=by rw [bI6.cell];rfl
    have i2':w6.cell? ⟨gi,2,none⟩=some (.int .i64 b):=by rw [bI6.cell];rfl
    have i3':w6.cell? ⟨gi,3,none⟩=some (.int .i64 c):=by rw [bI6.cell];rfl
    have i4':w6.cell? ⟨gi,4,none⟩=some (.int .i64 n):=by rw [bI6.cell];rfl
    clear hown hgrow hxa HSa bI6 d1
    go_wp2_with fail
    have C:=Qrf op' a b c n w6 HS6.out (by omega)
    (with_reducible refine C.mono ?_)
    clear C
    rintro er w7 ⟨rfl,oD,cD,hS7,-⟩
    have HS7:=zh hS7
    clear hS7 i0' i1' i2' i3' i4'
    go_wp2
    go_roundw
    case rel=>exact ⟨k+1,_,by go_num,by omega,by rw [Hraw.out,Hpls.out];exact HS7.out⟩
    case measure=>first | (simp [intOf];done) | (simp [intOf];omega)
   ·have hje:k=(Q06 p).code.length:=by omega
    subst hje
    have hlt2:decide (((Q06 p).code.length:Int) < ((Q06 p).code.length:Int))=false:=by simp
    rw [List.take_length] at hS
    generalize hraw:(Q06 p).code.flatMap insC=raw at *
    have hL1:0 < raw.length:=by
     have:=Qdo (p:=p) (q:=0) hh1
     unfold Q1s at this
     rw [hraw] at this
     simpa using Nat.lt_of_le_of_lt (Nat.zero_le _) this
    have hL2:raw.length≤10800:=by
     have:=Qha p (Q06 p).code.length
     rw [List.take_length,hraw] at this
     omega
    obtain ⟨kc,cC',hv,hkB,hcap1,hcap2,-⟩:=Qbm hS.cd rfl hL1
    simp only [Value.slice.injEq,true_and] at hv
    obtain ⟨rfl,rfl⟩:=hv
    obtain ⟨kp,cp',hv,-,-⟩:=Qao hS.pl (by simp;omega)
    simp only [List.length_map,List.length_range,Value.slice.injEq,true_and] at hv
    obtain ⟨rfl,rfl⟩:=hv
    have hixk:=Q24 (n:=raw.length) (cap:=cC) (b:=kc) (o:=0) (fun _=>rfl)
    simp only [Nat.zero_add] at hixk
    have hixp:=fun W=>Qf8 kp (Q06 p).code.length cp W
    have Hjump:=zh (by have:=Qoe Hmay.out;rw [hraw] at this;exact this)
    obtain ⟨d0,d1⟩:=hS.cells
    have hgol:=hS.box.lt
    have hR0:LSt w2 wr w2.heap.size go (.slice b1 (Q06 p).regs.length b2) (.slice (some ⟨kc,0,none⟩) raw.length cC) (.slice (some ⟨kp,0,none⟩) (Q06 p).code.length cp) (relK (Q1c p) raw 0) ((List.range (Q06 p).code.length).map fun k=>((Q1c p k:Nat):Int)):=by rw [Qh1];exact hS
    have HR0:=zh hR0
    have Hraw:=zh hraw
    clear hS hR0 hraw
    go_wp2_with fail
    go_loopw [52] (fun i wr => ∃ k:Nat,i=.int .i64 (k:Int)∧k≤raw.length∧LSt w2 wr w2.heap.size go (.slice b1 (Q06 p).regs.length b2) (.slice (some ⟨kc,0,none⟩) raw.length cC) (.slice (some ⟨kp,0,none⟩) (Q06 p).code.length cp) (relK (Q1c p) raw k) ((List.range (Q06 p).code.length).map fun k=>((Q1c p k:Nat):Int))) (fun i _=>raw.length - (intOf i).toNat)
    case atStart=>exact ⟨0,rfl,by omega,HR0.out⟩
    case round =>
     obtain ⟨k,rfl,hk,hS⟩:=hrel
     have HS:=zh hS
     obtain ⟨d0,d1⟩:=hS.cells
     have hgol:=hS.box.lt
     by_cases hlt:k < raw.length
     ·obtain ⟨kc',cC',hv,-,-,-,hcs⟩:=Qbm hS.cd rfl (by rw [Q7g];exact hL1)
      rw [Q7g] at hv
      simp only [Value.slice.injEq,Option.some.injEq,Addr.mk.injEq,and_true,true_and] at hv
      obtain ⟨rfl,rfl⟩:=hv
      obtain ⟨s0,s4⟩:=hcs k (by rw [Q7g];exact hlt)
      rw [Qa0 _ _ hlt] at s0 s4
      have Hsame:=zh fun h=>Qh2 (Q1c p) raw hlt h
      have Hsucc:=zh (Qde (Q1c p) raw hlt)
      have Hj:=zh (Hjump.out _ (Q25 hlt))
      have hkcl:=Q0k s0.1
      simp only at hkcl
      have Hget:=zh (Qa0 (Q1c p) raw hlt)
      have HkL:=zh (show k < (relK (Q1c p) raw k).length by rw [Q7g];exact hlt)
      clear hcs hS
      generalize raw.getD k default=I at *
      by_cases h78:I.op=7∨I.op=8
      ·obtain ⟨hn0,hn1⟩:=Hj.out h78
       obtain ⟨kp',cp',hv,-,hpc⟩:=Qao HS.out.pl (by simp;omega)
       simp only [List.length_map,List.length_range,Value.slice.injEq,Option.some.injEq,Addr.mk.injEq,and_true,true_and] at hv
       obtain ⟨rfl,rfl⟩:=hv
       obtain ⟨q0,-⟩:=hpc I.n.toNat (.int .i64 ((Q1c p I.n.toNat:Nat):Int)) (by simp;omega) (by simp [hn1])
       have hq7:(I.op == (7:Int))=true∨((I.op == (7:Int))=false∧(I.op == (8:Int))=true):=by
        rcases h78 with h | h
        ·left;simp [h]
        ·right;simp [h]
       have Hnext:Hid (relK (Q1c p) raw (k+1)=(relK (Q1c p) raw k).set k { (relK (Q1c p) raw k).getD k default with n:=((Q1c p I.n.toNat:Nat):Int) }):=zh (by
        rw [Hsucc.out,Hget.out]
        unfold Q1j
        rw [if_pos h78])
       have hn2:I.n < ((Q06 p).code.length:Int):=by omega
       have hkpl:=Q0k q0
       simp only at hkpl
       clear hpc h78
       rcases hq7 with hq7 | ⟨hq7,hq8⟩
       ·go_wp2
        go_roundw
        case rel=>exact ⟨k+1,by go_num,by omega,by rw [Hnext.out];exact HS.out.setN HkL.out _⟩
        case measure=>first | (simp [intOf];done) | (simp [intOf];omega)
       ·go_wp2
        go_roundw
        case rel=>exact ⟨k+1,by go_num,by omega,by rw [Hnext.out];exact HS.out.setN HkL.out _⟩
        case measure=>first | (simp [intOf];done) | (simp [intOf];omega)
      ·have hq7:(I.op == (7:Int))=false:=by simp;omega
       have hq8:(I.op == (8:Int))=false:=by simp;omega
       have Hs:=zh (Hsame.out h78)
       clear h78
       go_wp2
       go_roundw
       case rel=>exact ⟨k+1,by go_num,by omega,by rw [Hs.out];exact HS.out⟩
       case measure=>first | (simp [intOf];done) | (simp [intOf];omega)
     ·have hje:k=raw.length:=by omega
      subst hje
      have hlt3:decide ((raw.length:Int) < (raw.length:Int))=false:=by simp
      have hcode:relK (Q1c p) raw raw.length=(Q1s p).code:=by rw [Qh3,← Hraw.out];rfl
      rw [hcode] at hS
      have HPL:Hid (Q29 wr (.agg #[.slice b1 (Q06 p).regs.length b2,.slice (some ⟨kc,0,none⟩) raw.length cC]) (Q1s p)):=zh ⟨_,_,rfl,HRu.out.ext hS.ext,Qcd hS.cd (Qre Hmay.out Hn64.out)⟩
      have hputs:=Qrc Hmay.out Hn64.out
      have bF:=BF.out.ext (X2.out.trans hS.ext)
      have XS:=zh (X2.out.trans hS.ext)
      have BF2:=zh bF
      clear hS bF
      go_wp2_with fail
      have C:=Qlt (Q1s p) _ wr HPL.out
      rw [hputs] at C
      (with_reducible refine C.mono ?_)
      clear C
      rintro er w8 ⟨u8,rfl,hU8,hx⟩
      have HU8:=zh hU8
      have X8:=zh (XS.out.trans hx)
      have bF:=BF2.out.ext hx
      have BF3:=zh bF
      have f0:w8.cell? ⟨g+1,0,none⟩=some (.int .i64 0)∧w8.frozen? ⟨g+1,0,none⟩=false:=⟨by rw [bF.cell];rfl,bF.frozen _⟩
      have f1:w8.cell? ⟨g+1,1,none⟩=some (.int .i64 0)∧w8.frozen? ⟨g+1,1,none⟩=false:=⟨by rw [bF.cell];rfl,bF.frozen _⟩
      have hgll:=bF.lt
      clear hU8 hx bF d0 d1
      go_wp2
      have hgw:w.heap.size≤g+1:=by have:=Hg.out;omega
      have hF2:F=(0,0):=by
       have hf:F.1=0:=HF.out
       obtain ⟨T,hT,hF3⟩:=H1.out Hmay.out
       have:=Qkf p T
       rw [hF3] at hf ⊢
       exact this hf
      refine bodyPost_ret (Q9z (Qak BF3.out) rfl _ rfl rfl Tryz.underlying52 rfl Q7n) rfl ?_
      refine ⟨_,F,by rw [hF2];rfl,Qan (X.out.trans X8.out) hgw,H1.out,H2.out,fun _=>⟨Hmay.out,?_⟩,fun h=>absurd HF.out h⟩
      exact Qly HU8.out BF3.out
 ·have hq:(F.1 != (0:Int))=true:=by simp [hF]
  have hu:=h4 hF
  subst hu
  have HF:=zh hF
  clear h3 h4 hF
  go_upto_region 2 with fail
  obtain ⟨w2,gh,hgh,hW,hx,bH,bT⟩:=Q14 w1 #[.slice none 0 0,.slice none 0 0] #[.int .i64 F.1,.int .i64 (F.2:Int)] 28 52
  rw [hW,hgh]
  have X2:=zh (X1.out.trans hx)
  have hgg:g+1 < gh+1:=by have:=(BF.out.ext X1.out).lt;omega
  have t0:w2.cell? ⟨gh+1,0,none⟩=some (.int .i64 F.1):=by rw [bT.cell];rfl
  have t1:w2.cell? ⟨gh+1,1,none⟩=some (.int .i64 (F.2:Int)):=by rw [bT.cell];rfl
  have bF:=BF.out.ext X2.out
  have BF2:=zh bF
  have f0:w2.cell? ⟨g+1,0,none⟩=some (.int .i64 0)∧w2.frozen? ⟨g+1,0,none⟩=false:=⟨by rw [bF.cell];rfl,bF.frozen _⟩
  have f1:w2.cell? ⟨g+1,1,none⟩=some (.int .i64 0)∧w2.frozen? ⟨g+1,1,none⟩=false:=⟨by rw [bF.cell];rfl,bF.frozen _⟩
  clear hW hgh hx bH bT bF
  go_upto_region 3 with fail
  go_region
  all_goals go_wp2
  all_goals (
   have hgw:w.heap.size≤g+1:=by have:=Hg.out;omega
   refine bodyPost_ret (Q9z (Qak BF2.out).drew rfl _ rfl rfl Tryz.underlying52 rfl Q7n) rfl ?_
   exact ⟨_,F,rfl,(Qan (X.out.trans X2.out) hgw).drew,H1.out,H2.out,fun h=>absurd h HF.out,fun _=>rfl⟩)
end Go.Proofs.YtiafchefbehfbaaGreatDoor
