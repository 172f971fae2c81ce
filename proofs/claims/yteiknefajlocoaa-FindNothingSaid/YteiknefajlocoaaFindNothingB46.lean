/- Laid together from: Ck7, Hm. -/
import Derived.Test.YteiknefajlocoaaFindNothingB39
import Derived.Test.YteiknefajlocoaaFindNothingB40
import Derived.Test.YteiknefajlocoaaFindNothingB5
import Derived.Test.YteiknefajlocoaaFindNothingB23
import Derived.Deep.OwnRows
import Derived.Test.YteiknefajlocoaaFindNothingB29
import Derived.Test.YteiknefajlocoaaFindNothingB26

namespace Go.Proofs.Yteiknefajlocoaa
open Go.ChangeShapes Go.WideShapes Go.ChangeAt Go.RowKit
set_option linter.unusedVariables false
set_option linter.unusedSimpArgs false
theorem Qbb (k n cap:Nat) (W:World) (i:Int) (h0:0≤i) (h1:i < n) :
  (Instr.indexAt 51 (.slice (some ⟨k,0,none⟩) n cap) (.int .i64 i)).run Try.prog W=.ok (.pointer (some ⟨k,i.toNat,none⟩)) W:=by
 have hs:(Try.prog.info? 3).map (·.size)=some 1:=by kernel_rfl
 simp [Instr.indexAt,run_underlying Try.underlying51,asIntOf,h0,h1]
 have:=Q3w k 0 i.toNat
 simpa using this
theorem Q7w {w:World} {B:Nat} {e:TypeId} {v:Value} {n:Nat} {xs:List Value} (h:w.ownsRow B e 1 v n xs) (hn:0 < n):∃ k cap,v=.slice (some ⟨k,0,none⟩) n cap∧B≤k∧∀ j x,j < n→xs[j]? = some x→w.cell? ⟨k,j,none⟩=some x∧w.frozen? ⟨k,j,none⟩=false:=by
 have h':=h
 rcases h.2 with ⟨-,h0⟩ | ⟨k,cap,cur,rfl,a1,a2,a3⟩
 ·omega
 ·exact ⟨k,cap,rfl,a1,fun j x hj hx=>⟨by rw [h'.cellAt j (by omega),hx],h'.frozenAt j⟩⟩
theorem Qst {w:World} {B k n cap:Nat} {e:TypeId} {s:Nat} {xs:List Value} (h:w.ownsRow B e s (.slice (some ⟨k,0,none⟩) n cap) n xs):n≤cap∧cap≤maxLen:=by
 rcases h.2 with ⟨h0,-⟩ | ⟨k',cap',cur,hh,a1,a2,a3,a4,-⟩
 ·cases h0
 ·simp only [Value.slice.injEq,Option.some.injEq,Addr.mk.injEq,and_true,true_and] at hh
  obtain ⟨rfl,rfl⟩:=hh
  exact ⟨a3,a4⟩
theorem Qoi {w:World} {B n cap:Nat} {oa:Option Addr} {e:TypeId} {xs:List Value} {x:Value} (h:w.ownsRow B e 1 (.slice oa (n+1) cap) (n+1) (xs ++ [x])):w.ownsRow B e 1 (.slice oa n cap) n xs:=by
 obtain ⟨h0,h⟩:=h
 have hl:xs.length=n:=by simp at h0;omega
 refine ⟨by omega,?_⟩
 rcases h with ⟨h1,h2⟩ | ⟨g,c,cur,h1,h2,h3,h4,h5,h6,h7⟩
 ·omega
 ·simp only [Value.slice.injEq,true_and] at h1
  obtain ⟨rfl,rfl⟩:=h1
  refine .inr ⟨g,cap,cur,rfl,h2,h3,by omega,h5,h6,?_⟩
  have h8:(cur.toList.take ((n+1) * 1)).take n=(xs ++ [x]).take n:=by rw [h7]
  rw [List.take_take,Nat.mul_one,Nat.min_eq_left (by omega),List.take_append_of_le_length (by omega),List.take_of_length_le (l:=xs) (by omega)] at h8
  rw [Nat.mul_one]
  exact h8
theorem CSt.pop {w:World} {B g ks n cap:Nat} {vR vC:Value} {oa:Option Addr} {p:Q00} {T:Tab} {wk:List Int} {x:Int} (h:CSt w B g ks vR vC (.slice oa (n+1) cap) p T (wk ++ [x])) (hn:wk.length=n) :
  CSt (w.setCell ⟨g,3,none⟩ (.slice oa n cap)) B g ks vR vC (.slice oa n cap) p T wk:=by
 have ho:=h.wk
 have hl:(wk ++ [x]).length=n+1:=by simp [hn]
 rw [hl,List.map_append] at ho
 have ho:=Qoi ho
 have hne:some g≠(Value.slice oa n cap).ownBlock:=Q0j ho h.box (by decide)
 refine ⟨h.box.set_ 3 _,h.row.far (p:=⟨g,3,none⟩) h.box (by decide) (by decide) _,?_,h.tok,h.hg,h.hk⟩
 rw [hn]
 exact Q1k ho hne _
theorem Qq4 {P:Nat→Prop} (h:∃ n,P n):∃ n,P n∧∀ m,P m→n≤m:=by
 obtain ⟨n,hn⟩:=h
 induction n using Nat.strongRecOn with
 | ind n ih =>
  by_cases hs:∃ m,m < n∧P m
  ·obtain ⟨m,h1,h2⟩:=hs
   exact ih m h1 h2
  ·exact ⟨n,hn,fun m hm=>by
    rcases Nat.lt_or_ge m n with h1 | h1
    ·exact absurd ⟨m,h1,hm⟩ hs
    ·exact h1⟩
theorem Qgt (P:World→Nat→Prop):∃ mu:World→Nat,∀ w n,P w n→P w (mu w)∧mu w≤n:=by
 refine ⟨fun w=>Classical.epsilon fun n=>P w n∧∀ m,P w m→n≤m,fun w n h=>?_⟩
 have:=Classical.epsilon_spec (Qq4 ⟨n,h⟩)
 exact ⟨this.1,this.2 n h⟩
def Rnd (p:Q00) (w0:World) (g ks:Nat) (vR vC:Value) (w:World) (n:Nat):Prop :=
 ∃ (T:Tab) (wk:List Int) (vK:Value),meas T wk=n∧n≤87001∧Work p T wk (fun _=>False)∧CSt w w0.heap.size g ks vR vC vK p T wk∧Ext w0 w
def Qjc (p:Q00) (w:World) (e:Ending) (w':World):Prop :=
 ∃ F:Int × Nat,e=.returned (.agg #[.int .i64 F.1,.int .i64 (F.2:Int)])∧Ext w w'∧(Q36 p=true→∃ T,Q5x p T∧F=Q22 p T)∧(Q36 p=false→F=(2,0))
theorem Qit {p:Q00} {T:Tab} {n k:Nat} (h:tg T k=none):Q1v p T (n+1) k=Q1v p T n (k+1):=by rw [Q1v,h]
theorem Qir {p:Q00} {T:Tab} {n k:Nat} {s:KSt} (h:tg T k=some s):Q1v p T (n+1) k=if !Q1d p k s (Q0d p k) then (4,k) else if !Q0t p s (Q0d p k) then (5,k) else Q1v p T n (k+1):=by rw [Q1v,h]
theorem Q3q:(Try.prog.info? 28).map (·.size)=some 2:=by kernel_rfl
theorem Qrn:(Try.prog.info? 81).map (fun i=>(i.zero,i.size,i.bytes))=some (some (.pointer none),1,8):=by kernel_rfl
theorem Qns (k:Nat) (w:World):(binOp .eql 81 (.pointer (some ⟨k,0,none⟩)) (.pointer none)).run Try.prog w=.ok (.bool false) w:=by
 first | (kernel_rfl;done) | (go_simp;done)
theorem Q4i {w:World} {g:Nat} {T:TypeId} {a b x y:Value} (h:Blk w g T #[a,b]):Blk ((w.setCell ⟨g,0,none⟩ x).setCell ⟨g,1,none⟩ y) g T #[x,y]:=(h.set_ 0 x).set_ 1 y
theorem Q4j {w w1:World} {g:Nat} {x y:Value} (h:Ext w w1) (hg:w.heap.size≤g):Ext w ((w1.setCell ⟨g,0,none⟩ x).setCell ⟨g,1,none⟩ y):=(h.setCell hg _).setCell hg _
theorem Qm4 (w:World) (k n B:Nat) (hb:Blk w k 81 (madeCells #[.pointer none] n)):Q55 w B k n (List.replicate n none):=by
 refine ⟨_,hb,by simp [madeCells],fun j hj=>?_⟩
 have:tg (List.replicate n (none:Option KSt)) j=none:=by
  unfold tg
  rw [List.getD_eq_getElem?_getD,List.getElem?_replicate,if_pos hj]
  rfl
 rw [this]
 simp [madeCells,hj,Nat.mod_one]
set_option maxRecDepth 100000 in
set_option maxHeartbeats 8000000 in
theorem Qj1 (p:Q00) (v:Value) (w:World) (hp:Q0b w v p):Calls Try.prog 23 #[v] w (Qjc p w):=by
 have HP:=Lib.hid hp
 obtain ⟨oa,capa,oc,capc,rfl⟩:∃ a b c d,v=.agg #[.slice a p.regs.length b,.slice c p.code.length d]:=by
  obtain ⟨v1,v2,rfl,⟨-,oa,cap,b,o,rfl,-⟩,⟨-,ob,capb,b2,o2,rfl,-⟩⟩:=hp
  exact ⟨_,_,_,_,rfl⟩
 clear hp
 go_enter Try.func23,Try.ntmps23
 go_upto_region 1 with fail
 obtain ⟨W,gb,hg,hW,hx,bP,bF⟩:=Q0i w #[.slice oa p.regs.length capa,.slice oc p.code.length capc] #[.int .i64 0,.int .i64 0] 25 28
 rw [hW,hg]
 have X:=Lib.hid hx
 have hgb:w.heap.size≤gb:=by omega
 have Hgb:=Lib.hid hgb
 have p0:W.cell? ⟨gb,0,none⟩=some (.slice oa p.regs.length capa):=by rw [bP.cell];rfl
 have p1:W.cell? ⟨gb,1,none⟩=some (.slice oc p.code.length capc):=by rw [bP.cell];rfl
 clear hW hg hx
 go_wp2_with fail
 have C:=Qpg p _ W (HP.out.ext X.out)
 (with_reducible refine C.mono ?_)
 clear C
 rintro e w1 ⟨rfl,hx⟩
 have bP:=bP.ext hx
 have bF:=bF.ext hx
 have X:=Lib.hid (X.out.trans hx)
 have p0:=hx.kept p0
 have p1:=hx.kept p1
 have f0:w1.cell? ⟨gb+1,0,none⟩=some (.int .i64 0)∧w1.frozen? ⟨gb+1,0,none⟩=false:=⟨by rw [bF.cell];rfl,bF.frozen _⟩
 have f1:w1.cell? ⟨gb+1,1,none⟩=some (.int .i64 0)∧w1.frozen? ⟨gb+1,1,none⟩=false:=⟨by rw [bF.cell];rfl,bF.frozen _⟩
 have hgl:=bF.lt
 clear hx hgb
 cases hmay:Q36 p
 ·have BF:=Lib.hid bF
  have BP:=Lib.hid bP
  clear bF bP
  go_wp2
  exact bodyPost_ret (Q1y (Q4i BF.out) rfl _ rfl Try.underlying28 rfl Q3q) rfl ⟨(2,0),rfl,Q4j X.out (by have:=Hgb.out;omega),fun h=>(by rw [hmay] at h;cases h),fun _=>rfl⟩
 ·obtain ⟨hr,hc1,hcl,hins⟩:=Q6a hmay
  have Hr:=Lib.hid hr
  have Hins:=Lib.hid hins
  have Hmay:=Lib.hid hmay
  have hmk:∀ wx,(Instr.makeSlice 73 (.int .i64 (p.code.length:Int)) (.int .i64 (p.code.length:Int))).run Try.prog wx=.ok (.slice (some ⟨wx.heap.size,0,none⟩) p.code.length p.code.length) (wx.alloc (.cells (madeCells #[.pointer none] p.code.length) 81)):=fun wx =>
   run_make_row' (P:=Try.prog) 73 81 (.pointer none) 8 Try.underlying73 Qrn rfl .i64 .i64 p.code.length (by omega) (by omega) wx
  clear hr hins hmay
  go_upto_region 3 with fail
  have kp0:∀ W,Ext w1 W→W.cell? ⟨gb,0,none⟩=some (.slice oa p.regs.length capa):=fun _ h=>h.kept p0
  have kp1:∀ W,Ext w1 W→W.cell? ⟨gb,1,none⟩=some (.slice oc p.code.length capc):=fun _ h=>h.kept p1
  have BF:=Lib.hid bF
  have BP:=Lib.hid bP
  clear f0 f1 bF bP
  refine Q2d [4,5,6,7] 3 (by kernel_rfl) (by kernel_rfl) ?_
  repeat (first | (refine Q2o ?_ ?_;(decide)) | (refine Q2i ?_ ?_ ?_;(decide);(first | rfl | (focus (go_simp;done)));apply Exists.intro;refine ⟨fun wc hE=>?_,?_⟩;(go_simp;exact rfl);go_simp) | (refine Q2m ?_ ?_ ?_;(decide);(focus (go_simp;done));go_simp))
  refine Q2n ?_
  intro w2 hx
  clear kp0 kp1 p0 p1
  refine Q39 rfl ?_
  go_wp2
  refine ⟨hx.alloc _,?_⟩
  refine Q39 rfl ?_
  go_wp2
  refine ⟨hx.alloc _,?_⟩
  refine Q39 rfl ?_
  go_wp2
  refine ⟨(hx.alloc _).alloc _,?_⟩
  refine Q23 (Q10 rfl Q2a) ?_
  obtain ⟨w3,hw3,hP3⟩:∃ w3,((w2.alloc (.cells (madeCells #[.pointer none] p.code.length) 81)).alloc (.cells #[.slice oa p.regs.length capa,.slice oc p.code.length capc,.slice (some ⟨w2.heap.size,0,none⟩) p.code.length p.code.length,.slice none 0 0] 75))=w3 ∧
    CSt w3 w1.heap.size (w2.heap.size+1) w2.heap.size (.slice oa p.regs.length capa) (.slice oc p.code.length capc) (.slice none 0 0) p (List.replicate p.code.length none) []∧Ext w1 w3:=by
   have hz:=hx.size
   have b1:=Blk.new w2 81 (madeCells #[.pointer none] p.code.length)
   refine ⟨_,rfl,⟨?_,Qm4 _ _ _ _ (b1.alloc _),World.ownsRow_nil _ _ _ _,⟨by simp,fun k s hk=>?_⟩,by omega,by omega⟩,(hx.alloc _).alloc _⟩
   ·have:=Blk.new (w2.alloc (.cells (madeCells #[.pointer none] p.code.length) 81)) 75 #[.slice oa p.regs.length capa,.slice oc p.code.length capc,.slice (some ⟨w2.heap.size,0,none⟩) p.code.length p.code.length,.slice none 0 0]
    simpa using this
   ·exfalso
    unfold tg at hk
    rw [List.getD_eq_getElem?_getD,List.getElem?_replicate] at hk
    split at hk <;> cases hk
  have hP3:=Lib.hid hP3
  try rw [hw3]
  clear hw3
  generalize w2.heap.size=ks at *
  generalize ks+1=g at *
  clear hx hmk
  have hk8:Q32.length=8:=rfl
  have Hcl:=Lib.hid hcl
  go_wp2_with fail
  rw [st0]
  have C:=Q4z p 0 Q32 Qd4 hcl (by simp) w3 hP3.out.1
  have e00:((0:Nat):Int)=0:=rfl
  rw [e00] at C
  (with_reducible refine C.mono ?_)
  clear C
  rintro e w4 ⟨rfl,vK,P4,T4⟩
  have hl1:=Qql p hc1
  rw [hl1.1,hl1.2] at P4
  have E4:=Lib.hid (Below.trans hP3.out.2 (Q50 hP3.out.1 T4))
  have P4:=Lib.hid P4
  clear T4 hl1 hP3
  obtain ⟨mu,hmu⟩:=Qgt (Rnd p w1 g ks (.slice oa p.regs.length capa) (.slice oc p.code.length capc))
  have Hmu:=Lib.hid hmu
  clear hmu
  go_wp2_with fail
  go_loopw [] (fun wr => ∃ n,Rnd p w1 g ks (.slice oa p.regs.length capa) (.slice oc p.code.length capc) wr n) (fun wr=>mu wr)
  case atStart=>exact ⟨_,_,_,_,rfl,Qpf p hcl,Qjo p (by omega),P4.out,E4.out⟩
  case round =>
   obtain ⟨n0,hn0⟩:=hrel
   obtain ⟨T,wk,vK,hm,hmb,hw,P,hE⟩:=(Hmu.out wr n0 hn0).1
   clear hn0
   have PP:=Lib.hid P
   have XE:=Lib.hid hE
   have HW:=Lib.hid hw
   have Hm:=Lib.hid hm
   have Hmb:=Lib.hid hmb
   have hwl:wk.length≤87001:=by unfold meas at hm;omega
   obtain ⟨-,-,g2,g3⟩:=P.cells
   have hgl2:=P.box.lt
   by_cases hne:0 < wk.length
   ·obtain ⟨wk',x,rfl⟩:=Qjn hne
    obtain ⟨k,rfl,hk,s,hs⟩:=hw.elems x (by simp)
    have hl:(wk' ++ [(k:Int)]).length=wk'.length+1:=by simp
    obtain ⟨kb,capb,hvb,hkb,hcs⟩:=Q7w P.wk hne
    obtain ⟨hx0,-⟩:=hcs wk'.length (.int .i64 (k:Int)) (by omega) (by simp)
    subst hvb
    have hcap:=Qst P.wk
    rw [hl] at g3 hcap hwl
    have P:=PP.out
    rw [hl] at P
    have Hs:=Lib.hid hs
    obtain ⟨N,hN⟩:∃ N,wk'.length=N:=⟨_,rfl⟩
    rw [hN] at g3 hcap hwl hx0 P
    have PP:=Lib.hid P
    have HN:=Lib.hid hN
    have hcap1:=hcap.1
    have hwrN:IntKind.i64.wrap (N:Int)=(N:Int):=Go.IntWalk.i64_in _ (by omega)
    have hsB:(N:Int)≤(capb:Int):=by omega
    have hsD:¬ capb=0:=by omega
    have hixb:∀ W,(Instr.indexAt 51 (.slice (some ⟨kb,0,none⟩) (N+1) capb) (.int .i64 (N:Int))).run Try.prog W=.ok (.pointer (some ⟨kb,N,none⟩)) W:=fun W=>by
     have:=Qbb kb (N+1) capb W (N:Int) (by omega) (by omega)
     simpa using this
    clear hcs hl hw P hE hm hmb hne hs hN
    go_upto_region 6 with fail
    have k3:∀ W,Ext wr W→W.cell? ⟨g,3,none⟩=some (.slice (some ⟨kb,0,none⟩) (N+1) capb):=fun _ h=>h.kept g3.1
    have kx:∀ W,Ext wr W→W.cell? ⟨kb,N,none⟩=some (.int .i64 (k:Int)):=fun _ h=>h.kept hx0
    refine Q0z 13 (by kernel_rfl) (by kernel_rfl) ?_
    simp only [List.take_succ_cons,List.take_zero,List.drop_succ_cons,List.drop_zero]
    repeat (first | (refine Q0p ?_ ?_ (fun wc hE=>?_) ?_;(decide);rfl;(focus (go_simp;done));go_simp) | (refine Q0h ?_ ?_ ?_;(decide);(first | rfl | (focus (go_simp;done)));apply Exists.intro;refine ⟨fun wc hE=>?_,?_⟩;(go_simp;exact rfl);go_simp) | (refine Q0q ?_ ?_ ?_;(decide);(first | rfl | (focus (go_simp;done)));apply Exists.intro;refine ⟨fun wc hE=>?_,?_⟩;(go_simp;(first | fail));go_simp) | (refine Q0n ?_ ?_ ?_;(decide);(focus (go_simp;done));go_simp))
    refine Q0o ?_
    intro w5 hx
    clear k3 kx hx0 g2
    have g3:=Q0a hx g3
    have PP:=Lib.hid (PP.out.ext hx)
    have XE:=Lib.hid (XE.out.trans hx)
    have hgl2:=PP.out.box.lt
    clear hx hixb
    go_upto_region 7 with fail
    have k3:∀ W,Ext w5 W→W.cell? ⟨g,3,none⟩=some (.slice (some ⟨kb,0,none⟩) (N+1) capb):=fun _ h=>h.kept g3.1
    refine Q2d [14] 0 (by kernel_rfl) (by kernel_rfl) ?_
    repeat (first | (refine Q2o ?_ ?_;(decide)) | (refine Q2i ?_ ?_ ?_;(decide);(first | rfl | (focus (go_simp;done)));apply Exists.intro;refine ⟨fun wc hE=>?_,?_⟩;(go_simp;exact rfl);go_simp) | (refine Q2m ?_ ?_ ?_;(decide);(focus (go_simp;done));go_simp))
    refine Q2n ?_
    intro w6 hx
    clear k3
    have g3:=Q0a hx g3
    have PP:=PP.out.ext hx
    have XE:=XE.out.trans hx
    have hgl2:=PP.box.lt
    refine Q23 (Q10 rfl Q2a) ?_
    obtain ⟨w7,hw7,hP7⟩:∃ w7,w6.setCell ⟨g,3,none⟩ (.slice (some ⟨kb,0,none⟩) N capb)=w7∧CSt w7 w1.heap.size g ks (.slice oa p.regs.length capa) (.slice oc p.code.length capc) (.slice (some ⟨kb,0,none⟩) N capb) p T wk'∧Ext w1 w7 :=
     ⟨_,rfl,PP.pop HN.out,XE.setCell (p:=⟨g,3,none⟩) PP.hg _⟩
    have P7:=Lib.hid hP7.1
    have X7:=Lib.hid hP7.2
    clear hx XE PP hP7
    go_upto_region 8 with fail
    try rw [hw7]
    clear g3 hgl2 hw7
    obtain ⟨-,-,g2,-⟩:=P7.out.cells
    have hgl2:=P7.out.box.lt
    obtain ⟨kk,q0,hkk,bS⟩:=(P7.out.row_at hk).2 s Hs.out
    have hq0:=Q09 q0.1
    have hkl:=bS.lt
    have hso:=P7.out.tok.ok k s Hs.out
    have hst:∀ W,(Instr.indexAt 73 (.slice (some ⟨ks,0,none⟩) p.code.length p.code.length) (.int .i64 (k:Int))).run Try.prog W=.ok (.pointer (some ⟨ks,k,none⟩)) W:=fun W=>by
     have:=Qdl W ks p.code.length p.code.length (k:Int) (by omega) (by omega)
     simpa using this
    have hl8:=hso.len
    have Hso:=Lib.hid hso
    clear hso
    go_wp2_with (first | ((with_reducible refine Q37 bS ?_ Try.underlying80 ?_ ?_ ?_);rfl;rfl;(rw [Q15 hl8];exact infoState')) | fail)
    have C:=Q5g p k s Hso.out Hr.out Hcl.out hk (Hins.out _ (Q2b hk)) (by rw [HN.out];omega) w7 (HP.out.ext (X.out.trans X7.out)) P7.out
    (with_reducible refine C.mono ?_)
    clear C
    rintro e w8 ⟨rfl,vK',P8,B8⟩
    have HR:=Qjl HW.out Hs.out
    have Hnew:Rnd p w1 g ks (.slice oa p.regs.length capa) (.slice oc p.code.length capc) w8 (meas (Q4r p (Q0f p k s (Q0d p k)) (T,wk')).1 (Q4r p (Q0f p k s (Q0d p k)) (T,wk')).2) :=
     ⟨_,_,vK',rfl,by have:=Hm.out;have:=Hmb.out;have:=HR.2;omega,HR.1,P8,Below.trans X7.out B8⟩
    have Hnew:=Lib.hid Hnew
    have Hless:Hid (mu w8 < mu wr):=Lib.hid (by
     have h1:=(Hmu.out _ _ Hnew.out).2
     have h2:=HR.2
     have h3:=Hm.out
     omega)
    clear HR P8 B8 bS g2 q0
    go_wp2
    go_roundw
    case rel=>exact ⟨_,Hnew.out⟩
    case measure=>exact Hless.out
   ·have hwk:wk=[]:=by
     cases wk with
     | nil=>rfl
     | cons a b=>simp at hne
    subst hwk
    have HL:=Lib.hid (Qjm hw)
    obtain ⟨ok,okc,rfl⟩:=Q1e P.wk
    have hl0:(([]:List Int).length:Nat)=0:=rfl
    rw [hl0] at g3
    clear hw P hE hm hmb hne HW Hm Hmb Hmu hl0
    rename World=>wA
    go_wp2_with fail
    go_loopw [70] (fun i wr => ∃ j:Nat,j≤p.code.length∧i=.int .i64 j∧Ext wA wr∧Q1v p T (p.code.length - j) j=Q22 p T) (fun i _=>p.code.length - (intOf i).toNat)
    case atStart=>exact ⟨0,by omega,rfl,Ext.refl _,rfl⟩
    case round =>
     obtain ⟨j,hj,rfl,hE2,hF⟩:=hrel
     have P:=PP.out.ext hE2
     have X2:=Lib.hid hE2
     have HF:=Lib.hid hF
     clear g2 g3 hgl2
     obtain ⟨-,-,g2,-⟩:=P.cells
     have hgl2:=P.box.lt
     clear hE2 hF
     by_cases hlt:j < p.code.length
     ·have hst:∀ W,(Instr.indexAt 73 (.slice (some ⟨ks,0,none⟩) p.code.length p.code.length) (.int .i64 (j:Int))).run Try.prog W=.ok (.pointer (some ⟨ks,j,none⟩)) W:=fun W=>by
       have:=Qdl W ks p.code.length p.code.length (j:Int) (by omega) (by omega)
       simpa using this
      have hnj:p.code.length - j=(p.code.length - (j+1))+1:=by omega
      cases ht:tg T j with
      | none =>
       obtain ⟨q0,-⟩:=(P.row_at hlt).1 ht
       have Hn:=Lib.hid (show Q1v p T (p.code.length - (j+1)) (j+1)=Q22 p T by rw [← HF.out,hnj,Qit ht])
       clear P ht hnj
       go_wp2
       go_roundw
       case rel=>exact ⟨j+1,by omega,by go_num,X2.out,Hn.out⟩
       case measure=>first | (simp [intOf];done) | (simp [intOf];omega)
      | some s =>
       obtain ⟨kk,q0,hkk,bS⟩:=(P.row_at hlt).2 s ht
       have hq0:=Q09 q0.1
       have hkl:=bS.lt
       have hso:=P.tok.ok j s ht
       have hl8:=hso.len
       have Hso:=Lib.hid hso
       have hpn:=Qns kk
       have BS:=Lib.hid bS
       have Hf:=Lib.hid (Qir (p:=p) (n:=p.code.length - (j+1)) ht)
       have HF2:Hid (Q1v p T (p.code.length - (j+1)+1) j=Q22 p T):=Lib.hid (by rw [← hnj];exact HF.out)
       clear hso hnj ht
       go_wp2_with (first | ((with_reducible refine Q37 bS ?_ Try.underlying80 ?_ ?_ ?_);rfl;rfl;(rw [Q15 hl8];exact infoState')) | fail)
       have C:=Qt6 p j s Hso.out Hr.out Hcl.out hlt (Hins.out _ (Q2b hlt)) wr (HP.out.ext (X.out.trans (XE.out.trans X2.out))) P
       (with_reducible refine C.mono ?_)
       clear C
       rintro e w5 ⟨rfl,hx⟩
       have P:=P.ext hx
       have X2:=Lib.hid (X2.out.trans hx)
       have bS:=BS.out.ext hx
       have BS:=Lib.hid bS
       have q0:=Q0a hx q0
       have hkl:=bS.lt
       have hq0:=Q09 q0.1
       clear hx
       cases hb:Q1d p j s (Q0d p j)
       ·have HE:=Lib.hid (show ((4:Int),j)=Q22 p T by rw [← HF2.out,Hf.out,hb];rfl)
        have bF:=BF.out.ext (XE.out.trans X2.out)
        have f0:w5.cell? ⟨gb+1,0,none⟩=some (.int .i64 0)∧w5.frozen? ⟨gb+1,0,none⟩=false:=⟨by rw [bF.cell];rfl,bF.frozen _⟩
        have f1:w5.cell? ⟨gb+1,1,none⟩=some (.int .i64 0)∧w5.frozen? ⟨gb+1,1,none⟩=false:=⟨by rw [bF.cell];rfl,bF.frozen _⟩
        have hgl3:=bF.lt
        clear bF
        clear bS q0 P hb
        go_wp2
        exact bodyPost_ret (Q1y (Q4i (BF.out.ext (XE.out.trans X2.out))) rfl _ rfl Try.underlying28 rfl Q3q) rfl ⟨(4,j),rfl,Q4j (X.out.trans (XE.out.trans X2.out)) (by have:=Hgb.out;omega),fun _=>⟨T,HL.out,HE.out⟩,fun h=>(by rw [Hmay.out] at h;cases h)⟩
       ·have Hb:=Lib.hid hb
        clear hb
        go_wp2_with (first | ((with_reducible refine Q37 bS ?_ Try.underlying80 ?_ ?_ ?_);rfl;rfl;(rw [Q15 hl8];exact infoState')) | fail)
        have C:=Qni p j s Hso.out Hr.out Hcl.out hlt (Hins.out _ (Q2b hlt)) w5 (HP.out.ext (X.out.trans (XE.out.trans X2.out))) P
        (with_reducible refine C.mono ?_)
        clear C
        rintro e w6 ⟨rfl,hx⟩
        have X2:=Lib.hid (X2.out.trans hx)
        clear hx P bS q0
        cases hq:Q0t p s (Q0d p j)
        ·have HE:=Lib.hid (show ((5:Int),j)=Q22 p T by rw [← HF2.out,Hf.out,Hb.out,hq];rfl)
         have bF:=BF.out.ext (XE.out.trans X2.out)
         have f0:w6.cell? ⟨gb+1,0,none⟩=some (.int .i64 0)∧w6.frozen? ⟨gb+1,0,none⟩=false:=⟨by rw [bF.cell];rfl,bF.frozen _⟩
         have f1:w6.cell? ⟨gb+1,1,none⟩=some (.int .i64 0)∧w6.frozen? ⟨gb+1,1,none⟩=false:=⟨by rw [bF.cell];rfl,bF.frozen _⟩
         have hgl3:=bF.lt
         clear bF
         clear hq
         go_wp2
         exact bodyPost_ret (Q1y (Q4i (BF.out.ext (XE.out.trans X2.out))) rfl _ rfl Try.underlying28 rfl Q3q) rfl ⟨(5,j),rfl,Q4j (X.out.trans (XE.out.trans X2.out)) (by have:=Hgb.out;omega),fun _=>⟨T,HL.out,HE.out⟩,fun h=>(by rw [Hmay.out] at h;cases h)⟩
        ·have Hn:=Lib.hid (show Q1v p T (p.code.length - (j+1)) (j+1)=Q22 p T by rw [← HF2.out,Hf.out,Hb.out,hq];rfl)
         clear hq
         go_wp2
         go_roundw
         case rel=>exact ⟨j+1,by omega,by go_num,X2.out,Hn.out⟩
         case measure=>first | (simp [intOf];done) | (simp [intOf];omega)
     ·have hje:j=p.code.length:=by omega
      subst hje
      have hlt2:decide ((p.code.length:Int) < (p.code.length:Int))=false:=by simp
      have HE:=Lib.hid (show ((0:Int),0)=Q22 p T by rw [← HF.out,Nat.sub_self];rfl)
      have bF:=BF.out.ext (XE.out.trans X2.out)
      have f0:wr.cell? ⟨gb+1,0,none⟩=some (.int .i64 0)∧wr.frozen? ⟨gb+1,0,none⟩=false:=⟨by rw [bF.cell];rfl,bF.frozen _⟩
      have f1:wr.cell? ⟨gb+1,1,none⟩=some (.int .i64 0)∧wr.frozen? ⟨gb+1,1,none⟩=false:=⟨by rw [bF.cell];rfl,bF.frozen _⟩
      have hgl3:=bF.lt
      clear bF
      clear P
      go_wp2
      exact bodyPost_ret (Q1y (Q4i (BF.out.ext (XE.out.trans X2.out))) rfl _ rfl Try.underlying28 rfl Q3q) rfl ⟨(0,0),rfl,Q4j (X.out.trans (XE.out.trans X2.out)) (by have:=Hgb.out;omega),fun _=>⟨T,HL.out,HE.out⟩,fun h=>(by rw [Hmay.out] at h;cases h)⟩
theorem Qmo (p:Q00) {k:Nat} (hk:k < p.code.length):(p.code.take (k+1)).flatMap (Q1q p)=(p.code.take k).flatMap (Q1q p) ++ Q1q p (p.code.getD k default):=by
 rw [List.take_succ_eq_append_getElem hk,List.flatMap_append]
 simp [hk]
theorem Qo6 (p:Q00) (k:Nat):(List.range (k+1)).map (fun k=>((Q0w p k:Nat):Int))=(List.range k).map (fun k=>((Q0w p k:Nat):Int)) ++ [((Q0w p k:Nat):Int)]:=by
 rw [List.range_succ,List.map_append]
 rfl
theorem Qca (p:Q00) (k:Nat):((p.code.take k).flatMap (Q1q p)).length≤3 * p.code.length:=by
 have h1:=Q6c (Q1q p) 3 (p.code.take k) (fun x _=>by rw [Qbd];split <;> omega)
 have h2:(p.code.take k).length≤p.code.length:=by simp;omega
 omega
theorem Qmm {p:Q00} (hins:∀ i ∈ p.code,Q01 p 8 i=true):∀ i ∈ rawH p,i.op=7∨i.op=8→0≤i.n∧i.n.toNat < p.code.length:=by
 intro i hi h
 obtain ⟨j,hj,hij⟩:=List.mem_flatMap.1 hi
 unfold Q1q at hij
 split at hij
 ·rename_i h3
  simp only [List.mem_cons,List.not_mem_nil,or_false] at hij
  exfalso
  rcases hij with rfl | rfl | rfl <;> simp at h <;> omega
 ·simp only [List.mem_singleton] at hij
  subst hij
  have h0:=hins i hj
  obtain ⟨op,a,b,c,n⟩:=i
  simp only at h
  rcases h with rfl | rfl <;> (unfold Q01 at h0;simp [okIn] at h0;simp only;omega)
theorem Qmn {p:Q00} (hr:Q02 p.regs=true) (hins:∀ i ∈ p.code,Q01 p 8 i=true) (hf:∀ i ∈ p.code,i.fits):∀ i ∈ rawH p,i.fits:=by
 intro i hi
 obtain ⟨j,hj,hij⟩:=List.mem_flatMap.1 hi
 have hfj:=hf j hj
 unfold Q1q at hij
 split at hij
 ·rename_i h3
  have hc:=Q35 (hins j hj) (by unfold Q0s Q0m;rcases h3 with h | h <;> simp [h])
  have hw:Q0e (Q0c p j)≤64:=by
   have hm:Q0c p j ∈ p.regs:=by
    unfold Q0c
    simp [hc.2]
   exact Q6u _ (Q66 hr _ hm).2
  obtain ⟨f1,f2,f3,f4,f5⟩:=hfj
  simp only [List.mem_cons,List.not_mem_nil,or_false] at hij
  rcases hij with rfl | rfl | rfl
  ·exact ⟨by unfold R64;simp,by unfold R64;simp,f3,by unfold R64;simp,f5⟩
  ·exact ⟨by unfold R64;simp,by unfold R64;simp,by unfold R64;simp,by unfold R64;simp,by unfold R64;simp only;omega⟩
  ·exact ⟨f1,f2,by unfold R64;simp,f4,by unfold R64;simp⟩
 ·simp only [List.mem_singleton] at hij
  subst hij
  exact hfj
theorem Qs0 {p:Q00} (hr:Q02 p.regs=true) (hcl:p.code.length≤200) (hins:∀ i ∈ p.code,Q01 p 8 i=true) (hf:∀ i ∈ p.code,i.fits):∀ i ∈ (Q1h p).code,i.fits:=by
 intro i hi
 obtain ⟨j,hj,rfl⟩:=List.mem_map.1 hi
 have h:=Qmn hr hins hf j hj
 unfold Q2t
 split
 ·obtain ⟨f1,f2,f3,f4,f5⟩:=h
  have hp:Q0w p j.n.toNat≤600:=by
   have:=Qca p j.n.toNat
   unfold Q0w plc
   omega
  exact ⟨f1,f2,f3,f4,by unfold R64;simp only;omega⟩
 ·exact h
theorem Q72 {w:World} {g:Nat} {T U:TypeId} {a b c d x y z u:Value} (hA:Blk w g T #[a,b]) (hB:Blk w (g+1) U #[c,d]) :
  Blk ((((w.setCell ⟨g,0,none⟩ x).setCell ⟨g,1,none⟩ y).setCell ⟨g+1,0,none⟩ z).setCell ⟨g+1,1,none⟩ u) g T #[x,y]∧Blk ((((w.setCell ⟨g,0,none⟩ x).setCell ⟨g,1,none⟩ y).setCell ⟨g+1,0,none⟩ z).setCell ⟨g+1,1,none⟩ u) (g+1) U #[z,u] :=
 ⟨(((hA.set_ 0 x).set_ 1 y).far (p:=⟨g+1,0,none⟩) (by simp) z).far (p:=⟨g+1,1,none⟩) (by simp) u,(((hB.far (p:=⟨g,0,none⟩) (by simp) x).far (p:=⟨g,1,none⟩) (by simp) y).set_ 0 z).set_ 1 u⟩
theorem Qan {w w1:World} {g:Nat} {x y z u:Value} (h:Ext w w1) (hg:w.heap.size≤g):Ext w ((((w1.setCell ⟨g,0,none⟩ x).setCell ⟨g,1,none⟩ y).setCell ⟨g+1,0,none⟩ z).setCell ⟨g+1,1,none⟩ u) :=
 (((h.setCell (p:=⟨g,0,none⟩) hg _).setCell (p:=⟨g,1,none⟩) hg _).setCell (p:=⟨g+1,0,none⟩) (Nat.le_succ_of_le hg) _).setCell (p:=⟨g+1,1,none⟩) (Nat.le_succ_of_le hg) _
theorem Qah {w:World} {g base:Nat} {T U e:TypeId} {size n:Nat} {v:Value} {xs:List Value} {A B:Array Value} {x y z u:Value} (h:w.ownsRow base e size v n xs) (hA:Blk w g T A) (hB:Blk w (g+1) U B) (h1:e≠T) (h2:e≠U) :
  ((((w.setCell ⟨g,0,none⟩ x).setCell ⟨g,1,none⟩ y).setCell ⟨g+1,0,none⟩ z).setCell ⟨g+1,1,none⟩ u).ownsRow base e size v n xs:=by
 have n1:=Q0j h hA h1
 have n2:=Q0j h hB h2
 exact Q1k (Q1k (Q1k (Q1k h n1 _) n1 _) n2 _) n2 _
theorem Qiq (p:Q00) (T:Tab):(Q22 p T).1=0→Q22 p T=(0,0):=by
 have key:∀ (n k:Nat),(Q1v p T n k).1=0→Q1v p T n k=(0,0):=by
  intro n
  induction n with
  | zero=>intro k _;rfl
  | succ n ih =>
   intro k h
   rw [Q1v] at h ⊢
   split
   ·rename_i h1;rw [h1] at h;exact ih _ h
   ·rename_i s h1
    rw [h1] at h
    simp only at h
    split
    ·rename_i h2;rw [if_pos h2] at h;simp at h
    ·rename_i h2
     rw [if_neg h2] at h
     split
     ·rename_i h3;rw [if_pos h3] at h;simp at h
     ·rename_i h3;rw [if_neg h3] at h;exact ih _ h
 exact key _ _
theorem Qf6 {w:World} {k:Nat} {l:List LIns} (h:Blk w k 70 (l.flatMap Q29).toArray):Src w 5 (some ⟨k,0,none⟩) l.length (l.flatMap Q29):=by
 have:=Qkr (size:=5) (m:=l.length) h (by rw [List.size_toArray,Qdv Q29 5 (fun _=>rfl)]) (by
  rw [Array.all_eq_true']
  intro u hu
  simp only [List.mem_toArray,List.mem_flatMap] at hu
  obtain ⟨i,-,hi⟩:=hu
  simp only [Q29,List.mem_cons,List.not_mem_nil,or_false] at hi
  rcases hi with rfl | rfl | rfl | rfl | rfl <;> rfl)
 simpa using this
def Qjb (q:Q00→Q00) (p:Q00) (w:World) (e:Ending) (w':World):Prop :=
 ∃ (u:Value) (F:Int × Nat),e=.returned (.tuple #[u,.agg #[.int .i64 F.1,.int .i64 (F.2:Int)]])∧Ext w w'∧(Q36 p=true→∃ T,Q5x p T∧F=Q22 p T)∧(Q36 p=false→F=(2,0))∧(F.1=0→Q36 p=true∧Q0b w' u (q p))∧(F.1≠0→u=.agg #[.slice none 0 0,.slice none 0 0])
set_option maxRecDepth 100000 in
set_option maxHeartbeats 8000000 in
theorem Qs4 (p:Q00) (v:Value) (w:World) (hp:Q0b w v p):Calls Try.prog 35 #[v] w (Qjb Q1h p w):=by
 have HP:=Lib.hid hp
 obtain ⟨oa,capa,oc,capc,rfl⟩:∃ a b c d,v=.agg #[.slice a p.regs.length b,.slice c p.code.length d]:=by
  obtain ⟨v1,v2,rfl,⟨-,oa,cap,b,o,rfl,-⟩,⟨-,ob,capb,b2,o2,rfl,-⟩⟩:=hp
  exact ⟨_,_,_,_,rfl⟩
 obtain ⟨i0,hi0,hz0,hz1,hz2⟩:=info_parts Qi5
 obtain ⟨j0,hj0,hy0,hy1,hy2⟩:=info_parts Qdk
 obtain ⟨k0,hk0,hx0,hx1,hx2⟩:=info_parts Qdj
 clear hp
 go_enter Try.func35,Try.ntmps35
 go_upto_region 1 with fail
 obtain ⟨W,g,hg,hW,hx,bP,bR,bF⟩:=Q8q w #[.slice oa p.regs.length capa,.slice oc p.code.length capc] #[.slice none 0 0,.slice none 0 0] #[.int .i64 0,.int .i64 0] 25 25 28
 rw [hW,hg]
 have X:=Lib.hid hx
 have Hg:=Lib.hid hg
 have BP:=Lib.hid bP
 have BR:=Lib.hid bR
 have BF:=Lib.hid bF
 have p0:W.cell? ⟨g,0,none⟩=some (.slice oa p.regs.length capa):=by rw [bP.cell];rfl
 have p1:W.cell? ⟨g,1,none⟩=some (.slice oc p.code.length capc):=by rw [bP.cell];rfl
 clear hW hg hx bP bR bF
 go_wp2_with fail
 have C:=Qj1 p _ W (HP.out.ext X.out)
 (with_reducible refine C.mono ?_)
 clear C
 rintro e w1 ⟨F,rfl,hx,h1,h2⟩
 have X1:=Lib.hid hx
 have H1:=Lib.hid h1
 have H2:=Lib.hid h2
 clear hx h1 h2 p0 p1
 go_upto_region 2 with fail
 obtain ⟨w2,gf,hgf,hW,hx,bT⟩:=Q1f w1 #[.int .i64 F.1,.int .i64 (F.2:Int)] 28
 rw [hW,hgf]
 have X2:=Lib.hid (X1.out.trans hx)
 have BT:=Lib.hid bT
 have hgg:g+1+1 < gf:=by have:=(BF.out.ext X1.out).lt;omega
 have t0:w2.cell? ⟨gf,0,none⟩=some (.int .i64 F.1):=by rw [bT.cell];rfl
 have t1:w2.cell? ⟨gf,1,none⟩=some (.int .i64 (F.2:Int)):=by rw [bT.cell];rfl
 clear hW hgf hx bT
 by_cases hF:F.1=0
 ·have hq:(F.1 != (0:Int))=false:=by simp [hF]
  have hmay:Q36 p=true:=by
   cases hm:Q36 p
   ·have:=H2.out hm
    rw [this] at hF
    simp at hF
   ·rfl
  obtain ⟨hr,hc1,hcl,hins⟩:=Q6a hmay
  have hrl:=Q3o hr
  obtain ⟨v1,v2,hv,hR,hC⟩:=HP.out
  simp only [Value.agg.injEq,Array.mk.injEq,List.cons.injEq,and_true] at hv
  obtain ⟨rfl,rfl⟩:=hv
  obtain ⟨hr64,oa',capa',br,orr,hv3,hd1,hd2,hrow2⟩:=hR
  simp only [Value.slice.injEq,true_and] at hv3
  obtain ⟨rfl,rfl⟩:=hv3
  obtain ⟨hfi,oc',capc',bc,oo,hv2,hcc1,hcc2,hrow⟩:=hC
  simp only [Value.slice.injEq,true_and] at hv2
  obtain ⟨rfl,rfl⟩:=hv2
  have HRW:=Lib.hid (hrow2.ext (X.out.trans X2.out))
  have HCW:=Lib.hid (hrow.ext (X.out.trans X2.out))
  have hixr:=Q33 (cap:=capa) hrow2.at_
  have hixc:=Q1g (cap:=capc) hrow.at_
  have Hr64:=Lib.hid hr64
  have Hfi:=Lib.hid hfi
  have Hr:=Lib.hid hr
  have Hins:=Lib.hid hins
  have Hmay:=Lib.hid hmay
  have HF:=Lib.hid hF
  have bP:=BP.out.ext X2.out
  have p0:w2.cell? ⟨g,0,none⟩=some (.slice oa p.regs.length capa):=by rw [bP.cell];rfl
  have p1:w2.cell? ⟨g,1,none⟩=some (.slice oc p.code.length capc):=by rw [bP.cell];rfl
  have hgl:=bP.lt
  clear hrow hrow2 hr64 hfi hr hins hmay hF hd1 hd2 hcc1 hcc2 bP
  go_wp2_with (at_builtin;refine Q3g _ rfl _ _ 22 rfl w2.heap.size 68 i0 _ 2 16 Try.underlying22 hi0 hz0 hz1 hz2 rfl (by decide) _ 0 [] rfl ?c0 oa p.regs.length capa (p.regs.flatMap Q4f) rfl ?c1 ?c3 ?c4 ?c5 ?_)
  case c0 =>
   have h:=World.ownsRow_lit (base:=w2.heap.size) (e:=68) (size:=2) w2 #[] 0 (Nat.le_refl _) (by decide) rfl
   simpa [Act.eval] using h
  case c1=>exact Qf4 (HRW.out.ext ((Ext.refl w2).alloc _))
  case c3=>unfold maxLen;omega
  case c4=>omega
  case c5=>simp
  intro v1 w3 hown hgrow hat
  obtain ⟨o1,c1,rfl⟩:=Q1e hown
  have hx3:Ext w2 w3:=((Ext.refl w2).alloc _).grown hgrow (by
   intro k hk
   simp [Act.eval,Value.ownBlock] at hk
   omega)
  have X3:=Lib.hid hx3
  have OR:Hid (w3.ownsRow w2.heap.size 68 2 (.slice o1 p.regs.length c1) p.regs.length (p.regs.flatMap Q4f)):=Lib.hid (by simpa using hown)
  have p1:=hx3.kept p1
  have hgl:g < w3.heap.size:=hx3.lt hgl
  clear hown hgrow hat hx3 p0
  go_upto_region 5 with fail
  obtain ⟨w4,go,hg4,hW,hx,bO⟩:=Q1f w3 #[.slice o1 (0+p.regs.length) c1,.slice none 0 0] 25
  try simp only [Nat.zero_add] at hW bO
  rw [hW,hg4]
  have X4:=Lib.hid (X3.out.trans hx)
  have HS:Hid (HSt w2 w4 w2.heap.size go (.slice o1 p.regs.length c1) (.slice none 0 0) (.slice none 0 0) p.regs [] []):=Lib.hid ⟨bO,Q3p OR.out hx,World.ownsRow_nil _ _ _ _,World.ownsRow_nil _ _ _ _,X3.out.trans hx,by have:=X3.out.size;omega,Nat.le_refl _⟩
  have p1:=hx.kept p1
  clear hW hg4 hx bO OR hgl
  go_wp2_with fail
  go_loopw [6,27] (fun vP i wr => ∃ (k:Nat) (vC:Value),i=.int .i64 (k:Int)∧k≤p.code.length∧HSt w2 wr w2.heap.size go (.slice o1 p.regs.length c1) vC vP p.regs ((p.code.take k).flatMap (Q1q p)) ((List.range k).map fun k=>((Q0w p k:Nat):Int))) (fun _ i _=>p.code.length - (intOf i).toNat)
  case atStart=>exact ⟨0,_,rfl,by omega,by simpa using HS.out⟩
  case round =>
   obtain ⟨k,vC,rfl,hk,hS⟩:=hrel
   have HS:=Lib.hid hS
   obtain ⟨op,cp,rfl⟩:=Q1e hS.pl
   obtain ⟨oC,cC,rfl⟩:=Q1e hS.cd
   have hrawl:=Qca p k
   have hpll:((List.range k).map fun k=>((Q0w p k:Nat):Int)).length=k:=by simp
   rw [hpll] at hS
   have HS:=Lib.hid hS
   rw [hpll]
   by_cases hlt:k < p.code.length
   ·obtain ⟨e0,e1,e2,e3,e4⟩:=(HCW.out.ext hS.ext).ins k hlt
    have hjk:p.code[k]? = some (p.code.getD k default):=by simp [hlt]
    have Hraw:=Lib.hid (Qmo p hlt)
    have Hpls:=Lib.hid (Qo6 p k)
    have Hpk:Hid (((p.code.take k).flatMap (Q1q p)).length=Q0w p k):=Lib.hid rfl
    have Hio:=Lib.hid (Hins.out _ (Q2b hlt))
    generalize p.code.getD k default=I at *
    obtain ⟨op',a,b,c,n⟩:=I
    simp only at e0 e1 e2 e3 e4
    obtain ⟨d0,d1⟩:=hS.cells
    have hgol:=hS.box.lt
    have hbl:=Q09 e0
    simp only at hbl
    clear hS hjk
    generalize (p.code.take k).flatMap (Q1q p)=code at *
    generalize ((List.range k).map fun k=>((Q0w p k:Nat):Int))=pls at *
    go_upto_region 9 with fail
    obtain ⟨w5,gi,hgi,hW,hx,bI⟩:=Q1f wr #[.int .i64 op',.int .i64 a,.int .i64 b,.int .i64 c,.int .i64 n] 70
    rw [hW,hgi]
    have HS5:=Lib.hid (HS.out.extend hx)
    have BI:=Lib.hid bI
    have HcB:Hid (∀ kk,(Value.slice oC code.length cC).ownBlock=some kk→kk < gi):=Lib.hid fun kk hkk=>by
     have:=(HS.out.cd.lt kk hkk).2
     omega
    have hBs:=HS5.out.size
    obtain ⟨d0,d1⟩:=HS5.out.cells
    have p1:w5.cell? ⟨g,1,none⟩=some (.slice oc p.code.length capc):=(HS5.out.ext).kept (by rw [(BP.out.ext X2.out).cell];rfl)
    have p0:w5.cell? ⟨g,0,none⟩=some (.slice oa p.regs.length capa):=(HS5.out.ext).kept (by rw [(BP.out.ext X2.out).cell];rfl)
    clear hW hgi hx bI e0 e1 e2 e3 e4 hgol hbl
    go_wp2_with (at_builtin;refine Q3g _ rfl _ _ 51 rfl w2.heap.size 3 k0 _ 1 8 Try.underlying51 hk0 hx0 hx1 hx2 rfl (by decide) _ _ _ rfl (Q4y HS5.out.pl) (some ⟨w5.heap.size,0,none⟩) 1 1 [.int .i64 (code.length:Int)] rfl ?c1 ?c3 ?c4 ?c5 ?_)
    case c1=>exact Q5a (size:=1) (Blk.new w5 3 #[.int .i64 (code.length:Int)]) rfl (by simp [Value.oneCell'])
    case c3=>unfold maxLen;omega
    case c4=>omega
    case c5=>simp;omega
    intro vP' w6 hown hgrow hat2
    clear hat2
    obtain ⟨op2,cp2,rfl⟩:=Q1e hown
    have hxa:=(Ext.refl w5).alloc (.cells #[.int .i64 (code.length:Int)] 3)
    have HSa:=HS5.out.extend hxa
    have hgrow:(w5.alloc (.cells #[.int .i64 (code.length:Int)] 3)).grownBy w6 (Value.slice op k cp).ownBlock:=hgrow
    have HS6:=Lib.hid (HSa.place (ps:=pls ++ [((Q0w p k:Nat):Int)]) hgrow (by rw [← Hpk.out];simpa [hpll] using hown))
    have bI6:=(BI.out.ext hxa).grown hgrow (Q0j HSa.pl (BI.out.ext hxa) (by decide))
    have BI6:=Lib.hid bI6
    obtain ⟨d0,d1⟩:=HS6.out.cells
    have HE6:=HS6.out.ext
    have p0:w6.cell? ⟨g,0,none⟩=some (.slice oa p.regs.length capa):=HE6.kept (by rw [(BP.out.ext X2.out).cell];rfl)
    have i0':w6.cell? ⟨gi,0,none⟩=some (.int .i64 op'):=by rw [bI6.cell];rfl
    have i1':w6.cell? ⟨gi,1,none⟩=some (.int .i64 a):=by rw [bI6.cell];rfl
    have i2':w6.cell? ⟨gi,2,none⟩=some (.int .i64 b):=by rw [bI6.cell];rfl
    have i3':w6.cell? ⟨gi,3,none⟩=some (.int .i64 c):=by rw [bI6.cell];rfl
    have i4':w6.cell? ⟨gi,4,none⟩=some (.int .i64 n):=by rw [bI6.cell];rfl
    have hBs6:=HS6.out.size
    have hgil:=bI6.lt
    clear hown hgrow hxa HSa bI6 p1 HE6
    by_cases h34:op'=3∨op'=4
    ·obtain ⟨hc0,hc1'⟩:=Q35 Hio.out (by unfold Q0s Q0m;rcases h34 with h | h <;> simp [h])
     simp only at hc0 hc1'
     obtain ⟨r0,r1⟩:=(HRW.out.ext HS6.out.ext).reg c.toNat hc1'
     have hcl2:c < (p.regs.length:Int):=by omega
     have hrb:=Q66 Hr.out _ (Q2b hc1')
     have Hbl:Hid (Q1q p ⟨op',a,b,c,n⟩=[⟨10,8,b,0,n⟩,⟨11,8,0,0,((Q0e (p.regs.getD c.toNat default):Nat):Int)⟩,⟨op',a,8,c,0⟩]):=Lib.hid (by unfold Q1q;rw [if_pos h34];rfl)
     have hq:((op' != (3:Int))=false)∨((op' != (3:Int))=true∧(op' != (4:Int))=false):=by
      rcases h34 with rfl | rfl
      ·left;rfl
      ·right;exact ⟨rfl,rfl⟩
     generalize p.regs.getD c.toNat default=rr at *
     clear h34
     have Hrb:=Lib.hid hrb
     clear hrb
     rcases hq with hq | ⟨hq,hq2⟩
     ·go_wp2_with fail
      (with_reducible refine (Q7e rr Hrb.out.1 Hrb.out.2 w6).mono ?_)
      rintro er w8 ⟨rfl,hx⟩
      have HS8:=Lib.hid (HS6.out.extend hx)
      have i0':=hx.kept i0'
      have i1':=hx.kept i1'
      have i2':=hx.kept i2'
      have i3':=hx.kept i3'
      have i4':=hx.kept i4'
      have d1:=Q0a hx d1
      have hgil:=hx.lt hgil
      have hBs8:=HS8.out.size
      clear r0 r1 d0 p0 hx
      generalize ((Q0e rr:Nat):Int)=ww at *
      go_wp2_with (at_builtin;refine Q3g _ rfl _ _ 23 rfl w2.heap.size 70 j0 _ 5 40 Try.underlying23 hj0 hy0 hy1 hy2 rfl (by decide) _ _ _ rfl (Q4y HS8.out.cd) (some ⟨w8.heap.size,0,none⟩) 3 3 (([⟨10,8,b,0,n⟩,⟨11,8,0,0,ww⟩,⟨op',a,8,c,0⟩]:List LIns).flatMap Q29) rfl ?c1 ?c3 ?c4 ?c5 ?_)
      case c1=>exact Qf6 (l:=[⟨10,8,b,0,n⟩,⟨11,8,0,0,ww⟩,⟨op',a,8,c,0⟩]) (Blk.new w8 70 #[.int .i64 10,.int .i64 8,.int .i64 b,.int .i64 0,.int .i64 n,.int .i64 11,.int .i64 8,.int .i64 0,.int .i64 0,.int .i64 ww,.int .i64 op',.int .i64 a,.int .i64 8,.int .i64 c,.int .i64 0])
      case c3=>unfold maxLen;omega
      case c4=>omega
      case c5=>simp;omega
      intro vC' w7 hown hgrow hat2
      clear hat2
      obtain ⟨oC2,cC2,rfl⟩:=Q1e hown
      have hxa:=(Ext.refl w8).alloc (.cells #[.int .i64 10,.int .i64 8,.int .i64 b,.int .i64 0,.int .i64 n,.int .i64 11,.int .i64 8,.int .i64 0,.int .i64 0,.int .i64 ww,.int .i64 op',.int .i64 a,.int .i64 8,.int .i64 c,.int .i64 0] 70)
      have HSa:=HS8.out.extend hxa
      have hgrow:(w8.alloc (.cells #[.int .i64 10,.int .i64 8,.int .i64 b,.int .i64 0,.int .i64 n,.int .i64 11,.int .i64 8,.int .i64 0,.int .i64 0,.int .i64 ww,.int .i64 op',.int .i64 a,.int .i64 8,.int .i64 c,.int .i64 0] 70)).grownBy w7 (Value.slice oC code.length cC).ownBlock:=hgrow
      have hlen:(code ++ ([⟨10,8,b,0,n⟩,⟨11,8,0,0,ww⟩,⟨op',a,8,c,0⟩]:List LIns)).length=code.length+3:=by simp
      have HS7:Hid (HSt w2 (w7.setCell ⟨go,1,none⟩ (.slice oC2 (code.length+3) cC2)) w2.heap.size go (.slice o1 p.regs.length c1) (.slice oC2 (code.length+3) cC2) (.slice op2 (k+1) cp2) p.regs (code ++ [⟨10,8,b,0,n⟩,⟨11,8,0,0,ww⟩,⟨op',a,8,c,0⟩]) (pls ++ [((Q0w p k:Nat):Int)])):=Lib.hid (HSa.code_ hgrow (by rw [hlen,List.flatMap_append];simpa using hown))
      have hb7:=HSa.box.grown hgrow (Q0j HSa.cd HSa.box (by decide))
      have q1:w7.cell? ⟨go,1,none⟩=some (.slice oC code.length cC)∧w7.frozen? ⟨go,1,none⟩=false:=⟨by rw [hb7.cell];rfl,hb7.frozen _⟩
      have hgo7:=hb7.lt
      clear hown hgrow hxa HSa hb7 hlen
      go_wp2
      go_roundw
      case rel=>exact ⟨k+1,_,by go_num,by omega,by rw [Hraw.out,Hpls.out,Hbl.out];exact HS7.out⟩
      case measure=>first | (simp [intOf];done) | (simp [intOf];omega)
     ·go_wp2_with fail
      (with_reducible refine (Q7e rr Hrb.out.1 Hrb.out.2 w6).mono ?_)
      rintro er w8 ⟨rfl,hx⟩
      have HS8:=Lib.hid (HS6.out.extend hx)
      have i0':=hx.kept i0'
      have i1':=hx.kept i1'
      have i2':=hx.kept i2'
      have i3':=hx.kept i3'
      have i4':=hx.kept i4'
      have d1:=Q0a hx d1
      have hgil:=hx.lt hgil
      have hBs8:=HS8.out.size
      clear r0 r1 d0 p0 hx
      generalize ((Q0e rr:Nat):Int)=ww at *
      go_wp2_with (at_builtin;refine Q3g _ rfl _ _ 23 rfl w2.heap.size 70 j0 _ 5 40 Try.underlying23 hj0 hy0 hy1 hy2 rfl (by decide) _ _ _ rfl (Q4y HS8.out.cd) (some ⟨w8.heap.size,0,none⟩) 3 3 (([⟨10,8,b,0,n⟩,⟨11,8,0,0,ww⟩,⟨op',a,8,c,0⟩]:List LIns).flatMap Q29) rfl ?c1 ?c3 ?c4 ?c5 ?_)
      case c1=>exact Qf6 (l:=[⟨10,8,b,0,n⟩,⟨11,8,0,0,ww⟩,⟨op',a,8,c,0⟩]) (Blk.new w8 70 #[.int .i64 10,.int .i64 8,.int .i64 b,.int .i64 0,.int .i64 n,.int .i64 11,.int .i64 8,.int .i64 0,.int .i64 0,.int .i64 ww,.int .i64 op',.int .i64 a,.int .i64 8,.int .i64 c,.int .i64 0])
      case c3=>unfold maxLen;omega
      case c4=>omega
      case c5=>simp;omega
      intro vC' w7 hown hgrow hat2
      clear hat2
      obtain ⟨oC2,cC2,rfl⟩:=Q1e hown
      have hxa:=(Ext.refl w8).alloc (.cells #[.int .i64 10,.int .i64 8,.int .i64 b,.int .i64 0,.int .i64 n,.int .i64 11,.int .i64 8,.int .i64 0,.int .i64 0,.int .i64 ww,.int .i64 op',.int .i64 a,.int .i64 8,.int .i64 c,.int .i64 0] 70)
      have HSa:=HS8.out.extend hxa
      have hgrow:(w8.alloc (.cells #[.int .i64 10,.int .i64 8,.int .i64 b,.int .i64 0,.int .i64 n,.int .i64 11,.int .i64 8,.int .i64 0,.int .i64 0,.int .i64 ww,.int .i64 op',.int .i64 a,.int .i64 8,.int .i64 c,.int .i64 0] 70)).grownBy w7 (Value.slice oC code.length cC).ownBlock:=hgrow
      have hlen:(code ++ ([⟨10,8,b,0,n⟩,⟨11,8,0,0,ww⟩,⟨op',a,8,c,0⟩]:List LIns)).length=code.length+3:=by simp
      have HS7:Hid (HSt w2 (w7.setCell ⟨go,1,none⟩ (.slice oC2 (code.length+3) cC2)) w2.heap.size go (.slice o1 p.regs.length c1) (.slice oC2 (code.length+3) cC2) (.slice op2 (k+1) cp2) p.regs (code ++ [⟨10,8,b,0,n⟩,⟨11,8,0,0,ww⟩,⟨op',a,8,c,0⟩]) (pls ++ [((Q0w p k:Nat):Int)])):=Lib.hid (HSa.code_ hgrow (by rw [hlen,List.flatMap_append];simpa using hown))
      have hb7:=HSa.box.grown hgrow (Q0j HSa.cd HSa.box (by decide))
      have q1:w7.cell? ⟨go,1,none⟩=some (.slice oC code.length cC)∧w7.frozen? ⟨go,1,none⟩=false:=⟨by rw [hb7.cell];rfl,hb7.frozen _⟩
      have hgo7:=hb7.lt
      clear hown hgrow hxa HSa hb7 hlen
      go_wp2
      go_roundw
      case rel=>exact ⟨k+1,_,by go_num,by omega,by rw [Hraw.out,Hpls.out,Hbl.out];exact HS7.out⟩
      case measure=>first | (simp [intOf];done) | (simp [intOf];omega)
    ·have hq3:(op' != (3:Int))=true:=by simp;omega
     have hq4:(op' != (4:Int))=true:=by simp;omega
     have Hbl:Hid (Q1q p ⟨op',a,b,c,n⟩=[⟨op',a,b,c,n⟩]):=Lib.hid (by unfold Q1q;rw [if_neg h34])
     clear h34
     go_wp2_with (at_builtin;refine Q3g _ rfl _ _ 23 rfl w2.heap.size 70 j0 _ 5 40 Try.underlying23 hj0 hy0 hy1 hy2 rfl (by decide) _ _ _ rfl (Q4y HS6.out.cd) (some ⟨w6.heap.size,0,none⟩) 1 1 (Q29 ⟨op',a,b,c,n⟩) rfl ?c1 ?c3 ?c4 ?c5 ?_)
     case c1=>exact Q5a (size:=5) (Blk.new w6 70 #[.int .i64 op',.int .i64 a,.int .i64 b,.int .i64 c,.int .i64 n]) rfl (by simp [Value.oneCell'])
     case c3=>unfold maxLen;omega
     case c4=>omega
     case c5=>simp;omega
     intro vC' w7 hown hgrow hat2
     clear hat2
     obtain ⟨oC2,cC2,rfl⟩:=Q1e hown
     have hxa:=(Ext.refl w6).alloc (.cells #[.int .i64 op',.int .i64 a,.int .i64 b,.int .i64 c,.int .i64 n] 70)
     have HSa:=HS6.out.extend hxa
     have hgrow:(w6.alloc (.cells #[.int .i64 op',.int .i64 a,.int .i64 b,.int .i64 c,.int .i64 n] 70)).grownBy w7 (Value.slice oC code.length cC).ownBlock:=hgrow
     have hlen:(code ++ ([⟨op',a,b,c,n⟩]:List LIns)).length=code.length+1:=by simp
     have HS7:Hid (HSt w2 (w7.setCell ⟨go,1,none⟩ (.slice oC2 (code.length+1) cC2)) w2.heap.size go (.slice o1 p.regs.length c1) (.slice oC2 (code.length+1) cC2) (.slice op2 (k+1) cp2) p.regs (code ++ [⟨op',a,b,c,n⟩]) (pls ++ [((Q0w p k:Nat):Int)])):=Lib.hid (HSa.code_ hgrow (by rw [hlen,List.flatMap_append];simpa using hown))
     have hb7:=HSa.box.grown hgrow (Q0j HSa.cd HSa.box (by decide))
     have q1:w7.cell? ⟨go,1,none⟩=some (.slice oC code.length cC)∧w7.frozen? ⟨go,1,none⟩=false:=⟨by rw [hb7.cell];rfl,hb7.frozen _⟩
     have hgo7:=hb7.lt
     clear hown hgrow hxa HSa hb7 hlen
     go_wp2
     go_roundw
     case rel=>exact ⟨k+1,_,by go_num,by omega,by rw [Hraw.out,Hpls.out,Hbl.out];exact HS7.out⟩
     case measure=>first | (simp [intOf];done) | (simp [intOf];omega)
   ·have hje:k=p.code.length:=by omega
    subst hje
    have hlt2:decide ((p.code.length:Int) < (p.code.length:Int))=false:=by simp
    rw [List.take_length] at hS
    have hraw0:(p.code.flatMap (Q1q p))=rawH p:=rfl
    rw [hraw0] at hS
    have hL1:0 < (rawH p).length:=by
     have:=Qcp (p:=p) (k:=0) (by omega)
     unfold Q1h at this
     simp only [List.length_map] at this
     omega
    have hL2:(rawH p).length≤600:=by
     have:=Qca p p.code.length
     rw [List.take_length,hraw0] at this
     omega
    obtain ⟨kc,cC',hv,hkB,hcap1,hcap2,-⟩:=Q9a hS.cd rfl hL1
    simp only [Value.slice.injEq,true_and] at hv
    obtain ⟨rfl,rfl⟩:=hv
    obtain ⟨kp,cp',hv,-,-⟩:=Q7w hS.pl (by simp;omega)
    simp only [List.length_map,List.length_range,Value.slice.injEq,true_and] at hv
    obtain ⟨rfl,rfl⟩:=hv
    have hixk:=Q1g (n:=(rawH p).length) (cap:=cC) (b:=kc) (o:=0) (fun _=>rfl)
    simp only [Nat.zero_add] at hixk
    have hixp:=fun W=>Qbb kp p.code.length cp W
    have Hjump:=Lib.hid (Qmm Hins.out)
    obtain ⟨d0,d1⟩:=hS.cells
    have hgol:=hS.box.lt
    have hR0:HSt w2 wr w2.heap.size go (.slice o1 p.regs.length c1) (.slice (some ⟨kc,0,none⟩) (rawH p).length cC) (.slice (some ⟨kp,0,none⟩) p.code.length cp) p.regs (relK (Q0w p) (rawH p) 0) ((List.range p.code.length).map fun k=>((Q0w p k:Nat):Int)):=by rw [Qmb];exact hS
    have HR0:=Lib.hid hR0
    have HS:=Lib.hid hS
    clear hS hR0 hraw0
    go_wp2_with fail
    go_loopw [81] (fun i wr => ∃ k:Nat,i=.int .i64 (k:Int)∧k≤(rawH p).length∧HSt w2 wr w2.heap.size go (.slice o1 p.regs.length c1) (.slice (some ⟨kc,0,none⟩) (rawH p).length cC) (.slice (some ⟨kp,0,none⟩) p.code.length cp) p.regs (relK (Q0w p) (rawH p) k) ((List.range p.code.length).map fun k=>((Q0w p k:Nat):Int))) (fun i _=>(rawH p).length - (intOf i).toNat)
    case atStart=>exact ⟨0,rfl,by omega,HR0.out⟩
    case round =>
     obtain ⟨k,rfl,hk,hS⟩:=hrel
     have HS:=Lib.hid hS
     obtain ⟨d0,d1⟩:=hS.cells
     have hgol:=hS.box.lt
     by_cases hlt:k < (rawH p).length
     ·obtain ⟨kc',cC',hv,-,-,-,hcs⟩:=Q9a hS.cd rfl (by rw [Qa8];exact hL1)
      rw [Qa8] at hv
      simp only [Value.slice.injEq,Option.some.injEq,Addr.mk.injEq,and_true,true_and] at hv
      obtain ⟨rfl,rfl⟩:=hv
      obtain ⟨s0,s4⟩:=hcs k (by rw [Qa8];exact hlt)
      rw [Qc5 _ _ hlt] at s0 s4
      have Hsame:=Lib.hid fun h=>Qmc (Q0w p) (rawH p) hlt h
      have Hsucc:=Lib.hid (Qfn (Q0w p) (rawH p) hlt)
      have Hj:=Lib.hid (Hjump.out _ (Q2b hlt))
      have hkcl:=Q09 s0.1
      simp only at hkcl
      have Hget:=Lib.hid (Qc5 (Q0w p) (rawH p) hlt)
      have HkL:=Lib.hid (show k < (relK (Q0w p) (rawH p) k).length by rw [Qa8];exact hlt)
      clear hcs hS
      generalize (rawH p).getD k default=I at *
      by_cases h78:I.op=7∨I.op=8
      ·obtain ⟨hn0,hn1⟩:=Hj.out h78
       obtain ⟨kp',cp',hv,-,hpc⟩:=Q7w HS.out.pl (by simp;omega)
       simp only [List.length_map,List.length_range,Value.slice.injEq,Option.some.injEq,Addr.mk.injEq,and_true,true_and] at hv
       obtain ⟨rfl,rfl⟩:=hv
       obtain ⟨q0,-⟩:=hpc I.n.toNat (.int .i64 ((Q0w p I.n.toNat:Nat):Int)) (by simp;omega) (by simp [hn1])
       have hq:(I.op == (7:Int))=true∨((I.op == (7:Int))=false∧(I.op == (8:Int))=true):=by
        rcases h78 with h | h
        ·left;simp [h]
        ·right;simp [h]
       have Hnext:Hid (relK (Q0w p) (rawH p) (k+1)=(relK (Q0w p) (rawH p) k).set k { (relK (Q0w p) (rawH p) k).getD k default with n:=((Q0w p I.n.toNat:Nat):Int) }):=Lib.hid (by
        rw [Hsucc.out,Hget.out]
        unfold Q2t
        rw [if_pos h78])
       have hn2:I.n < (p.code.length:Int):=by omega
       have hkpl:=Q09 q0
       simp only at hkpl
       clear hpc h78
       rcases hq with hq | ⟨hq,hq2⟩
       ·go_wp2
        go_roundw
        case rel=>exact ⟨k+1,by go_num,by omega,by rw [Hnext.out];exact HS.out.setN HkL.out _⟩
        case measure=>first | (simp [intOf];done) | (simp [intOf];omega)
       ·go_wp2
        go_roundw
        case rel=>exact ⟨k+1,by go_num,by omega,by rw [Hnext.out];exact HS.out.setN HkL.out _⟩
        case measure=>first | (simp [intOf];done) | (simp [intOf];omega)
      ·have hq7:(I.op == (7:Int))=false:=by simp;omega
       have hq8:(I.op == (8:Int))=false:=by simp;omega
       have Hs:=Lib.hid (Hsame.out h78)
       clear h78
       go_wp2
       go_roundw
       case rel=>exact ⟨k+1,by go_num,by omega,by rw [Hs.out];exact HS.out⟩
       case measure=>first | (simp [intOf];done) | (simp [intOf];omega)
     ·have hje:k=(rawH p).length:=by omega
      subst hje
      have hlt3:decide (((rawH p).length:Int) < ((rawH p).length:Int))=false:=by simp
      have HSf:Hid (HSt w2 wr w2.heap.size go (.slice o1 p.regs.length c1) (.slice (some ⟨kc,0,none⟩) (rawH p).length cC) (.slice (some ⟨kp,0,none⟩) p.code.length cp) p.regs (Q1h p).code ((List.range p.code.length).map fun k=>((Q0w p k:Nat):Int))):=Lib.hid (by
       have:=hS
       rw [Qmd] at this
       exact this)
      have bR:=BR.out.ext (X2.out.trans HSf.out.ext)
      have bF:=BF.out.ext (X2.out.trans HSf.out.ext)
      have r0:wr.cell? ⟨g+1,0,none⟩=some (.slice none 0 0)∧wr.frozen? ⟨g+1,0,none⟩=false:=⟨by rw [bR.cell];rfl,bR.frozen _⟩
      have r1:wr.cell? ⟨g+1,1,none⟩=some (.slice none 0 0)∧wr.frozen? ⟨g+1,1,none⟩=false:=⟨by rw [bR.cell];rfl,bR.frozen _⟩
      have f0:wr.cell? ⟨g+1+1,0,none⟩=some (.int .i64 0)∧wr.frozen? ⟨g+1+1,0,none⟩=false:=⟨by rw [bF.cell];rfl,bF.frozen _⟩
      have f1:wr.cell? ⟨g+1+1,1,none⟩=some (.int .i64 0)∧wr.frozen? ⟨g+1+1,1,none⟩=false:=⟨by rw [bF.cell];rfl,bF.frozen _⟩
      have BR2:=Lib.hid bR
      have BF2:=Lib.hid bF
      have hgll:=bF.lt
      clear hS bR bF
      go_wp2
      have hgw:w.heap.size≤g+1:=by have:=Hg.out;omega
      have hF2:F=(0,0):=by
       have hf:F.1=0:=HF.out
       obtain ⟨T,hT,hF3⟩:=H1.out Hmay.out
       have:=Qiq p T
       rw [hF3] at hf ⊢
       exact this hf
      refine bodyPost_ret (Qa6 (Q72 BR2.out BF2.out).1 (Q72 BR2.out BF2.out).2 rfl _ rfl rfl Try.underlying25 rfl Qaz Try.underlying28 rfl Q3q) rfl ?_
      refine ⟨_,F,by rw [hF2];rfl,Qan (X.out.trans (X2.out.trans HSf.out.ext)) hgw,H1.out,H2.out,fun _=>⟨Hmay.out,?_⟩,fun h=>absurd HF.out h⟩
      refine ⟨_,_,rfl,Qc8 (Qah HSf.out.rg BR2.out BF2.out (by decide) (by decide)) Hr64.out,?_⟩
      have hl:(rawH p).length=(Q1h p).code.length:=by simp [Q1h]
      have hc:=Qah HSf.out.cd BR2.out BF2.out (x:=.slice o1 p.regs.length c1) (y:=.slice (some ⟨kc,0,none⟩) (rawH p).length cC) (z:=.int .i64 0) (u:=.int .i64 0) (by decide) (by decide)
      exact Qe3 hc (Qs0 Hr.out hcl Hins.out Hfi.out)
 ·have hq:(F.1 != (0:Int))=true:=by simp [hF]
  have hF':=Lib.hid hF
  have bR:=BR.out.ext X2.out
  have bF:=BF.out.ext X2.out
  have r0:w2.cell? ⟨g+1,0,none⟩=some (.slice none 0 0)∧w2.frozen? ⟨g+1,0,none⟩=false:=⟨by rw [bR.cell];rfl,bR.frozen _⟩
  have r1:w2.cell? ⟨g+1,1,none⟩=some (.slice none 0 0)∧w2.frozen? ⟨g+1,1,none⟩=false:=⟨by rw [bR.cell];rfl,bR.frozen _⟩
  have f0:w2.cell? ⟨g+1+1,0,none⟩=some (.int .i64 0)∧w2.frozen? ⟨g+1+1,0,none⟩=false:=⟨by rw [bF.cell];rfl,bF.frozen _⟩
  have f1:w2.cell? ⟨g+1+1,1,none⟩=some (.int .i64 0)∧w2.frozen? ⟨g+1+1,1,none⟩=false:=⟨by rw [bF.cell];rfl,bF.frozen _⟩
  clear hF bR bF
  go_upto_region 3 with fail
  go_region
  go_wp2
  have bR:=BR.out.ext X2.out
  have bF:=BF.out.ext X2.out
  have hgw:w.heap.size≤g+1:=by have:=Hg.out;omega
  refine bodyPost_ret (Qa6 (Q72 bR bF).1.drew (Q72 bR bF).2.drew rfl _ rfl rfl Try.underlying25 rfl Qaz Try.underlying28 rfl Q3q) rfl ?_
  exact ⟨_,F,rfl,(Qan (X.out.trans X2.out) hgw).drew,H1.out,H2.out,fun h=>absurd h hF'.out,fun _=>rfl⟩
end Go.Proofs.Yteiknefajlocoaa
