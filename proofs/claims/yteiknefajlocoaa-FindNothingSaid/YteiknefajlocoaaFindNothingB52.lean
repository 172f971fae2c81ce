/- Laid together from: Fd, FdC. -/
import Derived.Test.YteiknefajlocoaaFindNothingB51
import Derived.Test.YteiknefajlocoaaFindNothingB5
import Derived.Deep.DeepCutAuto
import Derived.LoopN

namespace Go.Proofs.Yteiknefajlocoaa
open Go.ChangeShapes Go.WideShapes Go.ChangeAt Go.RowKit
set_option linter.unusedVariables false
set_option linter.unusedSimpArgs false
theorem Qro (g:Nat) (W:World) (i:Int) (h0:0≤i) (h1:i < 2) :
  (Instr.indexAt 133 (.pointer (some ⟨g,0,none⟩)) (.int .i64 i)).run Try.prog W=.ok (.pointer (some ⟨g,i.toNat,none⟩)) W:=by
 have hs:(Try.prog.info? 34).map (·.size)=some 1:=by kernel_rfl
 simp [Instr.indexAt,run_underlying Try.underlying133,asIntOf,Instr.sureAddr,h0,h1]
 rw [Q3w g 0 _]
 simp
theorem Qff (x y:LSee) (w:World):(binOp .neq 98 (.agg #[.int .i64 x.kind,.int .i64 x.a,.int .i64 x.b]) (.agg #[.int .i64 y.kind,.int .i64 y.a,.int .i64 y.b])).run Try.prog w=.ok (.bool (!(x.kind == y.kind && x.a == y.a && x.b == y.b))) w:=by
 go_simp
 by_cases h1:x.kind=y.kind <;> by_cases h2:x.a=y.a <;> by_cases h3:x.b=y.b <;> simp [h1,h2,h3]
theorem Qfg (x y:LSee):(x.kind == y.kind && x.a == y.a && x.b == y.b)=decide (x=y):=by
 cases x
 cases y
 simp only [LSee.mk.injEq,Bool.decide_and]
 rw [Bool.and_assoc]
 rfl
theorem Qog (o1 o2:Option Addr) (n1 c1 n2 c2:Nat) (W:World):(Instr.index 134 (.agg #[.slice o1 n1 c1,.slice o2 n2 c2]) (.int .i64 0)).run Try.prog W=.ok (.slice o1 n1 c1) W:=by
 first | kernel_rfl | (simp [Instr.index];done)
theorem Qof (o1 o2:Option Addr) (n1 c1 n2 c2:Nat) (W:World):(Instr.index 134 (.agg #[.slice o1 n1 c1,.slice o2 n2 c2]) (.int .i64 1)).run Try.prog W=.ok (.slice o2 n2 c2) W:=by
 first | kernel_rfl | (simp [Instr.index];done)
theorem Q65 {P:Program} {w:World} {a b c:Tmp} {fn:Func} {va vb vc:Value} (hr:fn.results=#[.tmp a,.tmp b,.tmp c]) (tmps:Array Value) (ha:tmps.getD a undef=va) (hb:tmps.getD b undef=vb) (hc:tmps.getD c undef=vc):(results fn tmps).run P w=.ok (.tuple #[va,vb,vc]) w:=by
 have ha':tmps[a]?.getD undef=va:=by simpa using ha
 have hb':tmps[b]?.getD undef=vb:=by simpa using hb
 have hc':tmps[c]?.getD undef=vc:=by simpa using hc
 simp [results,hr,ha',hb',hc']
def Q7u (p:Q00) (a b:List (List Int)) (script:List Int) (fuel:Int):Int:=if Q28 p a script fuel=0 then Q28 p b script fuel else Q28 p a script fuel
def Q3s (e0:Int) (x y:List LSee) (w:World) (e:Ending) (w':World):Prop :=
 e=.returned (.tuple #[.int .i64 (if e0=0 then Q6q x y else 0),.bool (if e0=0 then Q5k x y else false),.int .i64 e0])∧Ext w w'
theorem Q3s.no {e0:Int} {x y:List LSee} {w w':World} (h:e0≠0) (hx:Ext w w'):Q3s e0 x y w (.returned (.tuple #[.int .i64 0,.bool false,.int .i64 e0])) w':=by
 unfold Q3s
 rw [if_neg h,if_neg h]
 exact ⟨rfl,hx⟩
theorem Q3s.at_ {x y:List LSee} {k:Nat} {w w':World} (h1:k≤x.length) (h2:k≤y.length) (he:∀ j,j < k→x.getD j default=y.getD j default) (h3:k=x.length∨k=y.length∨x.getD k default≠y.getD k default) (h4:k < x.length∨k < y.length) (hx:Ext w w') :
  Q3s 0 x y w (.returned (.tuple #[.int .i64 k,.bool true,.int .i64 0])) w':=by
 obtain ⟨e1,e2⟩:=Qs7 h1 h2 he h3 h4
 unfold Q3s
 rw [if_pos rfl,if_pos rfl,e1,e2]
 exact ⟨rfl,hx⟩
theorem Q3s.none {x y:List LSee} {k:Nat} {w w':World} (h1:k=x.length) (h2:k=y.length) (he:∀ j,j < k→x.getD j default=y.getD j default) (hx:Ext w w'):Q3s 0 x y w (.returned (.tuple #[.int .i64 0,.bool false,.int .i64 0])) w':=by
 obtain ⟨e1,e2⟩:=Qih h1 h2 he
 unfold Q3s
 rw [if_pos rfl,if_pos rfl,e1,e2]
 exact ⟨rfl,hx⟩
theorem Qby {w:World} {a b c d e:Value} {fin value:Int} {steps:Nat} {seen:List LSee} {mem:List (List Int)} (h:Q5m w (.agg #[a,b,c,d,e]) fin value steps seen mem):Q6f w d seen:=by
 obtain ⟨vs,vm,h1,h2,-⟩:=h
 simp only [Value.agg.injEq,Array.mk.injEq,List.cons.injEq,and_true] at h1
 obtain ⟨-,-,-,rfl,-⟩:=h1
 exact h2
theorem Q6f.far {w:World} {g i:Nat} {t:TypeId} {o1 o2:Option Addr} {n1 c1 n2 c2:Nat} {u v:Value} {l:List LSee} (hb:Blk w g t #[.slice o1 n1 c1,.slice o2 n2 c2]) (h:Q6f w v l):Q6f (w.setCell ⟨g,i,none⟩ u) v l:=by
 obtain ⟨oa,cap,b,o,rfl,h1,h2,hrow⟩:=h
 refine ⟨oa,cap,b,o,rfl,h1,h2,hrow.at_,fun i' j hi hj=>?_⟩
 have hc:=hrow.cell i' j hi hj
 have hne:b≠g:=by
  rintro rfl
  rw [hb.cell] at hc
  have hs:∃ x,Q4n (l.getD i' default) j=.int .i64 x:=by
   rcases (show j=0∨j=1∨j=2 by omega) with rfl | rfl | rfl <;> exact ⟨_,rfl⟩
  obtain ⟨x,hx⟩:=hs
  rw [hx] at hc
  generalize o+i' * 3+j=q at hc
  match q,hc with
  | 0,hc=>simp at hc
  | 1,hc=>simp at hc
  | q+2,hc=>simp at hc
 rw [World.cell?_setCell_other _ _ _ _ (by simp [Ne.symm hne])]
 exact hc
def Q3z (p:Q00) (a:List (List Int)) (script:List Int) (fuel:Int):List LSee:=(endS (runS p fuel.toNat (Q0x a.flatten script))).seen
set_option maxRecDepth 100000 in
set_option maxHeartbeats 8000000 in
theorem Qin (p:Q00) (a b:List (List Int)) (script:List Int) (fuel:Int) (v va vb vx:Value) (w:World) (hp:Q0b w v p) (ha:Q2w w va a) (hb:Q2w w vb b) (hs:Q3c w vx script) (hf:R64 fuel) :
  Calls Try.prog 47 #[v,va,vb,vx,.int .i64 fuel] w (Q3s (Q7u p a b script fuel) (Q3z p a script fuel) (Q3z p b script fuel) w):=by
 have HP:=Lib.hid hp
 have HA:=Lib.hid ha
 have HB:=Lib.hid hb
 have HS:=Lib.hid hs
 have Hf:=Lib.hid hf
 obtain ⟨a0,a1,a2,b0,b1,b2,rfl⟩:=Qg6 hp
 obtain ⟨oA,cA,rfl⟩:∃ o c,va=.slice o a.length c:=by
  obtain ⟨oa,cap,b,o,rfl,-⟩:=ha
  exact ⟨_,_,rfl⟩
 obtain ⟨oB,cB,rfl⟩:∃ o c,vb=.slice o b.length c:=by
  obtain ⟨oa,cap,b,o,rfl,-⟩:=hb
  exact ⟨_,_,rfl⟩
 clear hp ha hb hs hf
 unfold Q3z Q7u
 have R1:=Lib.hid fun W (X:Ext w W)=>Qf2 p a script fuel _ _ vx W (HP.out.ext X) (HA.out.ext X) (HS.out.ext X) Hf.out
 have R2:=Lib.hid fun W (X:Ext w W)=>Qf2 p b script fuel _ _ vx W (HP.out.ext X) (HB.out.ext X) (HS.out.ext X) Hf.out
 generalize endS (runS p fuel.toNat (Q0x a.flatten script))=F at *
 generalize endS (runS p fuel.toNat (Q0x b.flatten script))=G at *
 have hixa:=Qro
 have hp0:=Qog
 have hp1:=Qof
 by_cases h1:Q28 p a script fuel=0
 ·rw [if_pos h1]
  have C1:=Lib.hid fun W X=>Qf8 h1 (R1.out W X)
  by_cases h2:Q28 p b script fuel=0
  ·rw [h2]
   have C2:=Lib.hid fun W X=>Qf8 h2 (R2.out W X)
   clear R1 R2 h1 h2
   go_enter Try.func47,Try.ntmps47
   go_wp2_with fail
   refine wp_loop_rounds 3 ?_
   rw [rounds_succ]
   go_wp2_with fail
   obtain ⟨W,gp,hg,hW,hx,bP,bA⟩:=Q0i w #[.slice a0 a1 a2,.slice b0 b1 b2] #[.slice none 0 0,.slice none 0 0] 25 133
   rw [hW,hg]
   have X:=Lib.hid hx
   have hga:w.heap.size≤gp+1:=by omega
   have Hga:=Lib.hid hga
   clear hW hg hx hga
   (with_reducible refine (C1.out W X.out).mono ?_)
   clear C1
   rintro e w1 ⟨s1,s2,s3,s4,rfl,hx,hS⟩
   have X:=Lib.hid (X.out.trans hx)
   have S1:=Lib.hid (Qby hS)
   have bP:=bP.ext hx
   have bA:=bA.ext hx
   have q0:w1.cell? ⟨gp+1,0,none⟩=some (.slice none 0 0)∧w1.frozen? ⟨gp+1,0,none⟩=false:=⟨by rw [bA.cell];rfl,bA.frozen _⟩
   have hgal:=bA.lt
   clear hx hS
   go_wp2_with fail
   have X:=Lib.hid ((X.out.setCell (p:=⟨gp+1,0,none⟩) Hga.out (.slice s1 F.seen.length s2)).alloc (.cells #[.int .i64 F.fin,.int .i64 F.value,.int .i64 F.steps,.slice s1 F.seen.length s2,.slice s3 (Q1j p F.pl.words).length s4] 36))
   have S1:=Lib.hid ((S1.out.far (i:=0) (u:=.slice s1 F.seen.length s2) bA).ext ((Ext.refl _).alloc (.cells #[.int .i64 F.fin,.int .i64 F.value,.int .i64 F.steps,.slice s1 F.seen.length s2,.slice s3 (Q1j p F.pl.words).length s4] 36)))
   have bP:=(bP.far (p:=⟨gp+1,0,none⟩) (by show gp≠gp+1;omega) (.slice s1 F.seen.length s2)).alloc (.cells #[.int .i64 F.fin,.int .i64 F.value,.int .i64 F.steps,.slice s1 F.seen.length s2,.slice s3 (Q1j p F.pl.words).length s4] 36)
   have bA:=(bA.set_ 0 (.slice s1 F.seen.length s2)).alloc (.cells #[.int .i64 F.fin,.int .i64 F.value,.int .i64 F.steps,.slice s1 F.seen.length s2,.slice s3 (Q1j p F.pl.words).length s4] 36)
   generalize (w1.setCell ⟨gp+1,0,none⟩ (.slice s1 F.seen.length s2)).alloc (.cells #[.int .i64 F.fin,.int .i64 F.value,.int .i64 F.steps,.slice s1 F.seen.length s2,.slice s3 (Q1j p F.pl.words).length s4] 36)=w2 at *
   have c0:w2.cell? ⟨gp,0,none⟩=some (.slice a0 a1 a2):=by rw [bP.cell];rfl
   have c1:w2.cell? ⟨gp,1,none⟩=some (.slice b0 b1 b2):=by rw [bP.cell];rfl
   have hgal2:=bA.lt
   clear q0 hgal
   rw [rounds_succ]
   go_wp2_with fail
   (with_reducible refine (C2.out w2 X.out).mono ?_)
   clear C2
   rintro e w3 ⟨t1,t2,t3,t4,rfl,hx,hS⟩
   have X:=Lib.hid (X.out.trans hx)
   have S1:=Lib.hid (S1.out.ext hx)
   have S2:=Lib.hid (Qby hS)
   have bA:Blk w3 (gp+1) 133 #[.slice s1 F.seen.length s2,.slice none 0 0]:=bA.ext hx
   have q1:w3.cell? ⟨gp+1,1,none⟩=some (.slice none 0 0)∧w3.frozen? ⟨gp+1,1,none⟩=false:=⟨by rw [bA.cell];rfl,bA.frozen _⟩
   have hgal:=bA.lt
   clear hx hS bP c0 c1 hgal2
   go_wp2_with fail
   have X:=Lib.hid ((X.out.setCell (p:=⟨gp+1,1,none⟩) Hga.out (.slice t1 G.seen.length t2)).alloc (.cells #[.int .i64 G.fin,.int .i64 G.value,.int .i64 G.steps,.slice t1 G.seen.length t2,.slice t3 (Q1j p G.pl.words).length t4] 36))
   have S1:=Lib.hid ((S1.out.far (i:=1) (u:=.slice t1 G.seen.length t2) bA).ext ((Ext.refl _).alloc (.cells #[.int .i64 G.fin,.int .i64 G.value,.int .i64 G.steps,.slice t1 G.seen.length t2,.slice t3 (Q1j p G.pl.words).length t4] 36)))
   have S2:=Lib.hid ((S2.out.far (i:=1) (u:=.slice t1 G.seen.length t2) bA).ext ((Ext.refl _).alloc (.cells #[.int .i64 G.fin,.int .i64 G.value,.int .i64 G.steps,.slice t1 G.seen.length t2,.slice t3 (Q1j p G.pl.words).length t4] 36)))
   have bA:=(bA.set_ 1 (.slice t1 G.seen.length t2)).alloc (.cells #[.int .i64 G.fin,.int .i64 G.value,.int .i64 G.steps,.slice t1 G.seen.length t2,.slice t3 (Q1j p G.pl.words).length t4] 36)
   generalize (w3.setCell ⟨gp+1,1,none⟩ (.slice t1 G.seen.length t2)).alloc (.cells #[.int .i64 G.fin,.int .i64 G.value,.int .i64 G.steps,.slice t1 G.seen.length t2,.slice t3 (Q1j p G.pl.words).length t4] 36)=w4 at *
   have BA:Hid (Blk w4 (gp+1) 133 #[.slice s1 F.seen.length s2,.slice t1 G.seen.length t2]):=Lib.hid bA
   have q0:w4.cell? ⟨gp+1,0,none⟩=some (.slice s1 F.seen.length s2):=by rw [BA.out.cell];rfl
   have q1:w4.cell? ⟨gp+1,1,none⟩=some (.slice t1 G.seen.length t2):=by rw [BA.out.cell];rfl
   have hgal2:=bA.lt
   clear hgal bA
   rw [rounds_succ]
   obtain ⟨or_1,cr1,br1,or1,hq1,hc1,hc2,hrow1⟩:=S1.out
   simp only [Value.slice.injEq,true_and] at hq1
   obtain ⟨rfl,rfl⟩:=hq1
   obtain ⟨or_2,cr2,br2,or2,hq2,hd1,hd2,hrow2⟩:=S2.out
   simp only [Value.slice.injEq,true_and] at hq2
   obtain ⟨rfl,rfl⟩:=hq2
   have hlen:=Q1l hc1 hc2
   have hlen2:=Q1l hd1 hd2
   have hix:=Qi8 (cap:=s2) hrow1.at_
   have hix2:=Qi8 (cap:=t2) hrow2.at_
   have Hrow1:=Lib.hid hrow1
   have Hrow2:=Lib.hid hrow2
   clear hrow1 hrow2 hc1 hc2 hd1 hd2 S1 S2 BA
   rcases Nat.lt_or_ge F.seen.length G.seen.length with hl | hl
   ·have hN:decide (F.seen.length < G.seen.length)=true:=by simp;omega
    go_wp2_with fail
    go_loopw [18,49] (fun _ i wr => ∃ k:Nat,k≤F.seen.length∧k≤G.seen.length∧i=.int .i64 k∧(∀ j,j < k→F.seen.getD j default=G.seen.getD j default)∧Ext w4 wr) (fun _ i _=>G.seen.length - (intOf i).toNat)
    case atStart=>exact ⟨0,by omega,by omega,rfl,fun j hj=>by omega,Ext.refl _⟩
    case round =>
     obtain ⟨k,hkF,hkG,rfl,hall,hE⟩:=hrel
     have Hall:=Lib.hid hall
     have XE:=Lib.hid hE
     have a0:∀ W,Ext wr W→W.cell? ⟨gp+1,0,none⟩=some (.slice s1 F.seen.length s2):=fun _ h=>h.kept (hE.kept q0)
     have a1:∀ W,Ext wr W→W.cell? ⟨gp+1,1,none⟩=some (.slice t1 G.seen.length t2):=fun _ h=>h.kept (hE.kept q1)
     have hgr:=hE.lt hgal2
     clear hall hE q0 q1 hgal2
     by_cases hlt:k < G.seen.length
     ·by_cases hF:k < F.seen.length
      ·have dF:decide ((F.seen.length:Int)≤(k:Int))=false:=by simp;omega
       by_cases hG:k < G.seen.length
       ·have dG:decide ((G.seen.length:Int)≤(k:Int))=false:=by simp;omega
        obtain ⟨e0,e1,e2⟩:=(Hrow1.out.ext XE.out).see k hF
        obtain ⟨f0,f1,f2⟩:=(Hrow2.out.ext XE.out).see k hG
        have k0:∀ W,Ext wr W→W.cell? ⟨br1,or1+k * 3,none⟩=some (.int .i64 (F.seen.getD k default).kind):=fun _ h=>h.kept e0
        have k1:∀ W,Ext wr W→W.cell? ⟨br1,or1+k * 3+1,none⟩=some (.int .i64 (F.seen.getD k default).a):=fun _ h=>h.kept e1
        have k2:∀ W,Ext wr W→W.cell? ⟨br1,or1+k * 3+2,none⟩=some (.int .i64 (F.seen.getD k default).b):=fun _ h=>h.kept e2
        have l0:∀ W,Ext wr W→W.cell? ⟨br2,or2+k * 3,none⟩=some (.int .i64 (G.seen.getD k default).kind):=fun _ h=>h.kept f0
        have l1:∀ W,Ext wr W→W.cell? ⟨br2,or2+k * 3+1,none⟩=some (.int .i64 (G.seen.getD k default).a):=fun _ h=>h.kept f1
        have l2:∀ W,Ext wr W→W.cell? ⟨br2,or2+k * 3+2,none⟩=some (.int .i64 (G.seen.getD k default).b):=fun _ h=>h.kept f2
        have hneq:=fun W=>Qff (F.seen.getD k default) (G.seen.getD k default) W
        simp only [Qfg] at hneq
        clear e0 e1 e2 f0 f1 f2
        by_cases heq:F.seen.getD k default=G.seen.getD k default
        ·rw [decide_eq_true heq] at hneq
         have Heq:=Lib.hid heq
         clear heq
         generalize hgx:F.seen.getD k default=x at *
         generalize hgy:G.seen.getD k default=y at *
         have Hx:=Lib.hid hgx
         have Hy:=Lib.hid hgy
         clear hgx hgy
         go_upto_region 13 with fail
         refine Q0z 25 (by kernel_rfl) (by kernel_rfl) ?_
         simp only [List.take_succ_cons,List.take_zero,List.drop_succ_cons,List.drop_zero]
         repeat (first | (refine Q0p ?_ ?_ (fun wc hE=>?_) ?_;(decide);rfl;(focus (go_simp;done));go_simp) | (refine Q0h ?_ ?_ ?_;(decide);(first | rfl | (focus (go_simp;done)));apply Exists.intro;refine ⟨fun wc hE=>?_,?_⟩;(go_simp;exact rfl);go_simp) | (refine Q0q ?_ ?_ ?_;(decide);(first | rfl | (focus (go_simp;done)));apply Exists.intro;refine ⟨fun wc hE=>?_,?_⟩;(go_simp;(first | fail));go_simp) | (refine Q0n ?_ ?_ ?_;(decide);(focus (go_simp;done));go_simp))
         refine Q0o ?_
         intro wx hx
         have XE:=Lib.hid (XE.out.trans hx)
         clear hx k0 k1 k2 l0 l1 l2 a0 a1 hgr
         go_wp2
         go_roundw
         case rel=>exact ⟨k+1,by omega,by omega,by go_num,fun j hj=>by
          rcases Nat.lt_or_ge j k with h | h
          ·exact Hall.out j h
          ·obtain rfl:j=k:=by omega
           rw [Hx.out,Hy.out];exact Heq.out,XE.out⟩
         case measure=>first | (simp [intOf];done) | (simp [intOf];omega)
        ·rw [decide_eq_false heq] at hneq
         have Hne:=Lib.hid heq
         clear heq
         generalize hgx:F.seen.getD k default=x at *
         generalize hgy:G.seen.getD k default=y at *
         have Hx:=Lib.hid hgx
         have Hy:=Lib.hid hgy
         clear hgx hgy
         go_upto_region 13 with fail
         refine Q0z 25 (by kernel_rfl) (by kernel_rfl) ?_
         simp only [List.take_succ_cons,List.take_zero,List.drop_succ_cons,List.drop_zero]
         repeat (first | (refine Q0p ?_ ?_ (fun wc hE=>?_) ?_;(decide);rfl;(focus (go_simp;done));go_simp) | (refine Q0h ?_ ?_ ?_;(decide);(first | rfl | (focus (go_simp;done)));apply Exists.intro;refine ⟨fun wc hE=>?_,?_⟩;(go_simp;exact rfl);go_simp) | (refine Q0q ?_ ?_ ?_;(decide);(first | rfl | (focus (go_simp;done)));apply Exists.intro;refine ⟨fun wc hE=>?_,?_⟩;(go_simp;(first | fail));go_simp) | (refine Q0n ?_ ?_ ?_;(decide);(focus (go_simp;done));go_simp))
         refine Q0o ?_
         intro wx hx
         have XE:=Lib.hid (XE.out.trans hx)
         clear hx k0 k1 k2 l0 l1 l2 a0 a1 hgr
         go_wp2
         exact bodyPost_ret (Q65 (va:=.int .i64 (k:Int)) (vb:=.bool true) (vc:=.int .i64 0) rfl _ rfl rfl rfl) rfl (Q3s.at_ hkF hkG Hall.out (.inr (.inr (by rw [Hx.out,Hy.out];exact Hne.out))) (.inl hF) (X.out.trans XE.out))
       ·have dG:G.seen.length≤k:=by omega
        go_upto_region 13 with fail
        refine Q0z 25 (by kernel_rfl) (by kernel_rfl) ?_
        simp only [List.take_succ_cons,List.take_zero,List.drop_succ_cons,List.drop_zero]
        repeat (first | (refine Q0p ?_ ?_ (fun wc hE=>?_) ?_;(decide);rfl;(focus (go_simp;done));go_simp) | (refine Q0h ?_ ?_ ?_;(decide);(first | rfl | (focus (go_simp;done)));apply Exists.intro;refine ⟨fun wc hE=>?_,?_⟩;(go_simp;exact rfl);go_simp) | (refine Q0q ?_ ?_ ?_;(decide);(first | rfl | (focus (go_simp;done)));apply Exists.intro;refine ⟨fun wc hE=>?_,?_⟩;(go_simp;(first | fail));go_simp) | (refine Q0n ?_ ?_ ?_;(decide);(focus (go_simp;done));go_simp))
        refine Q0o ?_
        intro wx hx
        have XE:=Lib.hid (XE.out.trans hx)
        clear hx a0 a1 hgr
        go_wp2
        exact bodyPost_ret (Q65 (va:=.int .i64 (k:Int)) (vb:=.bool true) (vc:=.int .i64 0) rfl _ rfl rfl rfl) rfl (Q3s.at_ hkF hkG Hall.out (.inr (.inl (by omega))) (.inl hF) (X.out.trans XE.out))
      ·have dF:F.seen.length≤k:=by omega
       go_upto_region 13 with fail
       refine Q0z 25 (by kernel_rfl) (by kernel_rfl) ?_
       simp only [List.take_succ_cons,List.take_zero,List.drop_succ_cons,List.drop_zero]
       repeat (first | (refine Q0p ?_ ?_ (fun wc hE=>?_) ?_;(decide);rfl;(focus (go_simp;done));go_simp) | (refine Q0h ?_ ?_ ?_;(decide);(first | rfl | (focus (go_simp;done)));apply Exists.intro;refine ⟨fun wc hE=>?_,?_⟩;(go_simp;exact rfl);go_simp) | (refine Q0q ?_ ?_ ?_;(decide);(first | rfl | (focus (go_simp;done)));apply Exists.intro;refine ⟨fun wc hE=>?_,?_⟩;(go_simp;(first | fail));go_simp) | (refine Q0n ?_ ?_ ?_;(decide);(focus (go_simp;done));go_simp))
       refine Q0o ?_
       intro wx hx
       have XE:=Lib.hid (XE.out.trans hx)
       clear hx a0 a1 hgr
       go_wp2
       exact bodyPost_ret (Q65 (va:=.int .i64 (k:Int)) (vb:=.bool true) (vc:=.int .i64 0) rfl _ rfl rfl rfl) rfl (Q3s.at_ hkF hkG Hall.out (.inl (by omega)) (.inr (by omega)) (X.out.trans XE.out))
     ·have dN:decide ((k:Int) < (G.seen.length:Int))=false:=by simp;omega
      go_wp2
      exact bodyPost_ret (Q65 (va:=.int .i64 0) (vb:=.bool false) (vc:=.int .i64 0) rfl _ rfl rfl rfl) rfl (Q3s.none (k:=k) (by omega) (by omega) Hall.out (X.out.trans XE.out))
   ·have hN:decide (F.seen.length < G.seen.length)=false:=by simp;omega
    go_wp2_with fail
    go_loopw [18,49] (fun _ i wr => ∃ k:Nat,k≤F.seen.length∧k≤G.seen.length∧i=.int .i64 k∧(∀ j,j < k→F.seen.getD j default=G.seen.getD j default)∧Ext w4 wr) (fun _ i _=>F.seen.length - (intOf i).toNat)
    case atStart=>exact ⟨0,by omega,by omega,rfl,fun j hj=>by omega,Ext.refl _⟩
    case round =>
     obtain ⟨k,hkF,hkG,rfl,hall,hE⟩:=hrel
     have Hall:=Lib.hid hall
     have XE:=Lib.hid hE
     have a0:∀ W,Ext wr W→W.cell? ⟨gp+1,0,none⟩=some (.slice s1 F.seen.length s2):=fun _ h=>h.kept (hE.kept q0)
     have a1:∀ W,Ext wr W→W.cell? ⟨gp+1,1,none⟩=some (.slice t1 G.seen.length t2):=fun _ h=>h.kept (hE.kept q1)
     have hgr:=hE.lt hgal2
     clear hall hE q0 q1 hgal2
     by_cases hlt:k < F.seen.length
     ·by_cases hF:k < F.seen.length
      ·have dF:decide ((F.seen.length:Int)≤(k:Int))=false:=by simp;omega
       by_cases hG:k < G.seen.length
       ·have dG:decide ((G.seen.length:Int)≤(k:Int))=false:=by simp;omega
        obtain ⟨e0,e1,e2⟩:=(Hrow1.out.ext XE.out).see k hF
        obtain ⟨f0,f1,f2⟩:=(Hrow2.out.ext XE.out).see k hG
        have k0:∀ W,Ext wr W→W.cell? ⟨br1,or1+k * 3,none⟩=some (.int .i64 (F.seen.getD k default).kind):=fun _ h=>h.kept e0
        have k1:∀ W,Ext wr W→W.cell? ⟨br1,or1+k * 3+1,none⟩=some (.int .i64 (F.seen.getD k default).a):=fun _ h=>h.kept e1
        have k2:∀ W,Ext wr W→W.cell? ⟨br1,or1+k * 3+2,none⟩=some (.int .i64 (F.seen.getD k default).b):=fun _ h=>h.kept e2
        have l0:∀ W,Ext wr W→W.cell? ⟨br2,or2+k * 3,none⟩=some (.int .i64 (G.seen.getD k default).kind):=fun _ h=>h.kept f0
        have l1:∀ W,Ext wr W→W.cell? ⟨br2,or2+k * 3+1,none⟩=some (.int .i64 (G.seen.getD k default).a):=fun _ h=>h.kept f1
        have l2:∀ W,Ext wr W→W.cell? ⟨br2,or2+k * 3+2,none⟩=some (.int .i64 (G.seen.getD k default).b):=fun _ h=>h.kept f2
        have hneq:=fun W=>Qff (F.seen.getD k default) (G.seen.getD k default) W
        simp only [Qfg] at hneq
        clear e0 e1 e2 f0 f1 f2
        by_cases heq:F.seen.getD k default=G.seen.getD k default
        ·rw [decide_eq_true heq] at hneq
         have Heq:=Lib.hid heq
         clear heq
         generalize hgx:F.seen.getD k default=x at *
         generalize hgy:G.seen.getD k default=y at *
         have Hx:=Lib.hid hgx
         have Hy:=Lib.hid hgy
         clear hgx hgy
         go_upto_region 13 with fail
         refine Q0z 25 (by kernel_rfl) (by kernel_rfl) ?_
         simp only [List.take_succ_cons,List.take_zero,List.drop_succ_cons,List.drop_zero]
         repeat (first | (refine Q0p ?_ ?_ (fun wc hE=>?_) ?_;(decide);rfl;(focus (go_simp;done));go_simp) | (refine Q0h ?_ ?_ ?_;(decide);(first | rfl | (focus (go_simp;done)));apply Exists.intro;refine ⟨fun wc hE=>?_,?_⟩;(go_simp;exact rfl);go_simp) | (refine Q0q ?_ ?_ ?_;(decide);(first | rfl | (focus (go_simp;done)));apply Exists.intro;refine ⟨fun wc hE=>?_,?_⟩;(go_simp;(first | fail));go_simp) | (refine Q0n ?_ ?_ ?_;(decide);(focus (go_simp;done));go_simp))
         refine Q0o ?_
         intro wx hx
         have XE:=Lib.hid (XE.out.trans hx)
         clear hx k0 k1 k2 l0 l1 l2 a0 a1 hgr
         go_wp2
         go_roundw
         case rel=>exact ⟨k+1,by omega,by omega,by go_num,fun j hj=>by
          rcases Nat.lt_or_ge j k with h | h
          ·exact Hall.out j h
          ·obtain rfl:j=k:=by omega
           rw [Hx.out,Hy.out];exact Heq.out,XE.out⟩
         case measure=>first | (simp [intOf];done) | (simp [intOf];omega)
        ·rw [decide_eq_false heq] at hneq
         have Hne:=Lib.hid heq
         clear heq
         generalize hgx:F.seen.getD k default=x at *
         generalize hgy:G.seen.getD k default=y at *
         have Hx:=Lib.hid hgx
         have Hy:=Lib.hid hgy
         clear hgx hgy
         go_upto_region 13 with fail
         refine Q0z 25 (by kernel_rfl) (by kernel_rfl) ?_
         simp only [List.take_succ_cons,List.take_zero,List.drop_succ_cons,List.drop_zero]
         repeat (first | (refine Q0p ?_ ?_ (fun wc hE=>?_) ?_;(decide);rfl;(focus (go_simp;done));go_simp) | (refine Q0h ?_ ?_ ?_;(decide);(first | rfl | (focus (go_simp;done)));apply Exists.intro;refine ⟨fun wc hE=>?_,?_⟩;(go_simp;exact rfl);go_simp) | (refine Q0q ?_ ?_ ?_;(decide);(first | rfl | (focus (go_simp;done)));apply Exists.intro;refine ⟨fun wc hE=>?_,?_⟩;(go_simp;(first | fail));go_simp) | (refine Q0n ?_ ?_ ?_;(decide);(focus (go_simp;done));go_simp))
         refine Q0o ?_
         intro wx hx
         have XE:=Lib.hid (XE.out.trans hx)
         clear hx k0 k1 k2 l0 l1 l2 a0 a1 hgr
         go_wp2
         exact bodyPost_ret (Q65 (va:=.int .i64 (k:Int)) (vb:=.bool true) (vc:=.int .i64 0) rfl _ rfl rfl rfl) rfl (Q3s.at_ hkF hkG Hall.out (.inr (.inr (by rw [Hx.out,Hy.out];exact Hne.out))) (.inl hF) (X.out.trans XE.out))
       ·have dG:G.seen.length≤k:=by omega
        go_upto_region 13 with fail
        refine Q0z 25 (by kernel_rfl) (by kernel_rfl) ?_
        simp only [List.take_succ_cons,List.take_zero,List.drop_succ_cons,List.drop_zero]
        repeat (first | (refine Q0p ?_ ?_ (fun wc hE=>?_) ?_;(decide);rfl;(focus (go_simp;done));go_simp) | (refine Q0h ?_ ?_ ?_;(decide);(first | rfl | (focus (go_simp;done)));apply Exists.intro;refine ⟨fun wc hE=>?_,?_⟩;(go_simp;exact rfl);go_simp) | (refine Q0q ?_ ?_ ?_;(decide);(first | rfl | (focus (go_simp;done)));apply Exists.intro;refine ⟨fun wc hE=>?_,?_⟩;(go_simp;(first | fail));go_simp) | (refine Q0n ?_ ?_ ?_;(decide);(focus (go_simp;done));go_simp))
        refine Q0o ?_
        intro wx hx
        have XE:=Lib.hid (XE.out.trans hx)
        clear hx a0 a1 hgr
        go_wp2
        exact bodyPost_ret (Q65 (va:=.int .i64 (k:Int)) (vb:=.bool true) (vc:=.int .i64 0) rfl _ rfl rfl rfl) rfl (Q3s.at_ hkF hkG Hall.out (.inr (.inl (by omega))) (.inl hF) (X.out.trans XE.out))
      ·have dF:F.seen.length≤k:=by omega
       go_upto_region 13 with fail
       refine Q0z 25 (by kernel_rfl) (by kernel_rfl) ?_
       simp only [List.take_succ_cons,List.take_zero,List.drop_succ_cons,List.drop_zero]
       repeat (first | (refine Q0p ?_ ?_ (fun wc hE=>?_) ?_;(decide);rfl;(focus (go_simp;done));go_simp) | (refine Q0h ?_ ?_ ?_;(decide);(first | rfl | (focus (go_simp;done)));apply Exists.intro;refine ⟨fun wc hE=>?_,?_⟩;(go_simp;exact rfl);go_simp) | (refine Q0q ?_ ?_ ?_;(decide);(first | rfl | (focus (go_simp;done)));apply Exists.intro;refine ⟨fun wc hE=>?_,?_⟩;(go_simp;(first | fail));go_simp) | (refine Q0n ?_ ?_ ?_;(decide);(focus (go_simp;done));go_simp))
       refine Q0o ?_
       intro wx hx
       have XE:=Lib.hid (XE.out.trans hx)
       clear hx a0 a1 hgr
       go_wp2
       exact bodyPost_ret (Q65 (va:=.int .i64 (k:Int)) (vb:=.bool true) (vc:=.int .i64 0) rfl _ rfl rfl rfl) rfl (Q3s.at_ hkF hkG Hall.out (.inl (by omega)) (.inr (by omega)) (X.out.trans XE.out))
     ·have dN:decide ((k:Int) < (F.seen.length:Int))=false:=by simp;omega
      go_wp2
      exact bodyPost_ret (Q65 (va:=.int .i64 0) (vb:=.bool false) (vc:=.int .i64 0) rfl _ rfl rfl rfl) rfl (Q3s.none (k:=k) (by omega) (by omega) Hall.out (X.out.trans XE.out))
  ·have C2:=Lib.hid fun W X=>Qf9 rfl h2 (R2.out W X)
   have Hne:=Lib.hid h2
   have hne:(Q28 p b script fuel != 0)=true:=by simpa using h2
   clear R1 R2 h1 h2
   generalize Q28 p b script fuel=c at *
   go_enter Try.func47,Try.ntmps47
   go_wp2_with fail
   refine wp_loop_rounds 3 ?_
   rw [rounds_succ]
   go_wp2_with fail
   obtain ⟨W,gp,hg,hW,hx,bP,bA⟩:=Q0i w #[.slice a0 a1 a2,.slice b0 b1 b2] #[.slice none 0 0,.slice none 0 0] 25 133
   rw [hW,hg]
   have X:=Lib.hid hx
   have hga:w.heap.size≤gp+1:=by omega
   have Hga:=Lib.hid hga
   clear hW hg hx hga
   (with_reducible refine (C1.out W X.out).mono ?_)
   clear C1
   rintro e w1 ⟨s1,s2,s3,s4,rfl,hx,hS⟩
   have X:=Lib.hid (X.out.trans hx)
   have S1:=Lib.hid (Qby hS)
   have bP:=bP.ext hx
   have bA:=bA.ext hx
   have q0:w1.cell? ⟨gp+1,0,none⟩=some (.slice none 0 0)∧w1.frozen? ⟨gp+1,0,none⟩=false:=⟨by rw [bA.cell];rfl,bA.frozen _⟩
   have hgal:=bA.lt
   clear hx hS
   go_wp2_with fail
   have X:=Lib.hid ((X.out.setCell (p:=⟨gp+1,0,none⟩) Hga.out (.slice s1 F.seen.length s2)).alloc (.cells #[.int .i64 F.fin,.int .i64 F.value,.int .i64 F.steps,.slice s1 F.seen.length s2,.slice s3 (Q1j p F.pl.words).length s4] 36))
   have S1:=Lib.hid ((S1.out.far (i:=0) (u:=.slice s1 F.seen.length s2) bA).ext ((Ext.refl _).alloc (.cells #[.int .i64 F.fin,.int .i64 F.value,.int .i64 F.steps,.slice s1 F.seen.length s2,.slice s3 (Q1j p F.pl.words).length s4] 36)))
   have bP:=(bP.far (p:=⟨gp+1,0,none⟩) (by show gp≠gp+1;omega) (.slice s1 F.seen.length s2)).alloc (.cells #[.int .i64 F.fin,.int .i64 F.value,.int .i64 F.steps,.slice s1 F.seen.length s2,.slice s3 (Q1j p F.pl.words).length s4] 36)
   have bA:=(bA.set_ 0 (.slice s1 F.seen.length s2)).alloc (.cells #[.int .i64 F.fin,.int .i64 F.value,.int .i64 F.steps,.slice s1 F.seen.length s2,.slice s3 (Q1j p F.pl.words).length s4] 36)
   generalize (w1.setCell ⟨gp+1,0,none⟩ (.slice s1 F.seen.length s2)).alloc (.cells #[.int .i64 F.fin,.int .i64 F.value,.int .i64 F.steps,.slice s1 F.seen.length s2,.slice s3 (Q1j p F.pl.words).length s4] 36)=w2 at *
   have c0:w2.cell? ⟨gp,0,none⟩=some (.slice a0 a1 a2):=by rw [bP.cell];rfl
   have c1:w2.cell? ⟨gp,1,none⟩=some (.slice b0 b1 b2):=by rw [bP.cell];rfl
   have hgal2:=bA.lt
   clear q0 hgal
   rw [rounds_succ]
   go_wp2_with fail
   (with_reducible refine (C2.out w2 X.out).mono ?_)
   clear C2
   rintro e w3 ⟨t1,t2,t3,t4,rfl,hx,hS⟩
   have X:=Lib.hid (X.out.trans hx)
   clear hx hS bP bA c0 c1 hgal2
   have XX:=Lib.hid (X.out.alloc (.cells #[.int .i64 0,.int .i64 0,.int .i64 0,.slice t1 0 t2,.slice t3 0 t4] 36))
   go_wp2
   exact bodyPost_ret (Q65 (va:=.int .i64 0) (vb:=.bool false) (vc:=.int .i64 c) rfl _ rfl rfl rfl) rfl (Q3s.no Hne.out XX.out)
 ·rw [if_neg h1]
  have C1:=Lib.hid fun W X=>Qf9 rfl h1 (R1.out W X)
  have Hne:=Lib.hid h1
  have hne:(Q28 p a script fuel != 0)=true:=by simpa using h1
  clear R1 R2 h1
  generalize Q28 p a script fuel=c at *
  go_enter Try.func47,Try.ntmps47
  go_wp2_with fail
  refine wp_loop_rounds 3 ?_
  rw [rounds_succ]
  go_wp2_with fail
  obtain ⟨W,gp,hg,hW,hx,bP,bA⟩:=Q0i w #[.slice a0 a1 a2,.slice b0 b1 b2] #[.slice none 0 0,.slice none 0 0] 25 133
  rw [hW,hg]
  have X:=Lib.hid hx
  clear hW hg hx
  (with_reducible refine (C1.out W X.out).mono ?_)
  clear C1
  rintro e w1 ⟨s1,s2,s3,s4,rfl,hx,hS⟩
  have X:=Lib.hid (X.out.trans hx)
  clear hx hS bP bA
  have XX:=Lib.hid (X.out.alloc (.cells #[.int .i64 0,.int .i64 0,.int .i64 0,.slice s1 0 s2,.slice s3 0 s4] 36))
  go_wp2
  exact bodyPost_ret (Q65 (va:=.int .i64 0) (vb:=.bool false) (vc:=.int .i64 c) rfl _ rfl rfl rfl) rfl (Q3s.no Hne.out XX.out)
def oneP:Q00:=⟨[⟨0,false⟩],[⟨5,0,0,0,0⟩,⟨8,0,1,1,2⟩,⟨9,0,0,0,0⟩]⟩
def twoP:Q00:=⟨[⟨0,false⟩],[⟨5,0,0,0,0⟩,⟨8,0,1,1,3⟩,⟨12,0,0,0,0⟩,⟨9,0,0,0,0⟩]⟩
theorem Qol:Q7u oneP [[0]] [[1]] [] 9=0∧Q6q (Q3z oneP [[0]] [] 9) (Q3z oneP [[1]] [] 9)=0∧Q5k (Q3z oneP [[0]] [] 9) (Q3z oneP [[1]] [] 9)=false:=by decide +kernel
theorem Qk4:Q7u twoP [[0]] [[1]] [] 9=0∧Q6q (Q3z twoP [[0]] [] 9) (Q3z twoP [[1]] [] 9)=3∧Q5k (Q3z twoP [[0]] [] 9) (Q3z twoP [[1]] [] 9)=true:=by decide +kernel
theorem Qr7 (w:World):Q3c w (.slice none 0 0) []:=⟨fun x hx=>by simp at hx,none,0,0,0,rfl,by simp,by decide,⟨fun h=>by simp at h,fun i j hi hj=>by simp at hi⟩⟩
theorem Qim {q:Q00} {W:World} {v va vb:Value} {K:Int} {B:Bool} (hp:Q0b W v q) (ha:Q2w W va [[0]]) (hb:Q2w W vb [[1]]) (hE:Q7u q [[0]] [[1]] [] 9=0∧Q6q (Q3z q [[0]] [] 9) (Q3z q [[1]] [] 9)=K∧Q5k (Q3z q [[0]] [] 9) (Q3z q [[1]] [] 9)=B) :
  Calls Try.prog 47 #[v,va,vb,.slice none 0 0,.int .i64 9] W fun e w'=>e=.returned (.tuple #[.int .i64 K,.bool B,.int .i64 0])∧Ext W w' :=
 (Qin q [[0]] [[1]] [] 9 v va vb (.slice none 0 0) W hp ha hb (Qr7 W) (by constructor <;> decide)).mono fun e w' h=>by
  obtain ⟨h1,h2⟩:=h
  rw [hE.1,hE.2.1,hE.2.2] at h1
  exact ⟨h1,h2⟩
theorem Qj5 {α:Type} [Inhabited α] {W:World} {k:Nat} {t:TypeId} {c:Nat} {l:List α} {f:α→List Value} {g:α→Nat→Value} (hf:∀ x,(f x).length=c) (hg:∀ x j,j < c→(f x)[j]? = some (g x j)) (h:Blk W k t (l.flatMap f).toArray) :
  Rows W (some ⟨k,0,none⟩) k 0 l.length c fun i=>g (l.getD i default):=by
 refine ⟨fun _=>rfl,fun i j hi hj=>?_⟩
 rw [h.cell,List.getElem?_toArray,Nat.zero_add,Q9n f c hf l i j hi hj]
 exact hg _ _ hj
theorem Qj0 {W:World} {k n:Nat} {t:TypeId} {l:List LIns} (h:Blk W k t (l.flatMap Q29).toArray) (hl:∀ i ∈ l,i.fits) (hn:l.length=n) (hm:n≤maxLen):Q7d W (.slice (some ⟨k,0,none⟩) n n) l:=by
 subst hn
 exact ⟨hl,_,_,k,0,rfl,Nat.le_refl _,hm,Qj5 (fun _=>rfl) (fun x j hj=>Qi3 x j hj) h⟩
theorem Qfp {W:World} {k n:Nat} {t:TypeId} {l:List LReg} (h:Blk W k t (l.flatMap Q4f).toArray) (hl:∀ r ∈ l,R64 r.log) (hn:l.length=n) (hm:n≤maxLen):Q5n W (.slice (some ⟨k,0,none⟩) n n) l:=by
 subst hn
 exact ⟨hl,_,_,k,0,rfl,Nat.le_refl _,hm,Qj5 (fun _=>rfl) (fun x j hj=>Qc9 x j hj) h⟩
theorem Qh1 {W:World} {k1 k2:Nat} {t1 t2:TypeId} {x:Int} (h1:Blk W k1 t1 #[.int .i64 x]) (h2:Blk W k2 t2 #[.slice (some ⟨k1,0,none⟩) 1 1]) (hx:R64 x):Q2w W (.slice (some ⟨k2,0,none⟩) 1 1) [[x]]:=by
 refine ⟨_,_,k2,0,rfl,Nat.le_refl _,by unfold maxLen;simp,fun _=>.slice (some ⟨k1,0,none⟩) 1 1,⟨fun _=>rfl,fun i j hi hj=>?_⟩,fun i hi=>?_⟩
 ·obtain rfl:i=0:=by simpa using hi
  obtain rfl:j=0:=by omega
  rw [h2.cell]
  rfl
 ·obtain rfl:i=0:=by simpa using hi
  refine ⟨fun y hy=>?_,_,_,k1,0,rfl,Nat.le_refl _,by unfold maxLen;simp,⟨fun _=>rfl,fun i j hi hj=>?_⟩⟩
  ·have:y=x:=by simpa using hy
   rw [this];exact hx
  ·obtain rfl:i=0:=by simpa using hi
   obtain rfl:j=0:=by omega
   rw [h1.cell]
   rfl
theorem Qh8:∀ r ∈ ([⟨0,false⟩]:List LReg),R64 r.log:=by
 intro r hr
 have:r=⟨0,false⟩:=by simpa using hr
 subst this
 exact ⟨by decide,by decide⟩
theorem Qox:∀ i ∈ oneP.code,i.fits:=by
 intro i hi
 have:i=⟨5,0,0,0,0⟩∨i=⟨8,0,1,1,2⟩∨i=⟨9,0,0,0,0⟩:=by simpa [oneP] using hi
 rcases this with rfl | rfl | rfl <;> exact ⟨⟨by decide,by decide⟩,⟨by decide,by decide⟩,⟨by decide,by decide⟩,⟨by decide,by decide⟩,⟨by decide,by decide⟩⟩
theorem Qk5:∀ i ∈ twoP.code,i.fits:=by
 intro i hi
 have:i=⟨5,0,0,0,0⟩∨i=⟨8,0,1,1,3⟩∨i=⟨12,0,0,0,0⟩∨i=⟨9,0,0,0,0⟩:=by simpa [twoP] using hi
 rcases this with rfl | rfl | rfl | rfl <;> exact ⟨⟨by decide,by decide⟩,⟨by decide,by decide⟩,⟨by decide,by decide⟩,⟨by decide,by decide⟩,⟨by decide,by decide⟩⟩
theorem Qgz (w:World):∃ W g,w.heap.size=g∧((((w.alloc (.cells #[.int .i64 0] 2)).alloc (.cells #[.slice (some ⟨w.heap.size,0,none⟩) 1 1] 71)).alloc (.cells #[.int .i64 1] 2)).alloc (.cells #[.slice (some ⟨w.heap.size+1+1,0,none⟩) 1 1] 71))=W∧Ext w W ∧
  Q2w W (.slice (some ⟨g+1,0,none⟩) 1 1) [[0]]∧Q2w W (.slice (some ⟨g+1+1+1,0,none⟩) 1 1) [[1]]:=by
 have b0:=(((Blk.new w 2 #[.int .i64 0]).alloc (.cells #[.slice (some ⟨w.heap.size,0,none⟩) 1 1] 71)).alloc (.cells #[.int .i64 1] 2)).alloc (.cells #[.slice (some ⟨w.heap.size+1+1,0,none⟩) 1 1] 71)
 have b1:=((Blk.new (w.alloc (.cells #[.int .i64 0] 2)) 71 #[.slice (some ⟨w.heap.size,0,none⟩) 1 1]).alloc (.cells #[.int .i64 1] 2)).alloc (.cells #[.slice (some ⟨w.heap.size+1+1,0,none⟩) 1 1] 71)
 have b2:=(Blk.new ((w.alloc (.cells #[.int .i64 0] 2)).alloc (.cells #[.slice (some ⟨w.heap.size,0,none⟩) 1 1] 71)) 2 #[.int .i64 1]).alloc (.cells #[.slice (some ⟨w.heap.size+1+1,0,none⟩) 1 1] 71)
 have b3:=Blk.new (((w.alloc (.cells #[.int .i64 0] 2)).alloc (.cells #[.slice (some ⟨w.heap.size,0,none⟩) 1 1] 71)).alloc (.cells #[.int .i64 1] 2)) 71 #[.slice (some ⟨w.heap.size+1+1,0,none⟩) 1 1]
 simp only [World.size_alloc] at b1 b2 b3
 exact ⟨_,_,rfl,rfl,((((Ext.refl _).alloc _).alloc _).alloc _).alloc _,Qh1 b0 b1 (by constructor <;> decide),Qh1 b2 b3 (by constructor <;> decide)⟩
end Go.Proofs.Yteiknefajlocoaa
