/- Laid together from: Form4, Form5, FormR, FormR2, FormR3. -/
import Derived.Test.YteiknefajlocoaaFindNothingB22

namespace Go.Proofs.Yteiknefajlocoaa
open Go.ChangeShapes Go.WideShapes Go.ChangeAt Go.RowKit
set_option linter.unusedVariables false
set_option linter.unusedSimpArgs false
theorem Qri (g:Nat) (oa:Option Addr) (cap:Nat) (ob:Option Addr) (capb:Nat) (R:Int) (ok:Bool) (p:Q00) (i:LIns) (hi:i.fits) (w:World) (b0 o0:Nat) (hgb:g≠b0) (hR:Rows w oa b0 o0 p.regs.length 2 fun i=>Q2u (p.regs.getD i default)) (hreg:ok=true→∀ r ∈ p.regs,0≤r.log∧r.log≤6)
  (h0:w.cell? ⟨g,0,none⟩=some (.slice oa p.regs.length cap)) (h1:w.cell? ⟨g,1,none⟩=some (.slice ob p.code.length capb)) (h2:w.cell? ⟨g,2,none⟩=some (.int .i64 R)) (h3:w.cell? ⟨g,3,none⟩=some (.bool ok)∧w.frozen? ⟨g,3,none⟩=false) :
  Calls Try.prog 122 #[.pointer (some ⟨g,0,none⟩),.agg #[.int .i64 i.op,.int .i64 i.a,.int .i64 i.b,.int .i64 i.c,.int .i64 i.n]] w fun e w'=>e=.returned (.tuple #[])∧Ext (w.setCell ⟨g,3,none⟩ (.bool (ok && Q01 p R i))) w':=by
 obtain ⟨op,a,b,c,n⟩:=i
 obtain ⟨fo,fa,fb,fc,fn⟩:=hi
 by_cases e1:op=1
 ·subst e1;exact Qr9 g oa cap ob capb R ok p a b c n fa fb fc fn w h0 h1 h2 h3
 by_cases e2:op=2
 ·subst e2;exact Qrb g oa cap ob capb R ok p a b c n fa fb fc fn w h0 h1 h2 h3
 by_cases e3:op=3
 ·subst e3;exact Qdi g oa cap ob capb R ok p a b c n fa fb fc fn w h0 h1 h2 h3
 by_cases e4:op=4
 ·subst e4;exact Qdh g oa cap ob capb R ok p a b c n fa fb fc fn w h0 h1 h2 h3
 by_cases e5:op=5
 ·subst e5;exact Qrd g oa cap ob capb R ok p a b c n fa fb fc fn w b0 o0 hgb hR hreg h0 h1 h2 h3
 by_cases e6:op=6
 ·subst e6;exact Qra g oa cap ob capb R ok p a b c n fa fb fc fn w b0 o0 hgb hR hreg h0 h1 h2 h3
 by_cases e7:op=7
 ·subst e7;exact Qre g oa cap ob capb R ok p a b c n fa fb fc fn w h0 h1 h2 h3
 by_cases e8:op=8
 ·subst e8;exact Qrf g oa cap ob capb R ok p a b c n fa fb fc fn w h0 h1 h2 h3
 by_cases e9:op=9
 ·subst e9;exact Qrg g oa cap ob capb R ok p a b c n fa fb fc fn w h0 h1 h2 h3
 by_cases e10:op=10
 ·subst e10;exact Qrj g oa cap ob capb R ok p a b c n fa fb fc fn w h0 h1 h2 h3
 by_cases e11:op=11
 ·subst e11;exact Qrc g oa cap ob capb R ok p a b c n fa fb fc fn w h0 h1 h2 h3
 by_cases e12:op=12
 ·subst e12;exact Qrh g oa cap ob capb R ok p a b c n fa fb fc fn w h0 h1 h2 h3
 exact Qax g oa cap ob capb R ok p op a b c n fa fb fc fn w fo (by simpa using e1) (by simpa using e2) (by simpa using e3) (by simpa using e4) (by simpa using e5) (by simpa using e6) (by simpa using e7) (by simpa using e8) (by simpa using e9) (by simpa using e10) (by simpa using e11) (by simpa using e12) h0 h1 h2 h3
theorem Q1g {oa:Option Addr} {n b o cap:Nat} (h:0 < n→oa=some ⟨b,o,none⟩) (W:World) (i:Int) (h0:0≤i) (h1:i < n) :
  (Instr.indexAt 23 (.slice oa n cap) (.int .i64 i)).run Try.prog W=.ok (.pointer (some ⟨b,o+i.toNat * 5,none⟩)) W:=by
 obtain rfl:=h (by omega)
 have hs:(Try.prog.info? 70).map (·.size)=some 5:=by kernel_rfl
 simp [Instr.indexAt,run_underlying Try.underlying23,asIntOf,h0,h1]
 exact Q3w b o _
theorem Rows.upd {w w':World} {oa:Option Addr} {b o n c:Nat} {f:Nat→Nat→Value} {p:Addr} {v:Value} (h:Rows w oa b o n c f) (hp:p.block≠b) (hx:Ext (w.setCell p v) w'):Rows w' oa b o n c f :=
 ⟨h.at_,fun i j hi hj=>Q3l hx (by rintro rfl;exact hp rfl) (h.cell i j hi hj)⟩
theorem Qpz {w:World} {oa:Option Addr} {b o n c:Nat} {f:Nat→Nat→Value} (h:Rows w oa b o n c f) (hn:0 < n) (hc:0 < c):b < w.heap.size:=by
 have:=Q09 (h.cell 0 0 hn hc)
 exact this
theorem Rows.away {w:World} {oa:Option Addr} {b o n c:Nat} {f:Nat→Nat→Value} (h:Rows w oa b o n c f) (hc:0 < c) (g:Nat) (hg:w.heap.size≤g):∃ b',b'≠g∧Rows w oa b' o n c f:=by
 by_cases hn:0 < n
 ·exact ⟨b,by have:=Qpz h hn hc;omega,h⟩
 ·refine ⟨g+1,by omega,⟨fun h0=>absurd h0 hn,fun i j hi hj=>by omega⟩⟩
theorem Qgl (n:Nat):decide (1≤n)=decide ((1:Int)≤(n:Int)):=by rw [Bool.eq_iff_iff];simp;omega
set_option maxHeartbeats 4000000 in
theorem Qh6 (p:Q00) (v:Value) (most R:Int) (hm:R64 most) (hRr:R64 R) (w:World) (hp:Q0b w v p) :
  Calls Try.prog 86 #[v,.int .i64 most,.int .i64 R] w fun e w'=>e=.returned (.bool (Q46 p most R))∧Ext w w':=by
 have hp':=hp
 obtain ⟨v1,v2,rfl,⟨hb,oa,cap,b,o,rfl,hc1,hc2,hrow⟩,⟨hf,ob,capb,b2,o2,rfl,hd1,hd2,hrow2⟩⟩:=hp
 have HP:=Lib.hid hp'
 have hm0:=hm.1
 have hm1:=hm.2
 have Hrow:=Lib.hid hrow
 have Hrow2:=Lib.hid hrow2
 have hlen:=Q1l hc1 hc2
 have hlen2:=Q1l hd1 hd2
 have hix:=Q1g (cap:=capb) hrow2.at_
 clear hrow hrow2 hc1 hc2 hd1 hd2 hp'
 go_enter Try.func86,Try.ntmps86
 go_upto_region 1 with fail
 obtain ⟨w0,g,hg,hW,hx,c0,c1⟩:=new2 w 25 (.slice oa p.regs.length cap) (.slice ob p.code.length capb)
 rw [hW,hg]
 have X0:=Lib.hid hx
 clear hW hx
 have hgs:w.heap.size≤g:=by omega
 clear hg
 obtain ⟨ok0,Hok0⟩:∃ b:Bool,Hid (b=(Q02 p.regs && decide ((1:Int)≤(p.code.length:Int)) && decide ((p.code.length:Int)≤most))):=⟨_,Lib.hid rfl⟩
 go_cut [7] (fun s7 wx => ∃ k:Nat,s7=.pointer (some ⟨k,0,none⟩)∧w0.heap.size≤k∧Ext w0 wx∧Blk wx k 157 #[.slice oa p.regs.length cap,.slice ob p.code.length capb,.int .i64 R,.bool ok0])
 case first =>
  have k0:∀ W,Ext w0 W→W.cell? ⟨g,0,none⟩=some (.slice oa p.regs.length cap):=fun _ h=>h.kept c0.1
  have k1:∀ W,Ext w0 W→W.cell? ⟨g,1,none⟩=some (.slice ob p.code.length capb):=fun _ h=>h.kept c1.1
  have HC:∀ W,Ext w0 W→Hid (Calls Try.prog 121 #[.agg #[.slice oa p.regs.length cap,.slice ob p.code.length capb]] W fun e w'=>e=.returned (.bool (Q02 p.regs))∧Ext W w'):=fun W h=>Lib.hid (Qfq p _ W (HP.out.ext (X0.out.trans h)))
  refine Q6y 19 18 (some 28) (by decide) rfl (by kernel_rfl) (by kernel_rfl) (fun k=>.pointer (some ⟨k,0,none⟩)) 157 #[.slice oa p.regs.length cap,.slice ob p.code.length capb,.int .i64 R,.bool ok0] ?_
  simp only [List.take_succ_cons,List.take_zero,List.drop_succ_cons,List.drop_zero]
  cases hr:Q02 p.regs
  ·have hk0:ok0=false:=by rw [Hok0.out,hr];rfl
   rw [hr] at HC
   clear hr Hok0
   subst hk0
   repeat (first | (refine Q0p ?_ ?_ (fun wc hE=>?_) ?_;(decide);rfl;(focus (go_simp;done));go_simp) | (refine Q0h ?_ ?_ ?_;(decide);(first | rfl | (focus (go_simp;done)));apply Exists.intro;refine ⟨fun wc hE=>?_,?_⟩;(go_simp;exact rfl);go_simp) | (refine Q0q ?_ ?_ ?_;(decide);(first | rfl | (focus (go_simp;done)));apply Exists.intro;refine ⟨fun wc hE=>?_,?_⟩;(go_simp;(first | (with_reducible exact Q1p ((HC _ ‹_›).out))));go_simp) | (refine Q0n ?_ ?_ ?_;(decide);(focus (go_simp;done));go_simp))
   refine Q0o ?_
   intro k wx hk hB hE
   go_wp2
   go_meet
   exact ⟨k,rfl,hk,hE,hB⟩
  ·rw [hr] at HC
   by_cases h1:(1:Int)≤(p.code.length:Int)
   ·by_cases h2:(p.code.length:Int)≤most
    ·have hk0:ok0=true:=by rw [Hok0.out,hr];simp [h1,h2]
     clear hr Hok0
     subst hk0
     repeat (first | (refine Q0p ?_ ?_ (fun wc hE=>?_) ?_;(decide);rfl;(focus (go_simp;done));go_simp) | (refine Q0h ?_ ?_ ?_;(decide);(first | rfl | (focus (go_simp;done)));apply Exists.intro;refine ⟨fun wc hE=>?_,?_⟩;(go_simp;exact rfl);go_simp) | (refine Q0q ?_ ?_ ?_;(decide);(first | rfl | (focus (go_simp;done)));apply Exists.intro;refine ⟨fun wc hE=>?_,?_⟩;(go_simp;(first | (with_reducible exact Q1p ((HC _ ‹_›).out))));go_simp) | (refine Q0n ?_ ?_ ?_;(decide);(focus (go_simp;done));go_simp))
     refine Q0o ?_
     intro k wx hk hB hE
     go_wp2
     go_meet
     exact ⟨k,rfl,hk,hE,hB⟩
    ·have hk0:ok0=false:=by rw [Hok0.out,hr];simp [h1,h2]
     have h2':decide ((p.code.length:Int)≤most)=false:=by simpa using h2
     clear hr Hok0 h2
     subst hk0
     repeat (first | (refine Q0p ?_ ?_ (fun wc hE=>?_) ?_;(decide);rfl;(focus (go_simp;done));go_simp) | (refine Q0h ?_ ?_ ?_;(decide);(first | rfl | (focus (go_simp;done)));apply Exists.intro;refine ⟨fun wc hE=>?_,?_⟩;(go_simp;exact rfl);go_simp) | (refine Q0q ?_ ?_ ?_;(decide);(first | rfl | (focus (go_simp;done)));apply Exists.intro;refine ⟨fun wc hE=>?_,?_⟩;(go_simp;(first | (with_reducible exact Q1p ((HC _ ‹_›).out))));go_simp) | (refine Q0n ?_ ?_ ?_;(decide);(focus (go_simp;done));go_simp))
     refine Q0o ?_
     intro k wx hk hB hE
     go_wp2
     go_meet
     exact ⟨k,rfl,hk,hE,hB⟩
   ·have hk0:ok0=false:=by rw [Hok0.out,hr];simp [h1]
    have h1':decide ((1:Int)≤(p.code.length:Int))=false:=by simpa using h1
    clear hr Hok0 h1
    subst hk0
    repeat (first | (refine Q0p ?_ ?_ (fun wc hE=>?_) ?_;(decide);rfl;(focus (go_simp;done));go_simp) | (refine Q0h ?_ ?_ ?_;(decide);(first | rfl | (focus (go_simp;done)));apply Exists.intro;refine ⟨fun wc hE=>?_,?_⟩;(go_simp;exact rfl);go_simp) | (refine Q0q ?_ ?_ ?_;(decide);(first | rfl | (focus (go_simp;done)));apply Exists.intro;refine ⟨fun wc hE=>?_,?_⟩;(go_simp;(first | (with_reducible exact Q1p ((HC _ ‹_›).out))));go_simp) | (refine Q0n ?_ ?_ ?_;(decide);(focus (go_simp;done));go_simp))
    refine Q0o ?_
    intro k wx hk hB hE
    go_wp2
    go_meet
    exact ⟨k,rfl,hk,hE,hB⟩
 case rest =>
 obtain ⟨k,rfl,hk,hE,hB⟩:=hcut
 have g0:wc.cell? ⟨k,0,none⟩=some (.slice oa p.regs.length cap):=by rw [hB.cell];rfl
 have g1:wc.cell? ⟨k,1,none⟩=some (.slice ob p.code.length capb):=by rw [hB.cell];rfl
 have g2:wc.cell? ⟨k,2,none⟩=some (.int .i64 R):=by rw [hB.cell];rfl
 have g3:wc.cell? ⟨k,3,none⟩=some (.bool ok0)∧wc.frozen? ⟨k,3,none⟩=false:=⟨by rw [hB.cell];rfl,hB.frozen 3⟩
 have c0:=Q0a hE c0
 have c1:=Q0a hE c1
 have XC:=Lib.hid (X0.out.trans hE)
 have hks:w.heap.size≤k:=Nat.le_trans X0.out.size hk
 obtain ⟨b',hb',hR'⟩:=Hrow.out.away (by omega) k hks
 have HR:=Lib.hid (hR'.ext XC.out)
 clear hB hE hk hR'
 go_wp2_with fail
 go_loopw [32] (fun i wr => ∃ j:Nat,j≤p.code.length∧i=.int .i64 j∧Ext (wc.setCell ⟨k,3,none⟩ (.bool (ok0 && (p.code.take j).all (Q01 p R)))) wr) (fun i _=>p.code.length - (intOf i).toNat)
 case atStart=>exact ⟨0,by omega,rfl,by simpa using Q7g g3.1 (Ext.refl _)⟩
 case round =>
  obtain ⟨j,hj,rfl,hr⟩:=hrel
  have r0:=Q3l hr (by simp) g0
  have r1:=Q3l hr (by simp) g1
  have r2:=Q3l hr (by simp) g2
  have r3:=Q8u hr g3
  have Hr:=Lib.hid hr
  have EW:=Lib.hid (Qjv hr XC.out hks)
  clear hr
  by_cases hlt:j < p.code.length
  ·obtain ⟨e0,e1,e2,e3,e4⟩:=(Hrow2.out.ext EW.out).ins j hlt
   have hfi:=hf _ (Q2b hlt)
   have Hs:=Lib.hid (Q9u (Q01 p R) p.code j default hlt ok0)
   have Hfalse:=Lib.hid (Qbf (Q01 p R) p.code j default hlt)
   generalize p.code.getD j default=i at *
   obtain ⟨okj,Hokj⟩:∃ b:Bool,Hid (b=(ok0 && (p.code.take j).all (Q01 p R))):=⟨_,Lib.hid rfl⟩
   rw [← Hokj.out] at r3 Hr Hs
   have hkl:k < wr.heap.size:=Q09 r3.1
   cases okj
   ·go_wp2
    go_ret
    refine ⟨Q04 ?_,EW.out.alloc _⟩
    have hz:=Hokj.out
    have ht:(ok0 && p.code.all (Q01 p R))=false:=by
     rw [← List.take_append_drop j p.code,List.all_append,← Bool.and_assoc,← hz];rfl
    unfold Q46
    rw [← ht,Hok0.out]
    rw [Qgl]
   ·have hreg:true=true→∀ r ∈ p.regs,0≤r.log∧r.log≤6:=fun _=>by
     have hz:=Hokj.out.symm
     rw [Hok0.out] at hz
     simp only [Bool.and_eq_true] at hz
     have h1:=hz.1.1.1
     simp only [Q02,Bool.and_eq_true,List.all_eq_true] at h1
     intro r hr
     have:=h1.1 r hr
     simpa [Q3a] using this
    have hA:=(Ext.refl wr).alloc (.cells #[.int .i64 i.op,.int .i64 i.a,.int .i64 i.b,.int .i64 i.c,.int .i64 i.n] 70)
    have C:=Qri k oa cap ob capb R true p i hfi (wr.alloc (.cells #[.int .i64 i.op,.int .i64 i.a,.int .i64 i.b,.int .i64 i.c,.int .i64 i.n] 70)) b' o (Ne.symm hb') ((HR.out.upd (Ne.symm hb') Hr.out).ext hA) hreg (hA.kept r0) (hA.kept r1) (hA.kept r2) (Q0a hA r3)
    have HC:=Lib.hid C
    clear C hA hreg
    go_wp2_with fail
    (with_reducible refine HC.out.mono ?_)
    rintro e' w2 ⟨rfl,hx⟩
    have hfin:=Lib.hid (Q2r Hr.out (Q43 ((Ext.refl wr).alloc _) hx))
    rw [← Hs.out] at hfin
    clear hx HC
    go_wp2
    go_roundw
    case rel=>exact ⟨j+1,by omega,by go_num,hfin.out⟩
    case measure=>first | (simp [intOf];done) | (simp [intOf];omega)
  ·have hje:j=p.code.length:=by omega
   subst hje
   rw [List.take_length] at r3
   go_wp2
   go_ret
   refine ⟨Q04 ?_,EW.out⟩
   unfold Q46
   rw [Hok0.out]
   rw [Qgl]
theorem Qpg (p:Q00) (v:Value) (w:World) (hp:Q0b w v p) :
  Calls Try.prog 50 #[v] w fun e w'=>e=.returned (.bool (Q36 p))∧Ext w w':=by
 have HP:=Lib.hid hp
 obtain ⟨v1,v2,rfl,-⟩:=hp
 go_enter Try.func50,Try.ntmps50
 go_wp2_with fail
 have hA:=(Ext.refl w).alloc (.cells #[v1,v2] 25)
 have C:=Qh6 p _ 200 8 (by unfold R64;omega) (by unfold R64;omega) _ (HP.out.ext hA)
 (with_reducible refine C.mono ?_)
 rintro e w1 ⟨rfl,hx⟩
 have HX:=Lib.hid (hA.trans hx)
 clear hx hA C
 go_wp2
 go_ret
 exact ⟨rfl,HX.out⟩
theorem Qry (p:Q00) (v:Value) (w:World) (hp:Q0b w v p) :
  Calls Try.prog 103 #[v] w fun e w'=>e=.returned (.bool (Q5e p))∧Ext w w':=by
 have HP:=Lib.hid hp
 obtain ⟨v1,v2,rfl,-⟩:=hp
 go_enter Try.func103,Try.ntmps103
 go_wp2_with fail
 have hA:=(Ext.refl w).alloc (.cells #[v1,v2] 25)
 have C:=Qh6 p _ 8000 10 (by unfold R64;omega) (by unfold R64;omega) _ (HP.out.ext hA)
 (with_reducible refine C.mono ?_)
 rintro e w1 ⟨rfl,hx⟩
 have HX:=Lib.hid (hA.trans hx)
 clear hx hA C
 go_wp2
 go_ret
 exact ⟨rfl,HX.out⟩
theorem Q7j (w:World):Calls Try.prog 129 #[.int .i64 1] w fun e w'=>e=.returned (.tuple #[.slice (some ⟨w.heap.size,0,none⟩) 3 3,.bool true,.bool true])∧w'=w.alloc (.cells #[.int .i64 1,.int .i64 0,.int .i64 0] 3):=by
 go_enter Try.func129,Try.ntmps129
 go_wp2
 go_ret3
 exact ⟨rfl,rfl⟩
theorem Qla (w:World):Calls Try.prog 129 #[.int .i64 2] w fun e w'=>e=.returned (.tuple #[.slice (some ⟨w.heap.size,0,none⟩) 3 3,.bool false,.bool true])∧w'=w.alloc (.cells #[.int .i64 1,.int .i64 1,.int .i64 0] 3):=by
 go_enter Try.func129,Try.ntmps129
 go_wp2
 go_ret3
 exact ⟨rfl,rfl⟩
theorem Ql9 (w:World):Calls Try.prog 129 #[.int .i64 3] w fun e w'=>e=.returned (.tuple #[.slice (some ⟨w.heap.size,0,none⟩) 3 3,.bool true,.bool true])∧w'=w.alloc (.cells #[.int .i64 1,.int .i64 1,.int .i64 2] 3):=by
 go_enter Try.func129,Try.ntmps129
 go_wp2
 go_ret3
 exact ⟨rfl,rfl⟩
theorem Ql8 (w:World):Calls Try.prog 129 #[.int .i64 4] w fun e w'=>e=.returned (.tuple #[.slice (some ⟨w.heap.size,0,none⟩) 3 3,.bool true,.bool true])∧w'=w.alloc (.cells #[.int .i64 1,.int .i64 1,.int .i64 2] 3):=by
 go_enter Try.func129,Try.ntmps129
 go_wp2
 go_ret3
 exact ⟨rfl,rfl⟩
theorem Ql7 (w:World):Calls Try.prog 129 #[.int .i64 5] w fun e w'=>e=.returned (.tuple #[.slice (some ⟨w.heap.size,0,none⟩) 3 3,.bool true,.bool true])∧w'=w.alloc (.cells #[.int .i64 1,.int .i64 0,.int .i64 2] 3):=by
 go_enter Try.func129,Try.ntmps129
 go_wp2
 go_ret3
 exact ⟨rfl,rfl⟩
theorem Ql6 (w:World):Calls Try.prog 129 #[.int .i64 6] w fun e w'=>e=.returned (.tuple #[.slice (some ⟨w.heap.size,0,none⟩) 3 3,.bool true,.bool true])∧w'=w.alloc (.cells #[.int .i64 1,.int .i64 0,.int .i64 2] 3):=by
 go_enter Try.func129,Try.ntmps129
 go_wp2
 go_ret3
 exact ⟨rfl,rfl⟩
theorem Ql5 (w:World):Calls Try.prog 129 #[.int .i64 7] w fun e w'=>e=.returned (.tuple #[.slice (some ⟨w.heap.size,0,none⟩) 3 3,.bool true,.bool true])∧w'=w.alloc (.cells #[.int .i64 0,.int .i64 0,.int .i64 0] 3):=by
 go_enter Try.func129,Try.ntmps129
 go_wp2
 go_ret3
 exact ⟨rfl,rfl⟩
theorem Ql4 (w:World):Calls Try.prog 129 #[.int .i64 8] w fun e w'=>e=.returned (.tuple #[.slice (some ⟨w.heap.size,0,none⟩) 3 3,.bool true,.bool true])∧w'=w.alloc (.cells #[.int .i64 1,.int .i64 1,.int .i64 2] 3):=by
 go_enter Try.func129,Try.ntmps129
 go_wp2
 go_ret3
 exact ⟨rfl,rfl⟩
theorem Ql3 (w:World):Calls Try.prog 129 #[.int .i64 9] w fun e w'=>e=.returned (.tuple #[.slice (some ⟨w.heap.size,0,none⟩) 3 3,.bool false,.bool true])∧w'=w.alloc (.cells #[.int .i64 1,.int .i64 0,.int .i64 0] 3):=by
 go_enter Try.func129,Try.ntmps129
 go_wp2
 go_ret3
 exact ⟨rfl,rfl⟩
theorem Qld (w:World):Calls Try.prog 129 #[.int .i64 10] w fun e w'=>e=.returned (.tuple #[.slice (some ⟨w.heap.size,0,none⟩) 3 3,.bool true,.bool true])∧w'=w.alloc (.cells #[.int .i64 1,.int .i64 1,.int .i64 0] 3):=by
 go_enter Try.func129,Try.ntmps129
 go_wp2
 go_ret3
 exact ⟨rfl,rfl⟩
theorem Qlc (w:World):Calls Try.prog 129 #[.int .i64 11] w fun e w'=>e=.returned (.tuple #[.slice (some ⟨w.heap.size,0,none⟩) 3 3,.bool true,.bool true])∧w'=w.alloc (.cells #[.int .i64 1,.int .i64 0,.int .i64 0] 3):=by
 go_enter Try.func129,Try.ntmps129
 go_wp2
 go_ret3
 exact ⟨rfl,rfl⟩
theorem Qlb (w:World):Calls Try.prog 129 #[.int .i64 12] w fun e w'=>e=.returned (.tuple #[.slice (some ⟨w.heap.size,0,none⟩) 3 3,.bool false,.bool true])∧w'=w.alloc (.cells #[.int .i64 0,.int .i64 0,.int .i64 0] 3):=by
 go_enter Try.func129,Try.ntmps129
 go_wp2
 go_ret3
 exact ⟨rfl,rfl⟩
theorem Ql1 (op:Int) (h0:20 < op) (h1:op≤30) (w:World):Calls Try.prog 129 #[.int .i64 op] w fun e w'=>e=.returned (.tuple #[.slice (some ⟨w.heap.size,0,none⟩) 3 3,.bool false,.bool true])∧w'=w.alloc (.cells #[.int .i64 1,.int .i64 1,.int .i64 1] 3):=by
 go_enter Try.func129,Try.ntmps129
 go_wp2
 go_ret3
 exact ⟨rfl,rfl⟩
theorem Ql2 (op:Int) (h:op≤20∨30 < op) (n1:(op == 1)=false) (n2:(op == 2)=false) (n3:(op == 3)=false) (n4:(op == 4)=false) (n5:(op == 5)=false) (n6:(op == 6)=false) (n7:(op == 7)=false) (n8:(op == 8)=false) (n9:(op == 9)=false) (n10:(op == 10)=false) (n11:(op == 11)=false) (n12:(op == 12)=false) (w:World):Calls Try.prog 129 #[.int .i64 op] w fun e w'=>e=.returned (.tuple #[.slice none 0 0,.bool false,.bool false])∧w=w':=by
 rcases h with h | h
 ·have hd:decide ((20:Int) < op)=false:=by simpa using h
  go_enter Try.func129,Try.ntmps129
  go_wp2
  go_ret3
  exact ⟨rfl,rfl⟩
 ·have h0:(20:Int) < op:=by omega
  have hd:decide (op≤(30:Int))=false:=by simpa using h
  go_enter Try.func129,Try.ntmps129
  go_wp2
  go_ret3
  exact ⟨rfl,rfl⟩
def tri (x y z:Int) (t:Nat):Int:=if t=0 then x else if t=1 then y else z
def fok (R l f:Int):Bool:=if l=0 then decide (f=0) else if l=1 then decide (0≤f) && decide (f < R) else true
theorem Q03 {R l f:Int}:fok R l f=true ↔ (l=0→f=0)∧(l=1→0≤f∧f < R):=by
 unfold fok
 by_cases h0:l=0
 ·simp [h0]
 by_cases h1:l=1
 ·simp [h1]
 simp [h0,h1]
set_option maxRecDepth 100000 in
set_option maxHeartbeats 4000000 in
theorem Q7n (p:Q00) (vp:Value) (R:Int) (a b c n:Int) (fa:R64 a) (fb:R64 b) (fc:R64 c) (fn:R64 n) (fR:R64 R) (w:World) (hp:Q0b w vp p) :
  Calls Try.prog 100 #[vp,.agg #[.int .i64 1,.int .i64 a,.int .i64 b,.int .i64 c,.int .i64 n],.int .i64 R] w fun e w'=>e=.returned (.bool (Q01 p R ⟨1,a,b,c,n⟩))∧Ext w w':=by
 have HP:=Lib.hid hp
 obtain ⟨v1,v2,rfl,⟨hb,oa,cap,b0,o,rfl,hc1,hc2,hrow⟩,⟨hf,ob,capb,b2,o2,rfl,hd1,hd2,hrow2⟩⟩:=hp
 have hlen:=Q1l hc1 hc2
 have hlen2:=Q1l hd1 hd2
 have Hrow:=Lib.hid hrow
 have hat:=hrow.at_
 have r0:=fR.1;have r1:=fR.2
 have a0:=fa.1;have a1:=fa.2;have b00:=fb.1;have b01:=fb.2;have c0':=fc.1;have c1':=fc.2;have n0':=fn.1;have n1':=fn.2
 clear hc1 hc2 hd1 hd2 hrow hrow2 hb hf
 have Hgoal:∀ r:Bool,Hid ((r=true ↔ Q01 p R ⟨1,a,b,c,n⟩=true)→Q01 p R ⟨1,a,b,c,n⟩=r):=fun r=>Lib.hid fun h=>by
  cases r <;> cases hh:Q01 p R ⟨1,a,b,c,n⟩ <;> simp_all
 have Hins:Hid (Q01 p R ⟨1,a,b,c,n⟩=true ↔ (fok R 1 a=true∧fok R 0 b=true∧fok R 0 c=true)∧True):=Lib.hid (by
  simp only [Q03]
  unfold Q01;simp [okIn]
  try omega)
 go_enter Try.func100,Try.ntmps100
 go_wp2_with fail
 obtain ⟨W,g,hg,hW,hx,bA,bB⟩:=Q0i w #[.slice oa p.regs.length cap,.slice ob p.code.length capb] #[.int .i64 1,.int .i64 a,.int .i64 b,.int .i64 c,.int .i64 n] 25 70
 rw [hW,hg]
 have X:=Lib.hid hx
 clear hW hg hx
 have C:=(Q7j W)
 (with_reducible refine C.mono ?_)
 clear C
 rintro e w1 ⟨rfl,hw1⟩
 have bS:Blk w1 W.heap.size 3 #[.int .i64 1,.int .i64 0,.int .i64 0]:=by rw [hw1];exact Blk.new W _ _
 have h1:Ext W w1:=by rw [hw1];exact (Ext.refl W).alloc _
 clear hw1
 generalize W.heap.size=ks at *
 have bA:=bA.ext h1
 have bB:=bB.ext h1
 have X:=Lib.hid (X.out.trans h1)
 clear h1
 have p0:w1.cell? ⟨g,0,none⟩=some (.slice oa p.regs.length cap):=by rw [bA.cell];rfl
 have p1:w1.cell? ⟨g,1,none⟩=some (.slice ob p.code.length capb):=by rw [bA.cell];rfl
 have e0:w1.cell? ⟨g+1,0,none⟩=some (.int .i64 1):=by rw [bB.cell];rfl
 have e1:w1.cell? ⟨g+1,1,none⟩=some (.int .i64 a):=by rw [bB.cell];rfl
 have e2:w1.cell? ⟨g+1,2,none⟩=some (.int .i64 b):=by rw [bB.cell];rfl
 have e3:w1.cell? ⟨g+1,3,none⟩=some (.int .i64 c):=by rw [bB.cell];rfl
 have e4:w1.cell? ⟨g+1,4,none⟩=some (.int .i64 n):=by rw [bB.cell];rfl
 go_wp2_with fail
 obtain ⟨w2,hw2⟩:∃ w2,w2=w1.alloc (.cells #[.int .i64 a,.int .i64 b,.int .i64 c] 3):=⟨_,rfl⟩
 have bF:Blk w2 w1.heap.size 3 #[.int .i64 a,.int .i64 b,.int .i64 c]:=by rw [hw2];exact Blk.new w1 _ _
 have h2:Ext w1 w2:=by rw [hw2];exact (Ext.refl w1).alloc _
 rw [← hw2]
 clear hw2
 generalize w1.heap.size=kf at *
 have bA:=bA.ext h2
 have bB:=bB.ext h2
 have bS:=bS.ext h2
 have X:=Lib.hid (X.out.trans h2)
 clear h2 p0 p1 e0 e1 e2 e3 e4
 go_loopw [11] (fun i wr => ∃ j:Nat,j≤3∧i=.int .i64 j∧Ext w2 wr∧∀ t,t < j→fok R (tri 1 0 0 t) (tri a b c t)=true) (fun i _=>3 - (intOf i).toNat)
 case atStart=>exact ⟨0,by omega,rfl,Ext.refl _,fun t ht=>by omega⟩
 case round =>
  obtain ⟨j,hj,rfl,hE,hok⟩:=hrel
  have bA:=bA.ext hE
  have bB:=bB.ext hE
  have bS:=bS.ext hE
  have bF:=bF.ext hE
  have X:=Lib.hid (X.out.trans hE)
  have HE:=Lib.hid hE
  have Hok:=Lib.hid hok
  clear hE hok
  by_cases hlt:j < 3
  ·have hjj:j=0∨j=1∨j=2:=by omega
   rcases hjj with rfl | rfl | rfl
   ·have s0:wr.cell? ⟨ks,0,none⟩=some (.int .i64 1):=by rw [bS.cell];rfl
    have f0:wr.cell? ⟨kf,0,none⟩=some (.int .i64 a):=by rw [bF.cell];rfl
    by_cases hz:0≤a
    ·by_cases hy:a < R
     ·go_wp2
      go_roundw
      case rel=>exact ⟨1,by omega,by first | rfl | go_num,HE.out,fun t ht=>by
       rcases (show t < 0∨t=0 by omega) with h | h
       ·exact Hok.out t h
       ·subst h;exact Q03.2 ⟨fun h=>absurd h (by decide),fun _=>⟨hz,hy⟩⟩⟩
      case measure=>simp [intOf]
     ·go_wp2
      go_ret
      refine ⟨Q04 ?_,X.out⟩
      cases hh:Q01 p R ⟨1,a,b,c,n⟩
      ·rfl
      ·exfalso
       have hq:=Hins.out.1 hh
       (simp [Q03] at hq) <;> omega
    ·go_wp2
     go_ret
     refine ⟨Q04 ?_,X.out⟩
     cases hh:Q01 p R ⟨1,a,b,c,n⟩
     ·rfl
     ·exfalso
      have hq:=Hins.out.1 hh
      (simp [Q03] at hq) <;> omega
   ·have s0:wr.cell? ⟨ks,1,none⟩=some (.int .i64 0):=by rw [bS.cell];rfl
    have f0:wr.cell? ⟨kf,1,none⟩=some (.int .i64 b):=by rw [bF.cell];rfl
    by_cases hz:b=0
    ·have hz1:(b != 0)=false:=by simpa using hz
     go_wp2
     go_roundw
     case rel=>exact ⟨2,by omega,by first | rfl | go_num,HE.out,fun t ht=>by
      rcases (show t < 1∨t=1 by omega) with h | h
      ·exact Hok.out t h
      ·subst h;exact Q03.2 ⟨fun _=>hz,fun h=>absurd h (by decide)⟩⟩
     case measure=>simp [intOf]
    ·have hz1:(b != 0)=true:=by simpa using hz
     go_wp2
     go_ret
     refine ⟨Q04 ?_,X.out⟩
     cases hh:Q01 p R ⟨1,a,b,c,n⟩
     ·rfl
     ·exfalso
      have hq:=Hins.out.1 hh
      (simp [Q03] at hq) <;> omega
   ·have s0:wr.cell? ⟨ks,2,none⟩=some (.int .i64 0):=by rw [bS.cell];rfl
    have f0:wr.cell? ⟨kf,2,none⟩=some (.int .i64 c):=by rw [bF.cell];rfl
    by_cases hz:c=0
    ·have hz1:(c != 0)=false:=by simpa using hz
     go_wp2
     go_roundw
     case rel=>exact ⟨3,by omega,by first | rfl | go_num,HE.out,fun t ht=>by
      rcases (show t < 2∨t=2 by omega) with h | h
      ·exact Hok.out t h
      ·subst h;exact Q03.2 ⟨fun _=>hz,fun h=>absurd h (by decide)⟩⟩
     case measure=>simp [intOf]
    ·have hz1:(c != 0)=true:=by simpa using hz
     go_wp2
     go_ret
     refine ⟨Q04 ?_,X.out⟩
     cases hh:Q01 p R ⟨1,a,b,c,n⟩
     ·rfl
     ·exfalso
      have hq:=Hins.out.1 hh
      (simp [Q03] at hq) <;> omega
  ·obtain rfl:j=3:=by omega
   have k0:=Hok.out 0 (by omega)
   have k1:=Hok.out 1 (by omega)
   have k2:=Hok.out 2 (by omega)
   have K:=Lib.hid (And.intro k0 (And.intro k1 k2))
   clear k0 k1 k2
   have p0:wr.cell? ⟨g,0,none⟩=some (.slice oa p.regs.length cap):=by rw [bA.cell];rfl
   have p1:wr.cell? ⟨g,1,none⟩=some (.slice ob p.code.length capb):=by rw [bA.cell];rfl
   have e0:wr.cell? ⟨g+1,0,none⟩=some (.int .i64 1):=by rw [bB.cell];rfl
   have e1:wr.cell? ⟨g+1,1,none⟩=some (.int .i64 a):=by rw [bB.cell];rfl
   have e2:wr.cell? ⟨g+1,2,none⟩=some (.int .i64 b):=by rw [bB.cell];rfl
   have e3:wr.cell? ⟨g+1,3,none⟩=some (.int .i64 c):=by rw [bB.cell];rfl
   have e4:wr.cell? ⟨g+1,4,none⟩=some (.int .i64 n):=by rw [bB.cell];rfl
   go_wp2
   go_ret
   exact ⟨Q04 (Hins.out.2 ⟨⟨K.out.1,K.out.2.1,K.out.2.2⟩,by first | trivial | omega⟩).symm,X.out⟩
set_option maxRecDepth 100000 in
set_option maxHeartbeats 4000000 in
theorem Qn5 (p:Q00) (vp:Value) (R:Int) (a b c n:Int) (fa:R64 a) (fb:R64 b) (fc:R64 c) (fn:R64 n) (fR:R64 R) (w:World) (hp:Q0b w vp p) :
  Calls Try.prog 100 #[vp,.agg #[.int .i64 2,.int .i64 a,.int .i64 b,.int .i64 c,.int .i64 n],.int .i64 R] w fun e w'=>e=.returned (.bool (Q01 p R ⟨2,a,b,c,n⟩))∧Ext w w':=by
 have HP:=Lib.hid hp
 obtain ⟨v1,v2,rfl,⟨hb,oa,cap,b0,o,rfl,hc1,hc2,hrow⟩,⟨hf,ob,capb,b2,o2,rfl,hd1,hd2,hrow2⟩⟩:=hp
 have hlen:=Q1l hc1 hc2
 have hlen2:=Q1l hd1 hd2
 have Hrow:=Lib.hid hrow
 have hat:=hrow.at_
 have r0:=fR.1;have r1:=fR.2
 have a0:=fa.1;have a1:=fa.2;have b00:=fb.1;have b01:=fb.2;have c0':=fc.1;have c1':=fc.2;have n0':=fn.1;have n1':=fn.2
 clear hc1 hc2 hd1 hd2 hrow hrow2 hb hf
 have Hgoal:∀ r:Bool,Hid ((r=true ↔ Q01 p R ⟨2,a,b,c,n⟩=true)→Q01 p R ⟨2,a,b,c,n⟩=r):=fun r=>Lib.hid fun h=>by
  cases r <;> cases hh:Q01 p R ⟨2,a,b,c,n⟩ <;> simp_all
 have Hins:Hid (Q01 p R ⟨2,a,b,c,n⟩=true ↔ (fok R 1 a=true∧fok R 1 b=true∧fok R 0 c=true∧n=0)∧True):=Lib.hid (by
  simp only [Q03]
  unfold Q01;simp [okIn]
  try omega)
 go_enter Try.func100,Try.ntmps100
 go_wp2_with fail
 obtain ⟨W,g,hg,hW,hx,bA,bB⟩:=Q0i w #[.slice oa p.regs.length cap,.slice ob p.code.length capb] #[.int .i64 2,.int .i64 a,.int .i64 b,.int .i64 c,.int .i64 n] 25 70
 rw [hW,hg]
 have X:=Lib.hid hx
 clear hW hg hx
 have C:=(Qla W)
 (with_reducible refine C.mono ?_)
 clear C
 rintro e w1 ⟨rfl,hw1⟩
 have bS:Blk w1 W.heap.size 3 #[.int .i64 1,.int .i64 1,.int .i64 0]:=by rw [hw1];exact Blk.new W _ _
 have h1:Ext W w1:=by rw [hw1];exact (Ext.refl W).alloc _
 clear hw1
 generalize W.heap.size=ks at *
 have bA:=bA.ext h1
 have bB:=bB.ext h1
 have X:=Lib.hid (X.out.trans h1)
 clear h1
 have p0:w1.cell? ⟨g,0,none⟩=some (.slice oa p.regs.length cap):=by rw [bA.cell];rfl
 have p1:w1.cell? ⟨g,1,none⟩=some (.slice ob p.code.length capb):=by rw [bA.cell];rfl
 have e0:w1.cell? ⟨g+1,0,none⟩=some (.int .i64 2):=by rw [bB.cell];rfl
 have e1:w1.cell? ⟨g+1,1,none⟩=some (.int .i64 a):=by rw [bB.cell];rfl
 have e2:w1.cell? ⟨g+1,2,none⟩=some (.int .i64 b):=by rw [bB.cell];rfl
 have e3:w1.cell? ⟨g+1,3,none⟩=some (.int .i64 c):=by rw [bB.cell];rfl
 have e4:w1.cell? ⟨g+1,4,none⟩=some (.int .i64 n):=by rw [bB.cell];rfl
 by_cases hn:n=0
 rotate_left
 ·have hn1:(n != 0)=true:=by simpa using hn
  go_wp2
  go_ret
  refine ⟨Q04 ?_,X.out⟩
  cases hh:Q01 p R ⟨2,a,b,c,n⟩
  ·rfl
  ·exfalso
   have hq:=Hins.out.1 hh
   (simp [Q03] at hq) <;> omega
 subst hn
 clear n0' n1'
 go_wp2_with fail
 obtain ⟨w2,hw2⟩:∃ w2,w2=w1.alloc (.cells #[.int .i64 a,.int .i64 b,.int .i64 c] 3):=⟨_,rfl⟩
 have bF:Blk w2 w1.heap.size 3 #[.int .i64 a,.int .i64 b,.int .i64 c]:=by rw [hw2];exact Blk.new w1 _ _
 have h2:Ext w1 w2:=by rw [hw2];exact (Ext.refl w1).alloc _
 rw [← hw2]
 clear hw2
 generalize w1.heap.size=kf at *
 have bA:=bA.ext h2
 have bB:=bB.ext h2
 have bS:=bS.ext h2
 have X:=Lib.hid (X.out.trans h2)
 clear h2 p0 p1 e0 e1 e2 e3 e4
 go_loopw [11] (fun i wr => ∃ j:Nat,j≤3∧i=.int .i64 j∧Ext w2 wr∧∀ t,t < j→fok R (tri 1 1 0 t) (tri a b c t)=true) (fun i _=>3 - (intOf i).toNat)
 case atStart=>exact ⟨0,by omega,rfl,Ext.refl _,fun t ht=>by omega⟩
 case round =>
  obtain ⟨j,hj,rfl,hE,hok⟩:=hrel
  have bA:=bA.ext hE
  have bB:=bB.ext hE
  have bS:=bS.ext hE
  have bF:=bF.ext hE
  have X:=Lib.hid (X.out.trans hE)
  have HE:=Lib.hid hE
  have Hok:=Lib.hid hok
  clear hE hok
  by_cases hlt:j < 3
  ·have hjj:j=0∨j=1∨j=2:=by omega
   rcases hjj with rfl | rfl | rfl
   ·have s0:wr.cell? ⟨ks,0,none⟩=some (.int .i64 1):=by rw [bS.cell];rfl
    have f0:wr.cell? ⟨kf,0,none⟩=some (.int .i64 a):=by rw [bF.cell];rfl
    by_cases hz:0≤a
    ·by_cases hy:a < R
     ·go_wp2
      go_roundw
      case rel=>exact ⟨1,by omega,by first | rfl | go_num,HE.out,fun t ht=>by
       rcases (show t < 0∨t=0 by omega) with h | h
       ·exact Hok.out t h
       ·subst h;exact Q03.2 ⟨fun h=>absurd h (by decide),fun _=>⟨hz,hy⟩⟩⟩
      case measure=>simp [intOf]
     ·go_wp2
      go_ret
      refine ⟨Q04 ?_,X.out⟩
      cases hh:Q01 p R ⟨2,a,b,c,0⟩
      ·rfl
      ·exfalso
       have hq:=Hins.out.1 hh
       (simp [Q03] at hq) <;> omega
    ·go_wp2
     go_ret
     refine ⟨Q04 ?_,X.out⟩
     cases hh:Q01 p R ⟨2,a,b,c,0⟩
     ·rfl
     ·exfalso
      have hq:=Hins.out.1 hh
      (simp [Q03] at hq) <;> omega
   ·have s0:wr.cell? ⟨ks,1,none⟩=some (.int .i64 1):=by rw [bS.cell];rfl
    have f0:wr.cell? ⟨kf,1,none⟩=some (.int .i64 b):=by rw [bF.cell];rfl
    by_cases hz:0≤b
    ·by_cases hy:b < R
     ·go_wp2
      go_roundw
      case rel=>exact ⟨2,by omega,by first | rfl | go_num,HE.out,fun t ht=>by
       rcases (show t < 1∨t=1 by omega) with h | h
       ·exact Hok.out t h
       ·subst h;exact Q03.2 ⟨fun h=>absurd h (by decide),fun _=>⟨hz,hy⟩⟩⟩
      case measure=>simp [intOf]
     ·go_wp2
      go_ret
      refine ⟨Q04 ?_,X.out⟩
      cases hh:Q01 p R ⟨2,a,b,c,0⟩
      ·rfl
      ·exfalso
       have hq:=Hins.out.1 hh
       (simp [Q03] at hq) <;> omega
    ·go_wp2
     go_ret
     refine ⟨Q04 ?_,X.out⟩
     cases hh:Q01 p R ⟨2,a,b,c,0⟩
     ·rfl
     ·exfalso
      have hq:=Hins.out.1 hh
      (simp [Q03] at hq) <;> omega
   ·have s0:wr.cell? ⟨ks,2,none⟩=some (.int .i64 0):=by rw [bS.cell];rfl
    have f0:wr.cell? ⟨kf,2,none⟩=some (.int .i64 c):=by rw [bF.cell];rfl
    by_cases hz:c=0
    ·have hz1:(c != 0)=false:=by simpa using hz
     go_wp2
     go_roundw
     case rel=>exact ⟨3,by omega,by first | rfl | go_num,HE.out,fun t ht=>by
      rcases (show t < 2∨t=2 by omega) with h | h
      ·exact Hok.out t h
      ·subst h;exact Q03.2 ⟨fun _=>hz,fun h=>absurd h (by decide)⟩⟩
     case measure=>simp [intOf]
    ·have hz1:(c != 0)=true:=by simpa using hz
     go_wp2
     go_ret
     refine ⟨Q04 ?_,X.out⟩
     cases hh:Q01 p R ⟨2,a,b,c,0⟩
     ·rfl
     ·exfalso
      have hq:=Hins.out.1 hh
      (simp [Q03] at hq) <;> omega
  ·obtain rfl:j=3:=by omega
   have k0:=Hok.out 0 (by omega)
   have k1:=Hok.out 1 (by omega)
   have k2:=Hok.out 2 (by omega)
   have K:=Lib.hid (And.intro k0 (And.intro k1 k2))
   clear k0 k1 k2
   have p0:wr.cell? ⟨g,0,none⟩=some (.slice oa p.regs.length cap):=by rw [bA.cell];rfl
   have p1:wr.cell? ⟨g,1,none⟩=some (.slice ob p.code.length capb):=by rw [bA.cell];rfl
   have e0:wr.cell? ⟨g+1,0,none⟩=some (.int .i64 2):=by rw [bB.cell];rfl
   have e1:wr.cell? ⟨g+1,1,none⟩=some (.int .i64 a):=by rw [bB.cell];rfl
   have e2:wr.cell? ⟨g+1,2,none⟩=some (.int .i64 b):=by rw [bB.cell];rfl
   have e3:wr.cell? ⟨g+1,3,none⟩=some (.int .i64 c):=by rw [bB.cell];rfl
   have e4:wr.cell? ⟨g+1,4,none⟩=some (.int .i64 0):=by rw [bB.cell];rfl
   go_wp2
   go_ret
   exact ⟨Q04 (Hins.out.2 ⟨⟨K.out.1,K.out.2.1,K.out.2.2,by trivial⟩,by first | trivial | omega⟩).symm,X.out⟩
set_option maxRecDepth 100000 in
set_option maxHeartbeats 4000000 in
theorem Qn4 (p:Q00) (vp:Value) (R:Int) (a b c n:Int) (fa:R64 a) (fb:R64 b) (fc:R64 c) (fn:R64 n) (fR:R64 R) (w:World) (hp:Q0b w vp p) :
  Calls Try.prog 100 #[vp,.agg #[.int .i64 3,.int .i64 a,.int .i64 b,.int .i64 c,.int .i64 n],.int .i64 R] w fun e w'=>e=.returned (.bool (Q01 p R ⟨3,a,b,c,n⟩))∧Ext w w':=by
 have HP:=Lib.hid hp
 obtain ⟨v1,v2,rfl,⟨hb,oa,cap,b0,o,rfl,hc1,hc2,hrow⟩,⟨hf,ob,capb,b2,o2,rfl,hd1,hd2,hrow2⟩⟩:=hp
 have hlen:=Q1l hc1 hc2
 have hlen2:=Q1l hd1 hd2
 have Hrow:=Lib.hid hrow
 have hat:=hrow.at_
 have r0:=fR.1;have r1:=fR.2
 have a0:=fa.1;have a1:=fa.2;have b00:=fb.1;have b01:=fb.2;have c0':=fc.1;have c1':=fc.2;have n0':=fn.1;have n1':=fn.2
 clear hc1 hc2 hd1 hd2 hrow hrow2 hb hf
 have Hgoal:∀ r:Bool,Hid ((r=true ↔ Q01 p R ⟨3,a,b,c,n⟩=true)→Q01 p R ⟨3,a,b,c,n⟩=r):=fun r=>Lib.hid fun h=>by
  cases r <;> cases hh:Q01 p R ⟨3,a,b,c,n⟩ <;> simp_all
 have Hins:Hid (Q01 p R ⟨3,a,b,c,n⟩=true ↔ (fok R 1 a=true∧fok R 1 b=true∧fok R 2 c=true)∧(0≤c∧c < (p.regs.length:Int))):=Lib.hid (by
  simp only [Q03]
  unfold Q01;simp [okIn]
  try omega)
 go_enter Try.func100,Try.ntmps100
 go_wp2_with fail
 obtain ⟨W,g,hg,hW,hx,bA,bB⟩:=Q0i w #[.slice oa p.regs.length cap,.slice ob p.code.length capb] #[.int .i64 3,.int .i64 a,.int .i64 b,.int .i64 c,.int .i64 n] 25 70
 rw [hW,hg]
 have X:=Lib.hid hx
 clear hW hg hx
 have C:=(Ql9 W)
 (with_reducible refine C.mono ?_)
 clear C
 rintro e w1 ⟨rfl,hw1⟩
 have bS:Blk w1 W.heap.size 3 #[.int .i64 1,.int .i64 1,.int .i64 2]:=by rw [hw1];exact Blk.new W _ _
 have h1:Ext W w1:=by rw [hw1];exact (Ext.refl W).alloc _
 clear hw1
 generalize W.heap.size=ks at *
 have bA:=bA.ext h1
 have bB:=bB.ext h1
 have X:=Lib.hid (X.out.trans h1)
 clear h1
 have p0:w1.cell? ⟨g,0,none⟩=some (.slice oa p.regs.length cap):=by rw [bA.cell];rfl
 have p1:w1.cell? ⟨g,1,none⟩=some (.slice ob p.code.length capb):=by rw [bA.cell];rfl
 have e0:w1.cell? ⟨g+1,0,none⟩=some (.int .i64 3):=by rw [bB.cell];rfl
 have e1:w1.cell? ⟨g+1,1,none⟩=some (.int .i64 a):=by rw [bB.cell];rfl
 have e2:w1.cell? ⟨g+1,2,none⟩=some (.int .i64 b):=by rw [bB.cell];rfl
 have e3:w1.cell? ⟨g+1,3,none⟩=some (.int .i64 c):=by rw [bB.cell];rfl
 have e4:w1.cell? ⟨g+1,4,none⟩=some (.int .i64 n):=by rw [bB.cell];rfl
 go_wp2_with fail
 obtain ⟨w2,hw2⟩:∃ w2,w2=w1.alloc (.cells #[.int .i64 a,.int .i64 b,.int .i64 c] 3):=⟨_,rfl⟩
 have bF:Blk w2 w1.heap.size 3 #[.int .i64 a,.int .i64 b,.int .i64 c]:=by rw [hw2];exact Blk.new w1 _ _
 have h2:Ext w1 w2:=by rw [hw2];exact (Ext.refl w1).alloc _
 rw [← hw2]
 clear hw2
 generalize w1.heap.size=kf at *
 have bA:=bA.ext h2
 have bB:=bB.ext h2
 have bS:=bS.ext h2
 have X:=Lib.hid (X.out.trans h2)
 clear h2 p0 p1 e0 e1 e2 e3 e4
 go_loopw [11] (fun i wr => ∃ j:Nat,j≤3∧i=.int .i64 j∧Ext w2 wr∧∀ t,t < j→fok R (tri 1 1 2 t) (tri a b c t)=true) (fun i _=>3 - (intOf i).toNat)
 case atStart=>exact ⟨0,by omega,rfl,Ext.refl _,fun t ht=>by omega⟩
 case round =>
  obtain ⟨j,hj,rfl,hE,hok⟩:=hrel
  have bA:=bA.ext hE
  have bB:=bB.ext hE
  have bS:=bS.ext hE
  have bF:=bF.ext hE
  have X:=Lib.hid (X.out.trans hE)
  have HE:=Lib.hid hE
  have Hok:=Lib.hid hok
  clear hE hok
  by_cases hlt:j < 3
  ·have hjj:j=0∨j=1∨j=2:=by omega
   rcases hjj with rfl | rfl | rfl
   ·have s0:wr.cell? ⟨ks,0,none⟩=some (.int .i64 1):=by rw [bS.cell];rfl
    have f0:wr.cell? ⟨kf,0,none⟩=some (.int .i64 a):=by rw [bF.cell];rfl
    by_cases hz:0≤a
    ·by_cases hy:a < R
     ·go_wp2
      go_roundw
      case rel=>exact ⟨1,by omega,by first | rfl | go_num,HE.out,fun t ht=>by
       rcases (show t < 0∨t=0 by omega) with h | h
       ·exact Hok.out t h
       ·subst h;exact Q03.2 ⟨fun h=>absurd h (by decide),fun _=>⟨hz,hy⟩⟩⟩
      case measure=>simp [intOf]
     ·go_wp2
      go_ret
      refine ⟨Q04 ?_,X.out⟩
      cases hh:Q01 p R ⟨3,a,b,c,n⟩
      ·rfl
      ·exfalso
       have hq:=Hins.out.1 hh
       (simp [Q03] at hq) <;> omega
    ·go_wp2
     go_ret
     refine ⟨Q04 ?_,X.out⟩
     cases hh:Q01 p R ⟨3,a,b,c,n⟩
     ·rfl
     ·exfalso
      have hq:=Hins.out.1 hh
      (simp [Q03] at hq) <;> omega
   ·have s0:wr.cell? ⟨ks,1,none⟩=some (.int .i64 1):=by rw [bS.cell];rfl
    have f0:wr.cell? ⟨kf,1,none⟩=some (.int .i64 b):=by rw [bF.cell];rfl
    by_cases hz:0≤b
    ·by_cases hy:b < R
     ·go_wp2
      go_roundw
      case rel=>exact ⟨2,by omega,by first | rfl | go_num,HE.out,fun t ht=>by
       rcases (show t < 1∨t=1 by omega) with h | h
       ·exact Hok.out t h
       ·subst h;exact Q03.2 ⟨fun h=>absurd h (by decide),fun _=>⟨hz,hy⟩⟩⟩
      case measure=>simp [intOf]
     ·go_wp2
      go_ret
      refine ⟨Q04 ?_,X.out⟩
      cases hh:Q01 p R ⟨3,a,b,c,n⟩
      ·rfl
      ·exfalso
       have hq:=Hins.out.1 hh
       (simp [Q03] at hq) <;> omega
    ·go_wp2
     go_ret
     refine ⟨Q04 ?_,X.out⟩
     cases hh:Q01 p R ⟨3,a,b,c,n⟩
     ·rfl
     ·exfalso
      have hq:=Hins.out.1 hh
      (simp [Q03] at hq) <;> omega
   ·have s0:wr.cell? ⟨ks,2,none⟩=some (.int .i64 2):=by rw [bS.cell];rfl
    have f0:wr.cell? ⟨kf,2,none⟩=some (.int .i64 c):=by rw [bF.cell];rfl
    go_wp2
    go_roundw
    case rel=>exact ⟨3,by omega,by first | rfl | go_num,HE.out,fun t ht=>by
     rcases (show t < 2∨t=2 by omega) with h | h
     ·exact Hok.out t h
     ·subst h;exact Q03.2 ⟨fun h=>absurd h (by decide),fun h=>absurd h (by decide)⟩⟩
    case measure=>simp [intOf]
  ·obtain rfl:j=3:=by omega
   have k0:=Hok.out 0 (by omega)
   have k1:=Hok.out 1 (by omega)
   have k2:=Hok.out 2 (by omega)
   have K:=Lib.hid (And.intro k0 (And.intro k1 k2))
   clear k0 k1 k2
   have p0:wr.cell? ⟨g,0,none⟩=some (.slice oa p.regs.length cap):=by rw [bA.cell];rfl
   have p1:wr.cell? ⟨g,1,none⟩=some (.slice ob p.code.length capb):=by rw [bA.cell];rfl
   have e0:wr.cell? ⟨g+1,0,none⟩=some (.int .i64 3):=by rw [bB.cell];rfl
   have e1:wr.cell? ⟨g+1,1,none⟩=some (.int .i64 a):=by rw [bB.cell];rfl
   have e2:wr.cell? ⟨g+1,2,none⟩=some (.int .i64 b):=by rw [bB.cell];rfl
   have e3:wr.cell? ⟨g+1,3,none⟩=some (.int .i64 c):=by rw [bB.cell];rfl
   have e4:wr.cell? ⟨g+1,4,none⟩=some (.int .i64 n):=by rw [bB.cell];rfl
   by_cases q0:0≤c
   ·by_cases q1:c < (p.regs.length:Int)
    ·go_wp2
     go_ret
     exact ⟨Q04 (Hins.out.2 ⟨⟨K.out.1,K.out.2.1,K.out.2.2⟩,by first | trivial | omega⟩).symm,X.out⟩
    ·have q1d:decide (c < (p.regs.length:Int))=false:=by simpa using q1
     go_wp2
     go_ret
     refine ⟨Q04 ?_,X.out⟩
     cases hh:Q01 p R ⟨3,a,b,c,n⟩
     ·rfl
     ·exfalso
      have hq:=Hins.out.1 hh
      (simp [Q03] at hq) <;> omega
   ·have q0d:decide (0≤c)=false:=by simpa using q0
    go_wp2
    go_ret
    refine ⟨Q04 ?_,X.out⟩
    cases hh:Q01 p R ⟨3,a,b,c,n⟩
    ·rfl
    ·exfalso
     have hq:=Hins.out.1 hh
     (simp [Q03] at hq) <;> omega
end Go.Proofs.Yteiknefajlocoaa
