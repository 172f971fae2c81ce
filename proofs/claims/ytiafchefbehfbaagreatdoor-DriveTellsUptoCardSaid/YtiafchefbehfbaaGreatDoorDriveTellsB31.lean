/- Laid together from: Ck2, Ck4. -/
import Derived.Test.YtiafchefbehfbaaGreatDoorDriveTellsB28
import Derived.Test.YtiafchefbehfbaaGreatDoorDriveTellsB26
import Derived.Test.YtiafchefbehfbaaGreatDoorDriveTellsB25

namespace Go.Proofs.YtiafchefbehfbaaGreatDoor
open Go.ChangeShapes Go.WideShapes Go.ChangeAt Go.RowKit
set_option linter.unusedVariables false
set_option linter.unusedSimpArgs false
set_option maxHeartbeats 2000000 in
theorem Q5q (k:LKn) (n:Int) (w:World) :
  Calls Tryz.prog 65 #[knV k,.int .i64 n] w fun e w'=>e=.returned (knV (ksum k n))∧Ext w w':=by
 obtain ⟨b,sc⟩:=k
 unfold knV
 simp only
 by_cases hn:n < 0
 ·have Hs:Hid (ksum ⟨b,sc⟩ n=⟨17,sc⟩):=zh (by simp [ksum,hn])
  go_enter Tryz.func65,Tryz.ntmps65
  go_wp2_with fail
  rw [Hs.out]
  have hb:=(Blk.new (w.alloc (.cells #[.int .i64 b,.bool sc] 92)) 92 #[.int .i64 17,.bool sc])
  rw [World.size_alloc] at hb
  exact bodyPost_ret (Q4f hb rfl _ rfl Tryz.underlying92 rfl Q9j) rfl ⟨rfl,((Ext.refl _).alloc _).alloc _⟩
 ·have Hs:Hid (ksum ⟨b,sc⟩ n=⟨kop 1 (nrm b) (nrm (kof n)),sc⟩):=zh (by simp [ksum,hn,kopK,kofK])
  go_enter Tryz.func65,Tryz.ntmps65
  go_upto_region 3 with fail
  obtain ⟨W,g,hg,hW,hx,bA,bB⟩:=Q14 w #[.int .i64 b,.bool sc] #[.int .i64 0,.bool false] 92 92
  rw [hW,hg]
  have X:=zh hx
  have hgw:w.heap.size≤g+1:=by omega
  have k0:∀ Wx,Ext W Wx→Wx.cell? ⟨g,0,none⟩=some (.int .i64 b):=fun _ h=>h.kept (by rw [bA.cell];rfl)
  have k1:∀ Wx,Ext W Wx→Wx.cell? ⟨g,1,none⟩=some (.bool sc):=fun _ h=>h.kept (by rw [bA.cell];rfl)
  clear hW hg hx bA
  refine Q0j 4 (by kernel_rfl) (by kernel_rfl) ?_
  simp only [List.take_succ_cons,List.take_zero,List.drop_succ_cons,List.drop_zero]
  repeat (first | (refine Q0d ?_ ?_ ?_;(decide);(first | rfl | (focus (go_simp;done)));apply Exists.intro;refine ⟨fun wc hE=>?_,?_⟩;(go_simp;exact rfl);go_simp) | (refine Q2g ?_ ?_ ?_;(decide);(first | rfl | (focus (go_simp;done)));apply Exists.intro;refine ⟨fun wc hE=>?_,?_⟩;(go_simp;(first | (with_reducible exact Q26 (Qec n _)) | (with_reducible exact Q26 (Qji 1 b (kof n) sc false _))));go_simp) | (refine Q0e ?_ ?_ ?_;(decide);(focus (go_simp;done));go_simp))
  refine Q0f ?_
  intro wx hx
  have bB:=bB.ext hx
  have X:=zh (X.out.trans hx)
  have c0:wx.cell? ⟨g+1,0,none⟩=some (.int .i64 0)∧wx.frozen? ⟨g+1,0,none⟩=false:=⟨by rw [bB.cell];rfl,bB.frozen _⟩
  have c1:wx.cell? ⟨g+1,1,none⟩=some (.bool false)∧wx.frozen? ⟨g+1,1,none⟩=false:=⟨by rw [bB.cell];rfl,bB.frozen _⟩
  clear hx k0 k1
  go_wp2
  rw [Hs.out]
  have hb:=(bB.set_ 0 (.int .i64 (kop 1 (nrm b) (nrm (kof n))))).set_ 1 (.bool sc)
  first
   | exact bodyPost_ret (Q4f hb rfl _ rfl Tryz.underlying92 rfl Q9j) rfl ⟨rfl,(X.out.setCell hgw _).setCell hgw _⟩
theorem Q13 (W:World) (g:Nat) (i:Int) (h0:0≤i) (h1:i < 8) :
  (Instr.indexAt 94 (.pointer (some ⟨g,0,none⟩)) (.int .i64 i)).run Tryz.prog W=.ok (.pointer (some ⟨g,i.toNat * 2,none⟩)) W:=by
 have hs:(Tryz.prog.info? 92).map (·.size)=some 2:=by kernel_rfl
 simp [Instr.indexAt,run_underlying Tryz.underlying94,asIntOf,Instr.sureAddr,h0,h1]
 have:=Q4d g 0 (i.toNat * 2)
 simpa using this
theorem Qen (W:World) (k n cap:Nat) (i:Int) (h0:0≤i) (h1:i < n) :
  (Instr.indexAt 87 (.slice (some ⟨k,0,none⟩) n cap) (.int .i64 i)).run Tryz.prog W=.ok (.pointer (some ⟨k,i.toNat,none⟩)) W:=by
 have hs:(Tryz.prog.info? 95).map (·.size)=some 1:=by kernel_rfl
 simp [Instr.indexAt,run_underlying Tryz.underlying87,asIntOf,h0,h1]
 have:=Q4d k 0 i.toNat
 simpa using this
theorem st0:(#[.int .i64 0,.bool false,.int .i64 0,.bool false,.int .i64 0,.bool false,.int .i64 0,.bool false,.int .i64 0,.bool false,.int .i64 0,.bool false,.int .i64 0,.bool false,.int .i64 0,.bool false]:Array Value)=stV Q49:=by rfl
theorem Q8y (W:World) (A B:Array Value) (T:TypeId):Ext W ((W.alloc (.cells A T)).alloc (.cells B T)).drew∧Blk ((W.alloc (.cells A T)).alloc (.cells B T)).drew W.heap.size T A∧Blk ((W.alloc (.cells A T)).alloc (.cells B T)).drew (W.heap.size+1) T B:=by
 refine ⟨(((Ext.refl W).alloc _).alloc _).drew,((Blk.new W T A).alloc _).drew,?_⟩
 have h:=Blk.new (W.alloc (.cells A T)) T B
 rw [World.size_alloc] at h
 exact h.drew
theorem Q4o (s:KSt) (r:Int) (k:LKn):(kset s r k).length=s.length:=by simp [kset]
set_option maxRecDepth 100000 in
set_option maxHeartbeats 8000000 in
theorem Qcg (s:KSt) (hl:s.length=8) (i:LIns) (ha:okIn 8 i.a=true) (hb:okIn 8 i.b=true) (hc:1≤i.c∧i.c≤4) (holds:Bool) (w:World) :
  Calls Tryz.prog 63 #[.agg (stV s),insV i,.bool holds] w fun e w'=>e=.returned (.agg (stV (Q1k s i holds)))∧Ext w w':=by
 obtain ⟨op,a,b,c,n⟩:=i
 simp only at ha hb hc
 obtain ⟨a0,a1⟩:=Q0l.1 ha
 obtain ⟨b0,b1⟩:=Q0l.1 hb
 unfold insV
 simp only
 have hst:=Q13
 go_enter Tryz.func63,Tryz.ntmps63
 go_upto_region 1 with fail
 obtain ⟨W,e,he,hW,hx,bS,bI,bR⟩:=Qkz w (stV s) #[.int .i64 op,.int .i64 a,.int .i64 b,.int .i64 c,.int .i64 n] #[.int .i64 0,.bool false,.int .i64 0,.bool false,.int .i64 0,.bool false,.int .i64 0,.bool false,.int .i64 0,.bool false,.int .i64 0,.bool false,.int .i64 0,.bool false,.int .i64 0,.bool false] 94 41 94
 rw [hW,he]
 have X:=zh hx
 have Hbk:Hid (∀ h,holds=h→Q1k s ⟨op,a,b,c,n⟩ holds=Q1k s ⟨op,a,b,c,n⟩ h):=zh fun h e=>by rw [e]
 have i1:W.cell? ⟨e+1,1,none⟩=some (.int .i64 a):=by rw [bI.cell];rfl
 have i2:W.cell? ⟨e+1,2,none⟩=some (.int .i64 b):=by rw [bI.cell];rfl
 have hew:w.heap.size≤e:=by omega
 have Hew:=zh hew
 have Ha:=zh ha
 have Hb:=zh hb
 obtain ⟨⟨x0,-⟩,⟨x1,-⟩⟩:=Q1i bS hl ha
 obtain ⟨⟨y0,-⟩,⟨y1,-⟩⟩:=Q1i bS hl hb
 have BS:=zh bS
 have BI:=zh bI
 have BR:=zh bR
 have hrl:=bR.lt
 have hel0:=bS.lt
 have hel1:=bI.lt
 have hE0:=(Ext.refl W).alloc (.cells #[.int .i64 0,.bool false] 92)
 have hE1:=hE0.alloc (.cells #[.int .i64 0,.bool false] 92)
 have j1:=hE0.kept i1
 have j2:=hE0.kept i2
 have l1:=hE1.kept i1
 have l2:=hE1.kept i2
 have X0:=hE0.kept x0
 have X1:=hE0.kept x1
 have Y0:=hE0.kept y0
 have Y1:=hE0.kept y1
 have X0':=hE1.kept x0
 have X1':=hE1.kept x1
 have Y0':=hE1.kept y0
 have Y1':=hE1.kept y1
 clear hE0 hE1
 clear hW hx bS bI bR he
 generalize hka:kg s a=ka at *
 generalize hkb:kg s b=kb at *
 go_cut [7,8] (fun s7 s8 wx => ∃ p q:Nat,s7=.pointer (some ⟨p,0,none⟩)∧s8=.pointer (some ⟨q,0,none⟩)∧Ext W wx∧Blk wx p 92 #[.int .i64 ka.bits,.bool ka.sec]∧Blk wx q 92 #[.int .i64 kb.bits,.bool kb.sec])
 case first =>
  go_region
  all_goals
   go_wp2
   go_meet
   first
    | exact ⟨_,_,rfl,rfl,(Q8y W _ _ _).1,(Q8y W _ _ _).2.1,(Q8y W _ _ _).2.2⟩
    | exact ⟨_,_,rfl,rfl,(Q8y W _ _ _).1,(Q8y W _ _ _).2.2,(Q8y W _ _ _).2.1⟩
 case rest =>
  obtain ⟨p,q,rfl,rfl,hE,bP,bQ⟩:=hcut
  have X:=zh (X.out.trans hE)
  have bS:=BS.out.ext hE
  have bI:=BI.out.ext hE
  have bR:=BR.out.ext hE
  have hpe:W.heap.size≤p→True:=fun _=>trivial
  clear x0 x1 y0 y1 X0 X1 Y0 Y1 X0' X1' Y0' Y1' j1 j2 l1 l2 i1 i2 hE BS BI BR hel0 hel1 hrl hpe
  have hne1:p≠e:=Blk.ne_ bP bS (by decide)
  have hne2:q≠e:=Blk.ne_ bQ bS (by decide)
  have hne3:e+1≠e:=by omega
  have i1:wc.cell? ⟨e+1,1,none⟩=some (.int .i64 a):=by rw [bI.cell];rfl
  have i2:wc.cell? ⟨e+1,2,none⟩=some (.int .i64 b):=by rw [bI.cell];rfl
  have i3:wc.cell? ⟨e+1,3,none⟩=some (.int .i64 c):=by rw [bI.cell];rfl
  have hrl:=bR.lt
  rcases (show c=1∨c=2∨c=3∨c=4 by omega) with rfl | rfl | rfl | rfl <;> cases holds
  ·go_wp2_with (first | ((with_reducible refine Q3c bS ?_ Tryz.underlying94 ?_ ?_ ?_);rfl;rfl;(rw [Q0v hl];exact infoState')) | ((with_reducible refine Q61 bR (stV s) ?_ ?_ ?_ ?_ ?_ ?_);rfl;rfl;(rw [Q0v hl];rfl);(rw [Q0v hl];exact infoState');exact Q7a _))
   have hbr:Q1k s ⟨op,a,b,1,n⟩ false=s:=by
    unfold Q1k Q60 Q6j
    simp [hka,hkb]
    skip
   have hb:=bR.stored (stV s) (by rw [Q0v hl];rfl)
   rw [hbr]
   exact bodyPost_ret (Q4f hb rfl _ rfl Tryz.underlying94 rfl (by rw [Q0v hl];exact infoState')) rfl ⟨rfl,X.out.setCells _ (by have:=Hew.out;omega) 0⟩
  ·go_upto_region 6 with fail
   try clear hwwA
   have k1:∀ Wx,Ext wc Wx→Wx.cell? ⟨e+1,1,none⟩=some (.int .i64 a):=fun _ h=>h.kept i1
   have kp0:∀ Wx,Ext wc Wx→Wx.cell? ⟨p,0,none⟩=some (.int .i64 ka.bits):=fun _ h=>h.kept (by rw [bP.cell];rfl)
   have kp1:∀ Wx,Ext wc Wx→Wx.cell? ⟨p,1,none⟩=some (.bool ka.sec):=fun _ h=>h.kept (by rw [bP.cell];rfl)
   have kq0:∀ Wx,Ext wc Wx→Wx.cell? ⟨q,0,none⟩=some (.int .i64 kb.bits):=fun _ h=>h.kept (by rw [bQ.cell];rfl)
   have kq1:∀ Wx,Ext wc Wx→Wx.cell? ⟨q,1,none⟩=some (.bool kb.sec):=fun _ h=>h.kept (by rw [bQ.cell];rfl)
   have HS:=zh bS
   have HP:=zh bP
   have HQ:=zh bQ
   have HI:=zh bI
   have HR:=zh bR
   clear bS bP bQ bI bR i1 i2 i3
   refine Q0j 5 (by kernel_rfl) (by kernel_rfl) ?_
   simp only [List.take_succ_cons,List.take_zero,List.drop_succ_cons,List.drop_zero]
   repeat (first | (refine Q0d ?_ ?_ ?_;(decide);(first | rfl | (focus (go_simp;done)));apply Exists.intro;refine ⟨fun wc hE=>?_,?_⟩;(go_simp;exact rfl);go_simp) | (refine Q2g ?_ ?_ ?_;(decide);(first | rfl | (focus (go_simp;done)));apply Exists.intro;refine ⟨fun wc hE=>?_,?_⟩;(go_simp;(first | (with_reducible exact Q26 (Q6z ka.bits kb.bits ka.sec kb.sec _))));go_simp) | (refine Q0e ?_ ?_ ?_;(decide);(focus (go_simp;done));go_simp))
   refine Q0f ?_
   intro wy hx
   have X:=zh (X.out.trans hx)
   have bS:=HS.out.ext hx
   have bP:=HP.out.ext hx
   have bQ:=HQ.out.ext hx
   have bI:=HI.out.ext hx
   have bR:=HR.out.ext hx
   obtain ⟨rr0,rr1⟩:=Q1i bS hl Ha.out
   have hel:=bS.lt
   have hw2:∃ w2,(wy.setCell ⟨e,a.toNat * 2,none⟩ (.int .i64 (min (nrm ka.bits) (nrm kb.bits)))).setCell ⟨e,a.toNat * 2+1,none⟩ (.bool ka.sec)=w2∧Blk w2 e 94 (stV (kset s a (Q0w ka kb)))∧Blk w2 p 92 #[.int .i64 ka.bits,.bool ka.sec]∧Blk w2 q 92 #[.int .i64 kb.bits,.bool kb.sec]∧Blk w2 (e+1) 41 #[.int .i64 op,.int .i64 a,.int .i64 b,.int .i64 1,.int .i64 n]∧Blk w2 (e+1+1) 94 #[.int .i64 0,.bool false,.int .i64 0,.bool false,.int .i64 0,.bool false,.int .i64 0,.bool false,.int .i64 0,.bool false,.int .i64 0,.bool false,.int .i64 0,.bool false,.int .i64 0,.bool false]∧Ext w w2:=by
    have hb:=Q3m bS hl Ha.out (Q0w ka kb)
    exact ⟨_,rfl,hb,(bP.far (p:=⟨e,_,none⟩) hne1 _).far (p:=⟨e,_,none⟩) hne1 _,(bQ.far (p:=⟨e,_,none⟩) hne2 _).far (p:=⟨e,_,none⟩) hne2 _,(bI.far (p:=⟨e,_,none⟩) hne3 _).far (p:=⟨e,_,none⟩) hne3 _,(bR.far (p:=⟨e,_,none⟩) (by simp only;omega) _).far (p:=⟨e,_,none⟩) (by simp only;omega) _,(X.out.setCell (p:=⟨e,_,none⟩) Hew.out _).setCell (p:=⟨e,_,none⟩) Hew.out _⟩
   obtain ⟨w2,hw2,hB⟩:=hw2
   have HB:=zh hB
   clear hB hx k1 kp0 kp1 kq0 kq1 bS bP bQ bI bR
   obtain ⟨bS,bP,bQ,bI,bR,X⟩:=HB.out
   have X:=zh X
   have i1:w2.cell? ⟨e+1,1,none⟩=some (.int .i64 a):=by rw [bI.cell];rfl
   have i2:w2.cell? ⟨e+1,2,none⟩=some (.int .i64 b):=by rw [bI.cell];rfl
   have i3:w2.cell? ⟨e+1,3,none⟩=some (.int .i64 1):=by rw [bI.cell];rfl
   have hel0:=bS.lt
   have hel1:=bR.lt
   have hl:(kset s a (Q0w ka kb)).length=8:=by rw [Q4o];exact hl
   generalize hsA:kset s a (Q0w ka kb)=sA at *
   clear HB HS HP HQ HI HR
   have hwwA:=hw2
   clear hw2
   go_upto_region 8 with fail
   try clear hwwA
   have k1:∀ Wx,Ext w2 Wx→Wx.cell? ⟨e+1,2,none⟩=some (.int .i64 b):=fun _ h=>h.kept i2
   have kp0:∀ Wx,Ext w2 Wx→Wx.cell? ⟨p,0,none⟩=some (.int .i64 ka.bits):=fun _ h=>h.kept (by rw [bP.cell];rfl)
   have kp1:∀ Wx,Ext w2 Wx→Wx.cell? ⟨p,1,none⟩=some (.bool ka.sec):=fun _ h=>h.kept (by rw [bP.cell];rfl)
   have kq0:∀ Wx,Ext w2 Wx→Wx.cell? ⟨q,0,none⟩=some (.int .i64 kb.bits):=fun _ h=>h.kept (by rw [bQ.cell];rfl)
   have kq1:∀ Wx,Ext w2 Wx→Wx.cell? ⟨q,1,none⟩=some (.bool kb.sec):=fun _ h=>h.kept (by rw [bQ.cell];rfl)
   have HS:=zh bS
   have HP:=zh bP
   have HQ:=zh bQ
   have HI:=zh bI
   have HR:=zh bR
   clear bS bP bQ bI bR i1 i2 i3
   refine Q0j 5 (by kernel_rfl) (by kernel_rfl) ?_
   simp only [List.take_succ_cons,List.take_zero,List.drop_succ_cons,List.drop_zero]
   repeat (first | (refine Q5x ?_ ?_ (fun w2 hE=>?_) ?_;(decide);rfl;(focus (go_simp;done));go_simp) | (refine Q0d ?_ ?_ ?_;(decide);(first | rfl | (focus (go_simp;done)));apply Exists.intro;refine ⟨fun w2 hE=>?_,?_⟩;(go_simp;exact rfl);go_simp) | (refine Q2g ?_ ?_ ?_;(decide);(first | rfl | (focus (go_simp;done)));apply Exists.intro;refine ⟨fun w2 hE=>?_,?_⟩;(go_simp;(first | (with_reducible exact Q26 (Q6z kb.bits ka.bits kb.sec ka.sec _))));go_simp) | (refine Q0e ?_ ?_ ?_;(decide);(focus (go_simp;done));go_simp))
   refine Q0f ?_
   intro wz hx
   have X:=zh (X.out.trans hx)
   have bS:=HS.out.ext hx
   have bP:=HP.out.ext hx
   have bQ:=HQ.out.ext hx
   have bI:=HI.out.ext hx
   have bR:=HR.out.ext hx
   obtain ⟨rr0,rr1⟩:=Q1i bS hl Hb.out
   have hel:=bS.lt
   have hw2:∃ w3,(wz.setCell ⟨e,b.toNat * 2,none⟩ (.int .i64 (min (nrm kb.bits) (nrm ka.bits)))).setCell ⟨e,b.toNat * 2+1,none⟩ (.bool kb.sec)=w3∧Blk w3 e 94 (stV (kset sA b (Q0w kb ka)))∧Blk w3 p 92 #[.int .i64 ka.bits,.bool ka.sec]∧Blk w3 q 92 #[.int .i64 kb.bits,.bool kb.sec]∧Blk w3 (e+1) 41 #[.int .i64 op,.int .i64 a,.int .i64 b,.int .i64 1,.int .i64 n]∧Blk w3 (e+1+1) 94 #[.int .i64 0,.bool false,.int .i64 0,.bool false,.int .i64 0,.bool false,.int .i64 0,.bool false,.int .i64 0,.bool false,.int .i64 0,.bool false,.int .i64 0,.bool false,.int .i64 0,.bool false]∧Ext w w3:=by
    have hb:=Q3m bS hl Hb.out (Q0w kb ka)
    exact ⟨_,rfl,hb,(bP.far (p:=⟨e,_,none⟩) hne1 _).far (p:=⟨e,_,none⟩) hne1 _,(bQ.far (p:=⟨e,_,none⟩) hne2 _).far (p:=⟨e,_,none⟩) hne2 _,(bI.far (p:=⟨e,_,none⟩) hne3 _).far (p:=⟨e,_,none⟩) hne3 _,(bR.far (p:=⟨e,_,none⟩) (by simp only;omega) _).far (p:=⟨e,_,none⟩) (by simp only;omega) _,(X.out.setCell (p:=⟨e,_,none⟩) Hew.out _).setCell (p:=⟨e,_,none⟩) Hew.out _⟩
   obtain ⟨w3,hw2,hB⟩:=hw2
   have HB:=zh hB
   clear hB hx k1 kp0 kp1 kq0 kq1 bS bP bQ bI bR
   obtain ⟨bS,bP,bQ,bI,bR,X⟩:=HB.out
   have X:=zh X
   have i1:w3.cell? ⟨e+1,1,none⟩=some (.int .i64 a):=by rw [bI.cell];rfl
   have i2:w3.cell? ⟨e+1,2,none⟩=some (.int .i64 b):=by rw [bI.cell];rfl
   have i3:w3.cell? ⟨e+1,3,none⟩=some (.int .i64 1):=by rw [bI.cell];rfl
   have hel0:=bS.lt
   have hel1:=bR.lt
   have hl:(kset sA b (Q0w kb ka)).length=8:=by rw [Q4o];exact hl
   generalize hsB:kset sA b (Q0w kb ka)=sB at *
   clear HB HS HP HQ HI HR
   have hwwB:=hw2
   clear hw2
   go_wp2_with (first | ((with_reducible refine Q3c bS ?_ Tryz.underlying94 ?_ ?_ ?_);rfl;rfl;(rw [Q0v hl];exact infoState')) | ((with_reducible refine Q61 bR (stV sB) ?_ ?_ ?_ ?_ ?_ ?_);rfl;rfl;(rw [Q0v hl];rfl);(rw [Q0v hl];exact infoState');exact Q7a _))
   have hbr:Q1k s ⟨op,a,b,1,n⟩ true=sB:=by
    unfold Q1k Q60 Q6j
    simp [hka,hkb]
    rw [hsA];exact hsB
   have hb:=bR.stored (stV sB) (by rw [Q0v hl];rfl)
   rw [hbr]
   exact bodyPost_ret (Q4f hb rfl _ rfl Tryz.underlying94 rfl (by rw [Q0v hl];exact infoState')) rfl ⟨rfl,X.out.setCells _ (by have:=Hew.out;omega) 0⟩
  ·go_upto_region 6 with fail
   try clear hwwA
   have k1:∀ Wx,Ext wc Wx→Wx.cell? ⟨e+1,1,none⟩=some (.int .i64 a):=fun _ h=>h.kept i1
   have kp0:∀ Wx,Ext wc Wx→Wx.cell? ⟨p,0,none⟩=some (.int .i64 ka.bits):=fun _ h=>h.kept (by rw [bP.cell];rfl)
   have kp1:∀ Wx,Ext wc Wx→Wx.cell? ⟨p,1,none⟩=some (.bool ka.sec):=fun _ h=>h.kept (by rw [bP.cell];rfl)
   have kq0:∀ Wx,Ext wc Wx→Wx.cell? ⟨q,0,none⟩=some (.int .i64 kb.bits):=fun _ h=>h.kept (by rw [bQ.cell];rfl)
   have kq1:∀ Wx,Ext wc Wx→Wx.cell? ⟨q,1,none⟩=some (.bool kb.sec):=fun _ h=>h.kept (by rw [bQ.cell];rfl)
   have HS:=zh bS
   have HP:=zh bP
   have HQ:=zh bQ
   have HI:=zh bI
   have HR:=zh bR
   clear bS bP bQ bI bR i1 i2 i3
   refine Q0j 5 (by kernel_rfl) (by kernel_rfl) ?_
   simp only [List.take_succ_cons,List.take_zero,List.drop_succ_cons,List.drop_zero]
   repeat (first | (refine Q0d ?_ ?_ ?_;(decide);(first | rfl | (focus (go_simp;done)));apply Exists.intro;refine ⟨fun wc hE=>?_,?_⟩;(go_simp;exact rfl);go_simp) | (refine Q2g ?_ ?_ ?_;(decide);(first | rfl | (focus (go_simp;done)));apply Exists.intro;refine ⟨fun wc hE=>?_,?_⟩;(go_simp;(first | (with_reducible exact Q26 (Q6z ka.bits kb.bits ka.sec kb.sec _))));go_simp) | (refine Q0e ?_ ?_ ?_;(decide);(focus (go_simp;done));go_simp))
   refine Q0f ?_
   intro wy hx
   have X:=zh (X.out.trans hx)
   have bS:=HS.out.ext hx
   have bP:=HP.out.ext hx
   have bQ:=HQ.out.ext hx
   have bI:=HI.out.ext hx
   have bR:=HR.out.ext hx
   obtain ⟨rr0,rr1⟩:=Q1i bS hl Ha.out
   have hel:=bS.lt
   have hw2:∃ w2,(wy.setCell ⟨e,a.toNat * 2,none⟩ (.int .i64 (min (nrm ka.bits) (nrm kb.bits)))).setCell ⟨e,a.toNat * 2+1,none⟩ (.bool ka.sec)=w2∧Blk w2 e 94 (stV (kset s a (Q0w ka kb)))∧Blk w2 p 92 #[.int .i64 ka.bits,.bool ka.sec]∧Blk w2 q 92 #[.int .i64 kb.bits,.bool kb.sec]∧Blk w2 (e+1) 41 #[.int .i64 op,.int .i64 a,.int .i64 b,.int .i64 2,.int .i64 n]∧Blk w2 (e+1+1) 94 #[.int .i64 0,.bool false,.int .i64 0,.bool false,.int .i64 0,.bool false,.int .i64 0,.bool false,.int .i64 0,.bool false,.int .i64 0,.bool false,.int .i64 0,.bool false,.int .i64 0,.bool false]∧Ext w w2:=by
    have hb:=Q3m bS hl Ha.out (Q0w ka kb)
    exact ⟨_,rfl,hb,(bP.far (p:=⟨e,_,none⟩) hne1 _).far (p:=⟨e,_,none⟩) hne1 _,(bQ.far (p:=⟨e,_,none⟩) hne2 _).far (p:=⟨e,_,none⟩) hne2 _,(bI.far (p:=⟨e,_,none⟩) hne3 _).far (p:=⟨e,_,none⟩) hne3 _,(bR.far (p:=⟨e,_,none⟩) (by simp only;omega) _).far (p:=⟨e,_,none⟩) (by simp only;omega) _,(X.out.setCell (p:=⟨e,_,none⟩) Hew.out _).setCell (p:=⟨e,_,none⟩) Hew.out _⟩
   obtain ⟨w2,hw2,hB⟩:=hw2
   have HB:=zh hB
   clear hB hx k1 kp0 kp1 kq0 kq1 bS bP bQ bI bR
   obtain ⟨bS,bP,bQ,bI,bR,X⟩:=HB.out
   have X:=zh X
   have i1:w2.cell? ⟨e+1,1,none⟩=some (.int .i64 a):=by rw [bI.cell];rfl
   have i2:w2.cell? ⟨e+1,2,none⟩=some (.int .i64 b):=by rw [bI.cell];rfl
   have i3:w2.cell? ⟨e+1,3,none⟩=some (.int .i64 2):=by rw [bI.cell];rfl
   have hel0:=bS.lt
   have hel1:=bR.lt
   have hl:(kset s a (Q0w ka kb)).length=8:=by rw [Q4o];exact hl
   generalize hsA:kset s a (Q0w ka kb)=sA at *
   clear HB HS HP HQ HI HR
   have hwwA:=hw2
   clear hw2
   go_upto_region 8 with fail
   try clear hwwA
   have k1:∀ Wx,Ext w2 Wx→Wx.cell? ⟨e+1,2,none⟩=some (.int .i64 b):=fun _ h=>h.kept i2
   have kp0:∀ Wx,Ext w2 Wx→Wx.cell? ⟨p,0,none⟩=some (.int .i64 ka.bits):=fun _ h=>h.kept (by rw [bP.cell];rfl)
   have kp1:∀ Wx,Ext w2 Wx→Wx.cell? ⟨p,1,none⟩=some (.bool ka.sec):=fun _ h=>h.kept (by rw [bP.cell];rfl)
   have kq0:∀ Wx,Ext w2 Wx→Wx.cell? ⟨q,0,none⟩=some (.int .i64 kb.bits):=fun _ h=>h.kept (by rw [bQ.cell];rfl)
   have kq1:∀ Wx,Ext w2 Wx→Wx.cell? ⟨q,1,none⟩=some (.bool kb.sec):=fun _ h=>h.kept (by rw [bQ.cell];rfl)
   have HS:=zh bS
   have HP:=zh bP
   have HQ:=zh bQ
   have HI:=zh bI
   have HR:=zh bR
   clear bS bP bQ bI bR i1 i2 i3
   refine Q0j 5 (by kernel_rfl) (by kernel_rfl) ?_
   simp only [List.take_succ_cons,List.take_zero,List.drop_succ_cons,List.drop_zero]
   repeat (first | (refine Q5x ?_ ?_ (fun w2 hE=>?_) ?_;(decide);rfl;(focus (go_simp;done));go_simp) | (refine Q0d ?_ ?_ ?_;(decide);(first | rfl | (focus (go_simp;done)));apply Exists.intro;refine ⟨fun w2 hE=>?_,?_⟩;(go_simp;exact rfl);go_simp) | (refine Q2g ?_ ?_ ?_;(decide);(first | rfl | (focus (go_simp;done)));apply Exists.intro;refine ⟨fun w2 hE=>?_,?_⟩;(go_simp;(first | (with_reducible exact Q26 (Q6z kb.bits ka.bits kb.sec ka.sec _))));go_simp) | (refine Q0e ?_ ?_ ?_;(decide);(focus (go_simp;done));go_simp))
   refine Q0f ?_
   intro wz hx
   have X:=zh (X.out.trans hx)
   have bS:=HS.out.ext hx
   have bP:=HP.out.ext hx
   have bQ:=HQ.out.ext hx
   have bI:=HI.out.ext hx
   have bR:=HR.out.ext hx
   obtain ⟨rr0,rr1⟩:=Q1i bS hl Hb.out
   have hel:=bS.lt
   have hw2:∃ w3,(wz.setCell ⟨e,b.toNat * 2,none⟩ (.int .i64 (min (nrm kb.bits) (nrm ka.bits)))).setCell ⟨e,b.toNat * 2+1,none⟩ (.bool kb.sec)=w3∧Blk w3 e 94 (stV (kset sA b (Q0w kb ka)))∧Blk w3 p 92 #[.int .i64 ka.bits,.bool ka.sec]∧Blk w3 q 92 #[.int .i64 kb.bits,.bool kb.sec]∧Blk w3 (e+1) 41 #[.int .i64 op,.int .i64 a,.int .i64 b,.int .i64 2,.int .i64 n]∧Blk w3 (e+1+1) 94 #[.int .i64 0,.bool false,.int .i64 0,.bool false,.int .i64 0,.bool false,.int .i64 0,.bool false,.int .i64 0,.bool false,.int .i64 0,.bool false,.int .i64 0,.bool false,.int .i64 0,.bool false]∧Ext w w3:=by
    have hb:=Q3m bS hl Hb.out (Q0w kb ka)
    exact ⟨_,rfl,hb,(bP.far (p:=⟨e,_,none⟩) hne1 _).far (p:=⟨e,_,none⟩) hne1 _,(bQ.far (p:=⟨e,_,none⟩) hne2 _).far (p:=⟨e,_,none⟩) hne2 _,(bI.far (p:=⟨e,_,none⟩) hne3 _).far (p:=⟨e,_,none⟩) hne3 _,(bR.far (p:=⟨e,_,none⟩) (by simp only;omega) _).far (p:=⟨e,_,none⟩) (by simp only;omega) _,(X.out.setCell (p:=⟨e,_,none⟩) Hew.out _).setCell (p:=⟨e,_,none⟩) Hew.out _⟩
   obtain ⟨w3,hw2,hB⟩:=hw2
   have HB:=zh hB
   clear hB hx k1 kp0 kp1 kq0 kq1 bS bP bQ bI bR
   obtain ⟨bS,bP,bQ,bI,bR,X⟩:=HB.out
   have X:=zh X
   have i1:w3.cell? ⟨e+1,1,none⟩=some (.int .i64 a):=by rw [bI.cell];rfl
   have i2:w3.cell? ⟨e+1,2,none⟩=some (.int .i64 b):=by rw [bI.cell];rfl
   have i3:w3.cell? ⟨e+1,3,none⟩=some (.int .i64 2):=by rw [bI.cell];rfl
   have hel0:=bS.lt
   have hel1:=bR.lt
   have hl:(kset sA b (Q0w kb ka)).length=8:=by rw [Q4o];exact hl
   generalize hsB:kset sA b (Q0w kb ka)=sB at *
   clear HB HS HP HQ HI HR
   have hwwB:=hw2
   clear hw2
   go_wp2_with (first | ((with_reducible refine Q3c bS ?_ Tryz.underlying94 ?_ ?_ ?_);rfl;rfl;(rw [Q0v hl];exact infoState')) | ((with_reducible refine Q61 bR (stV sB) ?_ ?_ ?_ ?_ ?_ ?_);rfl;rfl;(rw [Q0v hl];rfl);(rw [Q0v hl];exact infoState');exact Q7a _))
   have hbr:Q1k s ⟨op,a,b,2,n⟩ false=sB:=by
    unfold Q1k Q60 Q6j
    simp [hka,hkb]
    rw [hsA];exact hsB
   have hb:=bR.stored (stV sB) (by rw [Q0v hl];rfl)
   rw [hbr]
   exact bodyPost_ret (Q4f hb rfl _ rfl Tryz.underlying94 rfl (by rw [Q0v hl];exact infoState')) rfl ⟨rfl,X.out.setCells _ (by have:=Hew.out;omega) 0⟩
  ·go_wp2_with (first | ((with_reducible refine Q3c bS ?_ Tryz.underlying94 ?_ ?_ ?_);rfl;rfl;(rw [Q0v hl];exact infoState')) | ((with_reducible refine Q61 bR (stV s) ?_ ?_ ?_ ?_ ?_ ?_);rfl;rfl;(rw [Q0v hl];rfl);(rw [Q0v hl];exact infoState');exact Q7a _))
   have hbr:Q1k s ⟨op,a,b,2,n⟩ true=s:=by
    unfold Q1k Q60 Q6j
    simp [hka,hkb]
    skip
   have hb:=bR.stored (stV s) (by rw [Q0v hl];rfl)
   rw [hbr]
   exact bodyPost_ret (Q4f hb rfl _ rfl Tryz.underlying94 rfl (by rw [Q0v hl];exact infoState')) rfl ⟨rfl,X.out.setCells _ (by have:=Hew.out;omega) 0⟩
  ·go_upto_region 8 with fail
   try clear hwwA
   have k1:∀ Wx,Ext wc Wx→Wx.cell? ⟨e+1,2,none⟩=some (.int .i64 b):=fun _ h=>h.kept i2
   have kp0:∀ Wx,Ext wc Wx→Wx.cell? ⟨p,0,none⟩=some (.int .i64 ka.bits):=fun _ h=>h.kept (by rw [bP.cell];rfl)
   have kp1:∀ Wx,Ext wc Wx→Wx.cell? ⟨p,1,none⟩=some (.bool ka.sec):=fun _ h=>h.kept (by rw [bP.cell];rfl)
   have kq0:∀ Wx,Ext wc Wx→Wx.cell? ⟨q,0,none⟩=some (.int .i64 kb.bits):=fun _ h=>h.kept (by rw [bQ.cell];rfl)
   have kq1:∀ Wx,Ext wc Wx→Wx.cell? ⟨q,1,none⟩=some (.bool kb.sec):=fun _ h=>h.kept (by rw [bQ.cell];rfl)
   have HS:=zh bS
   have HP:=zh bP
   have HQ:=zh bQ
   have HI:=zh bI
   have HR:=zh bR
   clear bS bP bQ bI bR i1 i2 i3
   refine Q0j 5 (by kernel_rfl) (by kernel_rfl) ?_
   simp only [List.take_succ_cons,List.take_zero,List.drop_succ_cons,List.drop_zero]
   repeat (first | (refine Q0d ?_ ?_ ?_;(decide);(first | rfl | (focus (go_simp;done)));apply Exists.intro;refine ⟨fun wc hE=>?_,?_⟩;(go_simp;exact rfl);go_simp) | (refine Q2g ?_ ?_ ?_;(decide);(first | rfl | (focus (go_simp;done)));apply Exists.intro;refine ⟨fun wc hE=>?_,?_⟩;(go_simp;(first | (with_reducible exact Q26 (Q6z kb.bits ka.bits kb.sec ka.sec _))));go_simp) | (refine Q0e ?_ ?_ ?_;(decide);(focus (go_simp;done));go_simp))
   refine Q0f ?_
   intro wy hx
   have X:=zh (X.out.trans hx)
   have bS:=HS.out.ext hx
   have bP:=HP.out.ext hx
   have bQ:=HQ.out.ext hx
   have bI:=HI.out.ext hx
   have bR:=HR.out.ext hx
   obtain ⟨rr0,rr1⟩:=Q1i bS hl Hb.out
   have hel:=bS.lt
   have hw2:∃ w2,(wy.setCell ⟨e,b.toNat * 2,none⟩ (.int .i64 (min (nrm kb.bits) (nrm ka.bits)))).setCell ⟨e,b.toNat * 2+1,none⟩ (.bool kb.sec)=w2∧Blk w2 e 94 (stV (kset s b (Q0w kb ka)))∧Blk w2 p 92 #[.int .i64 ka.bits,.bool ka.sec]∧Blk w2 q 92 #[.int .i64 kb.bits,.bool kb.sec]∧Blk w2 (e+1) 41 #[.int .i64 op,.int .i64 a,.int .i64 b,.int .i64 3,.int .i64 n]∧Blk w2 (e+1+1) 94 #[.int .i64 0,.bool false,.int .i64 0,.bool false,.int .i64 0,.bool false,.int .i64 0,.bool false,.int .i64 0,.bool false,.int .i64 0,.bool false,.int .i64 0,.bool false,.int .i64 0,.bool false]∧Ext w w2:=by
    have hb:=Q3m bS hl Hb.out (Q0w kb ka)
    exact ⟨_,rfl,hb,(bP.far (p:=⟨e,_,none⟩) hne1 _).far (p:=⟨e,_,none⟩) hne1 _,(bQ.far (p:=⟨e,_,none⟩) hne2 _).far (p:=⟨e,_,none⟩) hne2 _,(bI.far (p:=⟨e,_,none⟩) hne3 _).far (p:=⟨e,_,none⟩) hne3 _,(bR.far (p:=⟨e,_,none⟩) (by simp only;omega) _).far (p:=⟨e,_,none⟩) (by simp only;omega) _,(X.out.setCell (p:=⟨e,_,none⟩) Hew.out _).setCell (p:=⟨e,_,none⟩) Hew.out _⟩
   obtain ⟨w2,hw2,hB⟩:=hw2
   have HB:=zh hB
   clear hB hx k1 kp0 kp1 kq0 kq1 bS bP bQ bI bR
   obtain ⟨bS,bP,bQ,bI,bR,X⟩:=HB.out
   have X:=zh X
   have i1:w2.cell? ⟨e+1,1,none⟩=some (.int .i64 a):=by rw [bI.cell];rfl
   have i2:w2.cell? ⟨e+1,2,none⟩=some (.int .i64 b):=by rw [bI.cell];rfl
   have i3:w2.cell? ⟨e+1,3,none⟩=some (.int .i64 3):=by rw [bI.cell];rfl
   have hel0:=bS.lt
   have hel1:=bR.lt
   have hl:(kset s b (Q0w kb ka)).length=8:=by rw [Q4o];exact hl
   generalize hsB:kset s b (Q0w kb ka)=sB at *
   clear HB HS HP HQ HI HR
   have hwwB:=hw2
   clear hw2
   go_wp2_with (first | ((with_reducible refine Q3c bS ?_ Tryz.underlying94 ?_ ?_ ?_);rfl;rfl;(rw [Q0v hl];exact infoState')) | ((with_reducible refine Q61 bR (stV sB) ?_ ?_ ?_ ?_ ?_ ?_);rfl;rfl;(rw [Q0v hl];rfl);(rw [Q0v hl];exact infoState');exact Q7a _))
   have hbr:Q1k s ⟨op,a,b,3,n⟩ false=sB:=by
    unfold Q1k Q60 Q6j
    simp [hka,hkb]
    exact hsB
   have hb:=bR.stored (stV sB) (by rw [Q0v hl];rfl)
   rw [hbr]
   exact bodyPost_ret (Q4f hb rfl _ rfl Tryz.underlying94 rfl (by rw [Q0v hl];exact infoState')) rfl ⟨rfl,X.out.setCells _ (by have:=Hew.out;omega) 0⟩
  ·go_upto_region 6 with fail
   try clear hwwA
   have k1:∀ Wx,Ext wc Wx→Wx.cell? ⟨e+1,1,none⟩=some (.int .i64 a):=fun _ h=>h.kept i1
   have kp0:∀ Wx,Ext wc Wx→Wx.cell? ⟨p,0,none⟩=some (.int .i64 ka.bits):=fun _ h=>h.kept (by rw [bP.cell];rfl)
   have kp1:∀ Wx,Ext wc Wx→Wx.cell? ⟨p,1,none⟩=some (.bool ka.sec):=fun _ h=>h.kept (by rw [bP.cell];rfl)
   have kq0:∀ Wx,Ext wc Wx→Wx.cell? ⟨q,0,none⟩=some (.int .i64 kb.bits):=fun _ h=>h.kept (by rw [bQ.cell];rfl)
   have kq1:∀ Wx,Ext wc Wx→Wx.cell? ⟨q,1,none⟩=some (.bool kb.sec):=fun _ h=>h.kept (by rw [bQ.cell];rfl)
   have HS:=zh bS
   have HP:=zh bP
   have HQ:=zh bQ
   have HI:=zh bI
   have HR:=zh bR
   clear bS bP bQ bI bR i1 i2 i3
   refine Q0j 5 (by kernel_rfl) (by kernel_rfl) ?_
   simp only [List.take_succ_cons,List.take_zero,List.drop_succ_cons,List.drop_zero]
   repeat (first | (refine Q0d ?_ ?_ ?_;(decide);(first | rfl | (focus (go_simp;done)));apply Exists.intro;refine ⟨fun wc hE=>?_,?_⟩;(go_simp;exact rfl);go_simp) | (refine Q2g ?_ ?_ ?_;(decide);(first | rfl | (focus (go_simp;done)));apply Exists.intro;refine ⟨fun wc hE=>?_,?_⟩;(go_simp;(first | (with_reducible exact Q26 (Q6z ka.bits kb.bits ka.sec kb.sec _))));go_simp) | (refine Q0e ?_ ?_ ?_;(decide);(focus (go_simp;done));go_simp))
   refine Q0f ?_
   intro wy hx
   have X:=zh (X.out.trans hx)
   have bS:=HS.out.ext hx
   have bP:=HP.out.ext hx
   have bQ:=HQ.out.ext hx
   have bI:=HI.out.ext hx
   have bR:=HR.out.ext hx
   obtain ⟨rr0,rr1⟩:=Q1i bS hl Ha.out
   have hel:=bS.lt
   have hw2:∃ w2,(wy.setCell ⟨e,a.toNat * 2,none⟩ (.int .i64 (min (nrm ka.bits) (nrm kb.bits)))).setCell ⟨e,a.toNat * 2+1,none⟩ (.bool ka.sec)=w2∧Blk w2 e 94 (stV (kset s a (Q0w ka kb)))∧Blk w2 p 92 #[.int .i64 ka.bits,.bool ka.sec]∧Blk w2 q 92 #[.int .i64 kb.bits,.bool kb.sec]∧Blk w2 (e+1) 41 #[.int .i64 op,.int .i64 a,.int .i64 b,.int .i64 3,.int .i64 n]∧Blk w2 (e+1+1) 94 #[.int .i64 0,.bool false,.int .i64 0,.bool false,.int .i64 0,.bool false,.int .i64 0,.bool false,.int .i64 0,.bool false,.int .i64 0,.bool false,.int .i64 0,.bool false,.int .i64 0,.bool false]∧Ext w w2:=by
    have hb:=Q3m bS hl Ha.out (Q0w ka kb)
    exact ⟨_,rfl,hb,(bP.far (p:=⟨e,_,none⟩) hne1 _).far (p:=⟨e,_,none⟩) hne1 _,(bQ.far (p:=⟨e,_,none⟩) hne2 _).far (p:=⟨e,_,none⟩) hne2 _,(bI.far (p:=⟨e,_,none⟩) hne3 _).far (p:=⟨e,_,none⟩) hne3 _,(bR.far (p:=⟨e,_,none⟩) (by simp only;omega) _).far (p:=⟨e,_,none⟩) (by simp only;omega) _,(X.out.setCell (p:=⟨e,_,none⟩) Hew.out _).setCell (p:=⟨e,_,none⟩) Hew.out _⟩
   obtain ⟨w2,hw2,hB⟩:=hw2
   have HB:=zh hB
   clear hB hx k1 kp0 kp1 kq0 kq1 bS bP bQ bI bR
   obtain ⟨bS,bP,bQ,bI,bR,X⟩:=HB.out
   have X:=zh X
   have i1:w2.cell? ⟨e+1,1,none⟩=some (.int .i64 a):=by rw [bI.cell];rfl
   have i2:w2.cell? ⟨e+1,2,none⟩=some (.int .i64 b):=by rw [bI.cell];rfl
   have i3:w2.cell? ⟨e+1,3,none⟩=some (.int .i64 3):=by rw [bI.cell];rfl
   have hel0:=bS.lt
   have hel1:=bR.lt
   have hl:(kset s a (Q0w ka kb)).length=8:=by rw [Q4o];exact hl
   generalize hsA:kset s a (Q0w ka kb)=sA at *
   clear HB HS HP HQ HI HR
   have hwwA:=hw2
   clear hw2
   go_wp2_with (first | ((with_reducible refine Q3c bS ?_ Tryz.underlying94 ?_ ?_ ?_);rfl;rfl;(rw [Q0v hl];exact infoState')) | ((with_reducible refine Q61 bR (stV sA) ?_ ?_ ?_ ?_ ?_ ?_);rfl;rfl;(rw [Q0v hl];rfl);(rw [Q0v hl];exact infoState');exact Q7a _))
   have hbr:Q1k s ⟨op,a,b,3,n⟩ true=sA:=by
    unfold Q1k Q60 Q6j
    simp [hka,hkb]
    exact hsA
   have hb:=bR.stored (stV sA) (by rw [Q0v hl];rfl)
   rw [hbr]
   exact bodyPost_ret (Q4f hb rfl _ rfl Tryz.underlying94 rfl (by rw [Q0v hl];exact infoState')) rfl ⟨rfl,X.out.setCells _ (by have:=Hew.out;omega) 0⟩
  ·go_upto_region 6 with fail
   try clear hwwA
   have k1:∀ Wx,Ext wc Wx→Wx.cell? ⟨e+1,1,none⟩=some (.int .i64 a):=fun _ h=>h.kept i1
   have kp0:∀ Wx,Ext wc Wx→Wx.cell? ⟨p,0,none⟩=some (.int .i64 ka.bits):=fun _ h=>h.kept (by rw [bP.cell];rfl)
   have kp1:∀ Wx,Ext wc Wx→Wx.cell? ⟨p,1,none⟩=some (.bool ka.sec):=fun _ h=>h.kept (by rw [bP.cell];rfl)
   have kq0:∀ Wx,Ext wc Wx→Wx.cell? ⟨q,0,none⟩=some (.int .i64 kb.bits):=fun _ h=>h.kept (by rw [bQ.cell];rfl)
   have kq1:∀ Wx,Ext wc Wx→Wx.cell? ⟨q,1,none⟩=some (.bool kb.sec):=fun _ h=>h.kept (by rw [bQ.cell];rfl)
   have HS:=zh bS
   have HP:=zh bP
   have HQ:=zh bQ
   have HI:=zh bI
   have HR:=zh bR
   clear bS bP bQ bI bR i1 i2 i3
   refine Q0j 5 (by kernel_rfl) (by kernel_rfl) ?_
   simp only [List.take_succ_cons,List.take_zero,List.drop_succ_cons,List.drop_zero]
   repeat (first | (refine Q0d ?_ ?_ ?_;(decide);(first | rfl | (focus (go_simp;done)));apply Exists.intro;refine ⟨fun wc hE=>?_,?_⟩;(go_simp;exact rfl);go_simp) | (refine Q2g ?_ ?_ ?_;(decide);(first | rfl | (focus (go_simp;done)));apply Exists.intro;refine ⟨fun wc hE=>?_,?_⟩;(go_simp;(first | (with_reducible exact Q26 (Q6z ka.bits kb.bits ka.sec kb.sec _))));go_simp) | (refine Q0e ?_ ?_ ?_;(decide);(focus (go_simp;done));go_simp))
   refine Q0f ?_
   intro wy hx
   have X:=zh (X.out.trans hx)
   have bS:=HS.out.ext hx
   have bP:=HP.out.ext hx
   have bQ:=HQ.out.ext hx
   have bI:=HI.out.ext hx
   have bR:=HR.out.ext hx
   obtain ⟨rr0,rr1⟩:=Q1i bS hl Ha.out
   have hel:=bS.lt
   have hw2:∃ w2,(wy.setCell ⟨e,a.toNat * 2,none⟩ (.int .i64 (min (nrm ka.bits) (nrm kb.bits)))).setCell ⟨e,a.toNat * 2+1,none⟩ (.bool ka.sec)=w2∧Blk w2 e 94 (stV (kset s a (Q0w ka kb)))∧Blk w2 p 92 #[.int .i64 ka.bits,.bool ka.sec]∧Blk w2 q 92 #[.int .i64 kb.bits,.bool kb.sec]∧Blk w2 (e+1) 41 #[.int .i64 op,.int .i64 a,.int .i64 b,.int .i64 4,.int .i64 n]∧Blk w2 (e+1+1) 94 #[.int .i64 0,.bool false,.int .i64 0,.bool false,.int .i64 0,.bool false,.int .i64 0,.bool false,.int .i64 0,.bool false,.int .i64 0,.bool false,.int .i64 0,.bool false,.int .i64 0,.bool false]∧Ext w w2:=by
    have hb:=Q3m bS hl Ha.out (Q0w ka kb)
    exact ⟨_,rfl,hb,(bP.far (p:=⟨e,_,none⟩) hne1 _).far (p:=⟨e,_,none⟩) hne1 _,(bQ.far (p:=⟨e,_,none⟩) hne2 _).far (p:=⟨e,_,none⟩) hne2 _,(bI.far (p:=⟨e,_,none⟩) hne3 _).far (p:=⟨e,_,none⟩) hne3 _,(bR.far (p:=⟨e,_,none⟩) (by simp only;omega) _).far (p:=⟨e,_,none⟩) (by simp only;omega) _,(X.out.setCell (p:=⟨e,_,none⟩) Hew.out _).setCell (p:=⟨e,_,none⟩) Hew.out _⟩
   obtain ⟨w2,hw2,hB⟩:=hw2
   have HB:=zh hB
   clear hB hx k1 kp0 kp1 kq0 kq1 bS bP bQ bI bR
   obtain ⟨bS,bP,bQ,bI,bR,X⟩:=HB.out
   have X:=zh X
   have i1:w2.cell? ⟨e+1,1,none⟩=some (.int .i64 a):=by rw [bI.cell];rfl
   have i2:w2.cell? ⟨e+1,2,none⟩=some (.int .i64 b):=by rw [bI.cell];rfl
   have i3:w2.cell? ⟨e+1,3,none⟩=some (.int .i64 4):=by rw [bI.cell];rfl
   have hel0:=bS.lt
   have hel1:=bR.lt
   have hl:(kset s a (Q0w ka kb)).length=8:=by rw [Q4o];exact hl
   generalize hsA:kset s a (Q0w ka kb)=sA at *
   clear HB HS HP HQ HI HR
   have hwwA:=hw2
   clear hw2
   go_wp2_with (first | ((with_reducible refine Q3c bS ?_ Tryz.underlying94 ?_ ?_ ?_);rfl;rfl;(rw [Q0v hl];exact infoState')) | ((with_reducible refine Q61 bR (stV sA) ?_ ?_ ?_ ?_ ?_ ?_);rfl;rfl;(rw [Q0v hl];rfl);(rw [Q0v hl];exact infoState');exact Q7a _))
   have hbr:Q1k s ⟨op,a,b,4,n⟩ false=sA:=by
    unfold Q1k Q60 Q6j
    simp [hka,hkb]
    exact hsA
   have hb:=bR.stored (stV sA) (by rw [Q0v hl];rfl)
   rw [hbr]
   exact bodyPost_ret (Q4f hb rfl _ rfl Tryz.underlying94 rfl (by rw [Q0v hl];exact infoState')) rfl ⟨rfl,X.out.setCells _ (by have:=Hew.out;omega) 0⟩
  ·go_upto_region 8 with fail
   try clear hwwA
   have k1:∀ Wx,Ext wc Wx→Wx.cell? ⟨e+1,2,none⟩=some (.int .i64 b):=fun _ h=>h.kept i2
   have kp0:∀ Wx,Ext wc Wx→Wx.cell? ⟨p,0,none⟩=some (.int .i64 ka.bits):=fun _ h=>h.kept (by rw [bP.cell];rfl)
   have kp1:∀ Wx,Ext wc Wx→Wx.cell? ⟨p,1,none⟩=some (.bool ka.sec):=fun _ h=>h.kept (by rw [bP.cell];rfl)
   have kq0:∀ Wx,Ext wc Wx→Wx.cell? ⟨q,0,none⟩=some (.int .i64 kb.bits):=fun _ h=>h.kept (by rw [bQ.cell];rfl)
   have kq1:∀ Wx,Ext wc Wx→Wx.cell? ⟨q,1,none⟩=some (.bool kb.sec):=fun _ h=>h.kept (by rw [bQ.cell];rfl)
   have HS:=zh bS
   have HP:=zh bP
   have HQ:=zh bQ
   have HI:=zh bI
   have HR:=zh bR
   clear bS bP bQ bI bR i1 i2 i3
   refine Q0j 5 (by kernel_rfl) (by kernel_rfl) ?_
   simp only [List.take_succ_cons,List.take_zero,List.drop_succ_cons,List.drop_zero]
   repeat (first | (refine Q0d ?_ ?_ ?_;(decide);(first | rfl | (focus (go_simp;done)));apply Exists.intro;refine ⟨fun wc hE=>?_,?_⟩;(go_simp;exact rfl);go_simp) | (refine Q2g ?_ ?_ ?_;(decide);(first | rfl | (focus (go_simp;done)));apply Exists.intro;refine ⟨fun wc hE=>?_,?_⟩;(go_simp;(first | (with_reducible exact Q26 (Q6z kb.bits ka.bits kb.sec ka.sec _))));go_simp) | (refine Q0e ?_ ?_ ?_;(decide);(focus (go_simp;done));go_simp))
   refine Q0f ?_
   intro wy hx
   have X:=zh (X.out.trans hx)
   have bS:=HS.out.ext hx
   have bP:=HP.out.ext hx
   have bQ:=HQ.out.ext hx
   have bI:=HI.out.ext hx
   have bR:=HR.out.ext hx
   obtain ⟨rr0,rr1⟩:=Q1i bS hl Hb.out
   have hel:=bS.lt
   have hw2:∃ w2,(wy.setCell ⟨e,b.toNat * 2,none⟩ (.int .i64 (min (nrm kb.bits) (nrm ka.bits)))).setCell ⟨e,b.toNat * 2+1,none⟩ (.bool kb.sec)=w2∧Blk w2 e 94 (stV (kset s b (Q0w kb ka)))∧Blk w2 p 92 #[.int .i64 ka.bits,.bool ka.sec]∧Blk w2 q 92 #[.int .i64 kb.bits,.bool kb.sec]∧Blk w2 (e+1) 41 #[.int .i64 op,.int .i64 a,.int .i64 b,.int .i64 4,.int .i64 n]∧Blk w2 (e+1+1) 94 #[.int .i64 0,.bool false,.int .i64 0,.bool false,.int .i64 0,.bool false,.int .i64 0,.bool false,.int .i64 0,.bool false,.int .i64 0,.bool false,.int .i64 0,.bool false,.int .i64 0,.bool false]∧Ext w w2:=by
    have hb:=Q3m bS hl Hb.out (Q0w kb ka)
    exact ⟨_,rfl,hb,(bP.far (p:=⟨e,_,none⟩) hne1 _).far (p:=⟨e,_,none⟩) hne1 _,(bQ.far (p:=⟨e,_,none⟩) hne2 _).far (p:=⟨e,_,none⟩) hne2 _,(bI.far (p:=⟨e,_,none⟩) hne3 _).far (p:=⟨e,_,none⟩) hne3 _,(bR.far (p:=⟨e,_,none⟩) (by simp only;omega) _).far (p:=⟨e,_,none⟩) (by simp only;omega) _,(X.out.setCell (p:=⟨e,_,none⟩) Hew.out _).setCell (p:=⟨e,_,none⟩) Hew.out _⟩
   obtain ⟨w2,hw2,hB⟩:=hw2
   have HB:=zh hB
   clear hB hx k1 kp0 kp1 kq0 kq1 bS bP bQ bI bR
   obtain ⟨bS,bP,bQ,bI,bR,X⟩:=HB.out
   have X:=zh X
   have i1:w2.cell? ⟨e+1,1,none⟩=some (.int .i64 a):=by rw [bI.cell];rfl
   have i2:w2.cell? ⟨e+1,2,none⟩=some (.int .i64 b):=by rw [bI.cell];rfl
   have i3:w2.cell? ⟨e+1,3,none⟩=some (.int .i64 4):=by rw [bI.cell];rfl
   have hel0:=bS.lt
   have hel1:=bR.lt
   have hl:(kset s b (Q0w kb ka)).length=8:=by rw [Q4o];exact hl
   generalize hsB:kset s b (Q0w kb ka)=sB at *
   clear HB HS HP HQ HI HR
   have hwwB:=hw2
   clear hw2
   go_wp2_with (first | ((with_reducible refine Q3c bS ?_ Tryz.underlying94 ?_ ?_ ?_);rfl;rfl;(rw [Q0v hl];exact infoState')) | ((with_reducible refine Q61 bR (stV sB) ?_ ?_ ?_ ?_ ?_ ?_);rfl;rfl;(rw [Q0v hl];rfl);(rw [Q0v hl];exact infoState');exact Q7a _))
   have hbr:Q1k s ⟨op,a,b,4,n⟩ true=sB:=by
    unfold Q1k Q60 Q6j
    simp [hka,hkb]
    exact hsB
   have hb:=bR.stored (stV sB) (by rw [Q0v hl];rfl)
   rw [hbr]
   exact bodyPost_ret (Q4f hb rfl _ rfl Tryz.underlying94 rfl (by rw [Q0v hl];exact infoState')) rfl ⟨rfl,X.out.setCells _ (by have:=Hew.out;omega) 0⟩
end Go.Proofs.YtiafchefbehfbaaGreatDoor
