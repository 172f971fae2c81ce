/- Laid together from: Ck3, Ck5, Ck6, CkW. -/
import Derived.Test.YtiafchefbehfbaaGreatDoorDriveTellsB31
import Derived.Test.YtiafchefbehfbaaGreatDoorDriveTellsB32
import Derived.Test.YtiafchefbehfbaaGreatDoorDriveTellsB28
import Derived.Test.YtiafchefbehfbaaGreatDoorDriveTellsB6

namespace Go.Proofs.YtiafchefbehfbaaGreatDoor
open Go.ChangeShapes Go.WideShapes Go.ChangeAt Go.RowKit
set_option linter.unusedVariables false
set_option linter.unusedSimpArgs false
theorem Qel:(Tryz.prog.info? 3).map (fun i=>(i.zero,i.size,i.bytes))=some (some (.int .i64 0),1,8):=by kernel_rfl
def mixJ (s t:KSt) (j:Nat):KSt:=(List.range 8).map fun r=>if r < j then Q2y (s.getD r default) (t.getD r default) else s.getD r default
theorem Q9b (s t:KSt) (j:Nat):(mixJ s t j).length=8:=by simp [mixJ]
theorem Qqn {s:KSt} (hs:s.length=8) (t:KSt):mixJ s t 0=s:=by
 apply List.ext_getElem (by rw [Q9b,hs])
 intro j h1 h2
 simp [mixJ,h2]
theorem Qqq (s t:KSt):mixJ s t 8=Q18 s t:=by
 unfold mixJ Q18
 apply List.map_congr_left
 intro r hr
 rw [if_pos (by simpa using hr)]
theorem Qdx (s t:KSt) {j r:Nat} (hr:r < 8):(mixJ s t j).getD r default=if r < j then Q2y (s.getD r default) (t.getD r default) else s.getD r default:=by simp [mixJ,hr]
theorem Qqo (s t:KSt) {j:Nat} (hj:j < 8):kset (mixJ s t j) (j:Int) (Q2y (s.getD j default) (t.getD j default))=mixJ s t (j+1):=by
 have hl:(kset (mixJ s t j) (j:Int) (Q2y (s.getD j default) (t.getD j default))).length=8:=by simp [kset,Q9b]
 have key:∀ r,r < 8→(kset (mixJ s t j) (j:Int) (Q2y (s.getD j default) (t.getD j default))).getD r default=(mixJ s t (j+1)).getD r default:=by
  intro r hr
  rw [Q9f,Qdx s t hr,Qdx s t hr,Q9b]
  by_cases hrj:r=j
  ·subst hrj;simp [hr]
  ·rw [if_neg (by simp;omega)]
   by_cases h3:r < j
   ·rw [if_pos h3,if_pos (by omega)]
   ·rw [if_neg h3,if_neg (by omega)]
 generalize kset (mixJ s t j) (j:Int) (Q2y (s.getD j default) (t.getD j default))=a at *
 have hm:=Q9b s t (j+1)
 generalize mixJ s t (j+1)=b at *
 apply List.ext_getElem (by omega)
 intro r h1 h2
 have:=key r (by omega)
 simpa [h1,h2] using this
def Qfp (p:Q00) (w:World) (B g ks:Nat) (vR vC vK:Value) (T:Tab) (wk:List Int) (at_:Nat) (s:KSt) (e:Ending) (w':World):Prop :=
 e=.returned (.tuple #[])∧∃ vK',CSt w' B g ks vR vC vK' p (Q4z p T at_ s) (Q4m p T wk at_ s)∧Turn (fun j=>j=g∨j=ks∨vK.ownBlock=some j) w w'
set_option maxRecDepth 100000 in
set_option maxHeartbeats 4000000 in
theorem Q4x (p:Q00) {B g ks:Nat} {vR vK:Value} {oc:Option Addr} {capc:Nat} {T:Tab} {wk:List Int} (at_:Nat) (s:KSt) (hs:Sok s) (hcl:p.code.length≤200) (hwl:wk.length≤1000000) (w:World) (h:CSt w B g ks vR (.slice oc p.code.length capc) vK p T wk) :
  Calls Tryz.prog 31 #[.pointer (some ⟨g,0,none⟩),.int .i64 (at_:Int),.agg (stV s)] w (Qfp p w B g ks vR (.slice oc p.code.length capc) vK T wk at_ s):=by
 have H:=zh h
 have Hs:=zh hs
 have hBs:=h.size
 obtain ⟨i0,hi0,hz0,hz1,hz2⟩:=info_parts Qel
 go_enter Tryz.func31,Tryz.ntmps31
 go_upto_region 1 with fail
 obtain ⟨W,e,he,hW,hx,bE⟩:=Q16 w (stV s) 94
 rw [hW,he]
 have X:=zh hx
 have P:=h.ext hx
 obtain ⟨-,c1,c2,c3⟩:=P.cells
 have hgl:=P.box.lt
 have hel:=bE.lt
 have hge:e≠g:=by have:=h.box.lt;omega
 have hBe:B≤e:=by omega
 have hkl:ks < w.heap.size:=by
  obtain ⟨R,r1,-⟩:=h.row
  exact r1.lt
 have hke:ks≠e:=by omega
 have hgw:=h.box.lt
 have Hhe:=zh he
 clear hW hx
 by_cases hbe:p.code.length≤at_
 ·have Hp:Hid (∀ w',Ext w w'→Qfp p w B g ks vR (.slice oc p.code.length capc) vK T wk at_ s (.returned (.tuple #[])) w'):=zh fun w' hx=>⟨rfl,vK,by
   unfold Q4z Q4m
   rw [if_pos hbe,if_pos hbe]
   exact H.out.ext hx,Turn.ofExt hx⟩
  clear P h hs c2 c3 he
  go_wp2
  try refine bodyPost_end (results_none rfl _ _ _) rfl ?_
  exact Hp.out _ X.out
 have hat:at_ < p.code.length:=by omega
 have Hat:=zh hat
 obtain ⟨hrow0,hrow1⟩:=P.row_at hat
 have PP:=zh P
 have hixs:=Qen
 have hatd:decide ((p.code.length:Int)≤(at_:Int))=false:=decide_eq_false (by omega)
 have hatd2:decide (p.code.length≤at_)=false:=decide_eq_false (by omega)
 have hatd3:¬ p.code.length≤at_:=by omega
 clear hbe h hs P he
 cases ht:tg T at_ with
 | none =>
  obtain ⟨r0,rf⟩:=hrow0 ht
  have HT:Hid (Q4z p T at_ s=T.set at_ (some s)):=zh (by
   unfold Q4z Q1d
   rw [if_neg (by omega)]
   simp [ht])
  have HW:Hid (Q4m p T wk at_ s=wk ++ [(at_:Int)]):=zh (by
   unfold Q4m
   rw [if_neg (by omega),ht])
  have rr:W.cell? ⟨ks,at_,none⟩=some (.pointer none)∧W.frozen? ⟨ks,at_,none⟩=false:=⟨r0,rf⟩
  have Hs2:=Hs
  have HWB:Hid (Turn (fun j=>j=g∨j=ks∨vK.ownBlock=some j) w W):=zh (Turn.ofExt X.out)
  clear hrow0 hrow1 ht r0 rf
  go_upto_region 11 with fail
  have P2:=PP.out.put Hat.out hBe bE Hs2.out
  have hgl2:g < (W.setCell ⟨ks,at_,none⟩ (.pointer (some ⟨e,0,none⟩))).heap.size:=by rw [Q3v];exact hgl
  have HWB2:Hid (Turn (fun j=>j=g∨j=ks∨vK.ownBlock=some j) w (W.setCell ⟨ks,at_,none⟩ (.pointer (some ⟨e,0,none⟩)))):=zh (HWB.out.trans (Turn.set _ _ _) (fun j _ e=>.inr (.inl e)))
  generalize W.setCell ⟨ks,at_,none⟩ (.pointer (some ⟨e,0,none⟩))=W2 at *
  obtain ⟨-,-,-,d3⟩:=P2.cells
  have P2:=zh P2
  obtain ⟨ok,okc,rfl⟩:=Q02 P2.out.wk
  have hBs2:=P2.out.size
  go_wp2_with (at_builtin;refine Q1b _ rfl _ _ 49 rfl B 3 i0 _ 1 8 Tryz.underlying49 hi0 hz0 hz1 hz2 rfl (by decide) _ _ _ rfl (Q1r P2.out.wk) (some ⟨W2.heap.size,0,none⟩) 1 1 [.int .i64 (at_:Int)] rfl ?c1 ?c3 ?c4 ?c5 ?_)
  case c1=>exact Q1y (size:=1) (Blk.new W2 3 #[.int .i64 (at_:Int)]) rfl (by simp [Value.oneCell'])
  case c3=>unfold maxLen;omega
  case c4=>omega
  case c5=>simp;omega
  intro v1 w3 hown hgrow hat2
  clear hat2
  obtain ⟨o3,c3',rfl⟩:=Q02 hown
  have hxa:=(Ext.refl W2).alloc (.cells #[.int .i64 (at_:Int)] 3)
  have PB:=P2.out.ext hxa
  have hgrow:(W2.alloc (.cells #[.int .i64 (at_:Int)] 3)).grownBy w3 (Value.slice ok wk.length okc).ownBlock:=hgrow
  have hb3:=PB.box.grown hgrow (Q09 PB.wk PB.box (by decide))
  have p3:w3.cell? ⟨g,3,none⟩=some (.slice ok wk.length okc)∧w3.frozen? ⟨g,3,none⟩=false:=⟨by rw [hb3.cell];rfl,hb3.frozen 3⟩
  have P3:=zh (PB.work (vK':=.slice o3 (wk.length+1) c3') (wk':=wk ++ [(at_:Int)]) hgrow (by simpa using hown))
  have HB3:Hid (Turn (fun j=>j=g∨j=ks∨(Value.slice ok wk.length okc).ownBlock=some j) w (w3.setCell ⟨g,3,none⟩ (.slice o3 (wk.length+1) c3'))):=zh (((HWB2.out.ext hxa).trans (Turn.grown hgrow) (fun j _ e=>.inr (.inr e))).trans (Turn.set _ _ _) (fun j _ e=>.inl e))
  have hg3:=hb3.lt
  clear hown hgrow hb3 hxa PB d3
  go_wp2
  try refine bodyPost_end (results_none rfl _ _ _) rfl ?_
  refine ⟨rfl,.slice o3 (wk.length+1) c3',?_,HB3.out⟩
  rw [HT.out,HW.out]
  exact P3.out
 | some t =>
  obtain ⟨k,r0,hBk,bK⟩:=hrow1 t ht
  have Ht:=zh (PP.out.tok.ok at_ t ht)
  have hkel:k < w.heap.size:=by
   obtain ⟨R,r1,r2,r3⟩:=H.out.row
   have:=r3 at_ hat
   rw [ht] at this
   obtain ⟨k2,e1,-,e3⟩:=this
   have e4:=(r1.ext X.out).cell at_
   rw [e1,r0.1] at e4
   simp only [Option.some.injEq,Value.pointer.injEq,Addr.mk.injEq,and_true] at e4
   rw [e4];exact e3.lt
  have hke2:k≠e:=by have:=Hhe.out;omega
  have HTW:Hid (Q4z p T at_ s=T.set at_ (some (Q18 s t))∧Q4m p T wk at_ s=if Q18 s t=t then wk else wk ++ [(at_:Int)]):=zh (by
   unfold Q4z Q1d Q4m
   rw [if_neg (by omega),if_neg (by omega)]
   simp [ht])
  have HTt:Hid (tg T at_=some t):=zh ht
  have hst:=Q13
  clear hrow0 hrow1 ht
  have XW:=X
  go_wp2_with fail
  go_loopw [25] (fun i wr => ∃ j:Nat,j≤8∧i=.int .i64 j∧Blk wr e 94 (stV (mixJ s t j))∧Ext w wr) (fun i _=>8 - (intOf i).toNat)
  case atStart=>exact ⟨0,by omega,rfl,by rw [Qqn Hs.out.len];exact bE,X.out⟩
  case round =>
   obtain ⟨j,hj,rfl,bR,hE⟩:=hrel
   have X:=zh hE
   have bR':=zh bR
   have bKr:=(H.out.ext hE).row_at Hat.out
   obtain ⟨-,hk1⟩:=bKr
   obtain ⟨k2,kc,-,kb⟩:=hk1 t HTt.out
   have hkk:k2=k:=by
    have e1:=hE.cell (p:=⟨ks,at_,none⟩) hkl
    have e2:=X.out.cell (p:=⟨ks,at_,none⟩) hkl
    have e3:=X
    have e4:w.cell? ⟨ks,at_,none⟩=some (.pointer (some ⟨k,0,none⟩)):=by
     obtain ⟨-,hw1⟩:=H.out.row_at Hat.out
     obtain ⟨k3,c3',-,-⟩:=hw1 t HTt.out
     have:=XW.out.kept c3'.1
     rw [r0.1] at this
     rw [c3'.1,this]
    rw [kc.1,e4] at e1
    simpa using e1
   rw [hkk] at kb
   clear kc
   have hel:=bR.lt
   have hkel2:=kb.lt
   clear hE hk1
   by_cases hlt:j < 8
   ·obtain ⟨⟨a0,f0⟩,⟨a1,f1⟩⟩:=Q1i bR (Q9b s t j) (a:=(j:Int)) (Q0l.2 ⟨by omega,by omega⟩)
    obtain ⟨⟨b0,-⟩,⟨b1,-⟩⟩:=Q1i kb Ht.out.len (a:=(j:Int)) (Q0l.2 ⟨by omega,by omega⟩)
    have Hnext:=zh (Qqo s t hlt)
    have hkg:kg (mixJ s t j) (j:Int)=s.getD j default:=by
     unfold kg
     rw [Int.toNat_natCast,Qdx s t hlt,if_neg (by omega)]
    have hkg2:kg t (j:Int)=t.getD j default:=by unfold kg;rw [Int.toNat_natCast]
    rw [hkg] at a0 a1
    rw [hkg2] at b0 b1
    simp only [Int.toNat_natCast] at a0 a1 b0 b1 f0 f1
    have Hput:Hid (∀ w',Ext wr w'→Blk ((w'.setCell ⟨e,j * 2,none⟩ (.int .i64 (Q2y (s.getD j default) (t.getD j default)).bits)).setCell ⟨e,j * 2+1,none⟩ (.bool (Q2y (s.getD j default) (t.getD j default)).sec)) e 94 (stV (mixJ s t (j+1)))):=zh fun w' hx=>by
     have:=Q3m (bR'.out.ext hx) (Q9b s t j) (a:=(j:Int)) (Q0l.2 ⟨by omega,by omega⟩) (Q2y (s.getD j default) (t.getD j default))
     rw [Hnext.out] at this
     simpa using this
    unfold Q2y at Hput
    generalize s.getD j default=x at *
    generalize t.getD j default=y at *
    simp only at Hput
    have rr0:wr.cell? ⟨e,j * 2,none⟩=some (.int .i64 x.bits)∧wr.frozen? ⟨e,j * 2,none⟩=false:=⟨a0,f0⟩
    have rr1:wr.cell? ⟨e,j * 2+1,none⟩=some (.bool x.sec)∧wr.frozen? ⟨e,j * 2+1,none⟩=false:=⟨a1,f1⟩
    go_upto_region 7 with fail
    have k0:∀ Wx,Ext wr Wx→Wx.cell? ⟨e,j * 2,none⟩=some (.int .i64 x.bits):=fun _ h=>h.kept a0
    have k1:∀ Wx,Ext wr Wx→Wx.cell? ⟨e,j * 2+1,none⟩=some (.bool x.sec):=fun _ h=>h.kept a1
    have l0:∀ Wx,Ext wr Wx→Wx.cell? ⟨k,j * 2,none⟩=some (.int .i64 y.bits):=fun _ h=>h.kept b0
    have l1:∀ Wx,Ext wr Wx→Wx.cell? ⟨k,j * 2+1,none⟩=some (.bool y.sec):=fun _ h=>h.kept b1
    refine Q23 [9,10,11] 1 (by kernel_rfl) (by kernel_rfl) ?_
    repeat (first | (refine Q1x ?_ ?_;(decide)) | (refine Q1o ?_ ?_ ?_;(decide);(first | rfl | (focus (go_simp;done)));apply Exists.intro;refine ⟨fun wc hE=>?_,?_⟩;(go_simp;exact rfl);go_simp) | (refine Q1v ?_ ?_ ?_;(decide);(focus (go_simp;done));go_simp))
    refine Q1w ?_
    intro w2 hx
    have X2:=zh hx
    clear k0 k1 l0 l1 a0 a1 b0 b1 f0 f1
    refine Q01 rfl ?_
    go_wp2_with fail
    (with_reducible refine (Qjk x.bits y.bits x.sec y.sec w2).mono ?_)
    rintro er w3 ⟨rfl,hx3⟩
    have hx13:=hx.trans hx3
    have rr0:=Q0i hx13 rr0
    have rr1:=Q0i hx13 rr1
    have hel3:=(bR'.out.ext hx13).lt
    have HX13:=zh hx13
    go_wp2
    try refine ⟨hx13,?_⟩
    refine Q1q (Q0c rfl (Q0c rfl (Q22))) ?_
    clear hx hx3 hx13
    go_wp2
    go_roundw
    case rel =>
     refine ⟨j+1,by omega,by go_num,Hput.out _ HX13.out,?_⟩
     have hwe:w.heap.size≤e:=by have:=Hhe.out;omega
     exact ((X.out.trans HX13.out).setCell (p:=⟨e,j * 2,none⟩) hwe _).setCell (p:=⟨e,j * 2+1,none⟩) hwe _
    case measure=>first | (simp [intOf];done) | (simp [intOf];omega)
   ·have hje:j=8:=by omega
    subst hje
    have bU:=bR'.out
    rw [Qqq] at bU
    have hu:=Q90 s t
    have bU:=zh bU
    have bK2:=zh kb
    have Hu:=zh hu
    have heq:=Qkj (Q18 s t) t hu.len Ht.out.len
    have hu8:=hu.len
    have ht8:=Ht.out.len
    have hPr:=zh (H.out.ext X.out)
    generalize hsj:Q18 s t=u at *
    clear hlt bR bR'
    have bU0:=bU.out
    go_upto_region 9 with fail
    refine Q0j 5 (by kernel_rfl) (by kernel_rfl) ?_
    simp only [List.take_succ_cons,List.take_zero,List.drop_succ_cons,List.drop_zero]
    repeat (first | (refine Qfa ?_ ?_ ?_ bU0 hu8 ?_;(decide);(first | rfl | (focus (go_simp;done)));exact ⟨_,rfl,rfl⟩;go_simp) | (refine Qfa ?_ ?_ ?_ kb ht8 ?_;(decide);(first | rfl | (focus (go_simp;done)));exact ⟨_,rfl,rfl⟩;go_simp) | (refine Q0d ?_ ?_ ?_;(decide);(first | rfl | (focus (go_simp;done)));apply Exists.intro;refine ⟨fun wc hE=>?_,?_⟩;(go_simp;exact rfl);go_simp) | (refine Q0e ?_ ?_ ?_;(decide);(focus (go_simp;done));go_simp))
    refine Q0f ?_
    intro wx hx
    have X:=zh (X.out.trans hx)
    have PP:=zh (hPr.out.ext hx)
    have bU:=zh (bU.out.ext hx)
    clear heq hx bU0 kb hu8 ht8
    have HTW:=HTW
    by_cases hut:u=t
    ·have hd:decide (u=t)=true:=by simpa using hut
     have hp:Qfp p w B g ks vR (.slice oc p.code.length capc) vK T wk at_ s (.returned (.tuple #[])) wx:=by
      refine ⟨rfl,vK,?_,Turn.ofExt X.out⟩
      rw [HTW.out.1,HTW.out.2,if_pos hut,hut]
      have:T.set at_ (some t)=T:=by
       apply List.ext_getElem (by simp)
       intro j h1 h2
       have:=HTt.out
       unfold tg at this
       rw [List.getElem_set]
       by_cases e:at_=j
       ·subst e
        rw [if_pos rfl]
        simpa [h2] using this.symm
       ·rw [if_neg e]
      rw [this]
      exact PP.out
     have hp:=zh hp
     rw [hd]
     clear hut
     go_wp2
     try refine bodyPost_end (results_none rfl _ _ _) rfl ?_
     exact hp.out
    ·have hd:decide (u=t)=false:=by simpa using hut
     have HT:Hid (Q4z p T at_ s=T.set at_ (some u)):=zh (by rw [HTW.out.1])
     have HW:Hid (Q4m p T wk at_ s=wk ++ [(at_:Int)]):=zh (by rw [HTW.out.2,if_neg hut])
     have Hs2:=Hu
     obtain ⟨-,hrow1⟩:=PP.out.row_at Hat.out
     obtain ⟨k5,rr,-,-⟩:=hrow1 t HTt.out
     obtain ⟨-,c1,c2,c3⟩:=PP.out.cells
     have hgl:=PP.out.box.lt
     have bE:=bU.out
     have HWB:Hid (Turn (fun j=>j=g∨j=ks∨vK.ownBlock=some j) w wx):=zh (Turn.ofExt X.out)
     have hel:=bE.lt
     have hkl2:ks < wx.heap.size:=by have:=X.out.size;omega
     rw [hd]
     clear hut hrow1
     go_upto_region 11 with fail
     have P2:=PP.out.put Hat.out hBe bE Hs2.out
     have hgl2:g < (wx.setCell ⟨ks,at_,none⟩ (.pointer (some ⟨e,0,none⟩))).heap.size:=by rw [Q3v];exact hgl
     have HWB2:Hid (Turn (fun j=>j=g∨j=ks∨vK.ownBlock=some j) w (wx.setCell ⟨ks,at_,none⟩ (.pointer (some ⟨e,0,none⟩)))):=zh (HWB.out.trans (Turn.set _ _ _) (fun j _ e=>.inr (.inl e)))
     generalize wx.setCell ⟨ks,at_,none⟩ (.pointer (some ⟨e,0,none⟩))=W2 at *
     obtain ⟨-,-,-,d3⟩:=P2.cells
     have P2:=zh P2
     obtain ⟨ok,okc,rfl⟩:=Q02 P2.out.wk
     have hBs2:=P2.out.size
     go_wp2_with (at_builtin;refine Q1b _ rfl _ _ 49 rfl B 3 i0 _ 1 8 Tryz.underlying49 hi0 hz0 hz1 hz2 rfl (by decide) _ _ _ rfl (Q1r P2.out.wk) (some ⟨W2.heap.size,0,none⟩) 1 1 [.int .i64 (at_:Int)] rfl ?c1 ?c3 ?c4 ?c5 ?_)
     case c1=>exact Q1y (size:=1) (Blk.new W2 3 #[.int .i64 (at_:Int)]) rfl (by simp [Value.oneCell'])
     case c3=>unfold maxLen;omega
     case c4=>omega
     case c5=>simp;omega
     intro v1 w3 hown hgrow hat2
     clear hat2
     obtain ⟨o3,c3',rfl⟩:=Q02 hown
     have hxa:=(Ext.refl W2).alloc (.cells #[.int .i64 (at_:Int)] 3)
     have PB:=P2.out.ext hxa
     have hgrow:(W2.alloc (.cells #[.int .i64 (at_:Int)] 3)).grownBy w3 (Value.slice ok wk.length okc).ownBlock:=hgrow
     have hb3:=PB.box.grown hgrow (Q09 PB.wk PB.box (by decide))
     have p3:w3.cell? ⟨g,3,none⟩=some (.slice ok wk.length okc)∧w3.frozen? ⟨g,3,none⟩=false:=⟨by rw [hb3.cell];rfl,hb3.frozen 3⟩
     have P3:=zh (PB.work (vK':=.slice o3 (wk.length+1) c3') (wk':=wk ++ [(at_:Int)]) hgrow (by simpa using hown))
     have HB3:Hid (Turn (fun j=>j=g∨j=ks∨(Value.slice ok wk.length okc).ownBlock=some j) w (w3.setCell ⟨g,3,none⟩ (.slice o3 (wk.length+1) c3'))):=zh (((HWB2.out.ext hxa).trans (Turn.grown hgrow) (fun j _ e=>.inr (.inr e))).trans (Turn.set _ _ _) (fun j _ e=>.inl e))
     have hg3:=hb3.lt
     clear hown hgrow hb3 hxa PB d3
     go_wp2
     try refine bodyPost_end (results_none rfl _ _ _) rfl ?_
     refine ⟨rfl,.slice o3 (wk.length+1) c3',?_,HB3.out⟩
     rw [HT.out,HW.out]
     exact P3.out
structure OneH (p:Q00) (B g ks:Nat) (oa:Option Addr) (capa:Nat) (vK:Value) (oc:Option Addr) (capc:Nat) (T:Tab) (wk:List Int) (at_:Nat) (s:KSt) (op a b c n:Int) (w:World):Prop where
 hs:Sok s
 hr:Q0p p.regs=true
 hcl:p.code.length≤200
 hat:at_ < p.code.length
 hi:Q1t p at_=⟨op,a,b,c,n⟩
 hok:Q04 p 8 ⟨op,a,b,c,n⟩=true
 hp:Q29 w (.agg #[.slice oa p.regs.length capa,.slice oc p.code.length capc]) p
 h:CSt w B g ks (.slice oa p.regs.length capa) (.slice oc p.code.length capc) vK p T wk
section
variable (p : Q00) {B g ks : Nat} {oa : Option Addr} {capa : Nat} {vK : Value} {oc : Option Addr} {capc : Nat} {T : Tab} {wk : List Int} (at_ : Nat) (s : KSt) (op a b c n : Int)
def Q4n (p:Q00):List (Nat × KSt)→Tab × List Int→Tab × List Int
 | [],tw=>tw
 | x :: l,tw=>Q4n p l (Q4z p tw.1 x.1 x.2,Q4m p tw.1 tw.2 x.1 x.2)
def Q55 (p:Q00) (w:World) (B g ks:Nat) (vR vC:Value) (T:Tab) (wk:List Int) (l:List (Nat × KSt)) (e:Ending) (w':World):Prop :=
 e=.returned (.tuple #[])∧∃ vK',CSt w' B g ks vR vC vK' p (Q4n p l (T,wk)).1 (Q4n p l (T,wk)).2∧Below B w w'
theorem sum_c' (k:LKn) (n:Int) (w:World):Calls Tryz.prog 65 #[.agg #[.int .i64 k.bits,.bool k.sec],.int .i64 n] w fun e w'=>e=.returned (.agg #[.int .i64 (ksum k n).bits,.bool (ksum k n).sec])∧Ext w w':=Q5q k n w
theorem Qsr {p:Q00} {op a b c n:Int} (h:Q04 p 8 ⟨op,a,b,c,n⟩=true) (ho:13≤op):okIn 8 a=true∧okIn 8 b=true∧okIn 8 c=true∧21≤op∧op≤30:=by
 unfold Q04 at h
 simp only at h
 rw [if_neg (by omega),if_neg (by omega),if_neg (by omega),if_neg (by omega),if_neg (by omega),if_neg (by omega),if_neg (by omega),if_neg (by omega),if_neg (by omega),if_neg (by omega)] at h
 simp only [Bool.and_eq_true] at h
 obtain ⟨⟨⟨⟨h1,h2⟩,h3⟩,-⟩,h5⟩:=h
 have:=Q0l.1 h5
 exact ⟨h1,h2,h3,by omega,by omega⟩
theorem Q4y {w w':World} {B g ks:Nat} {vR vC vK:Value} {p:Q00} {T:Tab} {wk:List Int} (h:CSt w B g ks vR vC vK p T wk) (ht:Turn (fun j=>j=g∨j=ks∨vK.ownBlock=some j) w w'):Below B w w' :=
 ht.below h.size (by
  rintro j (rfl | rfl | e)
  ·exact h.hg
  ·exact h.hk
  ·exact Q17 h.wk j e)
set_option maxRecDepth 100000 in
set_option maxHeartbeats 4000000 in
theorem Qpo (hop:op=1) (hwl:wk.length≤999990) (w:World) (H:OneH p B g ks oa capa vK oc capc T wk at_ s op a b c n w) :
  Calls Tryz.prog 32 #[.pointer (some ⟨g,0,none⟩),.int .i64 (at_:Int),.agg (stV s)] w (Q55 p w B g ks (.slice oa p.regs.length capa) (.slice oc p.code.length capc) T wk (Q0o p at_ s ⟨op,a,b,c,n⟩)):=by
 obtain ⟨hs,hr,hcl,hat,hi,hok,hp,h⟩:=H
 obtain ⟨v1,v2,hv,hR,⟨-,oc',capc',bc,oo,hv2,hc1,hc2,hrow⟩⟩:=hp
 simp only [Value.agg.injEq,Array.mk.injEq,List.cons.injEq,and_true] at hv
 obtain ⟨rfl,rfl⟩:=hv
 simp only [Value.slice.injEq,true_and] at hv2
 obtain ⟨rfl,rfl⟩:=hv2
 have hix:=Q24 (cap:=capc) hrow.at_
 obtain ⟨e0,e1,e2,e3,e4⟩:=hrow.ins at_ hat
 have hgi:p.code.getD at_ default=⟨op,a,b,c,n⟩:=hi
 rw [hgi] at e0 e1 e2 e3 e4
 simp only at e0 e1 e2 e3 e4
 obtain ⟨-,c1,-,-⟩:=h.cells
 have hgl:=h.box.lt
 have hst:=Q13
 have H:=zh h
 have Hs:=zh hs
 have hl:=hs.len
 have HR:=zh hR
 have Hr:=zh hr
 have Hok:=zh hok
 have hbl:=Q0k e0
 simp only at hbl
 subst hop
 have ha:okIn 8 a=true:=by unfold Q04 at hok;simp [okIn] at hok ⊢;omega
 clear h hs hrow hi hgi hR hr hc1 hc2 hok
 go_enter Tryz.func32,Tryz.ntmps32
 go_upto_region 11 with fail
 obtain ⟨W,e,he,hW,hx,bS,bI⟩:=Q14 w (stV s) #[.int .i64 1,.int .i64 a,.int .i64 b,.int .i64 c,.int .i64 n] 94 41
 rw [hW,he]
 have X:=zh hx
 have HP:=zh (H.out.ext hx)
 have BS:=zh bS
 obtain ⟨i0,i1,i2,i3,i4⟩:=ins5 bI
 have Hew:=zh (show w.heap.size≤e by omega)
 have hel0:=bS.lt
 have hel1:=bI.lt
 have BI:=zh bI
 clear hW hx he e0 e1 e2 e3 e4 c1 bI hbl
 obtain ⟨a0,a1⟩:=Q0l.1 ha
 have Ha:=zh ha
 have k1:∀ Wx,Ext W Wx→Wx.cell? ⟨e+1,1,none⟩=some (.int .i64 a):=fun _ h=>h.kept i1
 have k4:∀ Wx,Ext W Wx→Wx.cell? ⟨e+1,4,none⟩=some (.int .i64 n):=fun _ h=>h.kept i4
 clear i0 i1 i2 i3 i4  bS
 refine Q0j 5 (by kernel_rfl) (by kernel_rfl) ?_
 simp only [List.take_succ_cons,List.take_zero,List.drop_succ_cons,List.drop_zero]
 repeat (first | (refine Q0d ?_ ?_ ?_;(decide);(first | rfl | (focus (go_simp;done)));apply Exists.intro;refine ⟨fun wc hE=>?_,?_⟩;(go_simp;exact rfl);go_simp) | (refine Q2g ?_ ?_ ?_;(decide);(first | rfl | (focus (go_simp;done)));apply Exists.intro;refine ⟨fun wc hE=>?_,?_⟩;(go_simp;(first | (with_reducible exact Q26 (Qec n _))));go_simp) | (refine Q0e ?_ ?_ ?_;(decide);(focus (go_simp;done));go_simp))
 refine Q0f ?_
 intro wy hx
 have X:=zh (X.out.trans hx)
 have HP:=zh (HP.out.ext hx)
 have bS:=BS.out.ext hx
 obtain ⟨rr0,rr1⟩:=Q1i bS hl Ha.out
 have hel:=bS.lt
 have hw2:∃ w2,(wy.setCell ⟨e,a.toNat * 2,none⟩ (.int .i64 (kof n))).setCell ⟨e,a.toNat * 2+1,none⟩ (.bool (false))=w2∧Blk w2 e 94 (stV (kset s a (kofK n)))∧CSt w2 B g ks (.slice oa p.regs.length capa) (.slice oc p.code.length capc) vK p T wk∧Ext w w2:=by
  have hb:=Q3m bS hl Ha.out (kofK n)
  refine ⟨_,rfl,hb,?_,(X.out.setCell (p:=⟨e,_,none⟩) Hew.out _).setCell (p:=⟨e,_,none⟩) Hew.out _⟩
  exact H.out.ext ((X.out.setCell (p:=⟨e,_,none⟩) Hew.out _).setCell (p:=⟨e,_,none⟩) Hew.out _)
 obtain ⟨w2,hw2,hB⟩:=hw2
 have HB:=zh hB
 clear hB hx k1 k4  bS
 have bS:=HB.out.1
 have hu:Sok (kset s a (kofK n)):=Hs.out.set a (by exact Q9g n)
 have hld:Q0o p at_ s ⟨1,a,b,c,n⟩=[(at_+1,kset s a (kofK n))]:=by
  simp [Q0o,oneK]
 have Hld:=zh hld
 have hl0:=hl
 have hl:(kset s a (kofK n)).length=8:=by rw [Q4o];exact hl0
 have hel2:=bS.lt
 generalize kset s a (kofK n)=u at *
 clear hl0 hld
 go_wp2_with (first | ((with_reducible refine Q3c bS ?_ Tryz.underlying94 ?_ ?_ ?_);rfl;rfl;(rw [Q0v hl];exact infoState')) | fail)
 try rw [hw2]
 have C:=Q4x p (at_+1) u hu hcl (by omega) w2 HB.out.2.1
 rw [show ((at_+1:Nat):Int)=(at_:Int)+1 by omega] at C
 (with_reducible refine C.mono ?_)
 clear C
 rintro er w3 ⟨rfl,vK',P',T'⟩
 have HB2:=zh (Q4y HB.out.2.1 T')
 have HX2:=zh HB.out.2.2
 have P':=zh P'
 clear T' bS hw2 rr0 rr1
 go_wp2
 try refine bodyPost_end (results_none rfl _ _ _) rfl ?_
 refine ⟨rfl,vK',?_,Below.trans (Below.mono HX2.out H.out.size) HB2.out⟩
 rw [Hld.out]
 exact P'.out
set_option maxRecDepth 100000 in
set_option maxHeartbeats 4000000 in
theorem Qpt (hop:op=2) (hwl:wk.length≤999990) (w:World) (H:OneH p B g ks oa capa vK oc capc T wk at_ s op a b c n w) :
  Calls Tryz.prog 32 #[.pointer (some ⟨g,0,none⟩),.int .i64 (at_:Int),.agg (stV s)] w (Q55 p w B g ks (.slice oa p.regs.length capa) (.slice oc p.code.length capc) T wk (Q0o p at_ s ⟨op,a,b,c,n⟩)):=by
 obtain ⟨hs,hr,hcl,hat,hi,hok,hp,h⟩:=H
 obtain ⟨v1,v2,hv,hR,⟨-,oc',capc',bc,oo,hv2,hc1,hc2,hrow⟩⟩:=hp
 simp only [Value.agg.injEq,Array.mk.injEq,List.cons.injEq,and_true] at hv
 obtain ⟨rfl,rfl⟩:=hv
 simp only [Value.slice.injEq,true_and] at hv2
 obtain ⟨rfl,rfl⟩:=hv2
 have hix:=Q24 (cap:=capc) hrow.at_
 obtain ⟨e0,e1,e2,e3,e4⟩:=hrow.ins at_ hat
 have hgi:p.code.getD at_ default=⟨op,a,b,c,n⟩:=hi
 rw [hgi] at e0 e1 e2 e3 e4
 simp only at e0 e1 e2 e3 e4
 obtain ⟨-,c1,-,-⟩:=h.cells
 have hgl:=h.box.lt
 have hst:=Q13
 have H:=zh h
 have Hs:=zh hs
 have hl:=hs.len
 have HR:=zh hR
 have Hr:=zh hr
 have Hok:=zh hok
 have hbl:=Q0k e0
 simp only at hbl
 subst hop
 have ha:okIn 8 a=true:=by unfold Q04 at hok;simp [okIn] at hok ⊢;omega
 have hb:okIn 8 b=true:=by unfold Q04 at hok;simp [okIn] at hok ⊢;omega
 clear h hs hrow hi hgi hR hr hc1 hc2 hok
 go_enter Tryz.func32,Tryz.ntmps32
 go_upto_region 13 with fail
 obtain ⟨W,e,he,hW,hx,bS,bI⟩:=Q14 w (stV s) #[.int .i64 2,.int .i64 a,.int .i64 b,.int .i64 c,.int .i64 n] 94 41
 rw [hW,he]
 have X:=zh hx
 have HP:=zh (H.out.ext hx)
 have BS:=zh bS
 obtain ⟨i0,i1,i2,i3,i4⟩:=ins5 bI
 have Hew:=zh (show w.heap.size≤e by omega)
 have hel0:=bS.lt
 have hel1:=bI.lt
 have BI:=zh bI
 clear hW hx he e0 e1 e2 e3 e4 c1 bI hbl
 obtain ⟨a0,a1⟩:=Q0l.1 ha
 have Ha:=zh ha
 obtain ⟨b0,b1⟩:=Q0l.1 hb
 have Hb:=zh hb
 obtain ⟨⟨bx0,-⟩,⟨bx1,-⟩⟩:=Q1i bS hl Hb.out
 have k1:∀ Wx,Ext W Wx→Wx.cell? ⟨e+1,1,none⟩=some (.int .i64 a):=fun _ h=>h.kept i1
 have k2:∀ Wx,Ext W Wx→Wx.cell? ⟨e+1,2,none⟩=some (.int .i64 b):=fun _ h=>h.kept i2
 have mb:∀ Wx,Ext W Wx→Wx.cell? ⟨e,b.toNat * 2,none⟩=some (.int .i64 (kg s b).bits):=fun _ h=>h.kept bx0
 have nb:∀ Wx,Ext W Wx→Wx.cell? ⟨e,b.toNat * 2+1,none⟩=some (.bool (kg s b).sec):=fun _ h=>h.kept bx1
 clear i0 i1 i2 i3 i4 bx0 bx1 bS
 refine Q0j 6 (by kernel_rfl) (by kernel_rfl) ?_
 simp only [List.take_succ_cons,List.take_zero,List.drop_succ_cons,List.drop_zero]
 repeat (first | (refine Q0d ?_ ?_ ?_;(decide);(first | rfl | (focus (go_simp;done)));apply Exists.intro;refine ⟨fun wc hE=>?_,?_⟩;(go_simp;exact rfl);go_simp) | (refine Q0e ?_ ?_ ?_;(decide);(focus (go_simp;done));go_simp))
 refine Q0f ?_
 intro wy hx
 have X:=zh (X.out.trans hx)
 have HP:=zh (HP.out.ext hx)
 have bS:=BS.out.ext hx
 obtain ⟨rr0,rr1⟩:=Q1i bS hl Ha.out
 have hel:=bS.lt
 have hw2:∃ w2,(wy.setCell ⟨e,a.toNat * 2,none⟩ (.int .i64 ((kg s b).bits))).setCell ⟨e,a.toNat * 2+1,none⟩ (.bool ((kg s b).sec))=w2∧Blk w2 e 94 (stV (kset s a (kg s b)))∧CSt w2 B g ks (.slice oa p.regs.length capa) (.slice oc p.code.length capc) vK p T wk∧Ext w w2:=by
  have hb:=Q3m bS hl Ha.out (kg s b)
  refine ⟨_,rfl,hb,?_,(X.out.setCell (p:=⟨e,_,none⟩) Hew.out _).setCell (p:=⟨e,_,none⟩) Hew.out _⟩
  exact H.out.ext ((X.out.setCell (p:=⟨e,_,none⟩) Hew.out _).setCell (p:=⟨e,_,none⟩) Hew.out _)
 obtain ⟨w2,hw2,hB⟩:=hw2
 have HB:=zh hB
 clear hB hx k1 k2 mb nb bS
 have bS:=HB.out.1
 have hu:Sok (kset s a (kg s b)):=Hs.out.set a (by exact Hs.out.kg b)
 have hld:Q0o p at_ s ⟨2,a,b,c,n⟩=[(at_+1,kset s a (kg s b))]:=by
  simp [Q0o,oneK]
 have Hld:=zh hld
 have hl0:=hl
 have hl:(kset s a (kg s b)).length=8:=by rw [Q4o];exact hl0
 have hel2:=bS.lt
 generalize kset s a (kg s b)=u at *
 clear hl0 hld
 go_wp2_with (first | ((with_reducible refine Q3c bS ?_ Tryz.underlying94 ?_ ?_ ?_);rfl;rfl;(rw [Q0v hl];exact infoState')) | fail)
 try rw [hw2]
 have C:=Q4x p (at_+1) u hu hcl (by omega) w2 HB.out.2.1
 rw [show ((at_+1:Nat):Int)=(at_:Int)+1 by omega] at C
 (with_reducible refine C.mono ?_)
 clear C
 rintro er w3 ⟨rfl,vK',P',T'⟩
 have HB2:=zh (Q4y HB.out.2.1 T')
 have HX2:=zh HB.out.2.2
 have P':=zh P'
 clear T' bS hw2 rr0 rr1
 go_wp2
 try refine bodyPost_end (results_none rfl _ _ _) rfl ?_
 refine ⟨rfl,vK',?_,Below.trans (Below.mono HX2.out H.out.size) HB2.out⟩
 rw [Hld.out]
 exact P'.out
set_option maxRecDepth 100000 in
set_option maxHeartbeats 4000000 in
theorem Qq0 (hop:op=10) (hwl:wk.length≤999990) (w:World) (H:OneH p B g ks oa capa vK oc capc T wk at_ s op a b c n w) :
  Calls Tryz.prog 32 #[.pointer (some ⟨g,0,none⟩),.int .i64 (at_:Int),.agg (stV s)] w (Q55 p w B g ks (.slice oa p.regs.length capa) (.slice oc p.code.length capc) T wk (Q0o p at_ s ⟨op,a,b,c,n⟩)):=by
 obtain ⟨hs,hr,hcl,hat,hi,hok,hp,h⟩:=H
 obtain ⟨v1,v2,hv,hR,⟨-,oc',capc',bc,oo,hv2,hc1,hc2,hrow⟩⟩:=hp
 simp only [Value.agg.injEq,Array.mk.injEq,List.cons.injEq,and_true] at hv
 obtain ⟨rfl,rfl⟩:=hv
 simp only [Value.slice.injEq,true_and] at hv2
 obtain ⟨rfl,rfl⟩:=hv2
 have hix:=Q24 (cap:=capc) hrow.at_
 obtain ⟨e0,e1,e2,e3,e4⟩:=hrow.ins at_ hat
 have hgi:p.code.getD at_ default=⟨op,a,b,c,n⟩:=hi
 rw [hgi] at e0 e1 e2 e3 e4
 simp only at e0 e1 e2 e3 e4
 obtain ⟨-,c1,-,-⟩:=h.cells
 have hgl:=h.box.lt
 have hst:=Q13
 have H:=zh h
 have Hs:=zh hs
 have hl:=hs.len
 have HR:=zh hR
 have Hr:=zh hr
 have Hok:=zh hok
 have hbl:=Q0k e0
 simp only at hbl
 subst hop
 have ha:okIn 8 a=true:=by unfold Q04 at hok;simp [okIn] at hok ⊢;omega
 have hb:okIn 8 b=true:=by unfold Q04 at hok;simp [okIn] at hok ⊢;omega
 clear h hs hrow hi hgi hR hr hc1 hc2 hok
 go_enter Tryz.func32,Tryz.ntmps32
 go_upto_region 15 with fail
 obtain ⟨W,e,he,hW,hx,bS,bI⟩:=Q14 w (stV s) #[.int .i64 10,.int .i64 a,.int .i64 b,.int .i64 c,.int .i64 n] 94 41
 rw [hW,he]
 have X:=zh hx
 have HP:=zh (H.out.ext hx)
 have BS:=zh bS
 obtain ⟨i0,i1,i2,i3,i4⟩:=ins5 bI
 have Hew:=zh (show w.heap.size≤e by omega)
 have hel0:=bS.lt
 have hel1:=bI.lt
 have BI:=zh bI
 clear hW hx he e0 e1 e2 e3 e4 c1 bI hbl
 obtain ⟨a0,a1⟩:=Q0l.1 ha
 have Ha:=zh ha
 obtain ⟨b0,b1⟩:=Q0l.1 hb
 have Hb:=zh hb
 obtain ⟨⟨bx0,-⟩,⟨bx1,-⟩⟩:=Q1i bS hl Hb.out
 have k1:∀ Wx,Ext W Wx→Wx.cell? ⟨e+1,1,none⟩=some (.int .i64 a):=fun _ h=>h.kept i1
 have k2:∀ Wx,Ext W Wx→Wx.cell? ⟨e+1,2,none⟩=some (.int .i64 b):=fun _ h=>h.kept i2
 have k4:∀ Wx,Ext W Wx→Wx.cell? ⟨e+1,4,none⟩=some (.int .i64 n):=fun _ h=>h.kept i4
 have mb:∀ Wx,Ext W Wx→Wx.cell? ⟨e,b.toNat * 2,none⟩=some (.int .i64 (kg s b).bits):=fun _ h=>h.kept bx0
 have nb:∀ Wx,Ext W Wx→Wx.cell? ⟨e,b.toNat * 2+1,none⟩=some (.bool (kg s b).sec):=fun _ h=>h.kept bx1
 clear i0 i1 i2 i3 i4 bx0 bx1 bS
 refine Q0j 9 (by kernel_rfl) (by kernel_rfl) ?_
 simp only [List.take_succ_cons,List.take_zero,List.drop_succ_cons,List.drop_zero]
 repeat (first | (refine Q0d ?_ ?_ ?_;(decide);(first | rfl | (focus (go_simp;done)));apply Exists.intro;refine ⟨fun wc hE=>?_,?_⟩;(go_simp;exact rfl);go_simp) | (refine Q2g ?_ ?_ ?_;(decide);(first | rfl | (focus (go_simp;done)));apply Exists.intro;refine ⟨fun wc hE=>?_,?_⟩;(go_simp;(first | (with_reducible exact Q26 (sum_c' (kg s b) n _))));go_simp) | (refine Q0e ?_ ?_ ?_;(decide);(focus (go_simp;done));go_simp))
 refine Q0f ?_
 intro wy hx
 have X:=zh (X.out.trans hx)
 have HP:=zh (HP.out.ext hx)
 have bS:=BS.out.ext hx
 obtain ⟨rr0,rr1⟩:=Q1i bS hl Ha.out
 have hel:=bS.lt
 have hw2:∃ w2,(wy.setCell ⟨e,a.toNat * 2,none⟩ (.int .i64 ((ksum (kg s b) n).bits))).setCell ⟨e,a.toNat * 2+1,none⟩ (.bool ((ksum (kg s b) n).sec))=w2∧Blk w2 e 94 (stV (kset s a (ksum (kg s b) n)))∧CSt w2 B g ks (.slice oa p.regs.length capa) (.slice oc p.code.length capc) vK p T wk∧Ext w w2:=by
  have hb:=Q3m bS hl Ha.out (ksum (kg s b) n)
  refine ⟨_,rfl,hb,?_,(X.out.setCell (p:=⟨e,_,none⟩) Hew.out _).setCell (p:=⟨e,_,none⟩) Hew.out _⟩
  exact H.out.ext ((X.out.setCell (p:=⟨e,_,none⟩) Hew.out _).setCell (p:=⟨e,_,none⟩) Hew.out _)
 obtain ⟨w2,hw2,hB⟩:=hw2
 have HB:=zh hB
 clear hB hx k1 k2 k4 mb nb bS
 have bS:=HB.out.1
 have hu:Sok (kset s a (ksum (kg s b) n)):=Hs.out.set a (by exact Qj8 _ _)
 have hld:Q0o p at_ s ⟨10,a,b,c,n⟩=[(at_+1,kset s a (ksum (kg s b) n))]:=by
  simp [Q0o,oneK]
 have Hld:=zh hld
 have hl0:=hl
 have hl:(kset s a (ksum (kg s b) n)).length=8:=by rw [Q4o];exact hl0
 have hel2:=bS.lt
 generalize kset s a (ksum (kg s b) n)=u at *
 clear hl0 hld
 go_wp2_with (first | ((with_reducible refine Q3c bS ?_ Tryz.underlying94 ?_ ?_ ?_);rfl;rfl;(rw [Q0v hl];exact infoState')) | fail)
 try rw [hw2]
 have C:=Q4x p (at_+1) u hu hcl (by omega) w2 HB.out.2.1
 rw [show ((at_+1:Nat):Int)=(at_:Int)+1 by omega] at C
 (with_reducible refine C.mono ?_)
 clear C
 rintro er w3 ⟨rfl,vK',P',T'⟩
 have HB2:=zh (Q4y HB.out.2.1 T')
 have HX2:=zh HB.out.2.2
 have P':=zh P'
 clear T' bS hw2 rr0 rr1
 go_wp2
 try refine bodyPost_end (results_none rfl _ _ _) rfl ?_
 refine ⟨rfl,vK',?_,Below.trans (Below.mono HX2.out H.out.size) HB2.out⟩
 rw [Hld.out]
 exact P'.out
set_option maxRecDepth 100000 in
set_option maxHeartbeats 4000000 in
theorem Qpu (hop:op=11) (hwl:wk.length≤999990) (w:World) (H:OneH p B g ks oa capa vK oc capc T wk at_ s op a b c n w) :
  Calls Tryz.prog 32 #[.pointer (some ⟨g,0,none⟩),.int .i64 (at_:Int),.agg (stV s)] w (Q55 p w B g ks (.slice oa p.regs.length capa) (.slice oc p.code.length capc) T wk (Q0o p at_ s ⟨op,a,b,c,n⟩)):=by
 obtain ⟨hs,hr,hcl,hat,hi,hok,hp,h⟩:=H
 obtain ⟨v1,v2,hv,hR,⟨-,oc',capc',bc,oo,hv2,hc1,hc2,hrow⟩⟩:=hp
 simp only [Value.agg.injEq,Array.mk.injEq,List.cons.injEq,and_true] at hv
 obtain ⟨rfl,rfl⟩:=hv
 simp only [Value.slice.injEq,true_and] at hv2
 obtain ⟨rfl,rfl⟩:=hv2
 have hix:=Q24 (cap:=capc) hrow.at_
 obtain ⟨e0,e1,e2,e3,e4⟩:=hrow.ins at_ hat
 have hgi:p.code.getD at_ default=⟨op,a,b,c,n⟩:=hi
 rw [hgi] at e0 e1 e2 e3 e4
 simp only at e0 e1 e2 e3 e4
 obtain ⟨-,c1,-,-⟩:=h.cells
 have hgl:=h.box.lt
 have hst:=Q13
 have H:=zh h
 have Hs:=zh hs
 have hl:=hs.len
 have HR:=zh hR
 have Hr:=zh hr
 have Hok:=zh hok
 have hbl:=Q0k e0
 simp only at hbl
 subst hop
 have ha:okIn 8 a=true:=by unfold Q04 at hok;simp [okIn] at hok ⊢;omega
 have hn:1≤n∧n≤64:=by unfold Q04 at hok;simp [okIn] at hok;omega
 have hsub:IntKind.i64.wrap (n - 1)=n - 1:=Go.IntWalk.i64_in _ (by omega)
 clear h hs hrow hi hgi hR hr hc1 hc2 hok
 go_enter Tryz.func32,Tryz.ntmps32
 go_upto_region 20 with fail
 obtain ⟨W,e,he,hW,hx,bS,bI⟩:=Q14 w (stV s) #[.int .i64 11,.int .i64 a,.int .i64 b,.int .i64 c,.int .i64 n] 94 41
 rw [hW,he]
 have X:=zh hx
 have HP:=zh (H.out.ext hx)
 have BS:=zh bS
 obtain ⟨i0,i1,i2,i3,i4⟩:=ins5 bI
 have Hew:=zh (show w.heap.size≤e by omega)
 have hel0:=bS.lt
 have hel1:=bI.lt
 have BI:=zh bI
 clear hW hx he e0 e1 e2 e3 e4 c1 bI hbl
 obtain ⟨a0,a1⟩:=Q0l.1 ha
 have Ha:=zh ha
 obtain ⟨⟨ax0,-⟩,⟨ax1,-⟩⟩:=Q1i bS hl Ha.out
 have k1:∀ Wx,Ext W Wx→Wx.cell? ⟨e+1,1,none⟩=some (.int .i64 a):=fun _ h=>h.kept i1
 have k4:∀ Wx,Ext W Wx→Wx.cell? ⟨e+1,4,none⟩=some (.int .i64 n):=fun _ h=>h.kept i4
 have ma:∀ Wx,Ext W Wx→Wx.cell? ⟨e,a.toNat * 2,none⟩=some (.int .i64 (kg s a).bits):=fun _ h=>h.kept ax0
 have na:∀ Wx,Ext W Wx→Wx.cell? ⟨e,a.toNat * 2+1,none⟩=some (.bool (kg s a).sec):=fun _ h=>h.kept ax1
 clear i0 i1 i2 i3 i4 ax0 ax1 bS
 refine Q0j 11 (by kernel_rfl) (by kernel_rfl) ?_
 simp only [List.take_succ_cons,List.take_zero,List.drop_succ_cons,List.drop_zero]
 repeat (first | (refine Q0d ?_ ?_ ?_;(decide);(first | rfl | (focus (go_simp;done)));apply Exists.intro;refine ⟨fun wc hE=>?_,?_⟩;(go_simp;exact rfl);go_simp) | (refine Q2g ?_ ?_ ?_;(decide);(first | rfl | (focus (go_simp;done)));apply Exists.intro;refine ⟨fun wc hE=>?_,?_⟩;(go_simp;(first | (with_reducible exact Q26 (Qec (n - 1) _)) | (with_reducible exact Q26 (Q6z (kg s a).bits (kof (n - 1)) (kg s a).sec false _))));go_simp) | (refine Q0e ?_ ?_ ?_;(decide);(focus (go_simp;done));go_simp))
 refine Q0f ?_
 intro wy hx
 have X:=zh (X.out.trans hx)
 have HP:=zh (HP.out.ext hx)
 have bS:=BS.out.ext hx
 obtain ⟨rr0,rr1⟩:=Q1i bS hl Ha.out
 have hel:=bS.lt
 have hw2:∃ w2,(wy.setCell ⟨e,a.toNat * 2,none⟩ (.int .i64 (min (nrm (kg s a).bits) (nrm (kof (n - 1)))))).setCell ⟨e,a.toNat * 2+1,none⟩ (.bool ((kg s a).sec))=w2∧Blk w2 e 94 (stV (kset s a (Q0w (kg s a) (kofK (n - 1)))))∧CSt w2 B g ks (.slice oa p.regs.length capa) (.slice oc p.code.length capc) vK p T wk∧Ext w w2:=by
  have hb:=Q3m bS hl Ha.out (Q0w (kg s a) (kofK (n - 1)))
  refine ⟨_,rfl,hb,?_,(X.out.setCell (p:=⟨e,_,none⟩) Hew.out _).setCell (p:=⟨e,_,none⟩) Hew.out _⟩
  exact H.out.ext ((X.out.setCell (p:=⟨e,_,none⟩) Hew.out _).setCell (p:=⟨e,_,none⟩) Hew.out _)
 obtain ⟨w2,hw2,hB⟩:=hw2
 have HB:=zh hB
 clear hB hx k1 k4 ma na bS
 have bS:=HB.out.1
 have hu:Sok (kset s a (Q0w (kg s a) (kofK (n - 1)))):=Hs.out.set a (by exact Qbv _ _)
 have hld:Q0o p at_ s ⟨11,a,b,c,n⟩=[(at_+1,kset s a (Q0w (kg s a) (kofK (n - 1))))]:=by
  simp [Q0o,oneK]
 have Hld:=zh hld
 have hl0:=hl
 have hl:(kset s a (Q0w (kg s a) (kofK (n - 1)))).length=8:=by rw [Q4o];exact hl0
 have hel2:=bS.lt
 generalize kset s a (Q0w (kg s a) (kofK (n - 1)))=u at *
 clear hl0 hld
 go_wp2_with (first | ((with_reducible refine Q3c bS ?_ Tryz.underlying94 ?_ ?_ ?_);rfl;rfl;(rw [Q0v hl];exact infoState')) | fail)
 try rw [hw2]
 have C:=Q4x p (at_+1) u hu hcl (by omega) w2 HB.out.2.1
 rw [show ((at_+1:Nat):Int)=(at_:Int)+1 by omega] at C
 (with_reducible refine C.mono ?_)
 clear C
 rintro er w3 ⟨rfl,vK',P',T'⟩
 have HB2:=zh (Q4y HB.out.2.1 T')
 have HX2:=zh HB.out.2.2
 have P':=zh P'
 clear T' bS hw2 rr0 rr1
 go_wp2
 try refine bodyPost_end (results_none rfl _ _ _) rfl ?_
 refine ⟨rfl,vK',?_,Below.trans (Below.mono HX2.out H.out.size) HB2.out⟩
 rw [Hld.out]
 exact P'.out
set_option maxRecDepth 100000 in
set_option maxHeartbeats 4000000 in
theorem Qpw (hop:op=3) (hwl:wk.length≤999990) (w:World) (H:OneH p B g ks oa capa vK oc capc T wk at_ s op a b c n w) :
  Calls Tryz.prog 32 #[.pointer (some ⟨g,0,none⟩),.int .i64 (at_:Int),.agg (stV s)] w (Q55 p w B g ks (.slice oa p.regs.length capa) (.slice oc p.code.length capc) T wk (Q0o p at_ s ⟨op,a,b,c,n⟩)):=by
 obtain ⟨hs,hr,hcl,hat,hi,hok,hp,h⟩:=H
 obtain ⟨v1,v2,hv,hR,⟨-,oc',capc',bc,oo,hv2,hc1,hc2,hrow⟩⟩:=hp
 simp only [Value.agg.injEq,Array.mk.injEq,List.cons.injEq,and_true] at hv
 obtain ⟨rfl,rfl⟩:=hv
 simp only [Value.slice.injEq,true_and] at hv2
 obtain ⟨rfl,rfl⟩:=hv2
 have hix:=Q24 (cap:=capc) hrow.at_
 obtain ⟨e0,e1,e2,e3,e4⟩:=hrow.ins at_ hat
 have hgi:p.code.getD at_ default=⟨op,a,b,c,n⟩:=hi
 rw [hgi] at e0 e1 e2 e3 e4
 simp only at e0 e1 e2 e3 e4
 obtain ⟨-,c1,-,-⟩:=h.cells
 have hgl:=h.box.lt
 have hst:=Q13
 have H:=zh h
 have Hs:=zh hs
 have hl:=hs.len
 have Hr:=zh hr
 have Hok:=zh hok
 have hbl:=Q0k e0
 simp only at hbl
 subst hop
 have ha:okIn 8 a=true:=by unfold Q04 at hok;simp [okIn] at hok ⊢;omega
 obtain ⟨hc0,hc1'⟩:=Q5s hok (by unfold Q0q Q1m;simp)
 simp only at hc0 hc1'
 obtain ⟨-,oa',capa',br,orr,hv3,hd1,hd2,hrow2⟩:=hR
 simp only [Value.slice.injEq,true_and] at hv3
 obtain ⟨rfl,rfl⟩:=hv3
 obtain ⟨-,rsec⟩:=hrow2.reg c.toNat hc1'
 have hixr:=Q50 (cap:=capa) hrow2.at_
 have hlen:=Q4g hr
 have hcl2:c < (p.regs.length:Int):=by omega
 have hrf:p.regs.getD c.toNat default=Q11 p ⟨3,a,b,c,n⟩:=rfl
 rw [hrf] at rsec
 clear h hs hrow hi hgi hr hc1 hrow2 hd1 hd2 hrf hc2 hok
 go_enter Tryz.func32,Tryz.ntmps32
 go_upto_region 18 with fail
 obtain ⟨W,e,he,hW,hx,bS,bI⟩:=Q14 w (stV s) #[.int .i64 3,.int .i64 a,.int .i64 b,.int .i64 c,.int .i64 n] 94 41
 rw [hW,he]
 have X:=zh hx
 have HP:=zh (H.out.ext hx)
 have BS:=zh bS
 obtain ⟨i0,i1,i2,i3,i4⟩:=ins5 bI
 have Hew:=zh (show w.heap.size≤e by omega)
 have hel0:=bS.lt
 have hel1:=bI.lt
 have BI:=zh bI
 clear hW hx he e0 e1 e2 e3 e4 c1 bI hbl
 obtain ⟨a0,a1⟩:=Q0l.1 ha
 have Ha:=zh ha
 have k1:∀ Wx,Ext W Wx→Wx.cell? ⟨e+1,1,none⟩=some (.int .i64 a):=fun _ h=>h.kept i1
 have k3:∀ Wx,Ext W Wx→Wx.cell? ⟨e+1,3,none⟩=some (.int .i64 c):=fun _ h=>h.kept i3
 have kg0:∀ Wx,Ext W Wx→Wx.cell? ⟨g,0,none⟩=some (.slice oa p.regs.length capa):=fun _ h=>h.kept HP.out.cells.1.1
 have kr1:∀ Wx,Ext W Wx→Wx.cell? ⟨br,orr+c.toNat * 2+1,none⟩=some (.bool (Q11 p ⟨3,a,b,c,n⟩).secret):=fun _ h=>h.kept (X.out.kept rsec)
 clear i0 i1 i2 i3 i4 bS rsec
 refine Q0j 13 (by kernel_rfl) (by kernel_rfl) ?_
 simp only [List.take_succ_cons,List.take_zero,List.drop_succ_cons,List.drop_zero]
 repeat (first | (refine Q0d ?_ ?_ ?_;(decide);(first | rfl | (focus (go_simp;done)));apply Exists.intro;refine ⟨fun wc hE=>?_,?_⟩;(go_simp;exact rfl);go_simp) | (refine Q0e ?_ ?_ ?_;(decide);(focus (go_simp;done));go_simp))
 refine Q0f ?_
 intro wy hx
 have X:=zh (X.out.trans hx)
 have HP:=zh (HP.out.ext hx)
 have bS:=BS.out.ext hx
 obtain ⟨rr0,rr1⟩:=Q1i bS hl Ha.out
 have hel:=bS.lt
 have hw2:∃ w2,(wy.setCell ⟨e,a.toNat * 2,none⟩ (.int .i64 (17))).setCell ⟨e,a.toNat * 2+1,none⟩ (.bool ((Q11 p ⟨3,a,b,c,n⟩).secret))=w2∧Blk w2 e 94 (stV (kset s a ⟨17,(Q11 p ⟨3,a,b,c,n⟩).secret⟩))∧CSt w2 B g ks (.slice oa p.regs.length capa) (.slice oc p.code.length capc) vK p T wk∧Ext w w2:=by
  have hb:=Q3m bS hl Ha.out ⟨17,(Q11 p ⟨3,a,b,c,n⟩).secret⟩
  refine ⟨_,rfl,hb,?_,(X.out.setCell (p:=⟨e,_,none⟩) Hew.out _).setCell (p:=⟨e,_,none⟩) Hew.out _⟩
  exact H.out.ext ((X.out.setCell (p:=⟨e,_,none⟩) Hew.out _).setCell (p:=⟨e,_,none⟩) Hew.out _)
 obtain ⟨w2,hw2,hB⟩:=hw2
 have HB:=zh hB
 clear hB hx k1 k3 kg0 kr1 bS
 have bS:=HB.out.1
 have hu:Sok (kset s a ⟨17,(Q11 p ⟨3,a,b,c,n⟩).secret⟩):=Hs.out.set a (by exact ⟨by simp,by simp⟩)
 have hld:Q0o p at_ s ⟨3,a,b,c,n⟩=[(at_+1,kset s a ⟨17,(Q11 p ⟨3,a,b,c,n⟩).secret⟩)]:=by
  simp [Q0o,oneK]
 have Hld:=zh hld
 have hl0:=hl
 have hl:(kset s a ⟨17,(Q11 p ⟨3,a,b,c,n⟩).secret⟩).length=8:=by rw [Q4o];exact hl0
 have hel2:=bS.lt
 generalize kset s a ⟨17,(Q11 p ⟨3,a,b,c,n⟩).secret⟩=u at *
 clear hl0 hld
 go_wp2_with (first | ((with_reducible refine Q3c bS ?_ Tryz.underlying94 ?_ ?_ ?_);rfl;rfl;(rw [Q0v hl];exact infoState')) | fail)
 try rw [hw2]
 have C:=Q4x p (at_+1) u hu hcl (by omega) w2 HB.out.2.1
 rw [show ((at_+1:Nat):Int)=(at_:Int)+1 by omega] at C
 (with_reducible refine C.mono ?_)
 clear C
 rintro er w3 ⟨rfl,vK',P',T'⟩
 have HB2:=zh (Q4y HB.out.2.1 T')
 have HX2:=zh HB.out.2.2
 have P':=zh P'
 clear T' bS hw2 rr0 rr1
 go_wp2
 try refine bodyPost_end (results_none rfl _ _ _) rfl ?_
 refine ⟨rfl,vK',?_,Below.trans (Below.mono HX2.out H.out.size) HB2.out⟩
 rw [Hld.out]
 exact P'.out
set_option maxRecDepth 100000 in
set_option maxHeartbeats 4000000 in
theorem Qpv (hop:op=5) (hwl:wk.length≤999990) (w:World) (H:OneH p B g ks oa capa vK oc capc T wk at_ s op a b c n w) :
  Calls Tryz.prog 32 #[.pointer (some ⟨g,0,none⟩),.int .i64 (at_:Int),.agg (stV s)] w (Q55 p w B g ks (.slice oa p.regs.length capa) (.slice oc p.code.length capc) T wk (Q0o p at_ s ⟨op,a,b,c,n⟩)):=by
 obtain ⟨hs,hr,hcl,hat,hi,hok,hp,h⟩:=H
 obtain ⟨v1,v2,hv,hR,⟨-,oc',capc',bc,oo,hv2,hc1,hc2,hrow⟩⟩:=hp
 simp only [Value.agg.injEq,Array.mk.injEq,List.cons.injEq,and_true] at hv
 obtain ⟨rfl,rfl⟩:=hv
 simp only [Value.slice.injEq,true_and] at hv2
 obtain ⟨rfl,rfl⟩:=hv2
 have hix:=Q24 (cap:=capc) hrow.at_
 obtain ⟨e0,e1,e2,e3,e4⟩:=hrow.ins at_ hat
 have hgi:p.code.getD at_ default=⟨op,a,b,c,n⟩:=hi
 rw [hgi] at e0 e1 e2 e3 e4
 simp only at e0 e1 e2 e3 e4
 obtain ⟨-,c1,-,-⟩:=h.cells
 have hgl:=h.box.lt
 have hst:=Q13
 have H:=zh h
 have Hs:=zh hs
 have hl:=hs.len
 have Hr:=zh hr
 have Hok:=zh hok
 have hbl:=Q0k e0
 simp only at hbl
 subst hop
 have ha:okIn 8 a=true:=by unfold Q04 at hok;simp [okIn] at hok ⊢;omega
 obtain ⟨hc0,hc1'⟩:=Q5s hok (by unfold Q0q Q1m;simp)
 simp only at hc0 hc1'
 obtain ⟨-,oa',capa',br,orr,hv3,hd1,hd2,hrow2⟩:=hR
 simp only [Value.slice.injEq,true_and] at hv3
 obtain ⟨rfl,rfl⟩:=hv3
 obtain ⟨-,rsec⟩:=hrow2.reg c.toNat hc1'
 have hixr:=Q50 (cap:=capa) hrow2.at_
 have hlen:=Q4g hr
 have hcl2:c < (p.regs.length:Int):=by omega
 have hrf:p.regs.getD c.toNat default=Q11 p ⟨5,a,b,c,n⟩:=rfl
 rw [hrf] at rsec
 clear h hs hrow hi hgi hr hc1 hrow2 hd1 hd2 hrf hc2 hok
 go_enter Tryz.func32,Tryz.ntmps32
 go_upto_region 18 with fail
 obtain ⟨W,e,he,hW,hx,bS,bI⟩:=Q14 w (stV s) #[.int .i64 5,.int .i64 a,.int .i64 b,.int .i64 c,.int .i64 n] 94 41
 rw [hW,he]
 have X:=zh hx
 have HP:=zh (H.out.ext hx)
 have BS:=zh bS
 obtain ⟨i0,i1,i2,i3,i4⟩:=ins5 bI
 have Hew:=zh (show w.heap.size≤e by omega)
 have hel0:=bS.lt
 have hel1:=bI.lt
 have BI:=zh bI
 clear hW hx he e0 e1 e2 e3 e4 c1 bI hbl
 obtain ⟨a0,a1⟩:=Q0l.1 ha
 have Ha:=zh ha
 have k1:∀ Wx,Ext W Wx→Wx.cell? ⟨e+1,1,none⟩=some (.int .i64 a):=fun _ h=>h.kept i1
 have k3:∀ Wx,Ext W Wx→Wx.cell? ⟨e+1,3,none⟩=some (.int .i64 c):=fun _ h=>h.kept i3
 have kg0:∀ Wx,Ext W Wx→Wx.cell? ⟨g,0,none⟩=some (.slice oa p.regs.length capa):=fun _ h=>h.kept HP.out.cells.1.1
 have kr1:∀ Wx,Ext W Wx→Wx.cell? ⟨br,orr+c.toNat * 2+1,none⟩=some (.bool (Q11 p ⟨5,a,b,c,n⟩).secret):=fun _ h=>h.kept (X.out.kept rsec)
 clear i0 i1 i2 i3 i4 bS rsec
 refine Q0j 13 (by kernel_rfl) (by kernel_rfl) ?_
 simp only [List.take_succ_cons,List.take_zero,List.drop_succ_cons,List.drop_zero]
 repeat (first | (refine Q0d ?_ ?_ ?_;(decide);(first | rfl | (focus (go_simp;done)));apply Exists.intro;refine ⟨fun wc hE=>?_,?_⟩;(go_simp;exact rfl);go_simp) | (refine Q0e ?_ ?_ ?_;(decide);(focus (go_simp;done));go_simp))
 refine Q0f ?_
 intro wy hx
 have X:=zh (X.out.trans hx)
 have HP:=zh (HP.out.ext hx)
 have bS:=BS.out.ext hx
 obtain ⟨rr0,rr1⟩:=Q1i bS hl Ha.out
 have hel:=bS.lt
 have hw2:∃ w2,(wy.setCell ⟨e,a.toNat * 2,none⟩ (.int .i64 (17))).setCell ⟨e,a.toNat * 2+1,none⟩ (.bool ((Q11 p ⟨5,a,b,c,n⟩).secret))=w2∧Blk w2 e 94 (stV (kset s a ⟨17,(Q11 p ⟨5,a,b,c,n⟩).secret⟩))∧CSt w2 B g ks (.slice oa p.regs.length capa) (.slice oc p.code.length capc) vK p T wk∧Ext w w2:=by
  have hb:=Q3m bS hl Ha.out ⟨17,(Q11 p ⟨5,a,b,c,n⟩).secret⟩
  refine ⟨_,rfl,hb,?_,(X.out.setCell (p:=⟨e,_,none⟩) Hew.out _).setCell (p:=⟨e,_,none⟩) Hew.out _⟩
  exact H.out.ext ((X.out.setCell (p:=⟨e,_,none⟩) Hew.out _).setCell (p:=⟨e,_,none⟩) Hew.out _)
 obtain ⟨w2,hw2,hB⟩:=hw2
 have HB:=zh hB
 clear hB hx k1 k3 kg0 kr1 bS
 have bS:=HB.out.1
 have hu:Sok (kset s a ⟨17,(Q11 p ⟨5,a,b,c,n⟩).secret⟩):=Hs.out.set a (by exact ⟨by simp,by simp⟩)
 have hld:Q0o p at_ s ⟨5,a,b,c,n⟩=[(at_+1,kset s a ⟨17,(Q11 p ⟨5,a,b,c,n⟩).secret⟩)]:=by
  simp [Q0o,oneK]
 have Hld:=zh hld
 have hl0:=hl
 have hl:(kset s a ⟨17,(Q11 p ⟨5,a,b,c,n⟩).secret⟩).length=8:=by rw [Q4o];exact hl0
 have hel2:=bS.lt
 generalize kset s a ⟨17,(Q11 p ⟨5,a,b,c,n⟩).secret⟩=u at *
 clear hl0 hld
 go_wp2_with (first | ((with_reducible refine Q3c bS ?_ Tryz.underlying94 ?_ ?_ ?_);rfl;rfl;(rw [Q0v hl];exact infoState')) | fail)
 try rw [hw2]
 have C:=Q4x p (at_+1) u hu hcl (by omega) w2 HB.out.2.1
 rw [show ((at_+1:Nat):Int)=(at_:Int)+1 by omega] at C
 (with_reducible refine C.mono ?_)
 clear C
 rintro er w3 ⟨rfl,vK',P',T'⟩
 have HB2:=zh (Q4y HB.out.2.1 T')
 have HX2:=zh HB.out.2.2
 have P':=zh P'
 clear T' bS hw2 rr0 rr1
 go_wp2
 try refine bodyPost_end (results_none rfl _ _ _) rfl ?_
 refine ⟨rfl,vK',?_,Below.trans (Below.mono HX2.out H.out.size) HB2.out⟩
 rw [Hld.out]
 exact P'.out
set_option maxRecDepth 100000 in
set_option maxHeartbeats 4000000 in
theorem Qps (hop:13≤op) (hwl:wk.length≤999990) (w:World) (H:OneH p B g ks oa capa vK oc capc T wk at_ s op a b c n w) :
  Calls Tryz.prog 32 #[.pointer (some ⟨g,0,none⟩),.int .i64 (at_:Int),.agg (stV s)] w (Q55 p w B g ks (.slice oa p.regs.length capa) (.slice oc p.code.length capc) T wk (Q0o p at_ s ⟨op,a,b,c,n⟩)):=by
 obtain ⟨hs,hr,hcl,hat,hi,hok,hp,h⟩:=H
 obtain ⟨v1,v2,hv,hR,⟨-,oc',capc',bc,oo,hv2,hc1,hc2,hrow⟩⟩:=hp
 simp only [Value.agg.injEq,Array.mk.injEq,List.cons.injEq,and_true] at hv
 obtain ⟨rfl,rfl⟩:=hv
 simp only [Value.slice.injEq,true_and] at hv2
 obtain ⟨rfl,rfl⟩:=hv2
 have hix:=Q24 (cap:=capc) hrow.at_
 obtain ⟨e0,e1,e2,e3,e4⟩:=hrow.ins at_ hat
 have hgi:p.code.getD at_ default=⟨op,a,b,c,n⟩:=hi
 rw [hgi] at e0 e1 e2 e3 e4
 simp only at e0 e1 e2 e3 e4
 obtain ⟨-,c1,-,-⟩:=h.cells
 have hgl:=h.box.lt
 have hst:=Q13
 have H:=zh h
 have Hs:=zh hs
 have hl:=hs.len
 have HR:=zh hR
 have Hr:=zh hr
 have Hok:=zh hok
 have hbl:=Q0k e0
 simp only at hbl
 have hh:=Qsr hok hop
 obtain ⟨ha,hb,hc,hop1,hop2⟩:=hh
 have hsub:IntKind.i64.wrap (op - 20)=op - 20:=Go.IntWalk.i64_in _ (by omega)
 have hq1:(op == (1:Int))=false:=by simp;omega
 have hq2:(op == (2:Int))=false:=by simp;omega
 have hq3:(op == (3:Int))=false:=by simp;omega
 have hq4:(op == (4:Int))=false:=by simp;omega
 have hq5:(op == (5:Int))=false:=by simp;omega
 have hq6:(op == (6:Int))=false:=by simp;omega
 have hq7:(op == (7:Int))=false:=by simp;omega
 have hq8:(op == (8:Int))=false:=by simp;omega
 have hq9:(op == (9:Int))=false:=by simp;omega
 have hq10:(op == (10:Int))=false:=by simp;omega
 have hq11:(op == (11:Int))=false:=by simp;omega
 have hq12:(op == (12:Int))=false:=by simp;omega
 clear h hs hrow hi hgi hR hr hc1 hc2 hok
 go_enter Tryz.func32,Tryz.ntmps32
 go_upto_region 3 with fail
 obtain ⟨W,e,he,hW,hx,bS,bI⟩:=Q14 w (stV s) #[.int .i64 op,.int .i64 a,.int .i64 b,.int .i64 c,.int .i64 n] 94 41
 rw [hW,he]
 have X:=zh hx
 have HP:=zh (H.out.ext hx)
 have BS:=zh bS
 obtain ⟨i0,i1,i2,i3,i4⟩:=ins5 bI
 have Hew:=zh (show w.heap.size≤e by omega)
 have hel0:=bS.lt
 have hel1:=bI.lt
 have BI:=zh bI
 clear hW hx he e0 e1 e2 e3 e4 c1 bI hbl
 obtain ⟨a0,a1⟩:=Q0l.1 ha
 have Ha:=zh ha
 obtain ⟨b0,b1⟩:=Q0l.1 hb
 have Hb:=zh hb
 obtain ⟨c0,c1⟩:=Q0l.1 hc
 have Hc:=zh hc
 obtain ⟨⟨bx0,-⟩,⟨bx1,-⟩⟩:=Q1i bS hl Hb.out
 obtain ⟨⟨cx0,-⟩,⟨cx1,-⟩⟩:=Q1i bS hl Hc.out
 have k0:∀ Wx,Ext W Wx→Wx.cell? ⟨e+1,0,none⟩=some (.int .i64 op):=fun _ h=>h.kept i0
 have k1:∀ Wx,Ext W Wx→Wx.cell? ⟨e+1,1,none⟩=some (.int .i64 a):=fun _ h=>h.kept i1
 have k2:∀ Wx,Ext W Wx→Wx.cell? ⟨e+1,2,none⟩=some (.int .i64 b):=fun _ h=>h.kept i2
 have k3:∀ Wx,Ext W Wx→Wx.cell? ⟨e+1,3,none⟩=some (.int .i64 c):=fun _ h=>h.kept i3
 have mb:∀ Wx,Ext W Wx→Wx.cell? ⟨e,b.toNat * 2,none⟩=some (.int .i64 (kg s b).bits):=fun _ h=>h.kept bx0
 have nb:∀ Wx,Ext W Wx→Wx.cell? ⟨e,b.toNat * 2+1,none⟩=some (.bool (kg s b).sec):=fun _ h=>h.kept bx1
 have mc:∀ Wx,Ext W Wx→Wx.cell? ⟨e,c.toNat * 2,none⟩=some (.int .i64 (kg s c).bits):=fun _ h=>h.kept cx0
 have nc:∀ Wx,Ext W Wx→Wx.cell? ⟨e,c.toNat * 2+1,none⟩=some (.bool (kg s c).sec):=fun _ h=>h.kept cx1
 clear i0 i1 i2 i3 i4 bx0 bx1 cx0 cx1 bS
 refine Q0j 14 (by kernel_rfl) (by kernel_rfl) ?_
 simp only [List.take_succ_cons,List.take_zero,List.drop_succ_cons,List.drop_zero]
 repeat (first | (refine Q0d ?_ ?_ ?_;(decide);(first | rfl | (focus (go_simp;done)));apply Exists.intro;refine ⟨fun wc hE=>?_,?_⟩;(go_simp;exact rfl);go_simp) | (refine Q2g ?_ ?_ ?_;(decide);(first | rfl | (focus (go_simp;done)));apply Exists.intro;refine ⟨fun wc hE=>?_,?_⟩;(go_simp;(first | (with_reducible exact Q26 (Qji (op - 20) (kg s b).bits (kg s c).bits (kg s b).sec (kg s c).sec _))));go_simp) | (refine Q0e ?_ ?_ ?_;(decide);(focus (go_simp;done));go_simp))
 refine Q0f ?_
 intro wy hx
 have X:=zh (X.out.trans hx)
 have HP:=zh (HP.out.ext hx)
 have bS:=BS.out.ext hx
 obtain ⟨rr0,rr1⟩:=Q1i bS hl Ha.out
 have hel:=bS.lt
 have hw2:∃ w2,(wy.setCell ⟨e,a.toNat * 2,none⟩ (.int .i64 (kop (op - 20) (nrm (kg s b).bits) (nrm (kg s c).bits)))).setCell ⟨e,a.toNat * 2+1,none⟩ (.bool ((kg s b).sec || (kg s c).sec))=w2∧Blk w2 e 94 (stV (kset s a (kopK (op - 20) (kg s b) (kg s c))))∧CSt w2 B g ks (.slice oa p.regs.length capa) (.slice oc p.code.length capc) vK p T wk∧Ext w w2:=by
  have hb:=Q3m bS hl Ha.out (kopK (op - 20) (kg s b) (kg s c))
  refine ⟨_,rfl,hb,?_,(X.out.setCell (p:=⟨e,_,none⟩) Hew.out _).setCell (p:=⟨e,_,none⟩) Hew.out _⟩
  exact H.out.ext ((X.out.setCell (p:=⟨e,_,none⟩) Hew.out _).setCell (p:=⟨e,_,none⟩) Hew.out _)
 obtain ⟨w2,hw2,hB⟩:=hw2
 have HB:=zh hB
 clear hB hx k0 k1 k2 k3 mb nb mc nc bS
 have bS:=HB.out.1
 have hu:Sok (kset s a (kopK (op - 20) (kg s b) (kg s c))):=Hs.out.set a (by exact Qe6 _ _ _)
 have hld:Q0o p at_ s ⟨op,a,b,c,n⟩=[(at_+1,kset s a (kopK (op - 20) (kg s b) (kg s c)))]:=by
  unfold Q0o oneK
  rw [if_neg (by simp only;omega),if_neg (by simp only;omega),if_neg (by simp only;omega),if_neg (by simp only;omega),if_neg (by simp only;omega),if_neg (by simp only;omega),if_neg (by simp only;omega),if_neg (by simp only;omega),if_neg (by simp only;omega)]
 have Hld:=zh hld
 have hl0:=hl
 have hl:(kset s a (kopK (op - 20) (kg s b) (kg s c))).length=8:=by rw [Q4o];exact hl0
 have hel2:=bS.lt
 generalize kset s a (kopK (op - 20) (kg s b) (kg s c))=u at *
 clear hl0 hld
 go_wp2_with (first | ((with_reducible refine Q3c bS ?_ Tryz.underlying94 ?_ ?_ ?_);rfl;rfl;(rw [Q0v hl];exact infoState')) | fail)
 try rw [hw2]
 have C:=Q4x p (at_+1) u hu hcl (by omega) w2 HB.out.2.1
 rw [show ((at_+1:Nat):Int)=(at_:Int)+1 by omega] at C
 (with_reducible refine C.mono ?_)
 clear C
 rintro er w3 ⟨rfl,vK',P',T'⟩
 have HB2:=zh (Q4y HB.out.2.1 T')
 have HX2:=zh HB.out.2.2
 have P':=zh P'
 clear T' bS hw2 rr0 rr1
 go_wp2
 try refine bodyPost_end (results_none rfl _ _ _) rfl ?_
 refine ⟨rfl,vK',?_,Below.trans (Below.mono HX2.out H.out.size) HB2.out⟩
 rw [Hld.out]
 exact P'.out
set_option maxRecDepth 100000 in
set_option maxHeartbeats 4000000 in
theorem Qpq (hop:op=4) (hwl:wk.length≤999990) (w:World) (H:OneH p B g ks oa capa vK oc capc T wk at_ s op a b c n w) :
  Calls Tryz.prog 32 #[.pointer (some ⟨g,0,none⟩),.int .i64 (at_:Int),.agg (stV s)] w (Q55 p w B g ks (.slice oa p.regs.length capa) (.slice oc p.code.length capc) T wk (Q0o p at_ s ⟨op,a,b,c,n⟩)):=by
 obtain ⟨hs,hr,hcl,hat,hi,hok,hp,h⟩:=H
 obtain ⟨v1,v2,hv,hR,⟨-,oc',capc',bc,oo,hv2,hc1,hc2,hrow⟩⟩:=hp
 simp only [Value.agg.injEq,Array.mk.injEq,List.cons.injEq,and_true] at hv
 obtain ⟨rfl,rfl⟩:=hv
 simp only [Value.slice.injEq,true_and] at hv2
 obtain ⟨rfl,rfl⟩:=hv2
 have hix:=Q24 (cap:=capc) hrow.at_
 obtain ⟨e0,e1,e2,e3,e4⟩:=hrow.ins at_ hat
 have hgi:p.code.getD at_ default=⟨op,a,b,c,n⟩:=hi
 rw [hgi] at e0 e1 e2 e3 e4
 simp only at e0 e1 e2 e3 e4
 obtain ⟨-,c1,-,-⟩:=h.cells
 have hgl:=h.box.lt
 have hst:=Q13
 have H:=zh h
 have Hs:=zh hs
 have hl:=hs.len
 have HR:=zh hR
 have Hr:=zh hr
 have Hok:=zh hok
 have hbl:=Q0k e0
 simp only at hbl
 subst hop
 clear h hs hrow hi hgi hR hr hc1 hc2 hok
 go_enter Tryz.func32,Tryz.ntmps32
 go_upto_region 24 with fail
 obtain ⟨W,e,he,hW,hx,bS,bI⟩:=Q14 w (stV s) #[.int .i64 4,.int .i64 a,.int .i64 b,.int .i64 c,.int .i64 n] 94 41
 rw [hW,he]
 have X:=zh hx
 have HP:=zh (H.out.ext hx)
 have BS:=zh bS
 obtain ⟨i0,i1,i2,i3,i4⟩:=ins5 bI
 have Hew:=zh (show w.heap.size≤e by omega)
 have hel0:=bS.lt
 have hel1:=bI.lt
 have BI:=zh bI
 clear hW hx he e0 e1 e2 e3 e4 c1 bI hbl
 have hld:Q0o p at_ s ⟨4,a,b,c,n⟩=[(at_+1,s)]:=by simp [Q0o,oneK]
 have Hld:=zh hld
 clear hld
 go_wp2_with (first | ((with_reducible refine Q3c bS ?_ Tryz.underlying94 ?_ ?_ ?_);rfl;rfl;(rw [Q0v hl];exact infoState')) | fail)
 have C:=Q4x p (at_+1) s Hs.out hcl (by omega) W HP.out
 rw [show ((at_+1:Nat):Int)=(at_:Int)+1 by omega] at C
 (with_reducible refine C.mono ?_)
 clear C
 rintro er w3 ⟨rfl,vK',P',T'⟩
 have HB2:=zh (Q4y HP.out T')
 have P':=zh P'
 clear T' bS
 go_wp2
 try refine bodyPost_end (results_none rfl _ _ _) rfl ?_
 refine ⟨rfl,vK',?_,Below.trans (Below.mono X.out H.out.size) HB2.out⟩
 rw [Hld.out]
 exact P'.out
set_option maxRecDepth 100000 in
set_option maxHeartbeats 4000000 in
theorem Qpp (hop:op=6) (hwl:wk.length≤999990) (w:World) (H:OneH p B g ks oa capa vK oc capc T wk at_ s op a b c n w) :
  Calls Tryz.prog 32 #[.pointer (some ⟨g,0,none⟩),.int .i64 (at_:Int),.agg (stV s)] w (Q55 p w B g ks (.slice oa p.regs.length capa) (.slice oc p.code.length capc) T wk (Q0o p at_ s ⟨op,a,b,c,n⟩)):=by
 obtain ⟨hs,hr,hcl,hat,hi,hok,hp,h⟩:=H
 obtain ⟨v1,v2,hv,hR,⟨-,oc',capc',bc,oo,hv2,hc1,hc2,hrow⟩⟩:=hp
 simp only [Value.agg.injEq,Array.mk.injEq,List.cons.injEq,and_true] at hv
 obtain ⟨rfl,rfl⟩:=hv
 simp only [Value.slice.injEq,true_and] at hv2
 obtain ⟨rfl,rfl⟩:=hv2
 have hix:=Q24 (cap:=capc) hrow.at_
 obtain ⟨e0,e1,e2,e3,e4⟩:=hrow.ins at_ hat
 have hgi:p.code.getD at_ default=⟨op,a,b,c,n⟩:=hi
 rw [hgi] at e0 e1 e2 e3 e4
 simp only at e0 e1 e2 e3 e4
 obtain ⟨-,c1,-,-⟩:=h.cells
 have hgl:=h.box.lt
 have hst:=Q13
 have H:=zh h
 have Hs:=zh hs
 have hl:=hs.len
 have HR:=zh hR
 have Hr:=zh hr
 have Hok:=zh hok
 have hbl:=Q0k e0
 simp only at hbl
 subst hop
 clear h hs hrow hi hgi hR hr hc1 hc2 hok
 go_enter Tryz.func32,Tryz.ntmps32
 go_upto_region 24 with fail
 obtain ⟨W,e,he,hW,hx,bS,bI⟩:=Q14 w (stV s) #[.int .i64 6,.int .i64 a,.int .i64 b,.int .i64 c,.int .i64 n] 94 41
 rw [hW,he]
 have X:=zh hx
 have HP:=zh (H.out.ext hx)
 have BS:=zh bS
 obtain ⟨i0,i1,i2,i3,i4⟩:=ins5 bI
 have Hew:=zh (show w.heap.size≤e by omega)
 have hel0:=bS.lt
 have hel1:=bI.lt
 have BI:=zh bI
 clear hW hx he e0 e1 e2 e3 e4 c1 bI hbl
 have hld:Q0o p at_ s ⟨6,a,b,c,n⟩=[(at_+1,s)]:=by simp [Q0o,oneK]
 have Hld:=zh hld
 clear hld
 go_wp2_with (first | ((with_reducible refine Q3c bS ?_ Tryz.underlying94 ?_ ?_ ?_);rfl;rfl;(rw [Q0v hl];exact infoState')) | fail)
 have C:=Q4x p (at_+1) s Hs.out hcl (by omega) W HP.out
 rw [show ((at_+1:Nat):Int)=(at_:Int)+1 by omega] at C
 (with_reducible refine C.mono ?_)
 clear C
 rintro er w3 ⟨rfl,vK',P',T'⟩
 have HB2:=zh (Q4y HP.out T')
 have P':=zh P'
 clear T' bS
 go_wp2
 try refine bodyPost_end (results_none rfl _ _ _) rfl ?_
 refine ⟨rfl,vK',?_,Below.trans (Below.mono X.out H.out.size) HB2.out⟩
 rw [Hld.out]
 exact P'.out
set_option maxRecDepth 100000 in
set_option maxHeartbeats 4000000 in
theorem Qpr (hop:op=12) (hwl:wk.length≤999990) (w:World) (H:OneH p B g ks oa capa vK oc capc T wk at_ s op a b c n w) :
  Calls Tryz.prog 32 #[.pointer (some ⟨g,0,none⟩),.int .i64 (at_:Int),.agg (stV s)] w (Q55 p w B g ks (.slice oa p.regs.length capa) (.slice oc p.code.length capc) T wk (Q0o p at_ s ⟨op,a,b,c,n⟩)):=by
 obtain ⟨hs,hr,hcl,hat,hi,hok,hp,h⟩:=H
 obtain ⟨v1,v2,hv,hR,⟨-,oc',capc',bc,oo,hv2,hc1,hc2,hrow⟩⟩:=hp
 simp only [Value.agg.injEq,Array.mk.injEq,List.cons.injEq,and_true] at hv
 obtain ⟨rfl,rfl⟩:=hv
 simp only [Value.slice.injEq,true_and] at hv2
 obtain ⟨rfl,rfl⟩:=hv2
 have hix:=Q24 (cap:=capc) hrow.at_
 obtain ⟨e0,e1,e2,e3,e4⟩:=hrow.ins at_ hat
 have hgi:p.code.getD at_ default=⟨op,a,b,c,n⟩:=hi
 rw [hgi] at e0 e1 e2 e3 e4
 simp only at e0 e1 e2 e3 e4
 obtain ⟨-,c1,-,-⟩:=h.cells
 have hgl:=h.box.lt
 have hst:=Q13
 have H:=zh h
 have Hs:=zh hs
 have hl:=hs.len
 have HR:=zh hR
 have Hr:=zh hr
 have Hok:=zh hok
 have hbl:=Q0k e0
 simp only at hbl
 subst hop
 clear h hs hrow hi hgi hR hr hc1 hc2 hok
 go_enter Tryz.func32,Tryz.ntmps32
 go_upto_region 24 with fail
 obtain ⟨W,e,he,hW,hx,bS,bI⟩:=Q14 w (stV s) #[.int .i64 12,.int .i64 a,.int .i64 b,.int .i64 c,.int .i64 n] 94 41
 rw [hW,he]
 have X:=zh hx
 have HP:=zh (H.out.ext hx)
 have BS:=zh bS
 obtain ⟨i0,i1,i2,i3,i4⟩:=ins5 bI
 have Hew:=zh (show w.heap.size≤e by omega)
 have hel0:=bS.lt
 have hel1:=bI.lt
 have BI:=zh bI
 clear hW hx he e0 e1 e2 e3 e4 c1 bI hbl
 have hld:Q0o p at_ s ⟨12,a,b,c,n⟩=[(at_+1,s)]:=by simp [Q0o,oneK]
 have Hld:=zh hld
 clear hld
 go_wp2_with (first | ((with_reducible refine Q3c bS ?_ Tryz.underlying94 ?_ ?_ ?_);rfl;rfl;(rw [Q0v hl];exact infoState')) | fail)
 have C:=Q4x p (at_+1) s Hs.out hcl (by omega) W HP.out
 rw [show ((at_+1:Nat):Int)=(at_:Int)+1 by omega] at C
 (with_reducible refine C.mono ?_)
 clear C
 rintro er w3 ⟨rfl,vK',P',T'⟩
 have HB2:=zh (Q4y HP.out T')
 have P':=zh P'
 clear T' bS
 go_wp2
 try refine bodyPost_end (results_none rfl _ _ _) rfl ?_
 refine ⟨rfl,vK',?_,Below.trans (Below.mono X.out H.out.size) HB2.out⟩
 rw [Hld.out]
 exact P'.out
set_option maxRecDepth 100000 in
set_option maxHeartbeats 4000000 in
theorem Qpx (hop:op=7) (hwl:wk.length≤999990) (w:World) (H:OneH p B g ks oa capa vK oc capc T wk at_ s op a b c n w) :
  Calls Tryz.prog 32 #[.pointer (some ⟨g,0,none⟩),.int .i64 (at_:Int),.agg (stV s)] w (Q55 p w B g ks (.slice oa p.regs.length capa) (.slice oc p.code.length capc) T wk (Q0o p at_ s ⟨op,a,b,c,n⟩)):=by
 obtain ⟨hs,hr,hcl,hat,hi,hok,hp,h⟩:=H
 obtain ⟨v1,v2,hv,hR,⟨-,oc',capc',bc,oo,hv2,hc1,hc2,hrow⟩⟩:=hp
 simp only [Value.agg.injEq,Array.mk.injEq,List.cons.injEq,and_true] at hv
 obtain ⟨rfl,rfl⟩:=hv
 simp only [Value.slice.injEq,true_and] at hv2
 obtain ⟨rfl,rfl⟩:=hv2
 have hix:=Q24 (cap:=capc) hrow.at_
 obtain ⟨e0,e1,e2,e3,e4⟩:=hrow.ins at_ hat
 have hgi:p.code.getD at_ default=⟨op,a,b,c,n⟩:=hi
 rw [hgi] at e0 e1 e2 e3 e4
 simp only at e0 e1 e2 e3 e4
 obtain ⟨-,c1,-,-⟩:=h.cells
 have hgl:=h.box.lt
 have hst:=Q13
 have H:=zh h
 have Hs:=zh hs
 have hl:=hs.len
 have HR:=zh hR
 have Hr:=zh hr
 have Hok:=zh hok
 have hbl:=Q0k e0
 simp only at hbl
 subst hop
 have hn:0≤n∧n < (p.code.length:Int):=by unfold Q04 at hok;simp [okIn] at hok;omega
 clear h hs hrow hi hgi hR hr hc1 hc2 hok
 go_enter Tryz.func32,Tryz.ntmps32
 go_upto_region 5 with fail
 obtain ⟨W,e,he,hW,hx,bS,bI⟩:=Q14 w (stV s) #[.int .i64 7,.int .i64 a,.int .i64 b,.int .i64 c,.int .i64 n] 94 41
 rw [hW,he]
 have X:=zh hx
 have HP:=zh (H.out.ext hx)
 have BS:=zh bS
 obtain ⟨i0,i1,i2,i3,i4⟩:=ins5 bI
 have Hew:=zh (show w.heap.size≤e by omega)
 have hel0:=bS.lt
 have hel1:=bI.lt
 have BI:=zh bI
 clear hW hx he e0 e1 e2 e3 e4 c1 bI hbl
 have hld:Q0o p at_ s ⟨7,a,b,c,n⟩=[(n.toNat,s)]:=by simp [Q0o]
 have Hld:=zh hld
 clear hld
 go_wp2_with (first | ((with_reducible refine Q3c bS ?_ Tryz.underlying94 ?_ ?_ ?_);rfl;rfl;(rw [Q0v hl];exact infoState')) | fail)
 have C:=Q4x p n.toNat s Hs.out hcl (by omega) W HP.out
 rw [show ((n.toNat:Nat):Int)=n by omega] at C
 (with_reducible refine C.mono ?_)
 clear C
 rintro er w3 ⟨rfl,vK',P',T'⟩
 have HB2:=zh (Q4y HP.out T')
 have P':=zh P'
 clear T' bS
 go_wp2
 try refine bodyPost_end (results_none rfl _ _ _) rfl ?_
 refine ⟨rfl,vK',?_,Below.trans (Below.mono X.out H.out.size) HB2.out⟩
 rw [Hld.out]
 exact P'.out
set_option maxRecDepth 100000 in
set_option maxHeartbeats 4000000 in
theorem Qpz (hop:op=9) (hwl:wk.length≤999990) (w:World) (H:OneH p B g ks oa capa vK oc capc T wk at_ s op a b c n w) :
  Calls Tryz.prog 32 #[.pointer (some ⟨g,0,none⟩),.int .i64 (at_:Int),.agg (stV s)] w (Q55 p w B g ks (.slice oa p.regs.length capa) (.slice oc p.code.length capc) T wk (Q0o p at_ s ⟨op,a,b,c,n⟩)):=by
 obtain ⟨hs,hr,hcl,hat,hi,hok,hp,h⟩:=H
 obtain ⟨v1,v2,hv,hR,⟨-,oc',capc',bc,oo,hv2,hc1,hc2,hrow⟩⟩:=hp
 simp only [Value.agg.injEq,Array.mk.injEq,List.cons.injEq,and_true] at hv
 obtain ⟨rfl,rfl⟩:=hv
 simp only [Value.slice.injEq,true_and] at hv2
 obtain ⟨rfl,rfl⟩:=hv2
 have hix:=Q24 (cap:=capc) hrow.at_
 obtain ⟨e0,e1,e2,e3,e4⟩:=hrow.ins at_ hat
 have hgi:p.code.getD at_ default=⟨op,a,b,c,n⟩:=hi
 rw [hgi] at e0 e1 e2 e3 e4
 simp only at e0 e1 e2 e3 e4
 obtain ⟨-,c1,-,-⟩:=h.cells
 have hgl:=h.box.lt
 have hst:=Q13
 have H:=zh h
 have Hs:=zh hs
 have hl:=hs.len
 have HR:=zh hR
 have Hr:=zh hr
 have Hok:=zh hok
 have hbl:=Q0k e0
 simp only at hbl
 subst hop
 clear h hs hrow hi hgi hR hr hc1 hc2 hok
 go_enter Tryz.func32,Tryz.ntmps32
 go_upto_region 6 with fail
 obtain ⟨W,e,he,hW,hx,bS,bI⟩:=Q14 w (stV s) #[.int .i64 9,.int .i64 a,.int .i64 b,.int .i64 c,.int .i64 n] 94 41
 rw [hW,he]
 have X:=zh hx
 have HP:=zh (H.out.ext hx)
 have BS:=zh bS
 obtain ⟨i0,i1,i2,i3,i4⟩:=ins5 bI
 have Hew:=zh (show w.heap.size≤e by omega)
 have hel0:=bS.lt
 have hel1:=bI.lt
 have BI:=zh bI
 clear hW hx he e0 e1 e2 e3 e4 c1 bI hbl
 have hld:Q0o p at_ s ⟨9,a,b,c,n⟩=[]:=by simp [Q0o]
 have Hld:=zh hld
 clear hld bS
 go_wp2
 try refine bodyPost_end (results_none rfl _ _ _) rfl ?_
 refine ⟨rfl,vK,?_,Below.mono X.out H.out.size⟩
 rw [Hld.out]
 exact HP.out
set_option maxRecDepth 100000 in
set_option maxHeartbeats 4000000 in
theorem Qpy (hop:op=8) (hwl:wk.length≤999990) (w:World) (H:OneH p B g ks oa capa vK oc capc T wk at_ s op a b c n w) :
  Calls Tryz.prog 32 #[.pointer (some ⟨g,0,none⟩),.int .i64 (at_:Int),.agg (stV s)] w (Q55 p w B g ks (.slice oa p.regs.length capa) (.slice oc p.code.length capc) T wk (Q0o p at_ s ⟨op,a,b,c,n⟩)):=by
 obtain ⟨hs,hr,hcl,hat,hi,hok,hp,h⟩:=H
 obtain ⟨v1,v2,hv,hR,⟨-,oc',capc',bc,oo,hv2,hc1,hc2,hrow⟩⟩:=hp
 simp only [Value.agg.injEq,Array.mk.injEq,List.cons.injEq,and_true] at hv
 obtain ⟨rfl,rfl⟩:=hv
 simp only [Value.slice.injEq,true_and] at hv2
 obtain ⟨rfl,rfl⟩:=hv2
 have hix:=Q24 (cap:=capc) hrow.at_
 obtain ⟨e0,e1,e2,e3,e4⟩:=hrow.ins at_ hat
 have hgi:p.code.getD at_ default=⟨op,a,b,c,n⟩:=hi
 rw [hgi] at e0 e1 e2 e3 e4
 simp only at e0 e1 e2 e3 e4
 obtain ⟨-,c1,-,-⟩:=h.cells
 have hgl:=h.box.lt
 have hst:=Q13
 have H:=zh h
 have Hs:=zh hs
 have hl:=hs.len
 have HR:=zh hR
 have Hr:=zh hr
 have Hok:=zh hok
 have hbl:=Q0k e0
 simp only at hbl
 subst hop
 have ha:okIn 8 a=true:=by unfold Q04 at hok;simp [okIn] at hok ⊢;omega
 have hb:okIn 8 b=true:=by unfold Q04 at hok;simp [okIn] at hok ⊢;omega
 have hcc:1≤c∧c≤4:=by unfold Q04 at hok;simp [okIn] at hok;omega
 have hn:0≤n∧n < (p.code.length:Int):=by unfold Q04 at hok;simp [okIn] at hok;omega
 clear h hs hrow hi hgi hR hr hc1 hc2 hok
 go_enter Tryz.func32,Tryz.ntmps32
 go_upto_region 8 with fail
 obtain ⟨W,e,he,hW,hx,bS,bI⟩:=Q14 w (stV s) #[.int .i64 8,.int .i64 a,.int .i64 b,.int .i64 c,.int .i64 n] 94 41
 rw [hW,he]
 have X:=zh hx
 have HP:=zh (H.out.ext hx)
 have BS:=zh bS
 obtain ⟨i0,i1,i2,i3,i4⟩:=ins5 bI
 have Hew:=zh (show w.heap.size≤e by omega)
 have hel0:=bS.lt
 have hel1:=bI.lt
 have BI:=zh bI
 clear hW hx he e0 e1 e2 e3 e4 c1 bI hbl
 have hld:Q0o p at_ s ⟨8,a,b,c,n⟩=[(at_+1,Q1k s ⟨8,a,b,c,n⟩ false),(n.toNat,Q1k s ⟨8,a,b,c,n⟩ true)]:=by simp [Q0o]
 have Hld:=zh hld
 have hu:=Qfe Hs.out ⟨8,a,b,c,n⟩ false
 have hv:=Qfe Hs.out ⟨8,a,b,c,n⟩ true
 have Hu:=zh hu
 have Hv:=zh hv
 have CBf:=zh fun (w:World)=>Qcg s Hs.out.len ⟨8,a,b,c,n⟩ ha hb hcc false w
 have CBt:=zh fun (w:World)=>Qcg s Hs.out.len ⟨8,a,b,c,n⟩ ha hb hcc true w
 simp only [insV] at CBf CBt
 have hks:ks < w.heap.size:=by
  obtain ⟨R,r1,-⟩:=H.out.row
  exact r1.lt
 generalize Q1k s ⟨8,a,b,c,n⟩ false=u at *
 generalize hvt:Q1k s ⟨8,a,b,c,n⟩ true=v at *
 clear hld hu hv
 go_wp2_with (first | ((with_reducible refine Q3c bS ?_ Tryz.underlying94 ?_ ?_ ?_);rfl;rfl;(rw [Q0v hl];exact infoState')) | fail)
 (with_reducible refine (CBf.out W).mono ?_)
 rintro er w2 ⟨rfl,hx⟩
 have X:=zh (X.out.trans hx)
 have HP:=zh (HP.out.ext hx)
 have bS:=bS.ext hx
 have bI:=BI.out.ext hx
 clear hx i0 i1 i2 i3 i4
 have bS2:=zh bS
 have bI2:=zh bI
 clear bS bI
 go_wp2_with fail
 have C:=Q4x p (at_+1) u Hu.out hcl (by omega) w2 HP.out
 rw [show ((at_+1:Nat):Int)=(at_:Int)+1 by omega] at C
 (with_reducible refine C.mono ?_)
 clear C
 rintro er w3 ⟨rfl,vK',P',T'⟩
 have hnk:∀ j,w.heap.size≤j→¬ (j=g∨j=ks∨vK.ownBlock=some j):=by
  rintro j hj (h1 | h1 | h1)
  ·omega
  ·omega
  ·have:=(H.out.wk.lt j h1).2
   omega
 have bS:=bS2.out.turn T' (hnk e Hew.out)
 have bI:=bI2.out.turn T' (hnk (e+1) (by have:=Hew.out;omega))
 have HB2:=zh (Q4y HP.out T')
 have P':=zh P'
 have hwk:(Q4m p T wk (at_+1) u).length≤wk.length+1:=by
  unfold Q4m
  repeat' split
  all_goals simp
 have Hwk:=zh hwk
 have k0:∀ Wx,Ext w3 Wx→Wx.cell? ⟨e+1,0,none⟩=some (.int .i64 8):=fun _ h=>h.kept (by rw [bI.cell];rfl)
 have k1:∀ Wx,Ext w3 Wx→Wx.cell? ⟨e+1,1,none⟩=some (.int .i64 a):=fun _ h=>h.kept (by rw [bI.cell];rfl)
 have k2:∀ Wx,Ext w3 Wx→Wx.cell? ⟨e+1,2,none⟩=some (.int .i64 b):=fun _ h=>h.kept (by rw [bI.cell];rfl)
 have k3:∀ Wx,Ext w3 Wx→Wx.cell? ⟨e+1,3,none⟩=some (.int .i64 c):=fun _ h=>h.kept (by rw [bI.cell];rfl)
 have k4:∀ Wx,Ext w3 Wx→Wx.cell? ⟨e+1,4,none⟩=some (.int .i64 n):=fun _ h=>h.kept (by rw [bI.cell];rfl)
 clear T' hnk bI hwk
 go_upto_region 9 with fail
 refine Q0j 6 (by kernel_rfl) (by kernel_rfl) ?_
 simp only [List.take_succ_cons,List.take_zero,List.drop_succ_cons,List.drop_zero]
 repeat (first | (refine Qfa ?_ ?_ ?_ bS hl ?_;(decide);(first | rfl | (focus (go_simp;done)));exact ⟨_,rfl,rfl⟩;go_simp) | (refine Q0d ?_ ?_ ?_;(decide);(first | rfl | (focus (go_simp;done)));apply Exists.intro;refine ⟨fun wc hE=>?_,?_⟩;(go_simp;exact rfl);go_simp) | (refine Q2g ?_ ?_ ?_;(decide);(first | rfl | (focus (go_simp;done)));apply Exists.intro;refine ⟨fun wc hE=>?_,?_⟩;(go_simp;(first | (with_reducible exact Q26 (CBt.out _))));go_simp) | (refine Q0e ?_ ?_ ?_;(decide);(focus (go_simp;done));go_simp))
 refine Q0f ?_
 intro wy hx
 have P':=zh (P'.out.ext hx)
 have HBx:=zh (Below.mono hx (show B≤w3.heap.size by have:=HB2.out.size;have:=HP.out.size;omega))
 clear hx k0 k1 k2 k3 k4 bS
 go_wp2_with fail
 have C:=Q4x p n.toNat v Hv.out hcl (by have:=Hwk.out;omega) wy P'.out
 rw [show ((n.toNat:Nat):Int)=n by omega] at C
 (with_reducible refine C.mono ?_)
 clear C
 rintro er w5 ⟨rfl,vK2,P2,T2⟩
 have HB3:=zh (Q4y P'.out T2)
 have P2:=zh P2
 clear T2
 go_wp2
 try refine bodyPost_end (results_none rfl _ _ _) rfl ?_
 refine ⟨rfl,vK2,?_,Below.trans (Below.trans (Below.trans (Below.mono X.out H.out.size) HB2.out) HBx.out) HB3.out⟩
 rw [Hld.out]
 exact P2.out
theorem Q48 (p:Q00) {B g ks:Nat} {oa:Option Addr} {capa:Nat} {vK:Value} {oc:Option Addr} {capc:Nat} {T:Tab} {wk:List Int} (at_:Nat) (s:KSt) (hs:Sok s) (hr:Q0p p.regs=true) (hcl:p.code.length≤200) (hat:at_ < p.code.length) (hok:Q04 p 8 (Q1t p at_)=true) (hwl:wk.length≤999990) (w:World) (hp:Q29 w (.agg #[.slice oa p.regs.length capa,.slice oc p.code.length capc]) p) (h:CSt w B g ks (.slice oa p.regs.length capa) (.slice oc p.code.length capc) vK p T wk) :
  Calls Tryz.prog 32 #[.pointer (some ⟨g,0,none⟩),.int .i64 (at_:Int),.agg (stV s)] w (Q55 p w B g ks (.slice oa p.regs.length capa) (.slice oc p.code.length capc) T wk (Q0o p at_ s (Q1t p at_))):=by
 generalize hi:Q1t p at_=i at *
 obtain ⟨op,a,b,c,n⟩:=i
 by_cases e1:op=1
 ·exact Qpo p at_ s op a b c n e1 hwl w ⟨hs,hr,hcl,hat,hi,hok,hp,h⟩
 by_cases e2:op=2
 ·exact Qpt p at_ s op a b c n e2 hwl w ⟨hs,hr,hcl,hat,hi,hok,hp,h⟩
 by_cases e10:op=10
 ·exact Qq0 p at_ s op a b c n e10 hwl w ⟨hs,hr,hcl,hat,hi,hok,hp,h⟩
 by_cases e3:op=3
 ·exact Qpw p at_ s op a b c n e3 hwl w ⟨hs,hr,hcl,hat,hi,hok,hp,h⟩
 by_cases e4:op=4
 ·exact Qpq p at_ s op a b c n e4 hwl w ⟨hs,hr,hcl,hat,hi,hok,hp,h⟩
 by_cases e5:op=5
 ·exact Qpv p at_ s op a b c n e5 hwl w ⟨hs,hr,hcl,hat,hi,hok,hp,h⟩
 by_cases e6:op=6
 ·exact Qpp p at_ s op a b c n e6 hwl w ⟨hs,hr,hcl,hat,hi,hok,hp,h⟩
 by_cases e7:op=7
 ·exact Qpx p at_ s op a b c n e7 hwl w ⟨hs,hr,hcl,hat,hi,hok,hp,h⟩
 by_cases e8:op=8
 ·exact Qpy p at_ s op a b c n e8 hwl w ⟨hs,hr,hcl,hat,hi,hok,hp,h⟩
 by_cases e9:op=9
 ·exact Qpz p at_ s op a b c n e9 hwl w ⟨hs,hr,hcl,hat,hi,hok,hp,h⟩
 by_cases e11:op=11
 ·exact Qpu p at_ s op a b c n e11 hwl w ⟨hs,hr,hcl,hat,hi,hok,hp,h⟩
 by_cases e12:op=12
 ·exact Qpr p at_ s op a b c n e12 hwl w ⟨hs,hr,hcl,hat,hi,hok,hp,h⟩
 have hop:13≤op:=by
  by_cases h13:13≤op
  ·exact h13
  ·exfalso
   unfold Q04 at hok
   simp only at hok
   rw [if_neg e1,if_neg e2,if_neg e10,if_neg (by omega),if_neg (by omega),if_neg e7,if_neg e8,if_neg e9,if_neg e11,if_neg e12] at hok
   simp only [Bool.and_eq_true] at hok
   have:=Q0l.1 hok.2
   omega
 exact Qps p at_ s op a b c n hop hwl w ⟨hs,hr,hcl,hat,hi,hok,hp,h⟩
end
section
variable (p : Q00) {B g ks : Nat} {oa : Option Addr} {capa : Nat} {vK : Value} {oc : Option Addr} {capc : Nat} {T : Tab} {wk : List Int} (at_ : Nat) (s : KSt) (op a b c n : Int)
set_option maxRecDepth 100000 in
set_option maxHeartbeats 4000000 in
theorem Qvd (hop:op=7) (w:World) (H:OneH p B g ks oa capa vK oc capc T wk at_ s op a b c n w) :
  Calls Tryz.prog 33 #[.pointer (some ⟨g,0,none⟩),.int .i64 (at_:Int),.agg (stV s)] w fun e w'=>e=.returned (.bool (Q37 p at_ s ⟨7,a,b,c,n⟩))∧Ext w w':=by
 obtain ⟨hs,hr,hcl,hat,hi,hok,hp,h⟩:=H
 obtain ⟨v1,v2,hv,hR,⟨-,oc',capc',bc,oo,hv2,hc1,hc2,hrow⟩⟩:=hp
 simp only [Value.agg.injEq,Array.mk.injEq,List.cons.injEq,and_true] at hv
 obtain ⟨rfl,rfl⟩:=hv
 simp only [Value.slice.injEq,true_and] at hv2
 obtain ⟨rfl,rfl⟩:=hv2
 have hix:=Q24 (cap:=capc) hrow.at_
 obtain ⟨e0,e1,e2,e3,e4⟩:=hrow.ins at_ hat
 have hgi:p.code.getD at_ default=⟨op,a,b,c,n⟩:=hi
 rw [hgi] at e0 e1 e2 e3 e4
 simp only at e0 e1 e2 e3 e4
 obtain ⟨g0,c1,-,-⟩:=h.cells
 have hgl:=h.box.lt
 have hst:=Q13
 have Hs:=zh hs
 have hl:=hs.len
 have HR:=zh hR
 have Hok:=zh hok
 have hbl:=Q0k e0
 simp only at hbl
 subst hop
 clear h hs hrow hi hgi hR hr hc1 hc2 hok
 by_cases hla:at_+1=p.code.length
 ·have hl1:(((at_:Int)+1) == (p.code.length:Int))=true:=by simp;omega
  have hlb:Q35 p at_=true:=by simp [Q35,hla]
  have Hlb:=zh hlb
  clear hlb
  go_enter Tryz.func33,Tryz.ntmps33
  go_upto_region 3 with fail
  obtain ⟨W,e,he,hW,hx,bS,bI⟩:=Q14 w (stV s) #[.int .i64 7,.int .i64 a,.int .i64 b,.int .i64 c,.int .i64 n] 94 41
  rw [hW,he]
  have X:=zh hx
  obtain ⟨i0,i1,i2,i3,i4⟩:=ins5 bI
  have hel0:=bS.lt
  have hel1:=bI.lt
  have g0:=hx.kept g0.1
  clear hW he e0 e1 e2 e3 e4 bI hbl
  clear bS hx
  go_wp2
  go_ret
  exact ⟨Q1z (by simp [Q37]),X.out⟩
 ·have hl1:(((at_:Int)+1) == (p.code.length:Int))=false:=by simp;omega
  have hlb:Q35 p at_=false:=by simp [Q35,hla]
  have Hlb:=zh hlb
  clear hlb hla
  go_enter Tryz.func33,Tryz.ntmps33
  go_upto_region 3 with fail
  obtain ⟨W,e,he,hW,hx,bS,bI⟩:=Q14 w (stV s) #[.int .i64 7,.int .i64 a,.int .i64 b,.int .i64 c,.int .i64 n] 94 41
  rw [hW,he]
  have X:=zh hx
  obtain ⟨i0,i1,i2,i3,i4⟩:=ins5 bI
  have hel0:=bS.lt
  have hel1:=bI.lt
  have g0:=hx.kept g0.1
  clear hW he e0 e1 e2 e3 e4 bI hbl
  clear bS hx
  go_wp2
  go_ret
  exact ⟨Q1z (by simp [Q37]),X.out⟩
set_option maxRecDepth 100000 in
set_option maxHeartbeats 4000000 in
theorem Qvc (hop:op=9) (w:World) (H:OneH p B g ks oa capa vK oc capc T wk at_ s op a b c n w) :
  Calls Tryz.prog 33 #[.pointer (some ⟨g,0,none⟩),.int .i64 (at_:Int),.agg (stV s)] w fun e w'=>e=.returned (.bool (Q37 p at_ s ⟨9,a,b,c,n⟩))∧Ext w w':=by
 obtain ⟨hs,hr,hcl,hat,hi,hok,hp,h⟩:=H
 obtain ⟨v1,v2,hv,hR,⟨-,oc',capc',bc,oo,hv2,hc1,hc2,hrow⟩⟩:=hp
 simp only [Value.agg.injEq,Array.mk.injEq,List.cons.injEq,and_true] at hv
 obtain ⟨rfl,rfl⟩:=hv
 simp only [Value.slice.injEq,true_and] at hv2
 obtain ⟨rfl,rfl⟩:=hv2
 have hix:=Q24 (cap:=capc) hrow.at_
 obtain ⟨e0,e1,e2,e3,e4⟩:=hrow.ins at_ hat
 have hgi:p.code.getD at_ default=⟨op,a,b,c,n⟩:=hi
 rw [hgi] at e0 e1 e2 e3 e4
 simp only at e0 e1 e2 e3 e4
 obtain ⟨g0,c1,-,-⟩:=h.cells
 have hgl:=h.box.lt
 have hst:=Q13
 have Hs:=zh hs
 have hl:=hs.len
 have HR:=zh hR
 have Hok:=zh hok
 have hbl:=Q0k e0
 simp only at hbl
 subst hop
 clear h hs hrow hi hgi hR hr hc1 hc2 hok
 by_cases hla:at_+1=p.code.length
 ·have hl1:(((at_:Int)+1) == (p.code.length:Int))=true:=by simp;omega
  have hlb:Q35 p at_=true:=by simp [Q35,hla]
  have Hlb:=zh hlb
  clear hlb
  go_enter Tryz.func33,Tryz.ntmps33
  go_upto_region 3 with fail
  obtain ⟨W,e,he,hW,hx,bS,bI⟩:=Q14 w (stV s) #[.int .i64 9,.int .i64 a,.int .i64 b,.int .i64 c,.int .i64 n] 94 41
  rw [hW,he]
  have X:=zh hx
  obtain ⟨i0,i1,i2,i3,i4⟩:=ins5 bI
  have hel0:=bS.lt
  have hel1:=bI.lt
  have g0:=hx.kept g0.1
  clear hW he e0 e1 e2 e3 e4 bI hbl
  clear bS hx
  go_wp2
  go_ret
  exact ⟨Q1z (by simp [Q37]),X.out⟩
 ·have hl1:(((at_:Int)+1) == (p.code.length:Int))=false:=by simp;omega
  have hlb:Q35 p at_=false:=by simp [Q35,hla]
  have Hlb:=zh hlb
  clear hlb hla
  go_enter Tryz.func33,Tryz.ntmps33
  go_upto_region 3 with fail
  obtain ⟨W,e,he,hW,hx,bS,bI⟩:=Q14 w (stV s) #[.int .i64 9,.int .i64 a,.int .i64 b,.int .i64 c,.int .i64 n] 94 41
  rw [hW,he]
  have X:=zh hx
  obtain ⟨i0,i1,i2,i3,i4⟩:=ins5 bI
  have hel0:=bS.lt
  have hel1:=bI.lt
  have g0:=hx.kept g0.1
  clear hW he e0 e1 e2 e3 e4 bI hbl
  clear bS hx
  go_wp2
  go_ret
  exact ⟨Q1z (by simp [Q37]),X.out⟩
set_option maxRecDepth 100000 in
set_option maxHeartbeats 4000000 in
theorem Qvg (hop:op≠7∧op≠9∧op≠3∧op≠4) (w:World) (H:OneH p B g ks oa capa vK oc capc T wk at_ s op a b c n w) :
  Calls Tryz.prog 33 #[.pointer (some ⟨g,0,none⟩),.int .i64 (at_:Int),.agg (stV s)] w fun e w'=>e=.returned (.bool (Q37 p at_ s ⟨op,a,b,c,n⟩))∧Ext w w':=by
 obtain ⟨hs,hr,hcl,hat,hi,hok,hp,h⟩:=H
 obtain ⟨v1,v2,hv,hR,⟨-,oc',capc',bc,oo,hv2,hc1,hc2,hrow⟩⟩:=hp
 simp only [Value.agg.injEq,Array.mk.injEq,List.cons.injEq,and_true] at hv
 obtain ⟨rfl,rfl⟩:=hv
 simp only [Value.slice.injEq,true_and] at hv2
 obtain ⟨rfl,rfl⟩:=hv2
 have hix:=Q24 (cap:=capc) hrow.at_
 obtain ⟨e0,e1,e2,e3,e4⟩:=hrow.ins at_ hat
 have hgi:p.code.getD at_ default=⟨op,a,b,c,n⟩:=hi
 rw [hgi] at e0 e1 e2 e3 e4
 simp only at e0 e1 e2 e3 e4
 obtain ⟨g0,c1,-,-⟩:=h.cells
 have hgl:=h.box.lt
 have hst:=Q13
 have Hs:=zh hs
 have hl:=hs.len
 have HR:=zh hR
 have Hok:=zh hok
 have hbl:=Q0k e0
 simp only at hbl
 have hbk:Q37 p at_ s ⟨op,a,b,c,n⟩ = !Q35 p at_:=by unfold Q37;rw [if_neg (by simp only;omega),if_neg (by simp only;omega)]
 have Hbk:=zh hbk
 clear hbk
 have hq7:(op == (7:Int))=false:=by simp;omega
 have hq9:(op == (9:Int))=false:=by simp;omega
 have hq3:(op == (3:Int))=false:=by simp;omega
 have hq4:(op == (4:Int))=false:=by simp;omega
 clear h hs hrow hi hgi hR hr hc1 hc2 hok
 by_cases hla:at_+1=p.code.length
 ·have hl1:(((at_:Int)+1) == (p.code.length:Int))=true:=by simp;omega
  have hlb:Q35 p at_=true:=by simp [Q35,hla]
  have Hlb:=zh hlb
  clear hlb
  go_enter Tryz.func33,Tryz.ntmps33
  go_upto_region 3 with fail
  obtain ⟨W,e,he,hW,hx,bS,bI⟩:=Q14 w (stV s) #[.int .i64 op,.int .i64 a,.int .i64 b,.int .i64 c,.int .i64 n] 94 41
  rw [hW,he]
  have X:=zh hx
  obtain ⟨i0,i1,i2,i3,i4⟩:=ins5 bI
  have hel0:=bS.lt
  have hel1:=bI.lt
  have g0:=hx.kept g0.1
  clear hW he e0 e1 e2 e3 e4 bI hbl
  clear bS hx
  go_wp2
  go_ret
  exact ⟨Q1z (by rw [Hbk.out,Hlb.out];rfl),X.out⟩
 ·have hl1:(((at_:Int)+1) == (p.code.length:Int))=false:=by simp;omega
  have hlb:Q35 p at_=false:=by simp [Q35,hla]
  have Hlb:=zh hlb
  clear hlb hla
  go_enter Tryz.func33,Tryz.ntmps33
  go_upto_region 3 with fail
  obtain ⟨W,e,he,hW,hx,bS,bI⟩:=Q14 w (stV s) #[.int .i64 op,.int .i64 a,.int .i64 b,.int .i64 c,.int .i64 n] 94 41
  rw [hW,he]
  have X:=zh hx
  obtain ⟨i0,i1,i2,i3,i4⟩:=ins5 bI
  have hel0:=bS.lt
  have hel1:=bI.lt
  have g0:=hx.kept g0.1
  clear hW he e0 e1 e2 e3 e4 bI hbl
  clear bS hx
  go_wp2
  go_ret
  exact ⟨Q1z (by rw [Hbk.out,Hlb.out];rfl),X.out⟩
set_option maxRecDepth 100000 in
set_option maxHeartbeats 4000000 in
theorem Qvf (hop:op=3) (w:World) (H:OneH p B g ks oa capa vK oc capc T wk at_ s op a b c n w) :
  Calls Tryz.prog 33 #[.pointer (some ⟨g,0,none⟩),.int .i64 (at_:Int),.agg (stV s)] w fun e w'=>e=.returned (.bool (Q37 p at_ s ⟨3,a,b,c,n⟩))∧Ext w w':=by
 obtain ⟨hs,hr,hcl,hat,hi,hok,hp,h⟩:=H
 obtain ⟨v1,v2,hv,hR,⟨-,oc',capc',bc,oo,hv2,hc1,hc2,hrow⟩⟩:=hp
 simp only [Value.agg.injEq,Array.mk.injEq,List.cons.injEq,and_true] at hv
 obtain ⟨rfl,rfl⟩:=hv
 simp only [Value.slice.injEq,true_and] at hv2
 obtain ⟨rfl,rfl⟩:=hv2
 have hix:=Q24 (cap:=capc) hrow.at_
 obtain ⟨e0,e1,e2,e3,e4⟩:=hrow.ins at_ hat
 have hgi:p.code.getD at_ default=⟨op,a,b,c,n⟩:=hi
 rw [hgi] at e0 e1 e2 e3 e4
 simp only at e0 e1 e2 e3 e4
 obtain ⟨g0,c1,-,-⟩:=h.cells
 have hgl:=h.box.lt
 have hst:=Q13
 have Hs:=zh hs
 have hl:=hs.len
 have HR:=zh hR
 have Hok:=zh hok
 have hbl:=Q0k e0
 simp only at hbl
 subst hop
 obtain ⟨hc0,hc1'⟩:=Q5s hok (by unfold Q0q Q1m;simp)
 simp only at hc0 hc1'
 have hR2:=hR
 obtain ⟨-,oa',capa',br,orr,hv3,hd1,hd2,hrow2⟩:=hR2
 simp only [Value.slice.injEq,true_and] at hv3
 obtain ⟨rfl,rfl⟩:=hv3
 obtain ⟨rlog,rsec⟩:=hrow2.reg c.toNat hc1'
 have hixr:=Q50 (cap:=capa) hrow2.at_
 have hlen:=Q4g hr
 have hcl2:c < (p.regs.length:Int):=by omega
 have hrf:p.regs.getD c.toNat default=Q11 p ⟨3,a,b,c,n⟩:=rfl
 rw [hrf] at rsec rlog
 have ha:okIn 8 a=true:=by unfold Q04 at hok;simp [okIn] at hok ⊢;omega
 obtain ⟨a0,a1⟩:=Q0l.1 ha
 have hb:okIn 8 b=true:=by unfold Q04 at hok;simp [okIn] at hok ⊢;omega
 obtain ⟨b0,b1⟩:=Q0l.1 hb
 clear h hs hrow hi hgi hR hr hc1 hc2 hok
 clear hrow2 hd1 hd2 rsec hrf
 by_cases hla:at_+1=p.code.length
 ·have hl1:(((at_:Int)+1) == (p.code.length:Int))=true:=by simp;omega
  have hlb:Q35 p at_=true:=by simp [Q35,hla]
  have Hlb:=zh hlb
  clear hlb
  go_enter Tryz.func33,Tryz.ntmps33
  go_upto_region 9 with fail
  obtain ⟨W,e,he,hW,hx,bS,bI⟩:=Q14 w (stV s) #[.int .i64 3,.int .i64 a,.int .i64 b,.int .i64 c,.int .i64 n] 94 41
  rw [hW,he]
  have X:=zh hx
  obtain ⟨i0,i1,i2,i3,i4⟩:=ins5 bI
  have hel0:=bS.lt
  have hel1:=bI.lt
  have g0:=hx.kept g0.1
  clear hW he e0 e1 e2 e3 e4 bI hbl
  obtain ⟨⟨bx0,-⟩,⟨bx1,-⟩⟩:=Q1i bS hl hb
  have k2:∀ Wx,Ext W Wx→Wx.cell? ⟨e+1,2,none⟩=some (.int .i64 b):=fun _ h=>h.kept i2
  have k3:∀ Wx,Ext W Wx→Wx.cell? ⟨e+1,3,none⟩=some (.int .i64 c):=fun _ h=>h.kept i3
  have k4:∀ Wx,Ext W Wx→Wx.cell? ⟨e+1,4,none⟩=some (.int .i64 n):=fun _ h=>h.kept i4
  have mb:∀ Wx,Ext W Wx→Wx.cell? ⟨e,b.toNat * 2,none⟩=some (.int .i64 (kg s b).bits):=fun _ h=>h.kept bx0
  have nb:∀ Wx,Ext W Wx→Wx.cell? ⟨e,b.toNat * 2+1,none⟩=some (.bool (kg s b).sec):=fun _ h=>h.kept bx1
  have kg0:∀ Wx,Ext W Wx→Wx.cell? ⟨g,0,none⟩=some (.slice oa p.regs.length capa):=fun _ h=>h.kept g0
  have kr0:∀ Wx,Ext W Wx→Wx.cell? ⟨br,orr+c.toNat * 2,none⟩=some (.int .i64 (Q11 p ⟨3,a,b,c,n⟩).log):=fun _ h=>h.kept (hx.kept rlog)
  clear i0 i1 i2 i3 i4 bx0 bx1 g0 bS hx
  refine Q0j 29 (by kernel_rfl) (by kernel_rfl) ?_
  simp only [List.take_succ_cons,List.take_zero,List.drop_succ_cons,List.drop_zero]
  repeat (first | (refine Q0d ?_ ?_ ?_;(decide);(first | rfl | (focus (go_simp;done)));apply Exists.intro;refine ⟨fun wc hE=>?_,?_⟩;(go_simp;exact rfl);go_simp) | (refine Q0e ?_ ?_ ?_;(decide);(focus (go_simp;done));go_simp))
  refine Q0f ?_
  intro wy hx
  have X:=zh (X.out.trans hx)
  clear hx k2 k3 k4 mb nb kg0 kr0
  go_wp2
  go_ret
  exact ⟨Q1z (by simp [Q37,Hlb.out]),X.out⟩
 ·have hl1:(((at_:Int)+1) == (p.code.length:Int))=false:=by simp;omega
  have hlb:Q35 p at_=false:=by simp [Q35,hla]
  have Hlb:=zh hlb
  clear hlb hla
  go_enter Tryz.func33,Tryz.ntmps33
  go_upto_region 9 with fail
  obtain ⟨W,e,he,hW,hx,bS,bI⟩:=Q14 w (stV s) #[.int .i64 3,.int .i64 a,.int .i64 b,.int .i64 c,.int .i64 n] 94 41
  rw [hW,he]
  have X:=zh hx
  obtain ⟨i0,i1,i2,i3,i4⟩:=ins5 bI
  have hel0:=bS.lt
  have hel1:=bI.lt
  have g0:=hx.kept g0.1
  clear hW he e0 e1 e2 e3 e4 bI hbl
  obtain ⟨⟨bx0,-⟩,⟨bx1,-⟩⟩:=Q1i bS hl hb
  by_cases hn:0≤n
  ·have hnd:decide (0≤n)=true:=by simpa using hn
   have k2:∀ Wx,Ext W Wx→Wx.cell? ⟨e+1,2,none⟩=some (.int .i64 b):=fun _ h=>h.kept i2
   have k3:∀ Wx,Ext W Wx→Wx.cell? ⟨e+1,3,none⟩=some (.int .i64 c):=fun _ h=>h.kept i3
   have k4:∀ Wx,Ext W Wx→Wx.cell? ⟨e+1,4,none⟩=some (.int .i64 n):=fun _ h=>h.kept i4
   have mb:∀ Wx,Ext W Wx→Wx.cell? ⟨e,b.toNat * 2,none⟩=some (.int .i64 (kg s b).bits):=fun _ h=>h.kept bx0
   have nb:∀ Wx,Ext W Wx→Wx.cell? ⟨e,b.toNat * 2+1,none⟩=some (.bool (kg s b).sec):=fun _ h=>h.kept bx1
   have kg0:∀ Wx,Ext W Wx→Wx.cell? ⟨g,0,none⟩=some (.slice oa p.regs.length capa):=fun _ h=>h.kept g0
   have kr0:∀ Wx,Ext W Wx→Wx.cell? ⟨br,orr+c.toNat * 2,none⟩=some (.int .i64 (Q11 p ⟨3,a,b,c,n⟩).log):=fun _ h=>h.kept (hx.kept rlog)
   clear i0 i1 i2 i3 i4 bx0 bx1 g0 bS hx
   refine Q0j 29 (by kernel_rfl) (by kernel_rfl) ?_
   simp only [List.take_succ_cons,List.take_zero,List.drop_succ_cons,List.drop_zero]
   repeat (first | (refine Q0d ?_ ?_ ?_;(decide);(first | rfl | (focus (go_simp;done)));apply Exists.intro;refine ⟨fun wc hE=>?_,?_⟩;(go_simp;exact rfl);go_simp) | (refine Q2g ?_ ?_ ?_;(decide);(first | rfl | (focus (go_simp;done)));apply Exists.intro;refine ⟨fun wc hE=>?_,?_⟩;(go_simp;(first | (with_reducible exact Q26 (sum_c' (kg s b) n _))));go_simp) | (refine Q0e ?_ ?_ ?_;(decide);(focus (go_simp;done));go_simp))
   refine Q0f ?_
   intro wy hx
   have X:=zh (X.out.trans hx)
   clear hx k2 k3 k4 mb nb kg0 kr0
   go_wp2
   go_ret
   exact ⟨Q1z (by simp [Q37,Hlb.out,hn]),X.out⟩
  ·have hnd:decide (0≤n)=false:=by simpa using hn
   have Hn:=zh hn
   clear hn
   have k2:∀ Wx,Ext W Wx→Wx.cell? ⟨e+1,2,none⟩=some (.int .i64 b):=fun _ h=>h.kept i2
   have k3:∀ Wx,Ext W Wx→Wx.cell? ⟨e+1,3,none⟩=some (.int .i64 c):=fun _ h=>h.kept i3
   have k4:∀ Wx,Ext W Wx→Wx.cell? ⟨e+1,4,none⟩=some (.int .i64 n):=fun _ h=>h.kept i4
   have mb:∀ Wx,Ext W Wx→Wx.cell? ⟨e,b.toNat * 2,none⟩=some (.int .i64 (kg s b).bits):=fun _ h=>h.kept bx0
   have nb:∀ Wx,Ext W Wx→Wx.cell? ⟨e,b.toNat * 2+1,none⟩=some (.bool (kg s b).sec):=fun _ h=>h.kept bx1
   have kg0:∀ Wx,Ext W Wx→Wx.cell? ⟨g,0,none⟩=some (.slice oa p.regs.length capa):=fun _ h=>h.kept g0
   have kr0:∀ Wx,Ext W Wx→Wx.cell? ⟨br,orr+c.toNat * 2,none⟩=some (.int .i64 (Q11 p ⟨3,a,b,c,n⟩).log):=fun _ h=>h.kept (hx.kept rlog)
   clear i0 i1 i2 i3 i4 bx0 bx1 g0 bS hx
   refine Q0j 29 (by kernel_rfl) (by kernel_rfl) ?_
   simp only [List.take_succ_cons,List.take_zero,List.drop_succ_cons,List.drop_zero]
   repeat (first | (refine Q0d ?_ ?_ ?_;(decide);(first | rfl | (focus (go_simp;done)));apply Exists.intro;refine ⟨fun wc hE=>?_,?_⟩;(go_simp;exact rfl);go_simp) | (refine Q0e ?_ ?_ ?_;(decide);(focus (go_simp;done));go_simp))
   refine Q0f ?_
   intro wy hx
   have X:=zh (X.out.trans hx)
   clear hx k2 k3 k4 mb nb kg0 kr0
   go_wp2
   go_ret
   exact ⟨Q1z (by simp [Q37,Hlb.out];intro h;have:=Hn.out;omega),X.out⟩
set_option maxRecDepth 100000 in
set_option maxHeartbeats 4000000 in
theorem Qve (hop:op=4) (w:World) (H:OneH p B g ks oa capa vK oc capc T wk at_ s op a b c n w) :
  Calls Tryz.prog 33 #[.pointer (some ⟨g,0,none⟩),.int .i64 (at_:Int),.agg (stV s)] w fun e w'=>e=.returned (.bool (Q37 p at_ s ⟨4,a,b,c,n⟩))∧Ext w w':=by
 obtain ⟨hs,hr,hcl,hat,hi,hok,hp,h⟩:=H
 obtain ⟨v1,v2,hv,hR,⟨-,oc',capc',bc,oo,hv2,hc1,hc2,hrow⟩⟩:=hp
 simp only [Value.agg.injEq,Array.mk.injEq,List.cons.injEq,and_true] at hv
 obtain ⟨rfl,rfl⟩:=hv
 simp only [Value.slice.injEq,true_and] at hv2
 obtain ⟨rfl,rfl⟩:=hv2
 have hix:=Q24 (cap:=capc) hrow.at_
 obtain ⟨e0,e1,e2,e3,e4⟩:=hrow.ins at_ hat
 have hgi:p.code.getD at_ default=⟨op,a,b,c,n⟩:=hi
 rw [hgi] at e0 e1 e2 e3 e4
 simp only at e0 e1 e2 e3 e4
 obtain ⟨g0,c1,-,-⟩:=h.cells
 have hgl:=h.box.lt
 have hst:=Q13
 have Hs:=zh hs
 have hl:=hs.len
 have HR:=zh hR
 have Hok:=zh hok
 have hbl:=Q0k e0
 simp only at hbl
 subst hop
 obtain ⟨hc0,hc1'⟩:=Q5s hok (by unfold Q0q Q1m;simp)
 simp only at hc0 hc1'
 have hR2:=hR
 obtain ⟨-,oa',capa',br,orr,hv3,hd1,hd2,hrow2⟩:=hR2
 simp only [Value.slice.injEq,true_and] at hv3
 obtain ⟨rfl,rfl⟩:=hv3
 obtain ⟨rlog,rsec⟩:=hrow2.reg c.toNat hc1'
 have hixr:=Q50 (cap:=capa) hrow2.at_
 have hlen:=Q4g hr
 have hcl2:c < (p.regs.length:Int):=by omega
 have hrf:p.regs.getD c.toNat default=Q11 p ⟨4,a,b,c,n⟩:=rfl
 rw [hrf] at rsec rlog
 have ha:okIn 8 a=true:=by unfold Q04 at hok;simp [okIn] at hok ⊢;omega
 obtain ⟨a0,a1⟩:=Q0l.1 ha
 have hb:okIn 8 b=true:=by unfold Q04 at hok;simp [okIn] at hok ⊢;omega
 obtain ⟨b0,b1⟩:=Q0l.1 hb
 clear h hs hrow hi hgi hR hr hc1 hc2 hok
 clear hrow2 hd1 hd2 rsec hrf
 by_cases hla:at_+1=p.code.length
 ·have hl1:(((at_:Int)+1) == (p.code.length:Int))=true:=by simp;omega
  have hlb:Q35 p at_=true:=by simp [Q35,hla]
  have Hlb:=zh hlb
  clear hlb
  go_enter Tryz.func33,Tryz.ntmps33
  go_upto_region 9 with fail
  obtain ⟨W,e,he,hW,hx,bS,bI⟩:=Q14 w (stV s) #[.int .i64 4,.int .i64 a,.int .i64 b,.int .i64 c,.int .i64 n] 94 41
  rw [hW,he]
  have X:=zh hx
  obtain ⟨i0,i1,i2,i3,i4⟩:=ins5 bI
  have hel0:=bS.lt
  have hel1:=bI.lt
  have g0:=hx.kept g0.1
  clear hW he e0 e1 e2 e3 e4 bI hbl
  obtain ⟨⟨bx0,-⟩,⟨bx1,-⟩⟩:=Q1i bS hl hb
  have k2:∀ Wx,Ext W Wx→Wx.cell? ⟨e+1,2,none⟩=some (.int .i64 b):=fun _ h=>h.kept i2
  have k3:∀ Wx,Ext W Wx→Wx.cell? ⟨e+1,3,none⟩=some (.int .i64 c):=fun _ h=>h.kept i3
  have k4:∀ Wx,Ext W Wx→Wx.cell? ⟨e+1,4,none⟩=some (.int .i64 n):=fun _ h=>h.kept i4
  have mb:∀ Wx,Ext W Wx→Wx.cell? ⟨e,b.toNat * 2,none⟩=some (.int .i64 (kg s b).bits):=fun _ h=>h.kept bx0
  have nb:∀ Wx,Ext W Wx→Wx.cell? ⟨e,b.toNat * 2+1,none⟩=some (.bool (kg s b).sec):=fun _ h=>h.kept bx1
  have kg0:∀ Wx,Ext W Wx→Wx.cell? ⟨g,0,none⟩=some (.slice oa p.regs.length capa):=fun _ h=>h.kept g0
  have kr0:∀ Wx,Ext W Wx→Wx.cell? ⟨br,orr+c.toNat * 2,none⟩=some (.int .i64 (Q11 p ⟨4,a,b,c,n⟩).log):=fun _ h=>h.kept (hx.kept rlog)
  clear i0 i1 i2 i3 i4 bx0 bx1 g0 bS hx
  refine Q0j 29 (by kernel_rfl) (by kernel_rfl) ?_
  simp only [List.take_succ_cons,List.take_zero,List.drop_succ_cons,List.drop_zero]
  repeat (first | (refine Q0d ?_ ?_ ?_;(decide);(first | rfl | (focus (go_simp;done)));apply Exists.intro;refine ⟨fun wc hE=>?_,?_⟩;(go_simp;exact rfl);go_simp) | (refine Q0e ?_ ?_ ?_;(decide);(focus (go_simp;done));go_simp))
  refine Q0f ?_
  intro wy hx
  have X:=zh (X.out.trans hx)
  clear hx k2 k3 k4 mb nb kg0 kr0
  go_wp2
  go_ret
  exact ⟨Q1z (by simp [Q37,Hlb.out]),X.out⟩
 ·have hl1:(((at_:Int)+1) == (p.code.length:Int))=false:=by simp;omega
  have hlb:Q35 p at_=false:=by simp [Q35,hla]
  have Hlb:=zh hlb
  clear hlb hla
  go_enter Tryz.func33,Tryz.ntmps33
  go_upto_region 9 with fail
  obtain ⟨W,e,he,hW,hx,bS,bI⟩:=Q14 w (stV s) #[.int .i64 4,.int .i64 a,.int .i64 b,.int .i64 c,.int .i64 n] 94 41
  rw [hW,he]
  have X:=zh hx
  obtain ⟨i0,i1,i2,i3,i4⟩:=ins5 bI
  have hel0:=bS.lt
  have hel1:=bI.lt
  have g0:=hx.kept g0.1
  clear hW he e0 e1 e2 e3 e4 bI hbl
  obtain ⟨⟨bx0,-⟩,⟨bx1,-⟩⟩:=Q1i bS hl hb
  by_cases hn:0≤n
  ·have hnd:decide (0≤n)=true:=by simpa using hn
   have k2:∀ Wx,Ext W Wx→Wx.cell? ⟨e+1,2,none⟩=some (.int .i64 b):=fun _ h=>h.kept i2
   have k3:∀ Wx,Ext W Wx→Wx.cell? ⟨e+1,3,none⟩=some (.int .i64 c):=fun _ h=>h.kept i3
   have k4:∀ Wx,Ext W Wx→Wx.cell? ⟨e+1,4,none⟩=some (.int .i64 n):=fun _ h=>h.kept i4
   have mb:∀ Wx,Ext W Wx→Wx.cell? ⟨e,b.toNat * 2,none⟩=some (.int .i64 (kg s b).bits):=fun _ h=>h.kept bx0
   have nb:∀ Wx,Ext W Wx→Wx.cell? ⟨e,b.toNat * 2+1,none⟩=some (.bool (kg s b).sec):=fun _ h=>h.kept bx1
   have kg0:∀ Wx,Ext W Wx→Wx.cell? ⟨g,0,none⟩=some (.slice oa p.regs.length capa):=fun _ h=>h.kept g0
   have kr0:∀ Wx,Ext W Wx→Wx.cell? ⟨br,orr+c.toNat * 2,none⟩=some (.int .i64 (Q11 p ⟨4,a,b,c,n⟩).log):=fun _ h=>h.kept (hx.kept rlog)
   clear i0 i1 i2 i3 i4 bx0 bx1 g0 bS hx
   refine Q0j 29 (by kernel_rfl) (by kernel_rfl) ?_
   simp only [List.take_succ_cons,List.take_zero,List.drop_succ_cons,List.drop_zero]
   repeat (first | (refine Q0d ?_ ?_ ?_;(decide);(first | rfl | (focus (go_simp;done)));apply Exists.intro;refine ⟨fun wc hE=>?_,?_⟩;(go_simp;exact rfl);go_simp) | (refine Q2g ?_ ?_ ?_;(decide);(first | rfl | (focus (go_simp;done)));apply Exists.intro;refine ⟨fun wc hE=>?_,?_⟩;(go_simp;(first | (with_reducible exact Q26 (sum_c' (kg s b) n _))));go_simp) | (refine Q0e ?_ ?_ ?_;(decide);(focus (go_simp;done));go_simp))
   refine Q0f ?_
   intro wy hx
   have X:=zh (X.out.trans hx)
   clear hx k2 k3 k4 mb nb kg0 kr0
   go_wp2
   go_ret
   exact ⟨Q1z (by simp [Q37,Hlb.out,hn]),X.out⟩
  ·have hnd:decide (0≤n)=false:=by simpa using hn
   have Hn:=zh hn
   clear hn
   have k2:∀ Wx,Ext W Wx→Wx.cell? ⟨e+1,2,none⟩=some (.int .i64 b):=fun _ h=>h.kept i2
   have k3:∀ Wx,Ext W Wx→Wx.cell? ⟨e+1,3,none⟩=some (.int .i64 c):=fun _ h=>h.kept i3
   have k4:∀ Wx,Ext W Wx→Wx.cell? ⟨e+1,4,none⟩=some (.int .i64 n):=fun _ h=>h.kept i4
   have mb:∀ Wx,Ext W Wx→Wx.cell? ⟨e,b.toNat * 2,none⟩=some (.int .i64 (kg s b).bits):=fun _ h=>h.kept bx0
   have nb:∀ Wx,Ext W Wx→Wx.cell? ⟨e,b.toNat * 2+1,none⟩=some (.bool (kg s b).sec):=fun _ h=>h.kept bx1
   have kg0:∀ Wx,Ext W Wx→Wx.cell? ⟨g,0,none⟩=some (.slice oa p.regs.length capa):=fun _ h=>h.kept g0
   have kr0:∀ Wx,Ext W Wx→Wx.cell? ⟨br,orr+c.toNat * 2,none⟩=some (.int .i64 (Q11 p ⟨4,a,b,c,n⟩).log):=fun _ h=>h.kept (hx.kept rlog)
   clear i0 i1 i2 i3 i4 bx0 bx1 g0 bS hx
   refine Q0j 29 (by kernel_rfl) (by kernel_rfl) ?_
   simp only [List.take_succ_cons,List.take_zero,List.drop_succ_cons,List.drop_zero]
   repeat (first | (refine Q0d ?_ ?_ ?_;(decide);(first | rfl | (focus (go_simp;done)));apply Exists.intro;refine ⟨fun wc hE=>?_,?_⟩;(go_simp;exact rfl);go_simp) | (refine Q0e ?_ ?_ ?_;(decide);(focus (go_simp;done));go_simp))
   refine Q0f ?_
   intro wy hx
   have X:=zh (X.out.trans hx)
   clear hx k2 k3 k4 mb nb kg0 kr0
   go_wp2
   go_ret
   exact ⟨Q1z (by simp [Q37,Hlb.out];intro h;have:=Hn.out;omega),X.out⟩
set_option maxRecDepth 100000 in
set_option maxHeartbeats 4000000 in
theorem Qdj (hop:op=3) (w:World) (H:OneH p B g ks oa capa vK oc capc T wk at_ s op a b c n w) :
  Calls Tryz.prog 34 #[.pointer (some ⟨g,0,none⟩),.int .i64 (at_:Int),.agg (stV s)] w fun e w'=>e=.returned (.bool (Q31 p s ⟨3,a,b,c,n⟩))∧Ext w w':=by
 obtain ⟨hs,hr,hcl,hat,hi,hok,hp,h⟩:=H
 obtain ⟨v1,v2,hv,hR,⟨-,oc',capc',bc,oo,hv2,hc1,hc2,hrow⟩⟩:=hp
 simp only [Value.agg.injEq,Array.mk.injEq,List.cons.injEq,and_true] at hv
 obtain ⟨rfl,rfl⟩:=hv
 simp only [Value.slice.injEq,true_and] at hv2
 obtain ⟨rfl,rfl⟩:=hv2
 have hix:=Q24 (cap:=capc) hrow.at_
 obtain ⟨e0,e1,e2,e3,e4⟩:=hrow.ins at_ hat
 have hgi:p.code.getD at_ default=⟨op,a,b,c,n⟩:=hi
 rw [hgi] at e0 e1 e2 e3 e4
 simp only at e0 e1 e2 e3 e4
 obtain ⟨g0,c1,-,-⟩:=h.cells
 have hgl:=h.box.lt
 have hst:=Q13
 have Hs:=zh hs
 have hl:=hs.len
 have HR:=zh hR
 have Hok:=zh hok
 have hbl:=Q0k e0
 simp only at hbl
 subst hop
 have hb:okIn 8 b=true:=by unfold Q04 at hok;simp [okIn] at hok ⊢;omega
 obtain ⟨b0,b1⟩:=Q0l.1 hb
 clear h hs hrow hi hgi hR hr hc1 hc2 hok
 go_enter Tryz.func34,Tryz.ntmps34
 go_upto_region 3 with fail
 obtain ⟨W,e,he,hW,hx,bS,bI⟩:=Q14 w (stV s) #[.int .i64 3,.int .i64 a,.int .i64 b,.int .i64 c,.int .i64 n] 94 41
 rw [hW,he]
 have X:=zh hx
 obtain ⟨i0,i1,i2,i3,i4⟩:=ins5 bI
 have hel0:=bS.lt
 have hel1:=bI.lt
 have g0:=hx.kept g0.1
 clear hW he e0 e1 e2 e3 e4 bI hbl
 obtain ⟨⟨bx0,-⟩,⟨bx1,-⟩⟩:=Q1i bS hl hb
 generalize hsb:(kg s b).sec=sb at *
 clear bS hx
 cases sb <;> (
  go_wp2
  go_ret
  exact ⟨Q1z (by simp [Q31,hsb]),X.out⟩)
set_option maxRecDepth 100000 in
set_option maxHeartbeats 4000000 in
theorem Qom (hop:op=8) (w:World) (H:OneH p B g ks oa capa vK oc capc T wk at_ s op a b c n w) :
  Calls Tryz.prog 34 #[.pointer (some ⟨g,0,none⟩),.int .i64 (at_:Int),.agg (stV s)] w fun e w'=>e=.returned (.bool (Q31 p s ⟨8,a,b,c,n⟩))∧Ext w w':=by
 obtain ⟨hs,hr,hcl,hat,hi,hok,hp,h⟩:=H
 obtain ⟨v1,v2,hv,hR,⟨-,oc',capc',bc,oo,hv2,hc1,hc2,hrow⟩⟩:=hp
 simp only [Value.agg.injEq,Array.mk.injEq,List.cons.injEq,and_true] at hv
 obtain ⟨rfl,rfl⟩:=hv
 simp only [Value.slice.injEq,true_and] at hv2
 obtain ⟨rfl,rfl⟩:=hv2
 have hix:=Q24 (cap:=capc) hrow.at_
 obtain ⟨e0,e1,e2,e3,e4⟩:=hrow.ins at_ hat
 have hgi:p.code.getD at_ default=⟨op,a,b,c,n⟩:=hi
 rw [hgi] at e0 e1 e2 e3 e4
 simp only at e0 e1 e2 e3 e4
 obtain ⟨g0,c1,-,-⟩:=h.cells
 have hgl:=h.box.lt
 have hst:=Q13
 have Hs:=zh hs
 have hl:=hs.len
 have HR:=zh hR
 have Hok:=zh hok
 have hbl:=Q0k e0
 simp only at hbl
 subst hop
 have ha:okIn 8 a=true:=by unfold Q04 at hok;simp [okIn] at hok ⊢;omega
 obtain ⟨a0,a1⟩:=Q0l.1 ha
 have hb:okIn 8 b=true:=by unfold Q04 at hok;simp [okIn] at hok ⊢;omega
 obtain ⟨b0,b1⟩:=Q0l.1 hb
 clear h hs hrow hi hgi hR hr hc1 hc2 hok
 go_enter Tryz.func34,Tryz.ntmps34
 go_upto_region 3 with fail
 obtain ⟨W,e,he,hW,hx,bS,bI⟩:=Q14 w (stV s) #[.int .i64 8,.int .i64 a,.int .i64 b,.int .i64 c,.int .i64 n] 94 41
 rw [hW,he]
 have X:=zh hx
 obtain ⟨i0,i1,i2,i3,i4⟩:=ins5 bI
 have hel0:=bS.lt
 have hel1:=bI.lt
 have g0:=hx.kept g0.1
 clear hW he e0 e1 e2 e3 e4 bI hbl
 obtain ⟨⟨ax0,-⟩,⟨ax1,-⟩⟩:=Q1i bS hl ha
 obtain ⟨⟨bx0,-⟩,⟨bx1,-⟩⟩:=Q1i bS hl hb
 generalize hsa:(kg s a).sec=sa at *
 generalize hsb:(kg s b).sec=sb at *
 clear bS hx
 cases sa <;> cases sb <;> (
  go_wp2
  go_ret
  exact ⟨Q1z (by simp [Q31,hsa,hsb]),X.out⟩)
set_option maxRecDepth 100000 in
set_option maxHeartbeats 4000000 in
theorem Qol (hop:op=9) (w:World) (H:OneH p B g ks oa capa vK oc capc T wk at_ s op a b c n w) :
  Calls Tryz.prog 34 #[.pointer (some ⟨g,0,none⟩),.int .i64 (at_:Int),.agg (stV s)] w fun e w'=>e=.returned (.bool (Q31 p s ⟨9,a,b,c,n⟩))∧Ext w w':=by
 obtain ⟨hs,hr,hcl,hat,hi,hok,hp,h⟩:=H
 obtain ⟨v1,v2,hv,hR,⟨-,oc',capc',bc,oo,hv2,hc1,hc2,hrow⟩⟩:=hp
 simp only [Value.agg.injEq,Array.mk.injEq,List.cons.injEq,and_true] at hv
 obtain ⟨rfl,rfl⟩:=hv
 simp only [Value.slice.injEq,true_and] at hv2
 obtain ⟨rfl,rfl⟩:=hv2
 have hix:=Q24 (cap:=capc) hrow.at_
 obtain ⟨e0,e1,e2,e3,e4⟩:=hrow.ins at_ hat
 have hgi:p.code.getD at_ default=⟨op,a,b,c,n⟩:=hi
 rw [hgi] at e0 e1 e2 e3 e4
 simp only at e0 e1 e2 e3 e4
 obtain ⟨g0,c1,-,-⟩:=h.cells
 have hgl:=h.box.lt
 have hst:=Q13
 have Hs:=zh hs
 have hl:=hs.len
 have HR:=zh hR
 have Hok:=zh hok
 have hbl:=Q0k e0
 simp only at hbl
 subst hop
 have ha:okIn 8 a=true:=by unfold Q04 at hok;simp [okIn] at hok ⊢;omega
 obtain ⟨a0,a1⟩:=Q0l.1 ha
 clear h hs hrow hi hgi hR hr hc1 hc2 hok
 go_enter Tryz.func34,Tryz.ntmps34
 go_upto_region 3 with fail
 obtain ⟨W,e,he,hW,hx,bS,bI⟩:=Q14 w (stV s) #[.int .i64 9,.int .i64 a,.int .i64 b,.int .i64 c,.int .i64 n] 94 41
 rw [hW,he]
 have X:=zh hx
 obtain ⟨i0,i1,i2,i3,i4⟩:=ins5 bI
 have hel0:=bS.lt
 have hel1:=bI.lt
 have g0:=hx.kept g0.1
 clear hW he e0 e1 e2 e3 e4 bI hbl
 obtain ⟨⟨ax0,-⟩,⟨ax1,-⟩⟩:=Q1i bS hl ha
 generalize hsa:(kg s a).sec=sa at *
 clear bS hx
 cases sa <;> (
  go_wp2
  go_ret
  exact ⟨Q1z (by simp [Q31,hsa]),X.out⟩)
set_option maxRecDepth 100000 in
set_option maxHeartbeats 4000000 in
theorem Qoq (hop:op=29) (w:World) (H:OneH p B g ks oa capa vK oc capc T wk at_ s op a b c n w) :
  Calls Tryz.prog 34 #[.pointer (some ⟨g,0,none⟩),.int .i64 (at_:Int),.agg (stV s)] w fun e w'=>e=.returned (.bool (Q31 p s ⟨29,a,b,c,n⟩))∧Ext w w':=by
 obtain ⟨hs,hr,hcl,hat,hi,hok,hp,h⟩:=H
 obtain ⟨v1,v2,hv,hR,⟨-,oc',capc',bc,oo,hv2,hc1,hc2,hrow⟩⟩:=hp
 simp only [Value.agg.injEq,Array.mk.injEq,List.cons.injEq,and_true] at hv
 obtain ⟨rfl,rfl⟩:=hv
 simp only [Value.slice.injEq,true_and] at hv2
 obtain ⟨rfl,rfl⟩:=hv2
 have hix:=Q24 (cap:=capc) hrow.at_
 obtain ⟨e0,e1,e2,e3,e4⟩:=hrow.ins at_ hat
 have hgi:p.code.getD at_ default=⟨op,a,b,c,n⟩:=hi
 rw [hgi] at e0 e1 e2 e3 e4
 simp only at e0 e1 e2 e3 e4
 obtain ⟨g0,c1,-,-⟩:=h.cells
 have hgl:=h.box.lt
 have hst:=Q13
 have Hs:=zh hs
 have hl:=hs.len
 have HR:=zh hR
 have Hok:=zh hok
 have hbl:=Q0k e0
 simp only at hbl
 subst hop
 have hb:okIn 8 b=true:=by unfold Q04 at hok;simp [okIn] at hok ⊢;omega
 obtain ⟨b0,b1⟩:=Q0l.1 hb
 have hc:okIn 8 c=true:=by unfold Q04 at hok;simp [okIn] at hok ⊢;omega
 obtain ⟨c0,c1⟩:=Q0l.1 hc
 clear h hs hrow hi hgi hR hr hc1 hc2 hok
 go_enter Tryz.func34,Tryz.ntmps34
 go_upto_region 3 with fail
 obtain ⟨W,e,he,hW,hx,bS,bI⟩:=Q14 w (stV s) #[.int .i64 29,.int .i64 a,.int .i64 b,.int .i64 c,.int .i64 n] 94 41
 rw [hW,he]
 have X:=zh hx
 obtain ⟨i0,i1,i2,i3,i4⟩:=ins5 bI
 have hel0:=bS.lt
 have hel1:=bI.lt
 have g0:=hx.kept g0.1
 clear hW he e0 e1 e2 e3 e4 bI hbl
 obtain ⟨⟨bx0,-⟩,⟨bx1,-⟩⟩:=Q1i bS hl hb
 obtain ⟨⟨cx0,-⟩,⟨cx1,-⟩⟩:=Q1i bS hl hc
 generalize hsb:(kg s b).sec=sb at *
 generalize hsc:(kg s c).sec=sc at *
 clear bS hx
 cases sb <;> cases sc <;> (
  go_wp2
  go_ret
  exact ⟨Q1z (by simp [Q31,hsb,hsc]),X.out⟩)
set_option maxRecDepth 100000 in
set_option maxHeartbeats 4000000 in
theorem Qop (hop:op=30) (w:World) (H:OneH p B g ks oa capa vK oc capc T wk at_ s op a b c n w) :
  Calls Tryz.prog 34 #[.pointer (some ⟨g,0,none⟩),.int .i64 (at_:Int),.agg (stV s)] w fun e w'=>e=.returned (.bool (Q31 p s ⟨30,a,b,c,n⟩))∧Ext w w':=by
 obtain ⟨hs,hr,hcl,hat,hi,hok,hp,h⟩:=H
 obtain ⟨v1,v2,hv,hR,⟨-,oc',capc',bc,oo,hv2,hc1,hc2,hrow⟩⟩:=hp
 simp only [Value.agg.injEq,Array.mk.injEq,List.cons.injEq,and_true] at hv
 obtain ⟨rfl,rfl⟩:=hv
 simp only [Value.slice.injEq,true_and] at hv2
 obtain ⟨rfl,rfl⟩:=hv2
 have hix:=Q24 (cap:=capc) hrow.at_
 obtain ⟨e0,e1,e2,e3,e4⟩:=hrow.ins at_ hat
 have hgi:p.code.getD at_ default=⟨op,a,b,c,n⟩:=hi
 rw [hgi] at e0 e1 e2 e3 e4
 simp only at e0 e1 e2 e3 e4
 obtain ⟨g0,c1,-,-⟩:=h.cells
 have hgl:=h.box.lt
 have hst:=Q13
 have Hs:=zh hs
 have hl:=hs.len
 have HR:=zh hR
 have Hok:=zh hok
 have hbl:=Q0k e0
 simp only at hbl
 subst hop
 have hb:okIn 8 b=true:=by unfold Q04 at hok;simp [okIn] at hok ⊢;omega
 obtain ⟨b0,b1⟩:=Q0l.1 hb
 have hc:okIn 8 c=true:=by unfold Q04 at hok;simp [okIn] at hok ⊢;omega
 obtain ⟨c0,c1⟩:=Q0l.1 hc
 clear h hs hrow hi hgi hR hr hc1 hc2 hok
 go_enter Tryz.func34,Tryz.ntmps34
 go_upto_region 3 with fail
 obtain ⟨W,e,he,hW,hx,bS,bI⟩:=Q14 w (stV s) #[.int .i64 30,.int .i64 a,.int .i64 b,.int .i64 c,.int .i64 n] 94 41
 rw [hW,he]
 have X:=zh hx
 obtain ⟨i0,i1,i2,i3,i4⟩:=ins5 bI
 have hel0:=bS.lt
 have hel1:=bI.lt
 have g0:=hx.kept g0.1
 clear hW he e0 e1 e2 e3 e4 bI hbl
 obtain ⟨⟨bx0,-⟩,⟨bx1,-⟩⟩:=Q1i bS hl hb
 obtain ⟨⟨cx0,-⟩,⟨cx1,-⟩⟩:=Q1i bS hl hc
 generalize hsb:(kg s b).sec=sb at *
 generalize hsc:(kg s c).sec=sc at *
 clear bS hx
 cases sb <;> cases sc <;> (
  go_wp2
  go_ret
  exact ⟨Q1z (by simp [Q31,hsb,hsc]),X.out⟩)
set_option maxRecDepth 100000 in
set_option maxHeartbeats 4000000 in
theorem Qoo (hop:op=4) (w:World) (H:OneH p B g ks oa capa vK oc capc T wk at_ s op a b c n w) :
  Calls Tryz.prog 34 #[.pointer (some ⟨g,0,none⟩),.int .i64 (at_:Int),.agg (stV s)] w fun e w'=>e=.returned (.bool (Q31 p s ⟨4,a,b,c,n⟩))∧Ext w w':=by
 obtain ⟨hs,hr,hcl,hat,hi,hok,hp,h⟩:=H
 obtain ⟨v1,v2,hv,hR,⟨-,oc',capc',bc,oo,hv2,hc1,hc2,hrow⟩⟩:=hp
 simp only [Value.agg.injEq,Array.mk.injEq,List.cons.injEq,and_true] at hv
 obtain ⟨rfl,rfl⟩:=hv
 simp only [Value.slice.injEq,true_and] at hv2
 obtain ⟨rfl,rfl⟩:=hv2
 have hix:=Q24 (cap:=capc) hrow.at_
 obtain ⟨e0,e1,e2,e3,e4⟩:=hrow.ins at_ hat
 have hgi:p.code.getD at_ default=⟨op,a,b,c,n⟩:=hi
 rw [hgi] at e0 e1 e2 e3 e4
 simp only at e0 e1 e2 e3 e4
 obtain ⟨g0,c1,-,-⟩:=h.cells
 have hgl:=h.box.lt
 have hst:=Q13
 have Hs:=zh hs
 have hl:=hs.len
 have HR:=zh hR
 have Hok:=zh hok
 have hbl:=Q0k e0
 simp only at hbl
 subst hop
 obtain ⟨hc0,hc1'⟩:=Q5s hok (by unfold Q0q Q1m;simp)
 simp only at hc0 hc1'
 have hR2:=hR
 obtain ⟨-,oa',capa',br,orr,hv3,hd1,hd2,hrow2⟩:=hR2
 simp only [Value.slice.injEq,true_and] at hv3
 obtain ⟨rfl,rfl⟩:=hv3
 obtain ⟨rlog,rsec⟩:=hrow2.reg c.toNat hc1'
 have hixr:=Q50 (cap:=capa) hrow2.at_
 have hlen:=Q4g hr
 have hcl2:c < (p.regs.length:Int):=by omega
 have hrf:p.regs.getD c.toNat default=Q11 p ⟨4,a,b,c,n⟩:=rfl
 rw [hrf] at rsec rlog
 have ha:okIn 8 a=true:=by unfold Q04 at hok;simp [okIn] at hok ⊢;omega
 obtain ⟨a0,a1⟩:=Q0l.1 ha
 have hb:okIn 8 b=true:=by unfold Q04 at hok;simp [okIn] at hok ⊢;omega
 obtain ⟨b0,b1⟩:=Q0l.1 hb
 clear h hs hrow hi hgi hR hr hc1 hc2 hok
 clear hrow2 hd1 hd2 rlog hrf
 go_enter Tryz.func34,Tryz.ntmps34
 go_upto_region 6 with fail
 obtain ⟨W,e,he,hW,hx,bS,bI⟩:=Q14 w (stV s) #[.int .i64 4,.int .i64 a,.int .i64 b,.int .i64 c,.int .i64 n] 94 41
 rw [hW,he]
 have X:=zh hx
 obtain ⟨i0,i1,i2,i3,i4⟩:=ins5 bI
 have hel0:=bS.lt
 have hel1:=bI.lt
 have g0:=hx.kept g0.1
 clear hW he e0 e1 e2 e3 e4 bI hbl
 obtain ⟨⟨bx0,-⟩,⟨bx1,-⟩⟩:=Q1i bS hl hb
 obtain ⟨⟨ax0,-⟩,⟨ax1,-⟩⟩:=Q1i bS hl ha
 generalize hsb:(kg s b).sec=sb at *
 generalize hsa:(kg s a).sec=sa at *
 generalize hsr:(Q11 p ⟨4,a,b,c,n⟩).secret=sr at *
 have k1:∀ Wx,Ext W Wx→Wx.cell? ⟨e+1,1,none⟩=some (.int .i64 a):=fun _ h=>h.kept i1
 have k2:∀ Wx,Ext W Wx→Wx.cell? ⟨e+1,2,none⟩=some (.int .i64 b):=fun _ h=>h.kept i2
 have k3:∀ Wx,Ext W Wx→Wx.cell? ⟨e+1,3,none⟩=some (.int .i64 c):=fun _ h=>h.kept i3
 have nb:∀ Wx,Ext W Wx→Wx.cell? ⟨e,b.toNat * 2+1,none⟩=some (.bool sb):=fun _ h=>h.kept bx1
 have na:∀ Wx,Ext W Wx→Wx.cell? ⟨e,a.toNat * 2+1,none⟩=some (.bool sa):=fun _ h=>h.kept ax1
 have kg0:∀ Wx,Ext W Wx→Wx.cell? ⟨g,0,none⟩=some (.slice oa p.regs.length capa):=fun _ h=>h.kept g0
 have kr1:∀ Wx,Ext W Wx→Wx.cell? ⟨br,orr+c.toNat * 2+1,none⟩=some (.bool sr):=fun _ h=>h.kept (hx.kept rsec)
 have hres:Q31 p s ⟨4,a,b,c,n⟩=(!sb && (!sa || sr)):=by simp [Q31,hsb,hsa,hsr]
 have Hres:=zh hres
 clear i0 i1 i2 i3 i4 bx0 bx1 ax0 ax1 g0 bS hx rsec hres
 cases sb <;> cases sa <;> (
  refine Q0j 27 (by kernel_rfl) (by kernel_rfl) ?_
  simp only [List.take_succ_cons,List.take_zero,List.drop_succ_cons,List.drop_zero]
  repeat (first | (refine Q0d ?_ ?_ ?_;(decide);(first | rfl | (focus (go_simp;done)));apply Exists.intro;refine ⟨fun wc hE=>?_,?_⟩;(go_simp;exact rfl);go_simp) | (refine Q0e ?_ ?_ ?_;(decide);(first | rfl | (focus (go_simp;done)));go_simp))
  refine Q0f ?_
  intro wy hx
  have X:=zh (X.out.trans hx)
  clear hx k1 k2 k3 nb na kg0 kr1
  go_wp2
  go_ret
  exact ⟨Q1z (by rw [Hres.out];simp),X.out⟩)
set_option maxRecDepth 100000 in
set_option maxHeartbeats 4000000 in
theorem Qon (hop:op=6) (w:World) (H:OneH p B g ks oa capa vK oc capc T wk at_ s op a b c n w) :
  Calls Tryz.prog 34 #[.pointer (some ⟨g,0,none⟩),.int .i64 (at_:Int),.agg (stV s)] w fun e w'=>e=.returned (.bool (Q31 p s ⟨6,a,b,c,n⟩))∧Ext w w':=by
 obtain ⟨hs,hr,hcl,hat,hi,hok,hp,h⟩:=H
 obtain ⟨v1,v2,hv,hR,⟨-,oc',capc',bc,oo,hv2,hc1,hc2,hrow⟩⟩:=hp
 simp only [Value.agg.injEq,Array.mk.injEq,List.cons.injEq,and_true] at hv
 obtain ⟨rfl,rfl⟩:=hv
 simp only [Value.slice.injEq,true_and] at hv2
 obtain ⟨rfl,rfl⟩:=hv2
 have hix:=Q24 (cap:=capc) hrow.at_
 obtain ⟨e0,e1,e2,e3,e4⟩:=hrow.ins at_ hat
 have hgi:p.code.getD at_ default=⟨op,a,b,c,n⟩:=hi
 rw [hgi] at e0 e1 e2 e3 e4
 simp only at e0 e1 e2 e3 e4
 obtain ⟨g0,c1,-,-⟩:=h.cells
 have hgl:=h.box.lt
 have hst:=Q13
 have Hs:=zh hs
 have hl:=hs.len
 have HR:=zh hR
 have Hok:=zh hok
 have hbl:=Q0k e0
 simp only at hbl
 subst hop
 obtain ⟨hc0,hc1'⟩:=Q5s hok (by unfold Q0q Q1m;simp)
 simp only at hc0 hc1'
 have hR2:=hR
 obtain ⟨-,oa',capa',br,orr,hv3,hd1,hd2,hrow2⟩:=hR2
 simp only [Value.slice.injEq,true_and] at hv3
 obtain ⟨rfl,rfl⟩:=hv3
 obtain ⟨rlog,rsec⟩:=hrow2.reg c.toNat hc1'
 have hixr:=Q50 (cap:=capa) hrow2.at_
 have hlen:=Q4g hr
 have hcl2:c < (p.regs.length:Int):=by omega
 have hrf:p.regs.getD c.toNat default=Q11 p ⟨6,a,b,c,n⟩:=rfl
 rw [hrf] at rsec rlog
 have ha:okIn 8 a=true:=by unfold Q04 at hok;simp [okIn] at hok ⊢;omega
 obtain ⟨a0,a1⟩:=Q0l.1 ha
 clear h hs hrow hi hgi hR hr hc1 hc2 hok
 clear hrow2 hd1 hd2 rlog hrf
 go_enter Tryz.func34,Tryz.ntmps34
 go_upto_region 8 with fail
 obtain ⟨W,e,he,hW,hx,bS,bI⟩:=Q14 w (stV s) #[.int .i64 6,.int .i64 a,.int .i64 b,.int .i64 c,.int .i64 n] 94 41
 rw [hW,he]
 have X:=zh hx
 obtain ⟨i0,i1,i2,i3,i4⟩:=ins5 bI
 have hel0:=bS.lt
 have hel1:=bI.lt
 have g0:=hx.kept g0.1
 clear hW he e0 e1 e2 e3 e4 bI hbl
 obtain ⟨⟨ax0,-⟩,⟨ax1,-⟩⟩:=Q1i bS hl ha
 generalize hsa:(kg s a).sec=sa at *
 generalize hsr:(Q11 p ⟨6,a,b,c,n⟩).secret=sr at *
 have k1:∀ Wx,Ext W Wx→Wx.cell? ⟨e+1,1,none⟩=some (.int .i64 a):=fun _ h=>h.kept i1
 have k2:∀ Wx,Ext W Wx→Wx.cell? ⟨e+1,2,none⟩=some (.int .i64 b):=fun _ h=>h.kept i2
 have k3:∀ Wx,Ext W Wx→Wx.cell? ⟨e+1,3,none⟩=some (.int .i64 c):=fun _ h=>h.kept i3
 have na:∀ Wx,Ext W Wx→Wx.cell? ⟨e,a.toNat * 2+1,none⟩=some (.bool sa):=fun _ h=>h.kept ax1
 have kg0:∀ Wx,Ext W Wx→Wx.cell? ⟨g,0,none⟩=some (.slice oa p.regs.length capa):=fun _ h=>h.kept g0
 have kr1:∀ Wx,Ext W Wx→Wx.cell? ⟨br,orr+c.toNat * 2+1,none⟩=some (.bool sr):=fun _ h=>h.kept (hx.kept rsec)
 have hres:Q31 p s ⟨6,a,b,c,n⟩=(!sa || sr):=by simp [Q31,hsa,hsr]
 have Hres:=zh hres
 clear i0 i1 i2 i3 i4 ax0 ax1 g0 bS hx rsec hres
 cases sa <;> (
  refine Q0j 19 (by kernel_rfl) (by kernel_rfl) ?_
  simp only [List.take_succ_cons,List.take_zero,List.drop_succ_cons,List.drop_zero]
  repeat (first | (refine Q0d ?_ ?_ ?_;(decide);(first | rfl | (focus (go_simp;done)));apply Exists.intro;refine ⟨fun wc hE=>?_,?_⟩;(go_simp;exact rfl);go_simp) | (refine Q0e ?_ ?_ ?_;(decide);(first | rfl | (focus (go_simp;done)));go_simp))
  refine Q0f ?_
  intro wy hx
  have X:=zh (X.out.trans hx)
  clear hx k1 k2 k3 na kg0 kr1
  go_wp2
  go_ret
  exact ⟨Q1z (by rw [Hres.out];simp),X.out⟩)
set_option maxRecDepth 100000 in
set_option maxHeartbeats 4000000 in
theorem Qor (hop:op≠3∧op≠4∧op≠6∧op≠8∧op≠29∧op≠30∧op≠9) (w:World) (H:OneH p B g ks oa capa vK oc capc T wk at_ s op a b c n w) :
  Calls Tryz.prog 34 #[.pointer (some ⟨g,0,none⟩),.int .i64 (at_:Int),.agg (stV s)] w fun e w'=>e=.returned (.bool (Q31 p s ⟨op,a,b,c,n⟩))∧Ext w w':=by
 obtain ⟨hs,hr,hcl,hat,hi,hok,hp,h⟩:=H
 obtain ⟨v1,v2,hv,hR,⟨-,oc',capc',bc,oo,hv2,hc1,hc2,hrow⟩⟩:=hp
 simp only [Value.agg.injEq,Array.mk.injEq,List.cons.injEq,and_true] at hv
 obtain ⟨rfl,rfl⟩:=hv
 simp only [Value.slice.injEq,true_and] at hv2
 obtain ⟨rfl,rfl⟩:=hv2
 have hix:=Q24 (cap:=capc) hrow.at_
 obtain ⟨e0,e1,e2,e3,e4⟩:=hrow.ins at_ hat
 have hgi:p.code.getD at_ default=⟨op,a,b,c,n⟩:=hi
 rw [hgi] at e0 e1 e2 e3 e4
 simp only at e0 e1 e2 e3 e4
 obtain ⟨g0,c1,-,-⟩:=h.cells
 have hgl:=h.box.lt
 have hst:=Q13
 have Hs:=zh hs
 have hl:=hs.len
 have HR:=zh hR
 have Hok:=zh hok
 have hbl:=Q0k e0
 simp only at hbl
 have hbk:Q31 p s ⟨op,a,b,c,n⟩=true:=by unfold Q31;rw [if_neg (by simp only;omega),if_neg (by simp only;omega),if_neg (by simp only;omega),if_neg (by simp only;omega),if_neg (by simp only;omega),if_neg (by simp only;omega)]
 have Hbk:=zh hbk
 clear hbk
 have hq3:(op == (3:Int))=false:=by simp;omega
 have hq4:(op == (4:Int))=false:=by simp;omega
 have hq6:(op == (6:Int))=false:=by simp;omega
 have hq8:(op == (8:Int))=false:=by simp;omega
 have hq29:(op == (29:Int))=false:=by simp;omega
 have hq30:(op == (30:Int))=false:=by simp;omega
 have hq9:(op == (9:Int))=false:=by simp;omega
 clear h hs hrow hi hgi hR hr hc1 hc2 hok
 go_enter Tryz.func34,Tryz.ntmps34
 go_upto_region 3 with fail
 obtain ⟨W,e,he,hW,hx,bS,bI⟩:=Q14 w (stV s) #[.int .i64 op,.int .i64 a,.int .i64 b,.int .i64 c,.int .i64 n] 94 41
 rw [hW,he]
 have X:=zh hx
 obtain ⟨i0,i1,i2,i3,i4⟩:=ins5 bI
 have hel0:=bS.lt
 have hel1:=bI.lt
 have g0:=hx.kept g0.1
 clear hW he e0 e1 e2 e3 e4 bI hbl
 clear bS hx
 go_wp2
 go_ret
 exact ⟨Q1z (by rw [Hbk.out]),X.out⟩
theorem Qvh (p:Q00) {B g ks:Nat} {oa:Option Addr} {capa:Nat} {vK:Value} {oc:Option Addr} {capc:Nat} {T:Tab} {wk:List Int} (at_:Nat) (s:KSt) (hs:Sok s) (hr:Q0p p.regs=true) (hcl:p.code.length≤200) (hat:at_ < p.code.length) (hok:Q04 p 8 (Q1t p at_)=true) (w:World) (hp:Q29 w (.agg #[.slice oa p.regs.length capa,.slice oc p.code.length capc]) p) (h:CSt w B g ks (.slice oa p.regs.length capa) (.slice oc p.code.length capc) vK p T wk) :
  Calls Tryz.prog 33 #[.pointer (some ⟨g,0,none⟩),.int .i64 (at_:Int),.agg (stV s)] w fun e w'=>e=.returned (.bool (Q37 p at_ s (Q1t p at_)))∧Ext w w':=by
 generalize hi:Q1t p at_=i at *
 obtain ⟨op,a,b,c,n⟩:=i
 by_cases e7:op=7
 ·subst e7;exact Qvd p at_ s _ a b c n rfl w ⟨hs,hr,hcl,hat,hi,hok,hp,h⟩
 by_cases e9:op=9
 ·subst e9;exact Qvc p at_ s _ a b c n rfl w ⟨hs,hr,hcl,hat,hi,hok,hp,h⟩
 by_cases e3:op=3
 ·subst e3;exact Qvf p at_ s _ a b c n rfl w ⟨hs,hr,hcl,hat,hi,hok,hp,h⟩
 by_cases e4:op=4
 ·subst e4;exact Qve p at_ s _ a b c n rfl w ⟨hs,hr,hcl,hat,hi,hok,hp,h⟩
 exact Qvg p at_ s op a b c n ⟨e7,e9,e3,e4⟩ w ⟨hs,hr,hcl,hat,hi,hok,hp,h⟩
theorem Qos (p:Q00) {B g ks:Nat} {oa:Option Addr} {capa:Nat} {vK:Value} {oc:Option Addr} {capc:Nat} {T:Tab} {wk:List Int} (at_:Nat) (s:KSt) (hs:Sok s) (hr:Q0p p.regs=true) (hcl:p.code.length≤200) (hat:at_ < p.code.length) (hok:Q04 p 8 (Q1t p at_)=true) (w:World) (hp:Q29 w (.agg #[.slice oa p.regs.length capa,.slice oc p.code.length capc]) p) (h:CSt w B g ks (.slice oa p.regs.length capa) (.slice oc p.code.length capc) vK p T wk) :
  Calls Tryz.prog 34 #[.pointer (some ⟨g,0,none⟩),.int .i64 (at_:Int),.agg (stV s)] w fun e w'=>e=.returned (.bool (Q31 p s (Q1t p at_)))∧Ext w w':=by
 generalize hi:Q1t p at_=i at *
 obtain ⟨op,a,b,c,n⟩:=i
 by_cases e3:op=3
 ·subst e3;exact Qdj p at_ s _ a b c n rfl w ⟨hs,hr,hcl,hat,hi,hok,hp,h⟩
 by_cases e4:op=4
 ·subst e4;exact Qoo p at_ s _ a b c n rfl w ⟨hs,hr,hcl,hat,hi,hok,hp,h⟩
 by_cases e6:op=6
 ·subst e6;exact Qon p at_ s _ a b c n rfl w ⟨hs,hr,hcl,hat,hi,hok,hp,h⟩
 by_cases e8:op=8
 ·subst e8;exact Qom p at_ s _ a b c n rfl w ⟨hs,hr,hcl,hat,hi,hok,hp,h⟩
 by_cases e29:op=29
 ·subst e29;exact Qoq p at_ s _ a b c n rfl w ⟨hs,hr,hcl,hat,hi,hok,hp,h⟩
 by_cases e30:op=30
 ·subst e30;exact Qop p at_ s _ a b c n rfl w ⟨hs,hr,hcl,hat,hi,hok,hp,h⟩
 by_cases e9:op=9
 ·subst e9;exact Qol p at_ s _ a b c n rfl w ⟨hs,hr,hcl,hat,hi,hok,hp,h⟩
 exact Qor p at_ s op a b c n ⟨e3,e4,e6,e8,e29,e30,e9⟩ w ⟨hs,hr,hcl,hat,hi,hok,hp,h⟩
end
end Go.Proofs.YtiafchefbehfbaaGreatDoor

namespace Go.Proofs.YtiafchefbehfbaaGreatDoor
open Go
set_option linter.unusedVariables false
set_option linter.unusedSimpArgs false
structure Work (p:Q00) (T:Tab) (wk:List Int) (D:Nat→Prop):Prop where
 tok:Tok p T
 under:Q8u p T
 first:∃ s,tg T 0=some s∧Sle Q49 s
 elems:∀ x ∈ wk,∃ k:Nat,x=(k:Int)∧k < p.code.length∧∃ s,tg T k=some s
 done:∀ k s,tg T k=some s→¬ D k→(k:Int) ∉ wk→∀ x ∈ Q0o p k s (Q1t p k),Led p T x
structure Q54 (p:Q00) (T:Tab) (wk:List Int) (T':Tab) (wk':List Int):Prop where
 up:Tle T T'
 less:meas T' wk'≤meas T wk
 kept:∀ j s,tg T j=some s→tg T' j=some s∨(j:Int) ∈ wk'
 sub:∀ x ∈ wk,x ∈ wk'
theorem Q54.refl (p:Q00) (T:Tab) (wk:List Int):Q54 p T wk T wk:=⟨Tle.refl T,Nat.le_refl _,fun _ _ h=>.inl h,fun _ h=>h⟩
theorem Q54.trans {p:Q00} {T U V:Tab} {a b c:List Int} (h:Q54 p T a U b) (k:Q54 p U b V c):Q54 p T a V c :=
 ⟨h.up.trans k.up,Nat.le_trans k.less h.less,fun j s hj=>by
  rcases h.kept j s hj with h1 | h1
  ·exact k.kept j s h1
  ·exact .inr (k.sub _ h1),fun x hx=>k.sub x (h.sub x hx)⟩
theorem Work.rise {p:Q00} {T T':Tab} {wk wk':List Int} {D:Nat→Prop} (h:Work p T wk D) (hT:Tok p T') (hU:Q8u p T') (ho:Q54 p T wk T' wk') (hb:∀ j s,tg T' j=some s→tg T j=some s∨(j:Int) ∈ wk')
  (he:∀ x ∈ wk',x ∈ wk∨∃ k:Nat,x=(k:Int)∧k < p.code.length∧∃ s,tg T' k=some s):Work p T' wk' D:=by
 refine ⟨hT,hU,?_,fun x hx=>?_,fun k s hk hd hn x hx=>?_⟩
 ·obtain ⟨s,h1,h2⟩:=h.first
  obtain ⟨t,h3,h4⟩:=ho.up 0 s h1
  exact ⟨t,h3,h2.trans h4⟩
 ·rcases he x hx with h1 | h1
  ·obtain ⟨k,e,h2,s,h3⟩:=h.elems x h1
   obtain ⟨t,h4,-⟩:=ho.up k s h3
   exact ⟨k,e,h2,t,h4⟩
  ·exact h1
 ·rcases hb k s hk with h1 | h1
  ·exact (h.done k s h1 hd (fun h2=>hn (ho.sub _ h2)) x hx).mono ho.up
  ·exact absurd h1 hn
theorem Qro {p:Q00} {T:Tab} {wk:List Int} {D:Nat→Prop} (h:Work p T wk D) {x:Nat × KSt} (hs:Sok x.2) (hU:x.1 < p.code.length→Q8u p (Q1d T x)) :
  Work p (Q4z p T x.1 x.2) (Q4m p T wk x.1 x.2) D∧Q54 p T wk (Q4z p T x.1 x.2) (Q4m p T wk x.1 x.2)∧Led p (Q4z p T x.1 x.2) x:=by
 unfold Q4z Q4m
 by_cases hn:p.code.length≤x.1
 ·rw [if_pos hn,if_pos hn]
  exact ⟨h,Q54.refl _ _ _,fun hx=>by omega⟩
 ·rw [if_neg hn,if_neg hn]
  have hx:x.1 < p.code.length:=by omega
  have hxT:x.1 < T.length:=by rw [h.tok.len];exact hx
  have hT:=Qsi h.tok hs hx
  have hup:=Qsl h.tok hs hx
  have hled:=Qsk h.tok hs (x:=x)
  have hget:=fun j=>Qac (T:=T) (x:=x) j hxT
  have hU:=hU hx
  cases ht:tg T x.1 with
  | none =>
   simp only
   have hj:Q1d T x=T.set x.1 (some x.2):=by unfold Q1d;rw [ht]
   have hp:=Qdp T x.1 (some x.2) hxT
   rw [ht] at hp
   have hm:meas (Q1d T x) (wk ++ [(x.1:Int)])≤meas T wk:=by
    rw [hj]
    unfold meas
    simp only [ph] at hp
    simp only [List.length_append,List.length_cons,List.length_nil]
    omega
   have ho:Q54 p T wk (Q1d T x) (wk ++ [(x.1:Int)]):=⟨hup,hm,fun j s hjs=>by
    rw [hget j]
    by_cases e:j=x.1
    ·subst e;right;simp
    ·rw [if_neg e];exact .inl hjs,fun y hy=>by simp [hy]⟩
   refine ⟨h.rise hT hU ho (fun j s hjs=>?_) (fun y hy=>?_),ho,hled⟩
   ·rw [hget j] at hjs
    by_cases e:j=x.1
    ·subst e;right;simp
    ·rw [if_neg e] at hjs;exact .inl hjs
   ·simp only [List.mem_append,List.mem_cons,List.not_mem_nil,or_false] at hy
    rcases hy with hy | rfl
    ·exact .inl hy
    ·exact .inr ⟨x.1,rfl,hx,by rw [hget,if_pos rfl];exact ⟨_,rfl⟩⟩
  | some t =>
   simp only
   have hj:Q1d T x=T.set x.1 (some (Q18 x.2 t)):=by unfold Q1d;rw [ht]
   have hto:=h.tok.ok _ _ ht
   by_cases e:Q18 x.2 t=t
   ·rw [if_pos e]
    have hjj:Q1d T x=T:=by rw [hj,e];exact Qm3 ht hxT
    rw [hjj] at hled ⊢
    exact ⟨h,Q54.refl _ _ _,hled⟩
   ·rw [if_neg e]
    have hp:=Qdp T x.1 (some (Q18 x.2 t)) hxT
    rw [ht] at hp
    have hjo:=Q90 x.2 t
    have hr:=Qhb t (Q18 x.2 t) (by rw [hto.len,hjo.len]) hto.ok hjo.ok (Qgl hto)
    have hlt:rank t < rank (Q18 x.2 t):=by
     rcases Nat.lt_or_ge (rank t) (rank (Q18 x.2 t)) with h1 | h1
     ·exact h1
     ·exact absurd (hr.2 (by omega)).symm e
    have hbd:=Qog hjo
    have hm:meas (Q1d T x) (wk ++ [(x.1:Int)])≤meas T wk:=by
     rw [hj]
     unfold meas
     simp only [ph] at hp
     simp only [List.length_append,List.length_cons,List.length_nil]
     omega
    have ho:Q54 p T wk (Q1d T x) (wk ++ [(x.1:Int)]):=⟨hup,hm,fun j s hjs=>by
     rw [hget j]
     by_cases e:j=x.1
     ·subst e;right;simp
     ·rw [if_neg e];exact .inl hjs,fun y hy=>by simp [hy]⟩
    refine ⟨h.rise hT hU ho (fun j s hjs=>?_) (fun y hy=>?_),ho,hled⟩
    ·rw [hget j] at hjs
     by_cases e:j=x.1
     ·subst e;right;simp
     ·rw [if_neg e] at hjs;exact .inl hjs
    ·simp only [List.mem_append,List.mem_cons,List.not_mem_nil,or_false] at hy
     rcases hy with hy | rfl
     ·exact .inl hy
     ·exact .inr ⟨x.1,rfl,hx,by rw [hget,if_pos rfl];exact ⟨_,rfl⟩⟩
theorem Qj6 {p:Q00} {at_:Nat} {s:KSt} {D:Nat→Prop} (hs:Sok s):∀ (l:List (Nat × KSt)) (T:Tab) (wk:List Int),Work p T wk D→(∃ s',tg T at_=some s'∧Sle s s')→(∀ x ∈ l,x ∈ Q0o p at_ s (Q1t p at_)) →
  Work p (Q4n p l (T,wk)).1 (Q4n p l (T,wk)).2 D∧Q54 p T wk (Q4n p l (T,wk)).1 (Q4n p l (T,wk)).2∧∀ x ∈ l,Led p (Q4n p l (T,wk)).1 x
 | [],T,wk,h,_,_=>⟨h,Q54.refl _ _ _,fun x hx=>by simp at hx⟩
 | x :: l,T,wk,h,hk,hl=>by
  have hx:=hl x (by simp)
  have hxs:=Qe5 p at_ hs _ x hx
  obtain ⟨h1,h2,h3⟩:=Qro h hxs (fun hn=>Qsh h.tok h.under hk hs hx hn)
  obtain ⟨s',e1,e2⟩:=hk
  obtain ⟨t,e3,e4⟩:=h2.up at_ s' e1
  obtain ⟨i1,i2,i3⟩:=Qj6 hs l _ _ h1 ⟨t,e3,e2.trans e4⟩ (fun y hy=>hl y (by simp [hy]))
  refine ⟨i1,h2.trans i2,fun y hy=>?_⟩
  simp only [List.mem_cons] at hy
  rcases hy with rfl | hy
  ·exact h3.mono i2.up
  ·exact i3 y hy
theorem Qle {p:Q00} {T:Tab} {wk:List Int} {at_:Nat} {s:KSt} (h:Work p T (wk ++ [(at_:Int)]) (fun _=>False)) (hs:tg T at_=some s) :
  Work p (Q4n p (Q0o p at_ s (Q1t p at_)) (T,wk)).1 (Q4n p (Q0o p at_ s (Q1t p at_)) (T,wk)).2 (fun _=>False) ∧
  meas (Q4n p (Q0o p at_ s (Q1t p at_)) (T,wk)).1 (Q4n p (Q0o p at_ s (Q1t p at_)) (T,wk)).2 < meas T (wk ++ [(at_:Int)]):=by
 have h0:Work p T wk (fun k=>k=at_):=⟨h.tok,h.under,h.first,fun x hx=>h.elems x (by simp [hx]),fun k s hk hd hn x hx=>h.done k s hk id (by
  simp only [List.mem_append,List.mem_cons,List.not_mem_nil,or_false,not_or]
  exact ⟨hn,fun e=>hd (by omega)⟩) x hx⟩
 obtain ⟨h1,h2,h3⟩:=Qj6 (h.tok.ok _ _ hs) _ T wk h0 ⟨s,hs,Sle.refl s⟩ (fun x hx=>hx)
 generalize Q4n p (Q0o p at_ s (Q1t p at_)) (T,wk)=R at *
 refine ⟨⟨h1.tok,h1.under,h1.first,h1.elems,fun k u hk _ hn x hx=>?_⟩,?_⟩
 ·by_cases e:k=at_
  ·subst e
   rcases h2.kept k s hs with h4 | h4
   ·rw [hk] at h4
    obtain rfl:=Option.some.inj h4
    exact h3 x hx
   ·exact absurd h4 hn
  ·exact h1.done k u hk e hn x hx
 ·have:=h2.less
  unfold meas at *
  simp only [List.length_append,List.length_cons,List.length_nil]
  omega
theorem Qlf {p:Q00} {T:Tab} (h:Work p T [] (fun _=>False)):Q6q p T:=⟨⟨h.tok,h.first,fun k s hk x hx=>h.done k s hk id (by simp) x hx⟩,h.under⟩
theorem Qlh (p:Q00) (hp:0 < p.code.length):Work p (Q3p p) [((0:Nat):Int)] (fun _=>False):=by
 refine ⟨Qtz p hp,Qty p hp,⟨Q49,by rw [Qaj p hp,if_pos rfl],Sle.refl _⟩,fun x hx=>?_,fun k s hk _ hn x hx=>?_⟩
 ·simp only [List.mem_cons,List.not_mem_nil,or_false] at hx
  exact ⟨0,hx,hp,Q49,by rw [Qaj p hp,if_pos rfl]⟩
 ·rw [Qaj p hp] at hk
  split at hk
  ·rename_i e;subst e;simp at hn
  ·cases hk
theorem Qrp (p:Q00) (hp:0 < p.code.length):Q4z p (List.replicate p.code.length none) 0 Q49=Q3p p∧Q4m p (List.replicate p.code.length none) [] 0 Q49=[((0:Nat):Int)]:=by
 have h0:tg (List.replicate p.code.length (none:Option KSt)) 0=none:=by
  unfold tg
  rw [List.getD_eq_getElem?_getD,List.getElem?_replicate,if_pos hp]
  rfl
 unfold Q4z Q4m
 rw [if_neg (by omega),if_neg (by omega),h0]
 refine ⟨?_,rfl⟩
 unfold Q1d
 rw [h0]
 rfl
theorem Qqu (p:Q00) (hcl:p.code.length≤200):meas (Q3p p) [((0:Nat):Int)]≤87001:=by
 have:=Qhr (Q3p p)
 have hl:(Q3p p).length=p.code.length:=by simp [Q3p]
 unfold meas
 simp only [List.length_cons,List.length_nil]
 omega
theorem Qlg {wk:List Int} (h:0 < wk.length):∃ wk' x,wk=wk' ++ [x]:=by
 refine ⟨wk.dropLast,wk.getLast (by intro e;rw [e] at h;simp at h),?_⟩
 exact (List.dropLast_concat_getLast _).symm
end Go.Proofs.YtiafchefbehfbaaGreatDoor
