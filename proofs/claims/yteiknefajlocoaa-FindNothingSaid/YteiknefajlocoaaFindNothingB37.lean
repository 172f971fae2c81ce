/- Laid together from: Ck3. -/
import Derived.Test.YteiknefajlocoaaFindNothingB33
import Derived.Test.YteiknefajlocoaaFindNothingB35
import Derived.Test.YteiknefajlocoaaFindNothingB29

namespace Go.Proofs.Yteiknefajlocoaa
open Go.ChangeShapes Go.WideShapes Go.ChangeAt Go.RowKit
set_option linter.unusedVariables false
set_option linter.unusedSimpArgs false
theorem Qdj:(Try.prog.info? 3).map (fun i=>(i.zero,i.size,i.bytes))=some (some (.int .i64 0),1,8):=by kernel_rfl
def mixJ (s t:KSt) (j:Nat):KSt:=(List.range 8).map fun r=>if r < j then Q1x (s.getD r default) (t.getD r default) else s.getD r default
theorem Q8a (s t:KSt) (j:Nat):(mixJ s t j).length=8:=by simp [mixJ]
theorem Qgv {s:KSt} (hs:s.length=8) (t:KSt):mixJ s t 0=s:=by
 apply List.ext_getElem (by rw [Q8a,hs])
 intro j h1 h2
 simp [mixJ,h2]
theorem Qgy (s t:KSt):mixJ s t 8=Q11 s t:=by
 unfold mixJ Q11
 apply List.map_congr_left
 intro r hr
 rw [if_pos (by simpa using hr)]
theorem Qcx (s t:KSt) {j r:Nat} (hr:r < 8):(mixJ s t j).getD r default=if r < j then Q1x (s.getD r default) (t.getD r default) else s.getD r default:=by simp [mixJ,hr]
theorem Qgw (s t:KSt) {j:Nat} (hj:j < 8):kset (mixJ s t j) (j:Int) (Q1x (s.getD j default) (t.getD j default))=mixJ s t (j+1):=by
 have hl:(kset (mixJ s t j) (j:Int) (Q1x (s.getD j default) (t.getD j default))).length=8:=by simp [kset,Q8a]
 have key:∀ r,r < 8→(kset (mixJ s t j) (j:Int) (Q1x (s.getD j default) (t.getD j default))).getD r default=(mixJ s t (j+1)).getD r default:=by
  intro r hr
  rw [Q5j,Qcx s t hr,Qcx s t hr,Q8a]
  by_cases hrj:r=j
  ·subst hrj;simp [hr]
  ·rw [if_neg (by simp;omega)]
   by_cases h3:r < j
   ·rw [if_pos h3,if_pos (by omega)]
   ·rw [if_neg h3,if_neg (by omega)]
 generalize kset (mixJ s t j) (j:Int) (Q1x (s.getD j default) (t.getD j default))=a at *
 have hm:=Q8a s t (j+1)
 generalize mixJ s t (j+1)=b at *
 apply List.ext_getElem (by omega)
 intro r h1 h2
 have:=key r (by omega)
 simpa [h1,h2] using this
def Qef (p:Q00) (w:World) (B g ks:Nat) (vR vC vK:Value) (T:Tab) (wk:List Int) (at_:Nat) (s:KSt) (e:Ending) (w':World):Prop :=
 e=.returned (.tuple #[])∧∃ vK',CSt w' B g ks vR vC vK' p (Q51 p T at_ s) (Q4q p T wk at_ s)∧Turn (fun j=>j=g∨j=ks∨vK.ownBlock=some j) w w'
set_option maxRecDepth 100000 in
set_option maxHeartbeats 4000000 in
theorem Q4z (p:Q00) {B g ks:Nat} {vR vK:Value} {oc:Option Addr} {capc:Nat} {T:Tab} {wk:List Int} (at_:Nat) (s:KSt) (hs:Sok s) (hcl:p.code.length≤200) (hwl:wk.length≤1000000) (w:World) (h:CSt w B g ks vR (.slice oc p.code.length capc) vK p T wk) :
  Calls Try.prog 51 #[.pointer (some ⟨g,0,none⟩),.int .i64 (at_:Int),.agg (stV s)] w (Qef p w B g ks vR (.slice oc p.code.length capc) vK T wk at_ s):=by
 have H:=Lib.hid h
 have Hs:=Lib.hid hs
 have hBs:=h.size
 obtain ⟨i0,hi0,hz0,hz1,hz2⟩:=info_parts Qdj
 go_enter Try.func51,Try.ntmps51
 go_upto_region 1 with fail
 obtain ⟨W,e,he,hW,hx,bE⟩:=Q1f w (stV s) 80
 rw [hW,he]
 have X:=Lib.hid hx
 have P:=h.ext hx
 obtain ⟨-,c1,c2,c3⟩:=P.cells
 have hgl:=P.box.lt
 have hel:=bE.lt
 have hge:e≠g:=by have:=h.box.lt;omega
 have hBe:B≤e:=by omega
 have hkl:ks < w.heap.size:=by
  obtain ⟨R,r1,-⟩:=h.row
  exact r1.lt
 have hke:ks≠e:=by omega
 have hgw:=h.box.lt
 have Hhe:=Lib.hid he
 clear hW hx
 by_cases hbe:p.code.length≤at_
 ·have Hp:Hid (∀ w',Ext w w'→Qef p w B g ks vR (.slice oc p.code.length capc) vK T wk at_ s (.returned (.tuple #[])) w'):=Lib.hid fun w' hx=>⟨rfl,vK,by
   unfold Q51 Q4q
   rw [if_pos hbe,if_pos hbe]
   exact H.out.ext hx,Turn.ofExt hx⟩
  clear P h hs c2 c3 he
  go_wp2
  try refine bodyPost_end (results_none rfl _ _ _) rfl ?_
  exact Hp.out _ X.out
 have hat:at_ < p.code.length:=by omega
 have Hat:=Lib.hid hat
 obtain ⟨hrow0,hrow1⟩:=P.row_at hat
 have PP:=Lib.hid P
 have hixs:=Qdl
 have hatd:decide ((p.code.length:Int)≤(at_:Int))=false:=decide_eq_false (by omega)
 have hatd2:decide (p.code.length≤at_)=false:=decide_eq_false (by omega)
 have hatd3:¬ p.code.length≤at_:=by omega
 clear hbe h hs P he
 cases ht:tg T at_ with
 | none =>
  obtain ⟨r0,rf⟩:=hrow0 ht
  have HT:Hid (Q51 p T at_ s=T.set at_ (some s)):=Lib.hid (by
   unfold Q51 Q17
   rw [if_neg (by omega)]
   simp [ht])
  have HW:Hid (Q4q p T wk at_ s=wk ++ [(at_:Int)]):=Lib.hid (by
   unfold Q4q
   rw [if_neg (by omega),ht])
  have rr:W.cell? ⟨ks,at_,none⟩=some (.pointer none)∧W.frozen? ⟨ks,at_,none⟩=false:=⟨r0,rf⟩
  have Hs2:=Hs
  have HWB:Hid (Turn (fun j=>j=g∨j=ks∨vK.ownBlock=some j) w W):=Lib.hid (Turn.ofExt X.out)
  clear hrow0 hrow1 ht r0 rf
  go_upto_region 11 with fail
  have P2:=PP.out.put Hat.out hBe bE Hs2.out
  have hgl2:g < (W.setCell ⟨ks,at_,none⟩ (.pointer (some ⟨e,0,none⟩))).heap.size:=by rw [Q4d];exact hgl
  have HWB2:Hid (Turn (fun j=>j=g∨j=ks∨vK.ownBlock=some j) w (W.setCell ⟨ks,at_,none⟩ (.pointer (some ⟨e,0,none⟩)))):=Lib.hid (HWB.out.trans (Turn.set _ _ _) (fun j _ e=>.inr (.inl e)))
  generalize W.setCell ⟨ks,at_,none⟩ (.pointer (some ⟨e,0,none⟩))=W2 at *
  obtain ⟨-,-,-,d3⟩:=P2.cells
  have P2:=Lib.hid P2
  obtain ⟨ok,okc,rfl⟩:=Q1e P2.out.wk
  have hBs2:=P2.out.size
  go_wp2_with (at_builtin;refine Q3g _ rfl _ _ 51 rfl B 3 i0 _ 1 8 Try.underlying51 hi0 hz0 hz1 hz2 rfl (by decide) _ _ _ rfl (Q4y P2.out.wk) (some ⟨W2.heap.size,0,none⟩) 1 1 [.int .i64 (at_:Int)] rfl ?c1 ?c3 ?c4 ?c5 ?_)
  case c1=>exact Q5a (size:=1) (Blk.new W2 3 #[.int .i64 (at_:Int)]) rfl (by simp [Value.oneCell'])
  case c3=>unfold maxLen;omega
  case c4=>omega
  case c5=>simp;omega
  intro v1 w3 hown hgrow hat2
  clear hat2
  obtain ⟨o3,c3',rfl⟩:=Q1e hown
  have hxa:=(Ext.refl W2).alloc (.cells #[.int .i64 (at_:Int)] 3)
  have PB:=P2.out.ext hxa
  have hgrow:(W2.alloc (.cells #[.int .i64 (at_:Int)] 3)).grownBy w3 (Value.slice ok wk.length okc).ownBlock:=hgrow
  have hb3:=PB.box.grown hgrow (Q0j PB.wk PB.box (by decide))
  have p3:w3.cell? ⟨g,3,none⟩=some (.slice ok wk.length okc)∧w3.frozen? ⟨g,3,none⟩=false:=⟨by rw [hb3.cell];rfl,hb3.frozen 3⟩
  have P3:=Lib.hid (PB.work (vK':=.slice o3 (wk.length+1) c3') (wk':=wk ++ [(at_:Int)]) hgrow (by simpa using hown))
  have HB3:Hid (Turn (fun j=>j=g∨j=ks∨(Value.slice ok wk.length okc).ownBlock=some j) w (w3.setCell ⟨g,3,none⟩ (.slice o3 (wk.length+1) c3'))):=Lib.hid (((HWB2.out.ext hxa).trans (Turn.grown hgrow) (fun j _ e=>.inr (.inr e))).trans (Turn.set _ _ _) (fun j _ e=>.inl e))
  have hg3:=hb3.lt
  clear hown hgrow hb3 hxa PB d3
  go_wp2
  try refine bodyPost_end (results_none rfl _ _ _) rfl ?_
  refine ⟨rfl,.slice o3 (wk.length+1) c3',?_,HB3.out⟩
  rw [HT.out,HW.out]
  exact P3.out
 | some t =>
  obtain ⟨k,r0,hBk,bK⟩:=hrow1 t ht
  have Ht:=Lib.hid (PP.out.tok.ok at_ t ht)
  have hkel:k < w.heap.size:=by
   obtain ⟨R,r1,r2,r3⟩:=H.out.row
   have:=r3 at_ hat
   rw [ht] at this
   obtain ⟨k2,e1,-,e3⟩:=this
   have e4:=(r1.ext X.out).cell at_
   rw [e1,r0.1] at e4
   simp only [Option.some.injEq,Value.pointer.injEq,Addr.mk.injEq,and_true] at e4
   rw [e4];exact e3.lt
  have hke2:k≠e:=by have:=Hhe.out;omega
  have HTW:Hid (Q51 p T at_ s=T.set at_ (some (Q11 s t))∧Q4q p T wk at_ s=if Q11 s t=t then wk else wk ++ [(at_:Int)]):=Lib.hid (by
   unfold Q51 Q17 Q4q
   rw [if_neg (by omega),if_neg (by omega)]
   simp [ht])
  have HTt:Hid (tg T at_=some t):=Lib.hid ht
  have hst:=Q26
  clear hrow0 hrow1 ht
  have XW:=X
  go_wp2_with fail
  go_loopw [25] (fun i wr => ∃ j:Nat,j≤8∧i=.int .i64 j∧Blk wr e 80 (stV (mixJ s t j))∧Ext w wr) (fun i _=>8 - (intOf i).toNat)
  case atStart=>exact ⟨0,by omega,rfl,by rw [Qgv Hs.out.len];exact bE,X.out⟩
  case round =>
   obtain ⟨j,hj,rfl,bR,hE⟩:=hrel
   have X:=Lib.hid hE
   have bR':=Lib.hid bR
   have bKr:=(H.out.ext hE).row_at Hat.out
   obtain ⟨-,hk1⟩:=bKr
   obtain ⟨k2,kc,-,kb⟩:=hk1 t HTt.out
   have hkk:k2=k:=by
    have e1:=hE.cell (p:=⟨ks,at_,none⟩) hkl
    have e2:=X.out.cell (p:=⟨ks,at_,none⟩) hkl
    have e3:=X
    have e4:w.cell? ⟨ks,at_,none⟩=some (.pointer (some ⟨k,0,none⟩)):=by
     obtain ⟨-,hw1⟩:=H.out.row_at Hat.out
     obtain ⟨k3,c3',-,-⟩:=hw1 t HTt.out
     have:=XW.out.kept c3'.1
     rw [r0.1] at this
     rw [c3'.1,this]
    rw [kc.1,e4] at e1
    simpa using e1
   rw [hkk] at kb
   clear kc
   have hel:=bR.lt
   have hkel2:=kb.lt
   clear hE hk1
   by_cases hlt:j < 8
   ·obtain ⟨⟨a0,f0⟩,⟨a1,f1⟩⟩:=Q1t bR (Q8a s t j) (a:=(j:Int)) (Q08.2 ⟨by omega,by omega⟩)
    obtain ⟨⟨b0,-⟩,⟨b1,-⟩⟩:=Q1t kb Ht.out.len (a:=(j:Int)) (Q08.2 ⟨by omega,by omega⟩)
    have Hnext:=Lib.hid (Qgw s t hlt)
    have hkg:kg (mixJ s t j) (j:Int)=s.getD j default:=by
     unfold kg
     rw [Int.toNat_natCast,Qcx s t hlt,if_neg (by omega)]
    have hkg2:kg t (j:Int)=t.getD j default:=by unfold kg;rw [Int.toNat_natCast]
    rw [hkg] at a0 a1
    rw [hkg2] at b0 b1
    simp only [Int.toNat_natCast] at a0 a1 b0 b1 f0 f1
    have Hput:Hid (∀ w',Ext wr w'→Blk ((w'.setCell ⟨e,j * 2,none⟩ (.int .i64 (Q1x (s.getD j default) (t.getD j default)).bits)).setCell ⟨e,j * 2+1,none⟩ (.bool (Q1x (s.getD j default) (t.getD j default)).sec)) e 80 (stV (mixJ s t (j+1)))):=Lib.hid fun w' hx=>by
     have:=Q3j (bR'.out.ext hx) (Q8a s t j) (a:=(j:Int)) (Q08.2 ⟨by omega,by omega⟩) (Q1x (s.getD j default) (t.getD j default))
     rw [Hnext.out] at this
     simpa using this
    unfold Q1x at Hput
    generalize s.getD j default=x at *
    generalize t.getD j default=y at *
    simp only at Hput
    have rr0:wr.cell? ⟨e,j * 2,none⟩=some (.int .i64 x.bits)∧wr.frozen? ⟨e,j * 2,none⟩=false:=⟨a0,f0⟩
    have rr1:wr.cell? ⟨e,j * 2+1,none⟩=some (.bool x.sec)∧wr.frozen? ⟨e,j * 2+1,none⟩=false:=⟨a1,f1⟩
    go_upto_region 7 with fail
    have k0:∀ Wx,Ext wr Wx→Wx.cell? ⟨e,j * 2,none⟩=some (.int .i64 x.bits):=fun _ h=>h.kept a0
    have k1:∀ Wx,Ext wr Wx→Wx.cell? ⟨e,j * 2+1,none⟩=some (.bool x.sec):=fun _ h=>h.kept a1
    have l0:∀ Wx,Ext wr Wx→Wx.cell? ⟨k,j * 2,none⟩=some (.int .i64 y.bits):=fun _ h=>h.kept b0
    have l1:∀ Wx,Ext wr Wx→Wx.cell? ⟨k,j * 2+1,none⟩=some (.bool y.sec):=fun _ h=>h.kept b1
    refine Q2d [9,10,11] 1 (by kernel_rfl) (by kernel_rfl) ?_
    repeat (first | (refine Q2o ?_ ?_;(decide)) | (refine Q2i ?_ ?_ ?_;(decide);(first | rfl | (focus (go_simp;done)));apply Exists.intro;refine ⟨fun wc hE=>?_,?_⟩;(go_simp;exact rfl);go_simp) | (refine Q2m ?_ ?_ ?_;(decide);(focus (go_simp;done));go_simp))
    refine Q2n ?_
    intro w2 hx
    have X2:=Lib.hid hx
    clear k0 k1 l0 l1 a0 a1 b0 b1 f0 f1
    refine Q39 rfl ?_
    go_wp2_with fail
    (with_reducible refine (Q8g x.bits y.bits x.sec y.sec w2).mono ?_)
    rintro er w3 ⟨rfl,hx3⟩
    have hx13:=hx.trans hx3
    have rr0:=Q0a hx13 rr0
    have rr1:=Q0a hx13 rr1
    have hel3:=(bR'.out.ext hx13).lt
    have HX13:=Lib.hid hx13
    go_wp2
    try refine ⟨hx13,?_⟩
    refine Q23 (Q10 rfl (Q10 rfl (Q2a))) ?_
    clear hx hx3 hx13
    go_wp2
    go_roundw
    case rel =>
     refine ⟨j+1,by omega,by go_num,Hput.out _ HX13.out,?_⟩
     have hwe:w.heap.size≤e:=by have:=Hhe.out;omega
     exact ((X.out.trans HX13.out).setCell (p:=⟨e,j * 2,none⟩) hwe _).setCell (p:=⟨e,j * 2+1,none⟩) hwe _
    case measure=>first | (simp [intOf];done) | (simp [intOf];omega)
   ·have hje:j=8:=by omega
    subst hje
    have bU:=bR'.out
    rw [Qgy] at bU
    have hu:=Q7i s t
    have bU:=Lib.hid bU
    have bK2:=Lib.hid kb
    have Hu:=Lib.hid hu
    have heq:=Qiu (Q11 s t) t hu.len Ht.out.len
    have hu8:=hu.len
    have ht8:=Ht.out.len
    have hPr:=Lib.hid (H.out.ext X.out)
    generalize hsj:Q11 s t=u at *
    clear hlt bR bR'
    have bU0:=bU.out
    go_upto_region 9 with fail
    refine Q0z 5 (by kernel_rfl) (by kernel_rfl) ?_
    simp only [List.take_succ_cons,List.take_zero,List.drop_succ_cons,List.drop_zero]
    repeat (first | (refine Qe6 ?_ ?_ ?_ bU0 hu8 ?_;(decide);(first | rfl | (focus (go_simp;done)));exact ⟨_,rfl,rfl⟩;go_simp) | (refine Qe6 ?_ ?_ ?_ kb ht8 ?_;(decide);(first | rfl | (focus (go_simp;done)));exact ⟨_,rfl,rfl⟩;go_simp) | (refine Q0p ?_ ?_ (fun wc hE=>?_) ?_;(decide);rfl;(focus (go_simp;done));go_simp) | (refine Q0h ?_ ?_ ?_;(decide);(first | rfl | (focus (go_simp;done)));apply Exists.intro;refine ⟨fun wc hE=>?_,?_⟩;(go_simp;exact rfl);go_simp) | (refine Q0q ?_ ?_ ?_;(decide);(first | rfl | (focus (go_simp;done)));apply Exists.intro;refine ⟨fun wc hE=>?_,?_⟩;(go_simp;(first | fail));go_simp) | (refine Q0n ?_ ?_ ?_;(decide);(focus (go_simp;done));go_simp))
    refine Q0o ?_
    intro wx hx
    have X:=Lib.hid (X.out.trans hx)
    have PP:=Lib.hid (hPr.out.ext hx)
    have bU:=Lib.hid (bU.out.ext hx)
    clear heq hx bU0 kb hu8 ht8
    have HTW:=HTW
    by_cases hut:u=t
    ·have hd:decide (u=t)=true:=by simpa using hut
     have hp:Qef p w B g ks vR (.slice oc p.code.length capc) vK T wk at_ s (.returned (.tuple #[])) wx:=by
      refine ⟨rfl,vK,?_,Turn.ofExt X.out⟩
      rw [HTW.out.1,HTW.out.2,if_pos hut,hut]
      have:T.set at_ (some t)=T:=by
       apply List.ext_getElem (by simp)
       intro j h1 h2
       have:=HTt.out
       unfold tg at this
       rw [List.getElem_set]
       by_cases e:at_=j
       ·subst e
        rw [if_pos rfl]
        simpa [h2] using this.symm
       ·rw [if_neg e]
      rw [this]
      exact PP.out
     have hp:=Lib.hid hp
     rw [hd]
     clear hut
     go_wp2
     try refine bodyPost_end (results_none rfl _ _ _) rfl ?_
     exact hp.out
    ·have hd:decide (u=t)=false:=by simpa using hut
     have HT:Hid (Q51 p T at_ s=T.set at_ (some u)):=Lib.hid (by rw [HTW.out.1])
     have HW:Hid (Q4q p T wk at_ s=wk ++ [(at_:Int)]):=Lib.hid (by rw [HTW.out.2,if_neg hut])
     have Hs2:=Hu
     obtain ⟨-,hrow1⟩:=PP.out.row_at Hat.out
     obtain ⟨k5,rr,-,-⟩:=hrow1 t HTt.out
     obtain ⟨-,c1,c2,c3⟩:=PP.out.cells
     have hgl:=PP.out.box.lt
     have bE:=bU.out
     have HWB:Hid (Turn (fun j=>j=g∨j=ks∨vK.ownBlock=some j) w wx):=Lib.hid (Turn.ofExt X.out)
     have hel:=bE.lt
     have hkl2:ks < wx.heap.size:=by have:=X.out.size;omega
     rw [hd]
     clear hut hrow1
     go_upto_region 11 with fail
     have P2:=PP.out.put Hat.out hBe bE Hs2.out
     have hgl2:g < (wx.setCell ⟨ks,at_,none⟩ (.pointer (some ⟨e,0,none⟩))).heap.size:=by rw [Q4d];exact hgl
     have HWB2:Hid (Turn (fun j=>j=g∨j=ks∨vK.ownBlock=some j) w (wx.setCell ⟨ks,at_,none⟩ (.pointer (some ⟨e,0,none⟩)))):=Lib.hid (HWB.out.trans (Turn.set _ _ _) (fun j _ e=>.inr (.inl e)))
     generalize wx.setCell ⟨ks,at_,none⟩ (.pointer (some ⟨e,0,none⟩))=W2 at *
     obtain ⟨-,-,-,d3⟩:=P2.cells
     have P2:=Lib.hid P2
     obtain ⟨ok,okc,rfl⟩:=Q1e P2.out.wk
     have hBs2:=P2.out.size
     go_wp2_with (at_builtin;refine Q3g _ rfl _ _ 51 rfl B 3 i0 _ 1 8 Try.underlying51 hi0 hz0 hz1 hz2 rfl (by decide) _ _ _ rfl (Q4y P2.out.wk) (some ⟨W2.heap.size,0,none⟩) 1 1 [.int .i64 (at_:Int)] rfl ?c1 ?c3 ?c4 ?c5 ?_)
     case c1=>exact Q5a (size:=1) (Blk.new W2 3 #[.int .i64 (at_:Int)]) rfl (by simp [Value.oneCell'])
     case c3=>unfold maxLen;omega
     case c4=>omega
     case c5=>simp;omega
     intro v1 w3 hown hgrow hat2
     clear hat2
     obtain ⟨o3,c3',rfl⟩:=Q1e hown
     have hxa:=(Ext.refl W2).alloc (.cells #[.int .i64 (at_:Int)] 3)
     have PB:=P2.out.ext hxa
     have hgrow:(W2.alloc (.cells #[.int .i64 (at_:Int)] 3)).grownBy w3 (Value.slice ok wk.length okc).ownBlock:=hgrow
     have hb3:=PB.box.grown hgrow (Q0j PB.wk PB.box (by decide))
     have p3:w3.cell? ⟨g,3,none⟩=some (.slice ok wk.length okc)∧w3.frozen? ⟨g,3,none⟩=false:=⟨by rw [hb3.cell];rfl,hb3.frozen 3⟩
     have P3:=Lib.hid (PB.work (vK':=.slice o3 (wk.length+1) c3') (wk':=wk ++ [(at_:Int)]) hgrow (by simpa using hown))
     have HB3:Hid (Turn (fun j=>j=g∨j=ks∨(Value.slice ok wk.length okc).ownBlock=some j) w (w3.setCell ⟨g,3,none⟩ (.slice o3 (wk.length+1) c3'))):=Lib.hid (((HWB2.out.ext hxa).trans (Turn.grown hgrow) (fun j _ e=>.inr (.inr e))).trans (Turn.set _ _ _) (fun j _ e=>.inl e))
     have hg3:=hb3.lt
     clear hown hgrow hb3 hxa PB d3
     go_wp2
     try refine bodyPost_end (results_none rfl _ _ _) rfl ?_
     refine ⟨rfl,.slice o3 (wk.length+1) c3',?_,HB3.out⟩
     rw [HT.out,HW.out]
     exact P3.out
end Go.Proofs.Yteiknefajlocoaa
