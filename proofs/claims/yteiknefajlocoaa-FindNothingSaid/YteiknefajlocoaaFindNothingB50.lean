/- Laid together from: Ref6f, CkT. -/
import Derived.Test.YteiknefajlocoaaFindNothingB48
import Derived.Test.YteiknefajlocoaaFindNothingB42
import Derived.Test.YteiknefajlocoaaFindNothingB25
import Derived.BigQuiet

namespace Go.Proofs.Yteiknefajlocoaa
open Go.ChangeShapes Go.WideShapes Go.ChangeAt Go.RowKit
set_option linter.unusedVariables false
set_option linter.unusedSimpArgs false
def beyL (p:Q00) (l:List (Nat × KSt)) (k:Nat):Bool:=(l.take k).any fun x=>decide (p.code.length≤x.1)
theorem Qtd (p:Q00) (l:List (Nat × KSt)) {k:Nat} (hk:k < l.length):beyL p l (k+1)=(beyL p l k || decide (p.code.length≤(l.getD k default).1)):=by
 unfold beyL
 rw [List.take_succ_eq_append_getElem hk,List.any_append]
 simp [hk]
theorem Qte (p:Q00) (l:List (Nat × KSt)):beyL p l l.length=l.any fun x=>decide (p.code.length≤x.1):=by
 unfold beyL
 rw [List.take_length]
theorem Q7z {p:Q00} {k:Nat} {s:KSt} {op a b c n:Int} (hok:Q01 p 8 ⟨op,a,b,c,n⟩=true) (hk:k < p.code.length) :
  ((Q0u p k s ⟨op,a,b,c,n⟩).any fun x=>decide (p.code.length≤x.1)) = !(if op=7∨op=9 then true else !Q2k p k):=by
 unfold Q0u Q2k
 simp only
 have hj:op=7∨op=8→n.toNat < p.code.length:=fun h=>by
  rcases h with rfl | rfl
  ·unfold Q01 at hok;simp [okIn] at hok;omega
  ·unfold Q01 at hok;simp [okIn] at hok;omega
 by_cases h7:op=7
 ·subst h7
  have:=hj (.inl rfl)
  simp;omega
 by_cases h9:op=9
 ·subst h9
  simp
 by_cases h8:op=8
 ·subst h8
  have:=hj (.inr rfl)
  simp only [if_neg h7,if_neg h9,if_true,List.any_cons,List.any_nil,h7,h9,or_self,if_false,Bool.not_not,Bool.or_false]
  rw [decide_eq_false (by omega:¬ p.code.length≤n.toNat),Bool.false_or]
  simp only [decide_eq_decide]
  omega
 ·simp only [if_neg h7,if_neg h9,if_neg h8,List.any_cons,List.any_nil,h7,h9,or_self,if_false,Bool.not_not,Bool.or_false]
  simp only [decide_eq_decide]
  omega
theorem Qt7 {p:Q00} {k:Nat} {s:KSt} {op a b c n:Int} (hok:Q01 p 8 ⟨op,a,b,c,n⟩=true) (hk:k < p.code.length) (h:¬ (op=3∨op=4)) :
  ((Q0u p k s ⟨op,a,b,c,n⟩).any fun x=>decide (p.code.length≤x.1)) = !Q1d p k s ⟨op,a,b,c,n⟩:=by
 rw [Q7z hok hk]
 unfold Q1d
 simp only
 split <;> first | rfl | (rw [if_neg h])
theorem Qj4 {p:Q00} {k:Nat} {s:KSt} {op a b c n:Int} (hok:Q01 p 8 ⟨op,a,b,c,n⟩=true) (hk:k < p.code.length) (h:op=3∨op=4) :
  (((Q0u p k s ⟨op,a,b,c,n⟩).any fun x=>decide (p.code.length≤x.1)) || (decide (n < 0) || decide ((Q0c p ⟨op,a,b,c,n⟩).log < (ksum (kg s b) n).bits))) = !Q1d p k s ⟨op,a,b,c,n⟩:=by
 rw [Q7z hok hk]
 unfold Q1d
 simp only
 rw [if_neg (by omega),if_neg (by omega),if_pos h]
 cases Q2k p k
 ·by_cases h1:n < 0
  ·simp [h1,show ¬ 0≤n by omega]
  ·by_cases h2:(Q0c p ⟨op,a,b,c,n⟩).log < (ksum (kg s b) n).bits
   ·simp [h1,h2,show 0≤n by omega] <;> omega
   ·simp [h1,h2,show 0≤n by omega] <;> omega
 ·simp
set_option maxRecDepth 100000 in
set_option maxHeartbeats 8000000 in
theorem Qsx (p:Q00) (v:Value) (w:World) (hp:Q0b w v p):Calls Try.prog 24 #[v] w (Qjc p w):=by
 have HP:=Lib.hid hp
 obtain ⟨oa,capa,oc,capc,rfl⟩:∃ a b c d,v=.agg #[.slice a p.regs.length b,.slice c p.code.length d]:=by
  obtain ⟨v1,v2,rfl,⟨-,oa,cap,b,o,rfl,-⟩,⟨-,ob,capb,b2,o2,rfl,-⟩⟩:=hp
  exact ⟨_,_,_,_,rfl⟩
 clear hp
 go_enter Try.func24,Try.ntmps24
 go_upto_region 1 with fail
 obtain ⟨W,gp,hg,hW,hx,bP,bF⟩:=Q0i w #[.slice oa p.regs.length capa,.slice oc p.code.length capc] #[.int .i64 0,.int .i64 0] 25 28
 rw [hW,hg]
 have X:=Lib.hid hx
 have hgp:w.heap.size≤gp:=by omega
 have Hgp:=Lib.hid hgp
 have BP:=Lib.hid bP
 have HF:=Lib.hid bF
 have p0:W.cell? ⟨gp,0,none⟩=some (.slice oa p.regs.length capa):=by rw [bP.cell];rfl
 have p1:W.cell? ⟨gp,1,none⟩=some (.slice oc p.code.length capc):=by rw [bP.cell];rfl
 clear hW hg hx bP bF hgp
 go_wp2_with fail
 have C:=Qmt p _ W (HP.out.ext X.out)
 (with_reducible refine C.mono ?_)
 clear C
 rintro e w1 ⟨rfl,hx⟩
 have XM:=Lib.hid hx
 have p0:=hx.kept p0
 have p1:=hx.kept p1
 clear hx
 cases hmay:Q36 p
 ·have bF:=HF.out.ext XM.out
  have f0:w1.cell? ⟨gp+1,0,none⟩=some (.int .i64 0)∧w1.frozen? ⟨gp+1,0,none⟩=false:=⟨by rw [bF.cell];rfl,bF.frozen _⟩
  have f1:w1.cell? ⟨gp+1,1,none⟩=some (.int .i64 0)∧w1.frozen? ⟨gp+1,1,none⟩=false:=⟨by rw [bF.cell];rfl,bF.frozen _⟩
  have hgf:=bF.lt
  have hg2:=Hgp.out
  have BF:=Lib.hid bF
  clear bF
  go_wp2
  exact bodyPost_ret (Q1y (Q4i BF.out) rfl _ rfl Try.underlying28 rfl Q3q) rfl ⟨(2,0),rfl,Q4j (X.out.trans XM.out) (by omega),fun h=>(by rw [hmay] at h;cases h),fun _=>rfl⟩
 ·obtain ⟨hr,hc1,hcl,hins⟩:=Q6a hmay
  have Hr:=Lib.hid hr
  have Hins:=Lib.hid hins
  have Hmay:=Lib.hid hmay
  clear hr hins hmay
  go_wp2_with fail
  have C:=Qkj p Hmay.out w1 (HP.out.ext (X.out.trans XM.out))
  (with_reducible refine C.mono ?_)
  clear C
  rintro e wA ⟨ks,T,rfl,hT,hLe,hx⟩
  have XA:=Lib.hid (XM.out.trans hx)
  have HT:=Lib.hid hT
  have HLe:=Lib.hid hLe
  have hixt:=Qi7 ks p.code.length p.code.length
  clear hT hLe hx p0 p1 XM
  go_wp2_with fail
  go_loopw [4] (fun i wr => ∃ j:Nat,j≤p.code.length∧i=.int .i64 (j:Int)∧Ext wA wr∧Q1v p T (p.code.length - j) j=Q22 p T) (fun i _=>p.code.length - (intOf i).toNat)
  case atStart=>exact ⟨0,by omega,rfl,Ext.refl _,rfl⟩
  case round =>
   obtain ⟨j,hj,rfl,hE,hF⟩:=hrel
   have XE:=Lib.hid hE
   have HF1:=Lib.hid hF
   clear hE hF
   by_cases hlt:j < p.code.length
   ·have hnj:p.code.length - j=(p.code.length - (j+1))+1:=by omega
    cases ht:tg T j with
    | none =>
     obtain ⟨⟨c0,-⟩,-⟩:=((HT.out.ext XE.out).at_ hlt).1 ht
     have Hn:=Lib.hid (show Q1v p T (p.code.length - (j+1)) (j+1)=Q22 p T by rw [← HF1.out,hnj,Qit ht])
     clear ht hnj
     go_wp2
     go_roundw
     case rel=>exact ⟨j+1,by omega,by go_num,XE.out,Hn.out⟩
     case measure=>first | (simp [intOf];done) | (simp [intOf];omega)
    | some s =>
     have Hfs:=Lib.hid (Qir (p:=p) (n:=p.code.length - (j+1)) ht)
     have HF2:Hid (Q1v p T (p.code.length - (j+1)+1) j=Q22 p T):=Lib.hid (by rw [← hnj];exact HF1.out)
     have Hts:=Lib.hid ht
     obtain ⟨b0,cap0,⟨c0,-⟩,⟨c1,-⟩,hk⟩:=((HT.out.ext XE.out).at_ hlt).2 s ht
     have KN:=Lib.hid hk
     have HS:=Lib.hid (HLe.out.post.tok.ok j s ht)
     have Hok:=Lib.hid (Hins.out _ (Q2b hlt))
     obtain ⟨v1,v2,hv,-,⟨-,oc',capc',bc,oo,hv2,hcc1,hcc2,hrow⟩⟩:=HP.out.ext (X.out.trans (XA.out.trans XE.out))
     simp only [Value.agg.injEq,Array.mk.injEq,List.cons.injEq,and_true] at hv
     obtain ⟨rfl,rfl⟩:=hv
     simp only [Value.slice.injEq,true_and] at hv2
     obtain ⟨rfl,rfl⟩:=hv2
     have hix:=Q1g (cap:=capc) hrow.at_
     obtain ⟨e0,e1,e2,e3,e4⟩:=hrow.ins j hlt
     have hII:p.code.getD j default=Q0d p j:=rfl
     rw [hII] at e0 e1 e2 e3 e4 Hok
     have bP:=BP.out.ext (XA.out.trans XE.out)
     have p1:wr.cell? ⟨gp,1,none⟩=some (.slice oc p.code.length capc):=by rw [bP.cell];rfl
     generalize hI:Q0d p j=I at *
     obtain ⟨op,a,b,c,n⟩:=I
     simp only at e0 e1 e2 e3 e4
     have HI:=Lib.hid hI
     have hbl:=Q09 e0
     simp only at hbl
     clear hrow hcc1 hcc2 ht hnj hk hII hI bP
     go_upto_region 9 with fail
     obtain ⟨wi,gi,hg,hW,hx,bI⟩:=Q1f wr #[.int .i64 op,.int .i64 a,.int .i64 b,.int .i64 c,.int .i64 n] 70
     rw [hW,hg]
     have XE1:=XE
     have XE:=Lib.hid (XE.out.trans hx)
     have BI:=Lib.hid bI
     have k0:∀ Wx,Ext wi Wx→Wx.cell? ⟨ks,j * 2,none⟩=some (.bool true):=fun _ h=>h.kept (hx.kept c0)
     have k1:∀ Wx,Ext wi Wx→Wx.cell? ⟨ks,j * 2+1,none⟩=some (.slice (some ⟨b0,0,none⟩) 8 cap0):=fun _ h=>h.kept (hx.kept c1)
     have bP:=BP.out.ext (XA.out.trans XE.out)
     have q0:∀ Wx,Ext wi Wx→Wx.cell? ⟨gp,0,none⟩=some (.slice oa p.regs.length capa):=fun _ h=>h.kept (by rw [bP.cell];rfl)
     have q1:∀ Wx,Ext wi Wx→Wx.cell? ⟨gp,1,none⟩=some (.slice oc p.code.length capc):=fun _ h=>h.kept (by rw [bP.cell];rfl)
     have KN:=Lib.hid (KN.out.ext hx)
     clear hW hg hx bI bP c0 c1 e0 e1 e2 e3 e4 p1 hbl
     refine Q2d [6,7] 1 (by kernel_rfl) (by kernel_rfl) ?_
     repeat (first | (refine Q2o ?_ ?_;(decide)) | (refine Q2i ?_ ?_ ?_;(decide);(first | rfl | (focus (go_simp;done)));apply Exists.intro;refine ⟨fun wc hE=>?_,?_⟩;(go_simp;exact rfl);go_simp) | (refine Q2m ?_ ?_ ?_;(decide);(focus (go_simp;done));go_simp))
     refine Q2n ?_
     intro w3 hx
     have X3:=Lib.hid hx
     clear k0 k1 q0 q1 hx
     refine Q39 rfl ?_
     go_wp2_with fail
     have CC:=Qhf p j s Hr.out hcl hlt (by rw [HI.out];exact Hok.out) w3 (HP.out.ext (X.out.trans (XA.out.trans (XE.out.trans X3.out)))) (KN.out.ext X3.out)
     rw [HI.out] at CC
     (with_reducible refine CC.mono ?_)
     clear CC
     rintro er w4 ⟨ol,capl,rfl,hL,hx⟩
     have HL:=Lib.hid hL
     have X4:=Lib.hid (X3.out.trans hx)
     have XE:=Lib.hid (XE.out.trans X4.out)
     have BI:=Lib.hid (BI.out.ext X4.out)
     generalize hLL:Q0u p j s ⟨op,a,b,c,n⟩=L at *
     have HLL:=Lib.hid hLL
     have hL2:L.length≤2:=by rw [← hLL];exact Qhe _ _ _ _
     clear hL hx hLL
     go_wp2
     refine ⟨X4.out,?_⟩
     refine Q23 (Q10 rfl (Q2a)) ?_
     go_wp2_with fail
     go_loopw [7,8] (fun v i wx => ∃ k:Nat,v=.bool (beyL p L k)∧i=.int .i64 (k:Int)∧k≤L.length∧Ext w4 wx) (fun _ i _=>L.length - (intOf i).toNat)
     case atStart=>exact ⟨0,rfl,rfl,by omega,Ext.refl _⟩
     case round =>
      obtain ⟨k,rfl,rfl,hkl,hE⟩:=hrel
      have XK:=Lib.hid hE
      clear hE
      by_cases hkk:k < L.length
      ·have hL:=HL.out.ext XK.out
       obtain ⟨bl,capl',hv⟩:=hL.form (by omega)
       simp only [Value.slice.injEq,true_and] at hv
       obtain ⟨rfl,rfl⟩:=hv
       obtain ⟨c',capc',l0,l1,l2,hkn⟩:=hL.at_ hkk
       have hixl:=Qi9 bl L.length capl
       have Hb:=Lib.hid (Qtd p L hkk)
       generalize L.getD k default=x at *
       obtain ⟨xn,xs⟩:=x
       simp only at l0 Hb
       clear hL hkn l1 l2
       by_cases hbe:p.code.length≤xn
       ·have hxd:decide ((p.code.length:Int)≤(xn:Int))=true:=decide_eq_true (by omega)
        have Hb:Hid (beyL p L (k+1)=true):=Lib.hid (by rw [Hb.out,decide_eq_true hbe,Bool.or_true])
        cases hbk:beyL p L k
        all_goals clear hbk
        all_goals go_wp2
        all_goals go_roundw
        all_goals first
         | exact ⟨k+1,by rw [Hb.out],by go_num,by omega,XK.out⟩
         | (simp [intOf];done)
         | (simp [intOf];omega)
       ·have hxd:decide ((p.code.length:Int)≤(xn:Int))=false:=decide_eq_false (by omega)
        have Hb:Hid (beyL p L (k+1)=beyL p L k):=Lib.hid (by rw [Hb.out,decide_eq_false hbe,Bool.or_false])
        cases hbk:beyL p L k
        all_goals have Hbk:=Lib.hid hbk
        all_goals clear hbk
        all_goals go_wp2
        all_goals go_roundw
        all_goals first
         | exact ⟨k+1,by rw [Hb.out,Hbk.out],by go_num,by omega,XK.out⟩
         | (simp [intOf];done)
         | (simp [intOf];omega)
      ·have hje:k=L.length:=by omega
       subst hje
       have hlt2:decide ((L.length:Int) < (L.length:Int))=false:=by simp
       have HEA:Hid (Ext wA wr):=Lib.hid (XE.out.trans XK.out)
       have XE:=Lib.hid (XE.out.trans XK.out)
       have BI:=Lib.hid (BI.out.ext XK.out)
       rw [Qte]
       by_cases hop3:op=3
       ·have hop:=hop3
        subst hop
        obtain ⟨hc0,hc1'⟩:=Q35 Hok.out (by unfold Q0s Q0m;simp)
        simp only at hc0 hc1'
        have hR:=(HP.out.ext (X.out.trans (XA.out.trans XE.out)))
        obtain ⟨v1,v2,hv,hR,-⟩:=hR
        simp only [Value.agg.injEq,Array.mk.injEq,List.cons.injEq,and_true] at hv
        obtain ⟨rfl,rfl⟩:=hv
        obtain ⟨-,oa',capa',br,orr,hv3,hd1,hd2,hrow2⟩:=hR
        simp only [Value.slice.injEq,true_and] at hv3
        obtain ⟨rfl,rfl⟩:=hv3
        obtain ⟨rlog,-⟩:=hrow2.reg c.toNat hc1'
        have hixr:=Q33 (cap:=capa) hrow2.at_
        have hlen:=Q3o Hr.out
        have hcl2:c < (p.regs.length:Int):=by omega
        have hrf:p.regs.getD c.toNat default=Q0c p ⟨3,a,b,c,n⟩:=rfl
        rw [hrf] at rlog
        have Rlog:=Lib.hid rlog
        have hbd:=Qj4 (s:=s) Hok.out hlt (by omega)
        rw [HLL.out] at hbd
        have Hbd:=Lib.hid hbd
        have hb:okIn 8 b=true:=by have:=Hok.out;unfold Q01 at this;simp [okIn] at this ⊢;omega
        obtain ⟨bz0,bz1⟩:=Q08.1 hb
        obtain ⟨ba',cap',-,⟨t1,-⟩,hk2⟩:=((HT.out.ext XE.out).at_ hlt).2 s Hts.out
        have hixs:=Q2l ba' cap'
        obtain ⟨⟨kb0,-⟩,⟨kb1,-⟩⟩:=hk2.cell hb
        have t1:∀ Wx,Ext wr Wx→Wx.cell? ⟨ks,j * 2+1,none⟩=some (.slice (some ⟨ba',0,none⟩) 8 cap'):=fun _ h=>h.kept t1
        have q0:∀ Wx,Ext wr Wx→Wx.cell? ⟨ba',b.toNat * 2,none⟩=some (.int .i64 (kg s b).bits):=fun _ h=>h.kept kb0
        have q1:∀ Wx,Ext wr Wx→Wx.cell? ⟨ba',b.toNat * 2+1,none⟩=some (.bool (kg s b).sec):=fun _ h=>h.kept kb1
        have bI:=BI.out
        have e0:wr.cell? ⟨gi,0,none⟩=some (.int .i64 3):=by rw [bI.cell];rfl
        have i2:∀ Wx,Ext wr Wx→Wx.cell? ⟨gi,2,none⟩=some (.int .i64 b):=fun _ h=>h.kept (by rw [bI.cell];rfl)
        have i4:∀ Wx,Ext wr Wx→Wx.cell? ⟨gi,4,none⟩=some (.int .i64 n):=fun _ h=>h.kept (by rw [bI.cell];rfl)
        clear hrow2 hd1 hd2 hrf hk2 kb0 kb1 hb hbd rlog bI
        go_upto_region 16 with fail
        clear e0
        refine Q6y 13 12 (some 9) (by omega) rfl (by kernel_rfl) (by kernel_rfl) (fun k=>.pointer (some ⟨k,0,none⟩)) 78 #[.int .i64 0,.bool false] ?_
        simp only [List.take_succ_cons,List.take_zero,List.drop_succ_cons,List.drop_zero]
        repeat (first | (refine Q0p ?_ ?_ (fun wc hE=>?_) ?_;(decide);rfl;(focus (go_simp;done));go_simp) | (refine Q0h ?_ ?_ ?_;(decide);(first | rfl | (focus (go_simp;done)));apply Exists.intro;refine ⟨fun wc hE=>?_,?_⟩;(go_simp;exact rfl);go_simp) | (refine Q0q ?_ ?_ ?_;(decide);(first | rfl | (focus (go_simp;done)));apply Exists.intro;refine ⟨fun wc hE=>?_,?_⟩;(go_simp;(first | (with_reducible exact Q1p (Qdn (kg s b) n _))));go_simp) | (refine Q0n ?_ ?_ ?_;(decide);(focus (go_simp;done));go_simp))
        refine Q0o ?_
        intro gk wk hgk bK hz
        have HZ:=Lib.hid hz
        have XE:=Lib.hid (XE.out.trans hz)
        have BI:=Lib.hid (BI.out.ext hz)
        have BK:=Lib.hid bK
        have k0:wk.cell? ⟨gk,0,none⟩=some (.int .i64 0)∧wk.frozen? ⟨gk,0,none⟩=false:=⟨by rw [bK.cell];rfl,bK.frozen _⟩
        have k1:wk.cell? ⟨gk,1,none⟩=some (.bool false)∧wk.frozen? ⟨gk,1,none⟩=false:=⟨by rw [bK.cell];rfl,bK.frozen _⟩
        clear t1 q0 q1 i2 i4
        go_upto_region 17 with fail
        obtain ⟨wm,hwm,hRm,BK2,XE2,BI2⟩:∃ wm,(wk.setCell ⟨gk,0,none⟩ (.int .i64 (ksum (kg s b) n).bits)).setCell ⟨gk,1,none⟩ (.bool (ksum (kg s b) n).sec)=wm∧Ext wr wm∧Blk wm gk 78 #[.int .i64 (ksum (kg s b) n).bits,.bool (ksum (kg s b) n).sec]∧Ext wA wm∧Blk wm gi 70 #[.int .i64 3,.int .i64 a,.int .i64 b,.int .i64 c,.int .i64 n]:=by
         have hgA:wA.heap.size≤gk:=by have:=HEA.out.size;omega
         have hne:gk≠gi:=Blk.ne_ BK.out BI.out (by decide)
         exact ⟨_,rfl,(HZ.out.setCell (p:=⟨gk,_,none⟩) hgk _).setCell (p:=⟨gk,_,none⟩) hgk _,(BK.out.set_ 0 _).set_ 1 _,(XE.out.setCell (p:=⟨gk,_,none⟩) hgA _).setCell (p:=⟨gk,_,none⟩) hgA _,(BI.out.far (p:=⟨gk,_,none⟩) (fun h=>hne h.symm) _).far (p:=⟨gk,_,none⟩) (fun h=>hne h.symm) _⟩
        rw [hwm]
        have XE:=Lib.hid XE2
        have Rm:=Lib.hid hRm
        have BI:=Lib.hid BI2
        have bI:=BI2
        have bP:=BP.out.ext (XA.out.trans XE2)
        have i3:wm.cell? ⟨gi,3,none⟩=some (.int .i64 c):=by rw [bI.cell];rfl
        have i4:wm.cell? ⟨gi,4,none⟩=some (.int .i64 n):=by rw [bI.cell];rfl
        have p0:wm.cell? ⟨gp,0,none⟩=some (.slice oa p.regs.length capa):=by rw [bP.cell];rfl
        have z0:wm.cell? ⟨gk,0,none⟩=some (.int .i64 (ksum (kg s b) n).bits):=by rw [BK2.cell];rfl
        have r0:wm.cell? ⟨br,orr+c.toNat * 2,none⟩=some (.int .i64 (Q0c p ⟨3,a,b,c,n⟩).log):=Rm.out.kept Rlog.out
        clear hwm BK2 XE2 BI2 bI bP bK k0 k1 hRm hz
        generalize hB:(L.any fun x=>decide (p.code.length≤x.1))=B at *
        cases B
        ·by_cases hn:n < 0
         ·have hbo:Q1d p j s ⟨3,a,b,c,n⟩=false:=by
           have h:=Hbd.out
           rw [decide_eq_true hn] at h
           cases hq:Q1d p j s ⟨3,a,b,c,n⟩
           ·rfl
           ·rw [hq] at h;cases h
          go_quiet (fail)
          have hy:Ext wm (wm.drewN nq):=(Ext.refl _).drewN nq
          generalize wm.drewN nq=wy at *
          have XE:=Lib.hid (XE.out.trans hy)
          have BI:=Lib.hid (BI.out.ext hy)
          clear hy i3 i4 p0 z0 r0
          have HE:Hid (((4:Int),j)=Q22 p T):=Lib.hid (by rw [← HF2.out,Hfs.out,hbo];rfl)
          clear hbo
          have bF:=HF.out.ext (XA.out.trans XE.out)
          have f0:wy.cell? ⟨gp+1,0,none⟩=some (.int .i64 0)∧wy.frozen? ⟨gp+1,0,none⟩=false:=⟨by rw [bF.cell];rfl,bF.frozen _⟩
          have f1:wy.cell? ⟨gp+1,1,none⟩=some (.int .i64 0)∧wy.frozen? ⟨gp+1,1,none⟩=false:=⟨by rw [bF.cell];rfl,bF.frozen _⟩
          have hgf:=bF.lt
          clear bF
          go_wp2
          exact bodyPost_ret (Q1y (Q4i (HF.out.ext (XA.out.trans XE.out))) rfl _ rfl Try.underlying28 rfl Q3q) rfl ⟨(4,j),rfl,Q4j (X.out.trans (XA.out.trans XE.out)) (by have:=Hgp.out;omega),fun _=>⟨T,HLe.out,HE.out⟩,fun h=>(by rw [Hmay.out] at h;cases h)⟩
         ·by_cases hbt:(Q0c p ⟨3,a,b,c,n⟩).log < (ksum (kg s b) n).bits
          ·have hbo:Q1d p j s ⟨3,a,b,c,n⟩=false:=by
            have h:=Hbd.out
            rw [decide_eq_true hbt] at h
            cases hq:Q1d p j s ⟨3,a,b,c,n⟩
            ·rfl
            ·rw [hq] at h;simp at h
           go_quiet (fail)
           have hy:Ext wm (wm.drewN nq):=(Ext.refl _).drewN nq
           generalize wm.drewN nq=wy at *
           have XE:=Lib.hid (XE.out.trans hy)
           have BI:=Lib.hid (BI.out.ext hy)
           clear hy i3 i4 p0 z0 r0
           have HE:Hid (((4:Int),j)=Q22 p T):=Lib.hid (by rw [← HF2.out,Hfs.out,hbo];rfl)
           clear hbo
           have bF:=HF.out.ext (XA.out.trans XE.out)
           have f0:wy.cell? ⟨gp+1,0,none⟩=some (.int .i64 0)∧wy.frozen? ⟨gp+1,0,none⟩=false:=⟨by rw [bF.cell];rfl,bF.frozen _⟩
           have f1:wy.cell? ⟨gp+1,1,none⟩=some (.int .i64 0)∧wy.frozen? ⟨gp+1,1,none⟩=false:=⟨by rw [bF.cell];rfl,bF.frozen _⟩
           have hgf:=bF.lt
           clear bF
           go_wp2
           exact bodyPost_ret (Q1y (Q4i (HF.out.ext (XA.out.trans XE.out))) rfl _ rfl Try.underlying28 rfl Q3q) rfl ⟨(4,j),rfl,Q4j (X.out.trans (XA.out.trans XE.out)) (by have:=Hgp.out;omega),fun _=>⟨T,HLe.out,HE.out⟩,fun h=>(by rw [Hmay.out] at h;cases h)⟩
          ·have hbo:Q1d p j s ⟨3,a,b,c,n⟩=true:=by
            have h:=Hbd.out
            rw [decide_eq_false hbt,decide_eq_false hn] at h
            cases hq:Q1d p j s ⟨3,a,b,c,n⟩
            ·rw [hq] at h;cases h
            ·rfl
           go_quiet (fail)
           have hy:Ext wm (wm.drewN nq):=(Ext.refl _).drewN nq
           generalize wm.drewN nq=wy at *
           have XE:=Lib.hid (XE.out.trans hy)
           have BI:=Lib.hid (BI.out.ext hy)
           clear hy i3 i4 p0 z0 r0
           have Hbo:=Lib.hid hbo
           clear hbo
           have bI:=BI.out
           have i0:∀ Wx,Ext wy Wx→Wx.cell? ⟨gi,0,none⟩=some (.int .i64 3):=fun _ h=>h.kept (by rw [bI.cell];rfl)
           have i1:∀ Wx,Ext wy Wx→Wx.cell? ⟨gi,1,none⟩=some (.int .i64 a):=fun _ h=>h.kept (by rw [bI.cell];rfl)
           have i2:∀ Wx,Ext wy Wx→Wx.cell? ⟨gi,2,none⟩=some (.int .i64 b):=fun _ h=>h.kept (by rw [bI.cell];rfl)
           have i3:∀ Wx,Ext wy Wx→Wx.cell? ⟨gi,3,none⟩=some (.int .i64 c):=fun _ h=>h.kept (by rw [bI.cell];rfl)
           have i4:∀ Wx,Ext wy Wx→Wx.cell? ⟨gi,4,none⟩=some (.int .i64 n):=fun _ h=>h.kept (by rw [bI.cell];rfl)
           have bP:=BP.out.ext (XA.out.trans XE.out)
           have p0:∀ Wx,Ext wy Wx→Wx.cell? ⟨gp,0,none⟩=some (.slice oa p.regs.length capa):=fun _ h=>h.kept (by rw [bP.cell];rfl)
           have p1:∀ Wx,Ext wy Wx→Wx.cell? ⟨gp,1,none⟩=some (.slice oc p.code.length capc):=fun _ h=>h.kept (by rw [bP.cell];rfl)
           obtain ⟨ba',cap',-,⟨t1,-⟩,hk2⟩:=((HT.out.ext XE.out).at_ hlt).2 s Hts.out
           have KN2:=Lib.hid hk2
           have t1:∀ Wx,Ext wy Wx→Wx.cell? ⟨ks,j * 2+1,none⟩=some (.slice (some ⟨ba',0,none⟩) 8 cap'):=fun _ h=>h.kept t1
           have HP2:=Lib.hid (HP.out.ext (X.out.trans (XA.out.trans XE.out)))
           clear hk2 bI bP
           go_upto_region 20 with fail
           refine Q0z 8 (by kernel_rfl) (by kernel_rfl) ?_
           simp only [List.take_succ_cons,List.take_zero,List.drop_succ_cons,List.drop_zero]
           repeat (first | (refine Q0p ?_ ?_ (fun wc hE=>?_) ?_;(decide);rfl;(focus (go_simp;done));go_simp) | (refine Q0h ?_ ?_ ?_;(decide);(first | rfl | (focus (go_simp;done)));apply Exists.intro;refine ⟨fun wc hE=>?_,?_⟩;(go_simp;exact rfl);go_simp) | (refine Q0q ?_ ?_ ?_;(decide);(first | rfl | (focus (go_simp;done)));apply Exists.intro;refine ⟨fun wc hE=>?_,?_⟩;(go_simp;(first | (with_reducible exact Q1p (Qc1 p s 3 a b c n Hr.out Hok.out _ (HP2.out.ext (by assumption)) (KN2.out.ext (by assumption))))));go_simp) | (refine Q0n ?_ ?_ ?_;(decide);(focus (go_simp;done));go_simp))
           refine Q0o ?_
           intro wz hz
           have XE:=Lib.hid (XE.out.trans hz)
           clear hz i0 i1 i2 i3 i4 p0 p1 t1
           cases hq:Q0t p s ⟨3,a,b,c,n⟩
           ·have HE:Hid (((5:Int),j)=Q22 p T):=Lib.hid (by rw [← HF2.out,Hfs.out,Hbo.out,hq];rfl)
            clear hq
            have bF:=HF.out.ext (XA.out.trans XE.out)
            have f0:wz.cell? ⟨gp+1,0,none⟩=some (.int .i64 0)∧wz.frozen? ⟨gp+1,0,none⟩=false:=⟨by rw [bF.cell];rfl,bF.frozen _⟩
            have f1:wz.cell? ⟨gp+1,1,none⟩=some (.int .i64 0)∧wz.frozen? ⟨gp+1,1,none⟩=false:=⟨by rw [bF.cell];rfl,bF.frozen _⟩
            have hgf:=bF.lt
            clear bF
            go_wp2
            exact bodyPost_ret (Q1y (Q4i (HF.out.ext (XA.out.trans XE.out))) rfl _ rfl Try.underlying28 rfl Q3q) rfl ⟨(5,j),rfl,Q4j (X.out.trans (XA.out.trans XE.out)) (by have:=Hgp.out;omega),fun _=>⟨T,HLe.out,HE.out⟩,fun h=>(by rw [Hmay.out] at h;cases h)⟩
           ·have Hn:Hid (Q1v p T (p.code.length - (j+1)) (j+1)=Q22 p T):=Lib.hid (by rw [← HF2.out,Hfs.out,Hbo.out,hq];rfl)
            clear hq
            go_wp2
            go_roundw
            case rel=>exact ⟨j+1,by omega,by go_num,XE.out,Hn.out⟩
            case measure=>first | (simp [intOf];done) | (simp [intOf];omega)
        ·have hbo:Q1d p j s ⟨3,a,b,c,n⟩=false:=by
          have h:=Hbd.out
          rw [Bool.true_or] at h
          cases hq:Q1d p j s ⟨3,a,b,c,n⟩
          ·rfl
          ·rw [hq] at h;cases h
         go_quiet (fail)
         have hy:Ext wm (wm.drewN nq):=(Ext.refl _).drewN nq
         generalize wm.drewN nq=wy at *
         have XE:=Lib.hid (XE.out.trans hy)
         have BI:=Lib.hid (BI.out.ext hy)
         clear hy i3 i4 p0 z0 r0
         have HE:Hid (((4:Int),j)=Q22 p T):=Lib.hid (by rw [← HF2.out,Hfs.out,hbo];rfl)
         clear hbo
         have bF:=HF.out.ext (XA.out.trans XE.out)
         have f0:wy.cell? ⟨gp+1,0,none⟩=some (.int .i64 0)∧wy.frozen? ⟨gp+1,0,none⟩=false:=⟨by rw [bF.cell];rfl,bF.frozen _⟩
         have f1:wy.cell? ⟨gp+1,1,none⟩=some (.int .i64 0)∧wy.frozen? ⟨gp+1,1,none⟩=false:=⟨by rw [bF.cell];rfl,bF.frozen _⟩
         have hgf:=bF.lt
         clear bF
         go_wp2
         exact bodyPost_ret (Q1y (Q4i (HF.out.ext (XA.out.trans XE.out))) rfl _ rfl Try.underlying28 rfl Q3q) rfl ⟨(4,j),rfl,Q4j (X.out.trans (XA.out.trans XE.out)) (by have:=Hgp.out;omega),fun _=>⟨T,HLe.out,HE.out⟩,fun h=>(by rw [Hmay.out] at h;cases h)⟩
       ·by_cases hop4:op=4
        ·have hop:=hop4
         subst hop
         obtain ⟨hc0,hc1'⟩:=Q35 Hok.out (by unfold Q0s Q0m;simp)
         simp only at hc0 hc1'
         have hR:=(HP.out.ext (X.out.trans (XA.out.trans XE.out)))
         obtain ⟨v1,v2,hv,hR,-⟩:=hR
         simp only [Value.agg.injEq,Array.mk.injEq,List.cons.injEq,and_true] at hv
         obtain ⟨rfl,rfl⟩:=hv
         obtain ⟨-,oa',capa',br,orr,hv3,hd1,hd2,hrow2⟩:=hR
         simp only [Value.slice.injEq,true_and] at hv3
         obtain ⟨rfl,rfl⟩:=hv3
         obtain ⟨rlog,-⟩:=hrow2.reg c.toNat hc1'
         have hixr:=Q33 (cap:=capa) hrow2.at_
         have hlen:=Q3o Hr.out
         have hcl2:c < (p.regs.length:Int):=by omega
         have hrf:p.regs.getD c.toNat default=Q0c p ⟨4,a,b,c,n⟩:=rfl
         rw [hrf] at rlog
         have Rlog:=Lib.hid rlog
         have hbd:=Qj4 (s:=s) Hok.out hlt (by omega)
         rw [HLL.out] at hbd
         have Hbd:=Lib.hid hbd
         have hb:okIn 8 b=true:=by have:=Hok.out;unfold Q01 at this;simp [okIn] at this ⊢;omega
         obtain ⟨bz0,bz1⟩:=Q08.1 hb
         obtain ⟨ba',cap',-,⟨t1,-⟩,hk2⟩:=((HT.out.ext XE.out).at_ hlt).2 s Hts.out
         have hixs:=Q2l ba' cap'
         obtain ⟨⟨kb0,-⟩,⟨kb1,-⟩⟩:=hk2.cell hb
         have t1:∀ Wx,Ext wr Wx→Wx.cell? ⟨ks,j * 2+1,none⟩=some (.slice (some ⟨ba',0,none⟩) 8 cap'):=fun _ h=>h.kept t1
         have q0:∀ Wx,Ext wr Wx→Wx.cell? ⟨ba',b.toNat * 2,none⟩=some (.int .i64 (kg s b).bits):=fun _ h=>h.kept kb0
         have q1:∀ Wx,Ext wr Wx→Wx.cell? ⟨ba',b.toNat * 2+1,none⟩=some (.bool (kg s b).sec):=fun _ h=>h.kept kb1
         have bI:=BI.out
         have e0:wr.cell? ⟨gi,0,none⟩=some (.int .i64 4):=by rw [bI.cell];rfl
         have i2:∀ Wx,Ext wr Wx→Wx.cell? ⟨gi,2,none⟩=some (.int .i64 b):=fun _ h=>h.kept (by rw [bI.cell];rfl)
         have i4:∀ Wx,Ext wr Wx→Wx.cell? ⟨gi,4,none⟩=some (.int .i64 n):=fun _ h=>h.kept (by rw [bI.cell];rfl)
         clear hrow2 hd1 hd2 hrf hk2 kb0 kb1 hb hbd rlog bI
         go_upto_region 16 with fail
         clear e0
         refine Q6y 13 12 (some 9) (by omega) rfl (by kernel_rfl) (by kernel_rfl) (fun k=>.pointer (some ⟨k,0,none⟩)) 78 #[.int .i64 0,.bool false] ?_
         simp only [List.take_succ_cons,List.take_zero,List.drop_succ_cons,List.drop_zero]
         repeat (first | (refine Q0p ?_ ?_ (fun wc hE=>?_) ?_;(decide);rfl;(focus (go_simp;done));go_simp) | (refine Q0h ?_ ?_ ?_;(decide);(first | rfl | (focus (go_simp;done)));apply Exists.intro;refine ⟨fun wc hE=>?_,?_⟩;(go_simp;exact rfl);go_simp) | (refine Q0q ?_ ?_ ?_;(decide);(first | rfl | (focus (go_simp;done)));apply Exists.intro;refine ⟨fun wc hE=>?_,?_⟩;(go_simp;(first | (with_reducible exact Q1p (Qdn (kg s b) n _))));go_simp) | (refine Q0n ?_ ?_ ?_;(decide);(focus (go_simp;done));go_simp))
         refine Q0o ?_
         intro gk wk hgk bK hz
         have HZ:=Lib.hid hz
         have XE:=Lib.hid (XE.out.trans hz)
         have BI:=Lib.hid (BI.out.ext hz)
         have BK:=Lib.hid bK
         have k0:wk.cell? ⟨gk,0,none⟩=some (.int .i64 0)∧wk.frozen? ⟨gk,0,none⟩=false:=⟨by rw [bK.cell];rfl,bK.frozen _⟩
         have k1:wk.cell? ⟨gk,1,none⟩=some (.bool false)∧wk.frozen? ⟨gk,1,none⟩=false:=⟨by rw [bK.cell];rfl,bK.frozen _⟩
         clear t1 q0 q1 i2 i4
         go_upto_region 17 with fail
         obtain ⟨wm,hwm,hRm,BK2,XE2,BI2⟩:∃ wm,(wk.setCell ⟨gk,0,none⟩ (.int .i64 (ksum (kg s b) n).bits)).setCell ⟨gk,1,none⟩ (.bool (ksum (kg s b) n).sec)=wm∧Ext wr wm∧Blk wm gk 78 #[.int .i64 (ksum (kg s b) n).bits,.bool (ksum (kg s b) n).sec]∧Ext wA wm∧Blk wm gi 70 #[.int .i64 4,.int .i64 a,.int .i64 b,.int .i64 c,.int .i64 n]:=by
          have hgA:wA.heap.size≤gk:=by have:=HEA.out.size;omega
          have hne:gk≠gi:=Blk.ne_ BK.out BI.out (by decide)
          exact ⟨_,rfl,(HZ.out.setCell (p:=⟨gk,_,none⟩) hgk _).setCell (p:=⟨gk,_,none⟩) hgk _,(BK.out.set_ 0 _).set_ 1 _,(XE.out.setCell (p:=⟨gk,_,none⟩) hgA _).setCell (p:=⟨gk,_,none⟩) hgA _,(BI.out.far (p:=⟨gk,_,none⟩) (fun h=>hne h.symm) _).far (p:=⟨gk,_,none⟩) (fun h=>hne h.symm) _⟩
         rw [hwm]
         have XE:=Lib.hid XE2
         have Rm:=Lib.hid hRm
         have BI:=Lib.hid BI2
         have bI:=BI2
         have bP:=BP.out.ext (XA.out.trans XE2)
         have i3:wm.cell? ⟨gi,3,none⟩=some (.int .i64 c):=by rw [bI.cell];rfl
         have i4:wm.cell? ⟨gi,4,none⟩=some (.int .i64 n):=by rw [bI.cell];rfl
         have p0:wm.cell? ⟨gp,0,none⟩=some (.slice oa p.regs.length capa):=by rw [bP.cell];rfl
         have z0:wm.cell? ⟨gk,0,none⟩=some (.int .i64 (ksum (kg s b) n).bits):=by rw [BK2.cell];rfl
         have r0:wm.cell? ⟨br,orr+c.toNat * 2,none⟩=some (.int .i64 (Q0c p ⟨4,a,b,c,n⟩).log):=Rm.out.kept Rlog.out
         clear hwm BK2 XE2 BI2 bI bP bK k0 k1 hRm hz
         generalize hB:(L.any fun x=>decide (p.code.length≤x.1))=B at *
         cases B
         ·by_cases hn:n < 0
          ·have hbo:Q1d p j s ⟨4,a,b,c,n⟩=false:=by
            have h:=Hbd.out
            rw [decide_eq_true hn] at h
            cases hq:Q1d p j s ⟨4,a,b,c,n⟩
            ·rfl
            ·rw [hq] at h;cases h
           go_quiet (fail)
           have hy:Ext wm (wm.drewN nq):=(Ext.refl _).drewN nq
           generalize wm.drewN nq=wy at *
           have XE:=Lib.hid (XE.out.trans hy)
           have BI:=Lib.hid (BI.out.ext hy)
           clear hy i3 i4 p0 z0 r0
           have HE:Hid (((4:Int),j)=Q22 p T):=Lib.hid (by rw [← HF2.out,Hfs.out,hbo];rfl)
           clear hbo
           have bF:=HF.out.ext (XA.out.trans XE.out)
           have f0:wy.cell? ⟨gp+1,0,none⟩=some (.int .i64 0)∧wy.frozen? ⟨gp+1,0,none⟩=false:=⟨by rw [bF.cell];rfl,bF.frozen _⟩
           have f1:wy.cell? ⟨gp+1,1,none⟩=some (.int .i64 0)∧wy.frozen? ⟨gp+1,1,none⟩=false:=⟨by rw [bF.cell];rfl,bF.frozen _⟩
           have hgf:=bF.lt
           clear bF
           go_wp2
           exact bodyPost_ret (Q1y (Q4i (HF.out.ext (XA.out.trans XE.out))) rfl _ rfl Try.underlying28 rfl Q3q) rfl ⟨(4,j),rfl,Q4j (X.out.trans (XA.out.trans XE.out)) (by have:=Hgp.out;omega),fun _=>⟨T,HLe.out,HE.out⟩,fun h=>(by rw [Hmay.out] at h;cases h)⟩
          ·by_cases hbt:(Q0c p ⟨4,a,b,c,n⟩).log < (ksum (kg s b) n).bits
           ·have hbo:Q1d p j s ⟨4,a,b,c,n⟩=false:=by
             have h:=Hbd.out
             rw [decide_eq_true hbt] at h
             cases hq:Q1d p j s ⟨4,a,b,c,n⟩
             ·rfl
             ·rw [hq] at h;simp at h
            go_quiet (fail)
            have hy:Ext wm (wm.drewN nq):=(Ext.refl _).drewN nq
            generalize wm.drewN nq=wy at *
            have XE:=Lib.hid (XE.out.trans hy)
            have BI:=Lib.hid (BI.out.ext hy)
            clear hy i3 i4 p0 z0 r0
            have HE:Hid (((4:Int),j)=Q22 p T):=Lib.hid (by rw [← HF2.out,Hfs.out,hbo];rfl)
            clear hbo
            have bF:=HF.out.ext (XA.out.trans XE.out)
            have f0:wy.cell? ⟨gp+1,0,none⟩=some (.int .i64 0)∧wy.frozen? ⟨gp+1,0,none⟩=false:=⟨by rw [bF.cell];rfl,bF.frozen _⟩
            have f1:wy.cell? ⟨gp+1,1,none⟩=some (.int .i64 0)∧wy.frozen? ⟨gp+1,1,none⟩=false:=⟨by rw [bF.cell];rfl,bF.frozen _⟩
            have hgf:=bF.lt
            clear bF
            go_wp2
            exact bodyPost_ret (Q1y (Q4i (HF.out.ext (XA.out.trans XE.out))) rfl _ rfl Try.underlying28 rfl Q3q) rfl ⟨(4,j),rfl,Q4j (X.out.trans (XA.out.trans XE.out)) (by have:=Hgp.out;omega),fun _=>⟨T,HLe.out,HE.out⟩,fun h=>(by rw [Hmay.out] at h;cases h)⟩
           ·have hbo:Q1d p j s ⟨4,a,b,c,n⟩=true:=by
             have h:=Hbd.out
             rw [decide_eq_false hbt,decide_eq_false hn] at h
             cases hq:Q1d p j s ⟨4,a,b,c,n⟩
             ·rw [hq] at h;cases h
             ·rfl
            go_quiet (fail)
            have hy:Ext wm (wm.drewN nq):=(Ext.refl _).drewN nq
            generalize wm.drewN nq=wy at *
            have XE:=Lib.hid (XE.out.trans hy)
            have BI:=Lib.hid (BI.out.ext hy)
            clear hy i3 i4 p0 z0 r0
            have Hbo:=Lib.hid hbo
            clear hbo
            have bI:=BI.out
            have i0:∀ Wx,Ext wy Wx→Wx.cell? ⟨gi,0,none⟩=some (.int .i64 4):=fun _ h=>h.kept (by rw [bI.cell];rfl)
            have i1:∀ Wx,Ext wy Wx→Wx.cell? ⟨gi,1,none⟩=some (.int .i64 a):=fun _ h=>h.kept (by rw [bI.cell];rfl)
            have i2:∀ Wx,Ext wy Wx→Wx.cell? ⟨gi,2,none⟩=some (.int .i64 b):=fun _ h=>h.kept (by rw [bI.cell];rfl)
            have i3:∀ Wx,Ext wy Wx→Wx.cell? ⟨gi,3,none⟩=some (.int .i64 c):=fun _ h=>h.kept (by rw [bI.cell];rfl)
            have i4:∀ Wx,Ext wy Wx→Wx.cell? ⟨gi,4,none⟩=some (.int .i64 n):=fun _ h=>h.kept (by rw [bI.cell];rfl)
            have bP:=BP.out.ext (XA.out.trans XE.out)
            have p0:∀ Wx,Ext wy Wx→Wx.cell? ⟨gp,0,none⟩=some (.slice oa p.regs.length capa):=fun _ h=>h.kept (by rw [bP.cell];rfl)
            have p1:∀ Wx,Ext wy Wx→Wx.cell? ⟨gp,1,none⟩=some (.slice oc p.code.length capc):=fun _ h=>h.kept (by rw [bP.cell];rfl)
            obtain ⟨ba',cap',-,⟨t1,-⟩,hk2⟩:=((HT.out.ext XE.out).at_ hlt).2 s Hts.out
            have KN2:=Lib.hid hk2
            have t1:∀ Wx,Ext wy Wx→Wx.cell? ⟨ks,j * 2+1,none⟩=some (.slice (some ⟨ba',0,none⟩) 8 cap'):=fun _ h=>h.kept t1
            have HP2:=Lib.hid (HP.out.ext (X.out.trans (XA.out.trans XE.out)))
            clear hk2 bI bP
            go_upto_region 20 with fail
            refine Q0z 8 (by kernel_rfl) (by kernel_rfl) ?_
            simp only [List.take_succ_cons,List.take_zero,List.drop_succ_cons,List.drop_zero]
            repeat (first | (refine Q0p ?_ ?_ (fun wc hE=>?_) ?_;(decide);rfl;(focus (go_simp;done));go_simp) | (refine Q0h ?_ ?_ ?_;(decide);(first | rfl | (focus (go_simp;done)));apply Exists.intro;refine ⟨fun wc hE=>?_,?_⟩;(go_simp;exact rfl);go_simp) | (refine Q0q ?_ ?_ ?_;(decide);(first | rfl | (focus (go_simp;done)));apply Exists.intro;refine ⟨fun wc hE=>?_,?_⟩;(go_simp;(first | (with_reducible exact Q1p (Qc1 p s 4 a b c n Hr.out Hok.out _ (HP2.out.ext (by assumption)) (KN2.out.ext (by assumption))))));go_simp) | (refine Q0n ?_ ?_ ?_;(decide);(focus (go_simp;done));go_simp))
            refine Q0o ?_
            intro wz hz
            have XE:=Lib.hid (XE.out.trans hz)
            clear hz i0 i1 i2 i3 i4 p0 p1 t1
            cases hq:Q0t p s ⟨4,a,b,c,n⟩
            ·have HE:Hid (((5:Int),j)=Q22 p T):=Lib.hid (by rw [← HF2.out,Hfs.out,Hbo.out,hq];rfl)
             clear hq
             have bF:=HF.out.ext (XA.out.trans XE.out)
             have f0:wz.cell? ⟨gp+1,0,none⟩=some (.int .i64 0)∧wz.frozen? ⟨gp+1,0,none⟩=false:=⟨by rw [bF.cell];rfl,bF.frozen _⟩
             have f1:wz.cell? ⟨gp+1,1,none⟩=some (.int .i64 0)∧wz.frozen? ⟨gp+1,1,none⟩=false:=⟨by rw [bF.cell];rfl,bF.frozen _⟩
             have hgf:=bF.lt
             clear bF
             go_wp2
             exact bodyPost_ret (Q1y (Q4i (HF.out.ext (XA.out.trans XE.out))) rfl _ rfl Try.underlying28 rfl Q3q) rfl ⟨(5,j),rfl,Q4j (X.out.trans (XA.out.trans XE.out)) (by have:=Hgp.out;omega),fun _=>⟨T,HLe.out,HE.out⟩,fun h=>(by rw [Hmay.out] at h;cases h)⟩
            ·have Hn:Hid (Q1v p T (p.code.length - (j+1)) (j+1)=Q22 p T):=Lib.hid (by rw [← HF2.out,Hfs.out,Hbo.out,hq];rfl)
             clear hq
             go_wp2
             go_roundw
             case rel=>exact ⟨j+1,by omega,by go_num,XE.out,Hn.out⟩
             case measure=>first | (simp [intOf];done) | (simp [intOf];omega)
         ·have hbo:Q1d p j s ⟨4,a,b,c,n⟩=false:=by
           have h:=Hbd.out
           rw [Bool.true_or] at h
           cases hq:Q1d p j s ⟨4,a,b,c,n⟩
           ·rfl
           ·rw [hq] at h;cases h
          go_quiet (fail)
          have hy:Ext wm (wm.drewN nq):=(Ext.refl _).drewN nq
          generalize wm.drewN nq=wy at *
          have XE:=Lib.hid (XE.out.trans hy)
          have BI:=Lib.hid (BI.out.ext hy)
          clear hy i3 i4 p0 z0 r0
          have HE:Hid (((4:Int),j)=Q22 p T):=Lib.hid (by rw [← HF2.out,Hfs.out,hbo];rfl)
          clear hbo
          have bF:=HF.out.ext (XA.out.trans XE.out)
          have f0:wy.cell? ⟨gp+1,0,none⟩=some (.int .i64 0)∧wy.frozen? ⟨gp+1,0,none⟩=false:=⟨by rw [bF.cell];rfl,bF.frozen _⟩
          have f1:wy.cell? ⟨gp+1,1,none⟩=some (.int .i64 0)∧wy.frozen? ⟨gp+1,1,none⟩=false:=⟨by rw [bF.cell];rfl,bF.frozen _⟩
          have hgf:=bF.lt
          clear bF
          go_wp2
          exact bodyPost_ret (Q1y (Q4i (HF.out.ext (XA.out.trans XE.out))) rfl _ rfl Try.underlying28 rfl Q3q) rfl ⟨(4,j),rfl,Q4j (X.out.trans (XA.out.trans XE.out)) (by have:=Hgp.out;omega),fun _=>⟨T,HLe.out,HE.out⟩,fun h=>(by rw [Hmay.out] at h;cases h)⟩
        ·have hno:¬ (op=3∨op=4):=by omega
         have hq3:(op == (3:Int))=false:=by simp;omega
         have hq4:(op == (4:Int))=false:=by simp;omega
         have hbd:=Qt7 (s:=s) Hok.out hlt hno
         rw [HLL.out] at hbd
         have bI:=BI.out
         have i0:wr.cell? ⟨gi,0,none⟩=some (.int .i64 op):=by rw [bI.cell];rfl
         generalize hB:(L.any fun x=>decide (p.code.length≤x.1))=B at *
         clear hB bI hno
         cases B
         ·have hbo:Q1d p j s ⟨op,a,b,c,n⟩=true:=by
           cases hq:Q1d p j s ⟨op,a,b,c,n⟩
           ·rw [hq] at hbd;cases hbd
           ·rfl
          clear hbd
          have Hbo:=Lib.hid hbo
          clear hbo
          have bI:=BI.out
          have i0:∀ Wx,Ext wr Wx→Wx.cell? ⟨gi,0,none⟩=some (.int .i64 op):=fun _ h=>h.kept (by rw [bI.cell];rfl)
          have i1:∀ Wx,Ext wr Wx→Wx.cell? ⟨gi,1,none⟩=some (.int .i64 a):=fun _ h=>h.kept (by rw [bI.cell];rfl)
          have i2:∀ Wx,Ext wr Wx→Wx.cell? ⟨gi,2,none⟩=some (.int .i64 b):=fun _ h=>h.kept (by rw [bI.cell];rfl)
          have i3:∀ Wx,Ext wr Wx→Wx.cell? ⟨gi,3,none⟩=some (.int .i64 c):=fun _ h=>h.kept (by rw [bI.cell];rfl)
          have i4:∀ Wx,Ext wr Wx→Wx.cell? ⟨gi,4,none⟩=some (.int .i64 n):=fun _ h=>h.kept (by rw [bI.cell];rfl)
          have bP:=BP.out.ext (XA.out.trans XE.out)
          have p0:∀ Wx,Ext wr Wx→Wx.cell? ⟨gp,0,none⟩=some (.slice oa p.regs.length capa):=fun _ h=>h.kept (by rw [bP.cell];rfl)
          have p1:∀ Wx,Ext wr Wx→Wx.cell? ⟨gp,1,none⟩=some (.slice oc p.code.length capc):=fun _ h=>h.kept (by rw [bP.cell];rfl)
          obtain ⟨ba',cap',-,⟨t1,-⟩,hk2⟩:=((HT.out.ext XE.out).at_ hlt).2 s Hts.out
          have KN2:=Lib.hid hk2
          have t1:∀ Wx,Ext wr Wx→Wx.cell? ⟨ks,j * 2+1,none⟩=some (.slice (some ⟨ba',0,none⟩) 8 cap'):=fun _ h=>h.kept t1
          have HP2:=Lib.hid (HP.out.ext (X.out.trans (XA.out.trans XE.out)))
          clear hk2 bI bP
          go_upto_region 20 with fail
          refine Q0z 8 (by kernel_rfl) (by kernel_rfl) ?_
          simp only [List.take_succ_cons,List.take_zero,List.drop_succ_cons,List.drop_zero]
          repeat (first | (refine Q0p ?_ ?_ (fun wc hE=>?_) ?_;(decide);rfl;(focus (go_simp;done));go_simp) | (refine Q0h ?_ ?_ ?_;(decide);(first | rfl | (focus (go_simp;done)));apply Exists.intro;refine ⟨fun wc hE=>?_,?_⟩;(go_simp;exact rfl);go_simp) | (refine Q0q ?_ ?_ ?_;(decide);(first | rfl | (focus (go_simp;done)));apply Exists.intro;refine ⟨fun wc hE=>?_,?_⟩;(go_simp;(first | (with_reducible exact Q1p (Qc1 p s op a b c n Hr.out Hok.out _ (HP2.out.ext (by assumption)) (KN2.out.ext (by assumption))))));go_simp) | (refine Q0n ?_ ?_ ?_;(decide);(focus (go_simp;done));go_simp))
          refine Q0o ?_
          intro wz hz
          have XE:=Lib.hid (XE.out.trans hz)
          clear hz i0 i1 i2 i3 i4 p0 p1 t1
          cases hq:Q0t p s ⟨op,a,b,c,n⟩
          ·have HE:Hid (((5:Int),j)=Q22 p T):=Lib.hid (by rw [← HF2.out,Hfs.out,Hbo.out,hq];rfl)
           clear hq
           have bF:=HF.out.ext (XA.out.trans XE.out)
           have f0:wz.cell? ⟨gp+1,0,none⟩=some (.int .i64 0)∧wz.frozen? ⟨gp+1,0,none⟩=false:=⟨by rw [bF.cell];rfl,bF.frozen _⟩
           have f1:wz.cell? ⟨gp+1,1,none⟩=some (.int .i64 0)∧wz.frozen? ⟨gp+1,1,none⟩=false:=⟨by rw [bF.cell];rfl,bF.frozen _⟩
           have hgf:=bF.lt
           clear bF
           go_wp2
           exact bodyPost_ret (Q1y (Q4i (HF.out.ext (XA.out.trans XE.out))) rfl _ rfl Try.underlying28 rfl Q3q) rfl ⟨(5,j),rfl,Q4j (X.out.trans (XA.out.trans XE.out)) (by have:=Hgp.out;omega),fun _=>⟨T,HLe.out,HE.out⟩,fun h=>(by rw [Hmay.out] at h;cases h)⟩
          ·have Hn:Hid (Q1v p T (p.code.length - (j+1)) (j+1)=Q22 p T):=Lib.hid (by rw [← HF2.out,Hfs.out,Hbo.out,hq];rfl)
           clear hq
           go_wp2
           go_roundw
           case rel=>exact ⟨j+1,by omega,by go_num,XE.out,Hn.out⟩
           case measure=>first | (simp [intOf];done) | (simp [intOf];omega)
         ·have hbo:Q1d p j s ⟨op,a,b,c,n⟩=false:=by
           cases hq:Q1d p j s ⟨op,a,b,c,n⟩
           ·rfl
           ·rw [hq] at hbd;cases hbd
          clear hbd
          have HE:Hid (((4:Int),j)=Q22 p T):=Lib.hid (by rw [← HF2.out,Hfs.out,hbo];rfl)
          clear hbo
          have bF:=HF.out.ext (XA.out.trans XE.out)
          have f0:wr.cell? ⟨gp+1,0,none⟩=some (.int .i64 0)∧wr.frozen? ⟨gp+1,0,none⟩=false:=⟨by rw [bF.cell];rfl,bF.frozen _⟩
          have f1:wr.cell? ⟨gp+1,1,none⟩=some (.int .i64 0)∧wr.frozen? ⟨gp+1,1,none⟩=false:=⟨by rw [bF.cell];rfl,bF.frozen _⟩
          have hgf:=bF.lt
          clear bF
          go_wp2
          exact bodyPost_ret (Q1y (Q4i (HF.out.ext (XA.out.trans XE.out))) rfl _ rfl Try.underlying28 rfl Q3q) rfl ⟨(4,j),rfl,Q4j (X.out.trans (XA.out.trans XE.out)) (by have:=Hgp.out;omega),fun _=>⟨T,HLe.out,HE.out⟩,fun h=>(by rw [Hmay.out] at h;cases h)⟩
   ·have hje:j=p.code.length:=by omega
    subst hje
    have hlt2:decide ((p.code.length:Int) < (p.code.length:Int))=false:=by simp
    have HE:=Lib.hid (show ((0:Int),0)=Q22 p T by rw [← HF1.out,Nat.sub_self];rfl)
    have bF:=HF.out.ext (XA.out.trans XE.out)
    have f0:wr.cell? ⟨gp+1,0,none⟩=some (.int .i64 0)∧wr.frozen? ⟨gp+1,0,none⟩=false:=⟨by rw [bF.cell];rfl,bF.frozen _⟩
    have f1:wr.cell? ⟨gp+1,1,none⟩=some (.int .i64 0)∧wr.frozen? ⟨gp+1,1,none⟩=false:=⟨by rw [bF.cell];rfl,bF.frozen _⟩
    have hgf:=bF.lt
    clear bF
    go_wp2
    exact bodyPost_ret (Q1y (Q4i (HF.out.ext (XA.out.trans XE.out))) rfl _ rfl Try.underlying28 rfl Q3q) rfl ⟨(0,0),rfl,Q4j (X.out.trans (XA.out.trans XE.out)) (by have:=Hgp.out;omega),fun _=>⟨T,HLe.out,HE.out⟩,fun h=>(by rw [Hmay.out] at h;cases h)⟩
end Go.Proofs.Yteiknefajlocoaa
