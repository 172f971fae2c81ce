/- Laid together from: Dr8, Dr9. -/
import Derived.Test.YtiafchefbehfbaaGreatDoorDriveOnB47
import Derived.Test.YtiafchefbehfbaaGreatDoorDriveOnB37
import Derived.Test.YtiafchefbehfbaaGreatDoorDriveOnB43

namespace Go.Proofs.YtiafchefbehfbaaGreatDoor
open Go.ChangeShapes Go.WideShapes Go.ChangeAt Go.RowKit
set_option linter.unusedVariables false
set_option linter.unusedSimpArgs false
open Classical in
noncomputable def faultD (p:Q00):Int × Nat:=if h:Q20 p=true∧∃ T,Q6b p T then Q3q p (Classical.choose h.2) else (2,0)
theorem Qdy {p:Q00} {F:Int × Nat} (h1:Q20 p=true→∃ T,Q6b p T∧F=Q3q p T) (h2:Q20 p=false→F=(2,0)):F=faultD p:=by
 unfold faultD
 by_cases hm:Q20 p=true
 ·obtain ⟨T,hT,rfl⟩:=h1 hm
  rw [dif_pos ⟨hm,T,hT⟩]
  exact congrArg (Q3q p) (Qqc hT (Classical.choose_spec (p:=fun T=>Q6b p T) ⟨T,hT⟩))
 ·rw [dif_neg (fun h=>hm h.1),h2 (by simpa using hm)]
theorem Qin {p:Q00} {T:Tab}:∀ (n k:Nat),((Q1t p T n k).1=0∨(Q1t p T n k).1=4∨(Q1t p T n k).1=5)∧(Q1t p T n k).2≤n+k
 | 0,k=>by simp [Q1t]
 | n+1,k=>by
  have ih:=Qin (p:=p) (T:=T) n (k+1)
  rw [Q1t]
  cases tg T k with
  | none=>exact ⟨ih.1,by have:=ih.2;simp only;omega⟩
  | some s =>
   simp only
   split
   ·exact ⟨.inr (.inl rfl),by simp only;omega⟩
   ·split
    ·exact ⟨.inr (.inr rfl),by simp only;omega⟩
    ·exact ⟨ih.1,by have:=ih.2;omega⟩
theorem Qbf (p:Q00) (hp:p.code.length≤600):R64 (faultD p).1∧R64 ((faultD p).2:Int):=by
 unfold faultD
 split
 ·rename_i h
  have:=Qin (p:=p) (T:=Classical.choose h.2) p.code.length 0
  unfold Q3q
  unfold R64
  omega
 ·exact ⟨by unfold R64;omega,by unfold R64;simp⟩
noncomputable def checkA (p:Q00):List UInt8:=if (faultD p).1=0 then okW else sayT badW [(faultD p).1,((faultD p).2:Int)]
noncomputable def hardA (p:Q00):List UInt8 × Q00:=if (faultD p).1=0 then (sayT okW [((Q04 p).code.length:Int)],Q04 p) else (sayT badW [(faultD p).1,((faultD p).2:Int)],p)
def Q89 (p:Q00):List UInt8:=if Q48 p=0 then sayT okW [((Q4m p).length:Int)] else sayT badW [Q48 p]
noncomputable def loadA (p:Q00):List UInt8:=if (faultD p).1=0 then sayT okW [((Q1y p).code.length:Int)] else sayT badW [(faultD p).1,((faultD p).2:Int)]
set_option maxRecDepth 100000 in
set_option maxHeartbeats 8000000 in
theorem Qtv {w0 w:World} {B g:Nat} {vR vC vM:Value} {p:Q00} {L:List (Value × List Int)} (h:PlSt w0 w B g 65 vR vC vM p L) (hg:Q0y ⟨p,L.map (·.2)⟩) (ht:Tabs w0) :
  Calls Tryz.prog 82 #[.pointer (some ⟨g,0,none⟩)] w (Q0l ((hardA p).1,⟨(hardA p).2,L.map (·.2)⟩) w0 B g 65):=by
 have HR:=Lib.hid (Qbf p hg.code)
 have Hhl:=Lib.hid (Q8q p)
 have Hpl:=Lib.hid hg.code
 have HS:=Lib.hid h
 have Ht:=Lib.hid ht
 have C:=Lib.hid (Qsc p _ w h.prog)
 obtain ⟨oR,cR,rfl⟩:=Q02 h.rg
 obtain ⟨oC,cC,rfl⟩:=Q02 h.cd
 obtain ⟨d0,d1,-⟩:=h.cells
 have hgl:=h.box.lt
 clear h hg ht
 go_enter Tryz.func82,Tryz.ntmps82
 go_wp2_with fail
 (with_reducible refine C.out.mono ?_)
 rintro e w1 ⟨u,F,rfl,hx,hm,hn,hok,hbad⟩
 obtain rfl:=Qdy hm hn
 have X1:=Lib.hid hx
 by_cases hF:(faultD p).1=0
 ·obtain ⟨-,vR',vC',rfl,hr,hc,hf⟩:=hok hF
  obtain ⟨oR',cR',rfl⟩:=Q02 hr
  obtain ⟨oC',cC',rfl⟩:=Q02 hc
  have Hr:=Lib.hid hr
  have Hc:=Lib.hid hc
  have Hf:=Lib.hid hf
  have HA:Hid (hardA p=(sayT okW [((Q04 p).code.length:Int)],Q04 p)):=Lib.hid (by unfold hardA;rw [if_pos hF])
  have hq:((faultD p).1 != (0:Int))=false:=by simp [hF]
  clear hm hn hok hbad hr hc hf hF d0 d1 C
  go_upto_region 2 with fail
  obtain ⟨w2,gh,hg,hW,hx2,bH,bF⟩:=Q15 w1 #[.slice oR' (Q04 p).regs.length cR',.slice oC' (Q04 p).code.length cC'] #[.int .i64 (faultD p).1,.int .i64 ((faultD p).2:Int)] 28 52
  rw [hW,hg]
  have HS2:=Lib.hid (HS.out.extend (X1.out.trans hx2))
  obtain ⟨d0,d1,-⟩:=HS2.out.cells
  have hgh:g≠gh:=by have:=HS.out.box.lt;have:=X1.out.size;omega
  have c0:w2.cell? ⟨gh,0,none⟩=some (.slice oR' (Q04 p).regs.length cR'):=by rw [bH.cell];rfl
  have c1:w2.cell? ⟨gh,1,none⟩=some (.slice oC' (Q04 p).code.length cC'):=by rw [bH.cell];rfl
  have f0:w2.cell? ⟨gh+1,0,none⟩=some (.int .i64 (faultD p).1):=by rw [bF.cell];rfl
  have BH:=Lib.hid bH
  have HSn:Hid (PlSt w0 ((w2.setCell ⟨g,0,none⟩ (.slice oR' (Q04 p).regs.length cR')).setCell ⟨g,1,none⟩ (.slice oC' (Q04 p).code.length cC')) B g 65 (.slice oR' (Q04 p).regs.length cR') (.slice oC' (Q04 p).code.length cC') vM (Q04 p) L):=Lib.hid (HS.out.prog_ (X1.out.trans hx2) (own_mono' (Q2d Hr.out hx2) HS.out.size) (own_mono' (Q2d Hc.out hx2) HS.out.size) HS.out.fr Hf.out)
  clear hW hg hx hx2 bH bF
  go_upto_region 5 with fail
  have bS:=(Blk.far BH.out (p:=⟨g,0,none⟩) (fun e=>hgh e.symm) (.slice oR' (Q04 p).regs.length cR')).far (p:=⟨g,1,none⟩) (fun e=>hgh e.symm) (.slice oC' (Q04 p).code.length cC')
  have XS:Ext w0 ((w2.setCell ⟨g,0,none⟩ (.slice oR' (Q04 p).regs.length cR')).setCell ⟨g,1,none⟩ (.slice oC' (Q04 p).code.length cC')):=HSn.out.ext
  clear d0 d1 c0 c1 f0
  generalize (w2.setCell ⟨g,0,none⟩ (.slice oR' (Q04 p).regs.length cR')).setCell ⟨g,1,none⟩ (.slice oC' (Q04 p).code.length cC')=wS at HSn bS XS ⊢
  have c1:wS.cell? ⟨gh,1,none⟩=some (.slice oC' (Q04 p).code.length cC'):=by rw [bS.cell];rfl
  have hghl:=bS.lt
  have XS:=Lib.hid XS
  have Hn:Hid (R64 ((Q04 p).code.length:Int)):=Lib.hid (by have:=Hhl.out;have:=Hpl.out;unfold R64;omega)
  clear bS
  go_wp2_with fail
  (with_reducible refine (Q6u [111,107] _ Hn.out _ _ _ (Blk.new wS 3 #[.int .i64 ((Q04 p).code.length:Int)]) (by decide) (Ht.out.ext (XS.out.alloc _))).mono ?_)
  rintro e w5 ⟨rfl,hx⟩
  have HS5:=Lib.hid (HSn.out.extend (((Ext.refl wS).alloc (.cells #[.int .i64 ((Q04 p).code.length:Int)] 3)).trans hx))
  clear hx c1
  go_wp2
  go_ret
  rw [HA.out]
  exact ⟨rfl,_,_,_,_,rfl,HS5.out⟩
 ·obtain rfl:=hbad hF
  have HA:Hid (hardA p=(sayT badW [(faultD p).1,((faultD p).2:Int)],p)):=Lib.hid (by unfold hardA;rw [if_neg hF])
  have hq:((faultD p).1 != (0:Int))=true:=by simp [hF]
  clear hm hn hok hbad hF d0 d1 C
  go_upto_region 2 with fail
  obtain ⟨w2,gh,hg,hW,hx2,bH,bF⟩:=Q15 w1 #[.slice none 0 0,.slice none 0 0] #[.int .i64 (faultD p).1,.int .i64 ((faultD p).2:Int)] 28 52
  rw [hW,hg]
  have HS2:=Lib.hid (HS.out.extend (X1.out.trans hx2))
  have f0:w2.cell? ⟨gh+1,0,none⟩=some (.int .i64 (faultD p).1):=by rw [bF.cell];rfl
  have f1:w2.cell? ⟨gh+1,1,none⟩=some (.int .i64 ((faultD p).2:Int)):=by rw [bF.cell];rfl
  have hghl:=bF.lt
  clear hW hg hx hx2 bH bF
  go_wp2_with fail
  (with_reducible refine (Qe3 _ _ HR.out.1 HR.out.2 w2 (Ht.out.ext HS2.out.ext)).mono ?_)
  rintro e w5 ⟨rfl,hx⟩
  have HS5:=Lib.hid (HS2.out.extend hx)
  clear hx f0 f1
  go_wp2
  go_ret
  rw [HA.out]
  exact ⟨rfl,_,_,_,_,rfl,HS5.out⟩
end Go.Proofs.YtiafchefbehfbaaGreatDoor

namespace Go.Proofs.YtiafchefbehfbaaGreatDoor
open Go.ChangeShapes Go.WideShapes Go.ChangeAt Go.RowKit
set_option linter.unusedVariables false
set_option linter.unusedSimpArgs false
section
variable {w0 w : World} {B g : Nat} {vR vC vM : Value} {p : Q00} {L : List (Value × List Int)}
set_option maxRecDepth 100000
set_option maxHeartbeats 8000000
theorem Qu0 (h:PlSt w0 w B g 65 vR vC vM p L) (hg:Q0y ⟨p,L.map (·.2)⟩) (ht:Tabs w0) :
  Calls Tryz.prog 46 #[.pointer (some ⟨g,0,none⟩),str [99,104,101,99,107]] w (Q0l (checkA p,⟨p,L.map (·.2)⟩) w0 B g 65):=by
 have HR:=Lib.hid (Qbf p hg.code)
 have HS:=Lib.hid h
 have Ht:=Lib.hid ht
 have C:=Lib.hid (Qe6 p _ w h.prog)
 obtain ⟨d0,d1,-⟩:=h.cells
 have hgl:=h.box.lt
 clear h hg ht
 go_enter Tryz.func46,Tryz.ntmps46
 go_wp2_with fail
 (with_reducible refine C.out.mono ?_)
 rintro e w1 ⟨F,rfl,hx,hm,hn⟩
 obtain rfl:=Qdy hm hn
 have X1:=Lib.hid hx
 clear hm hn d0 d1 C hx
 go_upto_region 4 with fail
 obtain ⟨w2,gf,hg,hW,hx2,bF⟩:=Q2p w1 #[.int .i64 (faultD p).1,.int .i64 ((faultD p).2:Int)] 52
 rw [hW,hg]
 have HS2:=Lib.hid (HS.out.extend (X1.out.trans hx2))
 have f0:w2.cell? ⟨gf,0,none⟩=some (.int .i64 (faultD p).1):=by rw [bF.cell];rfl
 have f1:w2.cell? ⟨gf,1,none⟩=some (.int .i64 ((faultD p).2:Int)):=by rw [bF.cell];rfl
 have hfl:=bF.lt
 clear hW hg hx2 bF
 by_cases hF:(faultD p).1=0
 ·have HA:Hid (checkA p=okW):=Lib.hid (by unfold checkA;rw [if_pos hF])
  have hq:((faultD p).1 != (0:Int))=false:=by simp [hF]
  clear hF
  go_wp2
  go_ret
  rw [HA.out]
  exact ⟨rfl,_,_,_,_,rfl,HS2.out⟩
 ·have HA:Hid (checkA p=sayT badW [(faultD p).1,((faultD p).2:Int)]):=Lib.hid (by unfold checkA;rw [if_neg hF])
  have hq:((faultD p).1 != (0:Int))=true:=by simp [hF]
  clear hF
  go_wp2_with fail
  (with_reducible refine (Qe3 _ _ HR.out.1 HR.out.2 w2 (Ht.out.ext HS2.out.ext)).mono ?_)
  rintro e w5 ⟨rfl,hx⟩
  have HS5:=Lib.hid (HS2.out.extend hx)
  clear hx f0 f1
  go_wp2
  go_ret
  rw [HA.out]
  exact ⟨rfl,_,_,_,_,rfl,HS5.out⟩
theorem Qtz (h:PlSt w0 w B g 65 vR vC vM p L) (hg:Q0y ⟨p,L.map (·.2)⟩) (ht:Tabs w0) :
  Calls Tryz.prog 46 #[.pointer (some ⟨g,0,none⟩),str [104,97,114,100]] w (Q0l ((hardA p).1,⟨(hardA p).2,L.map (·.2)⟩) w0 B g 65):=by
 have C:=Lib.hid (Qtv h hg ht)
 clear h hg ht
 go_enter Tryz.func46,Tryz.ntmps46
 go_wp2_with fail
 (with_reducible refine C.out.mono ?_)
 rintro e w1 ⟨rfl,h⟩
 have H:=Lib.hid h
 clear h
 go_wp2
 go_ret
 exact ⟨rfl,H.out⟩
theorem Qn5 (p:Q00) (hf:∀ i ∈ p.code,i.fits):R64 ((Q4m p).length:Int):=by
 unfold Q4m
 split
 ·rename_i hh
  have:=(Qd1 hh hf).1
  unfold R64
  omega
 ·unfold R64
  simp
theorem Qn6 (p:Q00):R64 (Q48 p):=by
 unfold Q48 R64
 split <;> omega
theorem Qtx (h:PlSt w0 w B g 65 vR vC vM p L) (hg:Q0y ⟨p,L.map (·.2)⟩) (ht:Tabs w0) :
  Calls Tryz.prog 46 #[.pointer (some ⟨g,0,none⟩),str [116,101,120,116]] w (Q0l (Q89 p,⟨p,L.map (·.2)⟩) w0 B g 65):=by
 have HS:=Lib.hid h
 have Ht:=Lib.hid ht
 have Hl:=Lib.hid (Qn5 p h.fc)
 have He:=Lib.hid (Qn6 p)
 have C:=Lib.hid (Qn4 p _ w h.prog (ht.ext h.ext))
 obtain ⟨d0,d1,-⟩:=h.cells
 have hgl:=h.box.lt
 clear h hg ht
 go_enter Tryz.func46,Tryz.ntmps46
 go_wp2_with fail
 (with_reducible refine C.out.mono ?_)
 rintro e w1 ⟨rfl,hx⟩
 have HS2:=Lib.hid (HS.out.extend hx)
 clear d0 d1 C hx
 have HA:Hid (Q89 p=if Q48 p=0 then sayT okW [((Q4m p).length:Int)] else sayT badW [Q48 p]):=Lib.hid rfl
 generalize Q4m p=T at Hl HA ⊢
 generalize Q48 p=E at He HA ⊢
 by_cases hE:E=0
 ·subst hE
  have HA:=Lib.hid (HA.out.trans (if_pos rfl))
  go_wp2_with fail
  (with_reducible refine (Q6u [111,107] _ Hl.out _ _ _ (Blk.new w1 3 #[.int .i64 (T.length:Int)]) (by decide) (Ht.out.ext (HS2.out.ext.alloc _))).mono ?_)
  rintro e w5 ⟨rfl,hx⟩
  have HS5:=Lib.hid (HS2.out.extend (((Ext.refl w1).alloc (.cells #[.int .i64 (T.length:Int)] 3)).trans hx))
  clear hx
  go_wp2
  go_ret
  rw [HA.out]
  exact ⟨rfl,_,_,_,_,rfl,HS5.out⟩
 ·have hq:(E != (0:Int))=true:=by simp [hE]
  have HA:=Lib.hid (HA.out.trans (if_neg hE))
  clear hE
  go_wp2_with fail
  (with_reducible refine (Q6u [98,97,100] _ He.out _ _ _ (Blk.new w1 3 #[.int .i64 E]) (by decide) (Ht.out.ext (HS2.out.ext.alloc _))).mono ?_)
  rintro e w5 ⟨rfl,hx⟩
  have HS5:=Lib.hid (HS2.out.extend (((Ext.refl w1).alloc (.cells #[.int .i64 E] 3)).trans hx))
  clear hx
  go_wp2
  go_ret
  rw [HA.out]
  exact ⟨rfl,_,_,_,_,rfl,HS5.out⟩
theorem Qty (h:PlSt w0 w B g 65 vR vC vM p L) (hg:Q0y ⟨p,L.map (·.2)⟩) (ht:Tabs w0) :
  Calls Tryz.prog 46 #[.pointer (some ⟨g,0,none⟩),str [108,111,97,100]] w (Q0l (loadA p,⟨p,L.map (·.2)⟩) w0 B g 65):=by
 have HR:=Lib.hid (Qbf p hg.code)
 have Hn:Hid (R64 ((Q1y p).code.length:Int)):=Lib.hid (by have:=Q7v p;have:=hg.code;simp only at this;unfold R64;omega)
 have HS:=Lib.hid h
 have Ht:=Lib.hid ht
 have C:=Lib.hid (Qpz p _ w h.prog)
 obtain ⟨d0,d1,-⟩:=h.cells
 have hgl:=h.box.lt
 clear h hg ht
 go_enter Tryz.func46,Tryz.ntmps46
 go_wp2_with fail
 (with_reducible refine C.out.mono ?_)
 rintro e w1 ⟨u,F,rfl,hx,hm,hn,hok,hbad⟩
 obtain rfl:=Qdy hm hn
 have X1:=Lib.hid hx
 clear hm hn d0 d1 C hx
 by_cases hF:(faultD p).1=0
 ·obtain ⟨-,-,oa,cap,b,o,rfl,-⟩:=hok hF
  have HA:Hid (loadA p=sayT okW [((Q1y p).code.length:Int)]):=Lib.hid (by unfold loadA;rw [if_pos hF])
  have hq:((faultD p).1 != (0:Int))=false:=by simp [hF]
  clear hF hok hbad
  rw [List.length_map]
  go_upto_region 15 with fail
  obtain ⟨w2,gf,hg,hW,hx2,bF⟩:=Q2p w1 #[.int .i64 (faultD p).1,.int .i64 ((faultD p).2:Int)] 52
  rw [hW,hg]
  have HS2:=Lib.hid (HS.out.extend (X1.out.trans hx2))
  have f0:w2.cell? ⟨gf,0,none⟩=some (.int .i64 (faultD p).1):=by rw [bF.cell];rfl
  have hfl:=bF.lt
  clear hW hg hx2 bF
  go_wp2_with fail
  (with_reducible refine (Q6u [111,107] _ Hn.out _ _ _ (Blk.new w2 3 #[.int .i64 ((Q1y p).code.length:Int)]) (by decide) (Ht.out.ext (HS2.out.ext.alloc _))).mono ?_)
  rintro e w5 ⟨rfl,hx⟩
  have HS5:=Lib.hid (HS2.out.extend (((Ext.refl w2).alloc (.cells #[.int .i64 ((Q1y p).code.length:Int)] 3)).trans hx))
  clear hx f0
  go_wp2
  go_ret
  rw [HA.out]
  exact ⟨rfl,_,_,_,_,rfl,HS5.out⟩
 ·obtain rfl:=hbad hF
  have HA:Hid (loadA p=sayT badW [(faultD p).1,((faultD p).2:Int)]):=Lib.hid (by unfold loadA;rw [if_neg hF])
  have hq:((faultD p).1 != (0:Int))=true:=by simp [hF]
  clear hF hok hbad
  go_upto_region 15 with fail
  obtain ⟨w2,gf,hg,hW,hx2,bF⟩:=Q2p w1 #[.int .i64 (faultD p).1,.int .i64 ((faultD p).2:Int)] 52
  rw [hW,hg]
  have HS2:=Lib.hid (HS.out.extend (X1.out.trans hx2))
  have f0:w2.cell? ⟨gf,0,none⟩=some (.int .i64 (faultD p).1):=by rw [bF.cell];rfl
  have f1:w2.cell? ⟨gf,1,none⟩=some (.int .i64 ((faultD p).2:Int)):=by rw [bF.cell];rfl
  have hfl:=bF.lt
  clear hW hg hx2 bF
  go_wp2_with fail
  (with_reducible refine (Qe3 _ _ HR.out.1 HR.out.2 w2 (Ht.out.ext HS2.out.ext)).mono ?_)
  rintro e w5 ⟨rfl,hx⟩
  have HS5:=Lib.hid (HS2.out.extend hx)
  clear hx f0 f1
  go_wp2
  go_ret
  rw [HA.out]
  exact ⟨rfl,_,_,_,_,rfl,HS5.out⟩
end
end Go.Proofs.YtiafchefbehfbaaGreatDoor
