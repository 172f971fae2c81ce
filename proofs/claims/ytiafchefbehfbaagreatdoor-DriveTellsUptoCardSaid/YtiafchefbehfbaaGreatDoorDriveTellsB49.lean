/- Laid together from: Dr8, Dr9. -/
import Derived.Test.YtiafchefbehfbaaGreatDoorDriveTellsB47
import Derived.Test.YtiafchefbehfbaaGreatDoorDriveTellsB37
import Derived.Test.YtiafchefbehfbaaGreatDoorDriveTellsB43

namespace Go.Proofs.YtiafchefbehfbaaGreatDoor
open Go.ChangeShapes Go.WideShapes Go.ChangeAt Go.RowKit
set_option linter.unusedVariables false
set_option linter.unusedSimpArgs false
open Classical in
noncomputable def faultD (p:Q00):Int × Nat:=if h:Q2p p=true∧∃ T,Q6q p T then Q3x p (Classical.choose h.2) else (2,0)
theorem Q9m {p:Q00} {F:Int × Nat} (h1:Q2p p=true→∃ T,Q6q p T∧F=Q3x p T) (h2:Q2p p=false→F=(2,0)):F=faultD p:=by
 unfold faultD
 by_cases hm:Q2p p=true
 ·obtain ⟨T,hT,rfl⟩:=h1 hm
  rw [dif_pos ⟨hm,T,hT⟩]
  exact congrArg (Q3x p) (Qrl hT (Classical.choose_spec (p:=fun T=>Q6q p T) ⟨T,hT⟩))
 ·rw [dif_neg (fun h=>hm h.1),h2 (by simpa using hm)]
theorem Qkg {p:Q00} {T:Tab}:∀ (n k:Nat),((Q28 p T n k).1=0∨(Q28 p T n k).1=4∨(Q28 p T n k).1=5)∧(Q28 p T n k).2≤n+k
 | 0,k=>by simp [Q28]
 | n+1,k=>by
  have ih:=Qkg (p:=p) (T:=T) n (k+1)
  rw [Q28]
  cases tg T k with
  | none=>exact ⟨ih.1,by have:=ih.2;simp only;omega⟩
  | some s =>
   simp only
   split
   ·exact ⟨.inr (.inl rfl),by simp only;omega⟩
   ·split
    ·exact ⟨.inr (.inr rfl),by simp only;omega⟩
    ·exact ⟨ih.1,by have:=ih.2;omega⟩
theorem Qal (p:Q00) (hp:p.code.length≤600):R64 (faultD p).1∧R64 ((faultD p).2:Int):=by
 unfold faultD
 split
 ·rename_i h
  have:=Qkg (p:=p) (T:=Classical.choose h.2) p.code.length 0
  unfold Q3x
  unfold R64
  omega
 ·exact ⟨by unfold R64;omega,by unfold R64;simp⟩
noncomputable def checkA (p:Q00):List UInt8:=if (faultD p).1=0 then okW else sayT badW [(faultD p).1,((faultD p).2:Int)]
noncomputable def hardA (p:Q00):List UInt8 × Q00:=if (faultD p).1=0 then (sayT okW [((Q06 p).code.length:Int)],Q06 p) else (sayT badW [(faultD p).1,((faultD p).2:Int)],p)
def Q79 (p:Q00):List UInt8:=if Q3r p=0 then sayT okW [((Q46 p).length:Int)] else sayT badW [Q3r p]
noncomputable def loadA (p:Q00):List UInt8:=if (faultD p).1=0 then sayT okW [((Q1s p).code.length:Int)] else sayT badW [(faultD p).1,((faultD p).2:Int)]
set_option maxRecDepth 100000 in
set_option maxHeartbeats 8000000 in
theorem Qut {w0 w:World} {B g:Nat} {vR vC vM:Value} {p:Q00} {L:List (Value × List Int)} (h:PlSt w0 w B g 65 vR vC vM p L) (hg:Q0x ⟨p,L.map (·.2)⟩) (ht:Tabs w0) :
  Calls Tryz.prog 82 #[.pointer (some ⟨g,0,none⟩)] w (Q07 ((hardA p).1,⟨(hardA p).2,L.map (·.2)⟩) w0 B g 65):=by
 have HR:=zh (Qal p hg.code)
 have Hhl:=zh (Q8p p)
 have Hpl:=zh hg.code
 have HS:=zh h
 have Ht:=zh ht
 have C:=zh (Qet p _ w h.prog)
 obtain ⟨oR,cR,rfl⟩:=Q02 h.rg
 obtain ⟨oC,cC,rfl⟩:=Q02 h.cd
 obtain ⟨d0,d1,-⟩:=h.cells
 have hgl:=h.box.lt
 clear h hg ht
 go_enter Tryz.func82,Tryz.ntmps82
 go_wp2_with fail
 (with_reducible refine C.out.mono ?_)
 rintro e w1 ⟨u,F,rfl,hx,hm,hn,hok,hbad⟩
 obtain rfl:=Q9m hm hn
 have X1:=zh hx
 by_cases hF:(faultD p).1=0
 ·obtain ⟨-,vR',vC',rfl,hr,hc,hf⟩:=hok hF
  obtain ⟨oR',cR',rfl⟩:=Q02 hr
  obtain ⟨oC',cC',rfl⟩:=Q02 hc
  have Hr:=zh hr
  have Hc:=zh hc
  have Hf:=zh hf
  have HA:Hid (hardA p=(sayT okW [((Q06 p).code.length:Int)],Q06 p)):=zh (by unfold hardA;rw [if_pos hF])
  have hq:((faultD p).1 != (0:Int))=false:=by simp [hF]
  clear hm hn hok hbad hr hc hf hF d0 d1 C
  go_upto_region 2 with fail
  obtain ⟨w2,gh,hg,hW,hx2,bH,bF⟩:=Q14 w1 #[.slice oR' (Q06 p).regs.length cR',.slice oC' (Q06 p).code.length cC'] #[.int .i64 (faultD p).1,.int .i64 ((faultD p).2:Int)] 28 52
  rw [hW,hg]
  have HS2:=zh (HS.out.extend (X1.out.trans hx2))
  obtain ⟨d0,d1,-⟩:=HS2.out.cells
  have hgh:g≠gh:=by have:=HS.out.box.lt;have:=X1.out.size;omega
  have c0:w2.cell? ⟨gh,0,none⟩=some (.slice oR' (Q06 p).regs.length cR'):=by rw [bH.cell];rfl
  have c1:w2.cell? ⟨gh,1,none⟩=some (.slice oC' (Q06 p).code.length cC'):=by rw [bH.cell];rfl
  have f0:w2.cell? ⟨gh+1,0,none⟩=some (.int .i64 (faultD p).1):=by rw [bF.cell];rfl
  have BH:=zh bH
  have HSn:Hid (PlSt w0 ((w2.setCell ⟨g,0,none⟩ (.slice oR' (Q06 p).regs.length cR')).setCell ⟨g,1,none⟩ (.slice oC' (Q06 p).code.length cC')) B g 65 (.slice oR' (Q06 p).regs.length cR') (.slice oC' (Q06 p).code.length cC') vM (Q06 p) L):=zh (HS.out.prog_ (X1.out.trans hx2) (own_mono' (Q19 Hr.out hx2) HS.out.size) (own_mono' (Q19 Hc.out hx2) HS.out.size) HS.out.fr Hf.out)
  clear hW hg hx hx2 bH bF
  go_upto_region 5 with fail
  have bS:=(Blk.far BH.out (p:=⟨g,0,none⟩) (fun e=>hgh e.symm) (.slice oR' (Q06 p).regs.length cR')).far (p:=⟨g,1,none⟩) (fun e=>hgh e.symm) (.slice oC' (Q06 p).code.length cC')
  have XS:Ext w0 ((w2.setCell ⟨g,0,none⟩ (.slice oR' (Q06 p).regs.length cR')).setCell ⟨g,1,none⟩ (.slice oC' (Q06 p).code.length cC')):=HSn.out.ext
  clear d0 d1 c0 c1 f0
  generalize (w2.setCell ⟨g,0,none⟩ (.slice oR' (Q06 p).regs.length cR')).setCell ⟨g,1,none⟩ (.slice oC' (Q06 p).code.length cC')=wS at HSn bS XS ⊢
  have c1:wS.cell? ⟨gh,1,none⟩=some (.slice oC' (Q06 p).code.length cC'):=by rw [bS.cell];rfl
  have hghl:=bS.lt
  have XS:=zh XS
  have Hn:Hid (R64 ((Q06 p).code.length:Int)):=zh (by have:=Hhl.out;have:=Hpl.out;unfold R64;omega)
  clear bS
  go_wp2_with fail
  (with_reducible refine (Q89 [111,107] _ Hn.out _ _ _ (Blk.new wS 3 #[.int .i64 ((Q06 p).code.length:Int)]) (by decide) (Ht.out.ext (XS.out.alloc _))).mono ?_)
  rintro e w5 ⟨rfl,hx⟩
  have HS5:=zh (HSn.out.extend (((Ext.refl wS).alloc (.cells #[.int .i64 ((Q06 p).code.length:Int)] 3)).trans hx))
  clear hx c1
  go_wp2
  go_ret
  rw [HA.out]
  exact ⟨rfl,_,_,_,_,rfl,HS5.out⟩
 ·obtain rfl:=hbad hF
  have HA:Hid (hardA p=(sayT badW [(faultD p).1,((faultD p).2:Int)],p)):=zh (by unfold hardA;rw [if_neg hF])
  have hq:((faultD p).1 != (0:Int))=true:=by simp [hF]
  clear hm hn hok hbad hF d0 d1 C
  go_upto_region 2 with fail
  obtain ⟨w2,gh,hg,hW,hx2,bH,bF⟩:=Q14 w1 #[.slice none 0 0,.slice none 0 0] #[.int .i64 (faultD p).1,.int .i64 ((faultD p).2:Int)] 28 52
  rw [hW,hg]
  have HS2:=zh (HS.out.extend (X1.out.trans hx2))
  have f0:w2.cell? ⟨gh+1,0,none⟩=some (.int .i64 (faultD p).1):=by rw [bF.cell];rfl
  have f1:w2.cell? ⟨gh+1,1,none⟩=some (.int .i64 ((faultD p).2:Int)):=by rw [bF.cell];rfl
  have hghl:=bF.lt
  clear hW hg hx hx2 bH bF
  go_wp2_with fail
  (with_reducible refine (Qf4 _ _ HR.out.1 HR.out.2 w2 (Ht.out.ext HS2.out.ext)).mono ?_)
  rintro e w5 ⟨rfl,hx⟩
  have HS5:=zh (HS2.out.extend hx)
  clear hx f0 f1
  go_wp2
  go_ret
  rw [HA.out]
  exact ⟨rfl,_,_,_,_,rfl,HS5.out⟩
end Go.Proofs.YtiafchefbehfbaaGreatDoor

namespace Go.Proofs.YtiafchefbehfbaaGreatDoor
open Go.ChangeShapes Go.WideShapes Go.ChangeAt Go.RowKit
set_option linter.unusedVariables false
set_option linter.unusedSimpArgs false
section
variable {w0 w : World} {B g : Nat} {vR vC vM : Value} {p : Q00} {L : List (Value × List Int)}
set_option maxRecDepth 100000
set_option maxHeartbeats 8000000
theorem Qv0 (h:PlSt w0 w B g 65 vR vC vM p L) (hg:Q0x ⟨p,L.map (·.2)⟩) (ht:Tabs w0) :
  Calls Tryz.prog 46 #[.pointer (some ⟨g,0,none⟩),str [99,104,101,99,107]] w (Q07 (checkA p,⟨p,L.map (·.2)⟩) w0 B g 65):=by
 have HR:=zh (Qal p hg.code)
 have HS:=zh h
 have Ht:=zh ht
 have C:=zh (Qf9 p _ w h.prog)
 obtain ⟨d0,d1,-⟩:=h.cells
 have hgl:=h.box.lt
 clear h hg ht
 go_enter Tryz.func46,Tryz.ntmps46
 go_wp2_with fail
 (with_reducible refine C.out.mono ?_)
 rintro e w1 ⟨F,rfl,hx,hm,hn⟩
 obtain rfl:=Q9m hm hn
 have X1:=zh hx
 clear hm hn d0 d1 C hx
 go_upto_region 4 with fail
 obtain ⟨w2,gf,hg,hW,hx2,bF⟩:=Q16 w1 #[.int .i64 (faultD p).1,.int .i64 ((faultD p).2:Int)] 52
 rw [hW,hg]
 have HS2:=zh (HS.out.extend (X1.out.trans hx2))
 have f0:w2.cell? ⟨gf,0,none⟩=some (.int .i64 (faultD p).1):=by rw [bF.cell];rfl
 have f1:w2.cell? ⟨gf,1,none⟩=some (.int .i64 ((faultD p).2:Int)):=by rw [bF.cell];rfl
 have hfl:=bF.lt
 clear hW hg hx2 bF
 by_cases hF:(faultD p).1=0
 ·have HA:Hid (checkA p=okW):=zh (by unfold checkA;rw [if_pos hF])
  have hq:((faultD p).1 != (0:Int))=false:=by simp [hF]
  clear hF
  go_wp2
  go_ret
  rw [HA.out]
  exact ⟨rfl,_,_,_,_,rfl,HS2.out⟩
 ·have HA:Hid (checkA p=sayT badW [(faultD p).1,((faultD p).2:Int)]):=zh (by unfold checkA;rw [if_neg hF])
  have hq:((faultD p).1 != (0:Int))=true:=by simp [hF]
  clear hF
  go_wp2_with fail
  (with_reducible refine (Qf4 _ _ HR.out.1 HR.out.2 w2 (Ht.out.ext HS2.out.ext)).mono ?_)
  rintro e w5 ⟨rfl,hx⟩
  have HS5:=zh (HS2.out.extend hx)
  clear hx f0 f1
  go_wp2
  go_ret
  rw [HA.out]
  exact ⟨rfl,_,_,_,_,rfl,HS5.out⟩
theorem Quz (h:PlSt w0 w B g 65 vR vC vM p L) (hg:Q0x ⟨p,L.map (·.2)⟩) (ht:Tabs w0) :
  Calls Tryz.prog 46 #[.pointer (some ⟨g,0,none⟩),str [104,97,114,100]] w (Q07 ((hardA p).1,⟨(hardA p).2,L.map (·.2)⟩) w0 B g 65):=by
 have C:=zh (Qut h hg ht)
 clear h hg ht
 go_enter Tryz.func46,Tryz.ntmps46
 go_wp2_with fail
 (with_reducible refine C.out.mono ?_)
 rintro e w1 ⟨rfl,h⟩
 have H:=zh h
 clear h
 go_wp2
 go_ret
 exact ⟨rfl,H.out⟩
theorem Qhj (p:Q00) (hf:∀ i ∈ p.code,i.fits):R64 ((Q46 p).length:Int):=by
 unfold Q46
 split
 ·rename_i hh
  have:=(Qe3 hh hf).1
  unfold R64
  omega
 ·unfold R64
  simp
theorem Qhk (p:Q00):R64 (Q3r p):=by
 unfold Q3r R64
 split <;> omega
theorem Qux (h:PlSt w0 w B g 65 vR vC vM p L) (hg:Q0x ⟨p,L.map (·.2)⟩) (ht:Tabs w0) :
  Calls Tryz.prog 46 #[.pointer (some ⟨g,0,none⟩),str [116,101,120,116]] w (Q07 (Q79 p,⟨p,L.map (·.2)⟩) w0 B g 65):=by
 have HS:=zh h
 have Ht:=zh ht
 have Hl:=zh (Qhj p h.fc)
 have He:=zh (Qhk p)
 have C:=zh (Qhi p _ w h.prog (ht.ext h.ext))
 obtain ⟨d0,d1,-⟩:=h.cells
 have hgl:=h.box.lt
 clear h hg ht
 go_enter Tryz.func46,Tryz.ntmps46
 go_wp2_with fail
 (with_reducible refine C.out.mono ?_)
 rintro e w1 ⟨rfl,hx⟩
 have HS2:=zh (HS.out.extend hx)
 clear d0 d1 C hx
 have HA:Hid (Q79 p=if Q3r p=0 then sayT okW [((Q46 p).length:Int)] else sayT badW [Q3r p]):=zh rfl
 generalize Q46 p=T at Hl HA ⊢
 generalize Q3r p=E at He HA ⊢
 by_cases hE:E=0
 ·subst hE
  have HA:=zh (HA.out.trans (if_pos rfl))
  go_wp2_with fail
  (with_reducible refine (Q89 [111,107] _ Hl.out _ _ _ (Blk.new w1 3 #[.int .i64 (T.length:Int)]) (by decide) (Ht.out.ext (HS2.out.ext.alloc _))).mono ?_)
  rintro e w5 ⟨rfl,hx⟩
  have HS5:=zh (HS2.out.extend (((Ext.refl w1).alloc (.cells #[.int .i64 (T.length:Int)] 3)).trans hx))
  clear hx
  go_wp2
  go_ret
  rw [HA.out]
  exact ⟨rfl,_,_,_,_,rfl,HS5.out⟩
 ·have hq:(E != (0:Int))=true:=by simp [hE]
  have HA:=zh (HA.out.trans (if_neg hE))
  clear hE
  go_wp2_with fail
  (with_reducible refine (Q89 [98,97,100] _ He.out _ _ _ (Blk.new w1 3 #[.int .i64 E]) (by decide) (Ht.out.ext (HS2.out.ext.alloc _))).mono ?_)
  rintro e w5 ⟨rfl,hx⟩
  have HS5:=zh (HS2.out.extend (((Ext.refl w1).alloc (.cells #[.int .i64 E] 3)).trans hx))
  clear hx
  go_wp2
  go_ret
  rw [HA.out]
  exact ⟨rfl,_,_,_,_,rfl,HS5.out⟩
theorem Quy (h:PlSt w0 w B g 65 vR vC vM p L) (hg:Q0x ⟨p,L.map (·.2)⟩) (ht:Tabs w0) :
  Calls Tryz.prog 46 #[.pointer (some ⟨g,0,none⟩),str [108,111,97,100]] w (Q07 (loadA p,⟨p,L.map (·.2)⟩) w0 B g 65):=by
 have HR:=zh (Qal p hg.code)
 have Hn:Hid (R64 ((Q1s p).code.length:Int)):=zh (by have:=Q7l p;have:=hg.code;simp only at this;unfold R64;omega)
 have HS:=zh h
 have Ht:=zh ht
 have C:=zh (Qix p _ w h.prog)
 obtain ⟨d0,d1,-⟩:=h.cells
 have hgl:=h.box.lt
 clear h hg ht
 go_enter Tryz.func46,Tryz.ntmps46
 go_wp2_with fail
 (with_reducible refine C.out.mono ?_)
 rintro e w1 ⟨u,F,rfl,hx,hm,hn,hok,hbad⟩
 obtain rfl:=Q9m hm hn
 have X1:=zh hx
 clear hm hn d0 d1 C hx
 by_cases hF:(faultD p).1=0
 ·obtain ⟨-,-,oa,cap,b,o,rfl,-⟩:=hok hF
  have HA:Hid (loadA p=sayT okW [((Q1s p).code.length:Int)]):=zh (by unfold loadA;rw [if_pos hF])
  have hq:((faultD p).1 != (0:Int))=false:=by simp [hF]
  clear hF hok hbad
  rw [List.length_map]
  go_upto_region 15 with fail
  obtain ⟨w2,gf,hg,hW,hx2,bF⟩:=Q16 w1 #[.int .i64 (faultD p).1,.int .i64 ((faultD p).2:Int)] 52
  rw [hW,hg]
  have HS2:=zh (HS.out.extend (X1.out.trans hx2))
  have f0:w2.cell? ⟨gf,0,none⟩=some (.int .i64 (faultD p).1):=by rw [bF.cell];rfl
  have hfl:=bF.lt
  clear hW hg hx2 bF
  go_wp2_with fail
  (with_reducible refine (Q89 [111,107] _ Hn.out _ _ _ (Blk.new w2 3 #[.int .i64 ((Q1s p).code.length:Int)]) (by decide) (Ht.out.ext (HS2.out.ext.alloc _))).mono ?_)
  rintro e w5 ⟨rfl,hx⟩
  have HS5:=zh (HS2.out.extend (((Ext.refl w2).alloc (.cells #[.int .i64 ((Q1s p).code.length:Int)] 3)).trans hx))
  clear hx f0
  go_wp2
  go_ret
  rw [HA.out]
  exact ⟨rfl,_,_,_,_,rfl,HS5.out⟩
 ·obtain rfl:=hbad hF
  have HA:Hid (loadA p=sayT badW [(faultD p).1,((faultD p).2:Int)]):=zh (by unfold loadA;rw [if_neg hF])
  have hq:((faultD p).1 != (0:Int))=true:=by simp [hF]
  clear hF hok hbad
  go_upto_region 15 with fail
  obtain ⟨w2,gf,hg,hW,hx2,bF⟩:=Q16 w1 #[.int .i64 (faultD p).1,.int .i64 ((faultD p).2:Int)] 52
  rw [hW,hg]
  have HS2:=zh (HS.out.extend (X1.out.trans hx2))
  have f0:w2.cell? ⟨gf,0,none⟩=some (.int .i64 (faultD p).1):=by rw [bF.cell];rfl
  have f1:w2.cell? ⟨gf,1,none⟩=some (.int .i64 ((faultD p).2:Int)):=by rw [bF.cell];rfl
  have hfl:=bF.lt
  clear hW hg hx2 bF
  go_wp2_with fail
  (with_reducible refine (Qf4 _ _ HR.out.1 HR.out.2 w2 (Ht.out.ext HS2.out.ext)).mono ?_)
  rintro e w5 ⟨rfl,hx⟩
  have HS5:=zh (HS2.out.extend hx)
  clear hx f0 f1
  go_wp2
  go_ret
  rw [HA.out]
  exact ⟨rfl,_,_,_,_,rfl,HS5.out⟩
end
end Go.Proofs.YtiafchefbehfbaaGreatDoor
