/- Laid together from: SpcE. -/
import Derived.Test.YtiafchefbehfbaaGreatDoorDriveTellsB36
import Derived.Test.YtiafchefbehfbaaGreatDoorDriveTellsB38
import Derived.Deep.DeepCutAuto
import Derived.Deep.CutBlock
import Derived.Deep.CutRange

namespace Go.Proofs.YtiafchefbehfbaaGreatDoor
open Go.ChangeShapes Go.WideShapes Go.ChangeAt Go.RowKit
set_option linter.unusedVariables false
set_option linter.unusedSimpArgs false
theorem Qdz {w:World} {vm:Value} {m:List (List Int)} (hm:Q4q w vm m):∀ x ∈ m.flatten,R64 x:=by
 obtain ⟨oa,cap,b,o,rfl,hc1,hc2,vs0,hrow,hin⟩:=hm
 intro x hx
 obtain ⟨l,hl,hxl⟩:=List.mem_flatten.1 hx
 obtain ⟨i,hi,rfl⟩:=List.getElem_of_mem hl
 have:=(hin i hi).1
 simp only [List.getD_eq_getElem?_getD,List.getElem?_eq_getElem hi,Option.getD_some] at this
 exact this x hxl
def Q2m (p:Q00) (m:List (List Int)) (script:List Int) (fuel:Int):Int:=if mayE p m fuel=0 then (if Q6l script=true then 0 else 3) else mayE p m fuel
theorem Qd0 {p:Q00} {m:List (List Int)} {script:List Int} {fuel:Int} (h:mayE p m fuel≠0):Q2m p m script fuel=mayE p m fuel:=by unfold Q2m;rw [if_neg h]
theorem Qgh {p:Q00} {m:List (List Int)} {script:List Int} {fuel:Int} (h:mayE p m fuel=0) (hs:Q6l script=false):Q2m p m script fuel=3:=by unfold Q2m;rw [if_pos h,if_neg (by rw [hs];simp)]
theorem Qmz {p:Q00} {m:List (List Int)} {script:List Int} {fuel:Int} (h:mayE p m fuel=0) (hs:Q6l script=true):Q2m p m script fuel=0:=by unfold Q2m;rw [if_pos h,if_pos hs]
theorem run_begin' {p:Q00} {S F:Spc} {k:Nat} (h:runS p k S=F) (h0:S.steps=0):runS p (k - S.steps) S=F:=by rw [h0];exact h
def Qvz (p:Q00) (m:List (List Int)) (script:List Int) (fuel:Int) (F:Spc) (w:World) (e:Ending) (w':World):Prop :=
 ∃ u,e=.returned (.tuple #[u,.int .i64 (Q2m p m script fuel)])∧Ext w w'∧(Q2m p m script fuel=0→Q52 w' u F.fin F.value F.steps F.seen (Q3n p F.pl.words))∧(Q2m p m script fuel≠0→Q52 w' u 0 0 0 [] [])
set_option maxRecDepth 100000 in
set_option maxHeartbeats 16000000 in
theorem Qmt (p:Q00) (m:List (List Int)) (script:List Int) (fuel:Int) (v vm vx:Value) (w:World) (hp:Q29 w v p) (hm:Q4q w vm m) (hs:Q2z w vx script) (hf:R64 fuel) :
  Calls Tryz.prog 13 #[v,vm,vx,.int .i64 fuel] w (Qvz p m script fuel (endS (runS p fuel.toNat (Q1l m.flatten script))) w):=by
 have hm64:=Qdz hm
 have HP:=zh hp
 have HM:=zh hm
 have HS:=zh hs
 have Hm64:=zh hm64
 have Hf:=zh hf
 obtain ⟨o1,s1,o2,s2,rfl⟩:∃ a c b d,v=.agg #[.slice a p.regs.length c,.slice b p.code.length d]:=by
  obtain ⟨v1,v2,rfl,⟨-,oa,cap,b,o,rfl,-⟩,⟨-,ob,capb,b2,o2,rfl,-⟩⟩:=hp
  exact ⟨_,_,_,_,rfl⟩
 obtain ⟨ox,cx,rfl⟩:∃ a c,vx=.slice a script.length c:=by
  obtain ⟨-,oa,cap,b,o,rfl,-⟩:=hs
  exact ⟨_,_,rfl⟩
 have hmm:=@run_makeMap Tryz.prog
 have hu:Tryz.prog.underlying 82 = some (.map 3 35):=by kernel_rfl
 clear hp hm hm64 hf hs
 generalize hF:runS p fuel.toNat (Q1l m.flatten script)=F
 have HF:=zh hF
 clear hF
 go_enter Tryz.func13,Tryz.ntmps13
 go_wp2_with fail
 obtain ⟨W,gb,hg,hW,hx,bP,bR⟩:=Q14 w #[.slice o1 p.regs.length s1,.slice o2 p.code.length s2] #[.int .i64 0,.int .i64 0,.int .i64 0,.slice none 0 0,.slice none 0 0] 28 44
 rw [hW,hg]
 have X:=zh hx
 have hgb:w.heap.size≤gb:=by omega
 clear hW hg hx
 have C:=Qin p m fuel _ vm W (HP.out.ext X.out) (HM.out.ext X.out) Hf.out
 (with_reducible refine C.mono ?_)
 clear C
 rintro e w1 ⟨rfl,hx⟩
 have bP:=bP.ext hx
 have bR:=bR.ext hx
 have X:=zh (X.out.trans hx)
 have Hb:=zh hgb
 have r0:w1.cell? ⟨gb+1,0,none⟩=some (.int .i64 0)∧w1.frozen? ⟨gb+1,0,none⟩=false:=⟨by rw [bR.cell];rfl,bR.frozen _⟩
 have r1:w1.cell? ⟨gb+1,1,none⟩=some (.int .i64 0)∧w1.frozen? ⟨gb+1,1,none⟩=false:=⟨by rw [bR.cell];rfl,bR.frozen _⟩
 have r2:w1.cell? ⟨gb+1,2,none⟩=some (.int .i64 0)∧w1.frozen? ⟨gb+1,2,none⟩=false:=⟨by rw [bR.cell];rfl,bR.frozen _⟩
 have r3:w1.cell? ⟨gb+1,3,none⟩=some (.slice none 0 0)∧w1.frozen? ⟨gb+1,3,none⟩=false:=⟨by rw [bR.cell];rfl,bR.frozen _⟩
 have r4:w1.cell? ⟨gb+1,4,none⟩=some (.slice none 0 0)∧w1.frozen? ⟨gb+1,4,none⟩=false:=⟨by rw [bR.cell];rfl,bR.frozen _⟩
 clear hx hgb
 by_cases h0:mayE p m fuel=0
 ·obtain ⟨hh,hfit,hf0,hf4⟩:=Q9c h0
  have H0:=zh h0
  have Hh:=zh hh
  have Hfit:=zh hfit
  rw [h0]
  clear h0 hh hfit
  by_cases hlen:2000 < script.length
  ·have hE:Hid (Q2m p m script fuel=3):=zh (Qgh H0.out (by rw [Qd3,decide_eq_false (by omega)];rfl))
   have hd:decide ((2000:Int) < (script.length:Int))=true:=by simp;omega
   have hBk:=((((bR.set_ 0 (.int .i64 0)).set_ 1 (.int .i64 0)).set_ 2 (.int .i64 0)).set_ 3 (.slice none 0 0)).set_ 4 (.slice none 0 0)
   have HBk:=zh hBk
   clear bP bR hlen hBk
   go_wp2
   have hg0:w.heap.size≤gb+1:=Nat.le_succ_of_le Hb.out
   exact bodyPost_ret (Q7f HBk.out rfl _ rfl rfl Tryz.underlying44 rfl (by kernel_rfl)) rfl ⟨_,by rw [hE.out];rfl,((((X.out.setCell hg0 _).setCell hg0 _).setCell hg0 _).setCell hg0 _).setCell hg0 _,fun h=>absurd (hE.out.symm.trans h) (by decide),fun _=>Qb8 _⟩
  have hd:decide ((2000:Int) < (script.length:Int))=false:=by simp;omega
  have Hlen:=zh hlen
  have C0:=zh (Qv8 script _ w1 (HS.out.ext X.out))
  cases hn:negs script
  ·have Hsc:Hid (Q6l script=true):=zh (by rw [Qd3,hn,decide_eq_true (by omega)];rfl)
   rw [hn] at C0
   clear hn hlen r0 r1 r2 r3 r4
   go_wp2_with fail
   (with_reducible refine C0.out.mono ?_)
   clear C0
   rintro e w2 ⟨rfl,hx⟩
   have BP2:=zh (bP.ext hx)
   have BR2:=zh (bR.ext hx)
   have X:=zh (X.out.trans hx)
   have c0:w2.cell? ⟨gb,0,none⟩=some (.slice o1 p.regs.length s1):=by rw [BP2.out.cell];rfl
   have c1:w2.cell? ⟨gb,1,none⟩=some (.slice o2 p.code.length s2):=by rw [BP2.out.cell];rfl
   have hrl:=BR2.out.lt
   clear hx bP bR
   go_wp2_with fail
   have Hr:=zh (Q5m Hh.out).1
   have C:=Ql1 p m (.slice o1 p.regs.length s1) (.slice o2 p.code.length s2) vm w2 (HM.out.ext X.out) Hfit.out Hr.out
   (with_reducible refine C.mono ?_)
   clear C
   rintro e w3 ⟨g,vB,vW,rfl,P0,hx0⟩
   have Hft:=zh (Qc5 Hfit.out)
   have Hstart:=zh (Qd1 (p:=p) (script:=script) Hft.out (Q9p Hm64.out))
   have Q0:Hid (QSt w2 ((w3.alloc (.map #[] 0)).alloc (.cells #[.pointer (some ⟨g,0,none⟩),.slice ox script.length cx,.map (some w3.heap.size),.bool false,.int .i64 0,.int .i64 0,.int .i64 0,.int .i64 0,.int .i64 0,.int .i64 0,.int .i64 0,.int .i64 0,.int .i64 0,.int .i64 0,.int .i64 0,.slice none 0 0,.int .i64 0,.map none] 84)) (Q2a p) g (w3.heap.size+1) (.slice o1 p.regs.length s1) (.slice o2 p.code.length s2) vB (Q1g p) (begV vW (.slice ox script.length cx) w3.heap.size) (Q1l m.flatten script)) :=
    zh (Qov P0 hx0 Hft.out (HS.out.ext X.out))
   have Hfits:Hid (∀ i ∈ p.code,i.fits):=zh (by
    obtain ⟨v1,v2,hv,h1,h2⟩:=HP.out
    exact h2.1)
   clear hx0 c0 c1 P0
   go_upto_block 0 with fail
   generalize hW4:(w3.alloc (.map #[] 0)).alloc (.cells #[.pointer (some ⟨g,0,none⟩),.slice ox script.length cx,.map (some w3.heap.size),.bool false,.int .i64 0,.int .i64 0,.int .i64 0,.int .i64 0,.int .i64 0,.int .i64 0,.int .i64 0,.int .i64 0,.int .i64 0,.int .i64 0,.int .i64 0,.slice none 0 0,.int .i64 0,.map none] 84)=w4 at *
   generalize hrr:w3.heap.size+1=r at *
   clear hW4 hrr
   go_cut [] from 35 to 83 (fun wx=>SOk p F∧∃ V7,QSt w2 wx (Q2a p) g r (.slice o1 p.regs.length s1) (.slice o2 p.code.length s2) vB (Q1g p) V7 F)
   case first =>
    go_wp2_with fail
    go_loopw [] (fun wr => ∃ (S:Spc) (V:QV),SOk p S∧S.steps≤fuel.toNat∧runS p (fuel.toNat - S.steps) S=F∧QSt w2 wr (Q2a p) g r (.slice o1 p.regs.length s1) (.slice o2 p.code.length s2) vB (Q1g p) V S) (fun wr=>Q8e wr g r fuel.toNat)
    case atStart=>exact ⟨Q1l m.flatten script,_,Hstart.out,by simp [Q1l],run_begin' HF.out rfl,Q0.out⟩
    case round =>
     obtain ⟨S,V,hok,hst,hrun,hQ⟩:=hrel
     have Hmeas:=zh (Qdm hQ fuel.toNat)
     have Q:=zh hQ
     have Hok:=zh hok
     have Hrun:=zh hrun
     have g0:=hQ.ptrCell
     have g2:wr.cell? ⟨g,2,none⟩=some (.int .i64 S.fin):=hQ.finCell.1
     have g4:wr.cell? ⟨g,4,none⟩=some (.int .i64 (S.steps:Int)):=hQ.stepsCell.1
     have hgl:=hQ.mach.box.lt
     have hrl4:=hQ.box.lt
     have hsn:S.seen.length≤170000:=by have:=hok.seen;omega
     have hs4:S.steps≤40000:=by omega
     have Hsn:=zh hsn
     clear hok hrun hsn
     by_cases hfin:S.fin=0
     ·have Hfin:=zh hfin
      rw [hfin] at g2
      by_cases hlt:(S.steps:Int) < fuel
      ·have hk:0 < fuel.toNat - S.steps:=by omega
       have Hk:=zh hk
       have bPr:=BP2.out.ext hQ.ext
       have hgb2:=bPr.lt
       have p1:wr.cell? ⟨gb,1,none⟩=some (.slice o2 p.code.length s2):=by rw [bPr.cell];rfl
       have k0:∀ Wx,Ext wr Wx→Wx.cell? ⟨r,0,none⟩=some (.pointer (some ⟨g,0,none⟩)):=fun _ h=>h.kept Q.out.ptrCell
       have k18:∀ Wx,Ext wr Wx→Wx.cell? ⟨g,18,none⟩=some (.int .i64 (S.pl.at_:Int)):=fun _ h=>h.kept Q.out.atCell.1
       have kp:∀ Wx,Ext wr Wx→Wx.cell? ⟨gb,1,none⟩=some (.slice o2 p.code.length s2):=fun _ h=>h.kept p1
       clear hQ bPr hfin hk
       by_cases hat:S.pl.at_ < p.code.length
       ·have hi:p.code[S.pl.at_]? = some (p.code.getD S.pl.at_ default):=by simp [hat]
        have Hi:=zh hi
        have Hiok:=zh ((Q5m Hh.out).2.2.2 _ (Q25 (l:=p.code) hat))
        have Hfi:=zh (Hfits.out _ (Q25 (l:=p.code) hat))
        have Hok2:=zh (Hok.out.step hat Hiok.out Hfi.out)
        have Hnext:Hid (runS p (fuel.toNat - (Q2i p (p.code.getD S.pl.at_ default) S).steps) (Q2i p (p.code.getD S.pl.at_ default) S)=F):=zh (by
         rw [Qb3,← Hrun.out,Qnx Hk.out Hfin.out hi]
         congr 1)
        generalize p.code.getD S.pl.at_ default=i at *
        clear hi
        go_upto_region 8 with fail
        clear g0 g2 g4 p1
        refine Q0j 12 (by kernel_rfl) (by kernel_rfl) ?_
        simp only [List.take_succ_cons,List.take_zero,List.drop_succ_cons,List.drop_zero]
        repeat (first | (refine Q0d ?_ ?_ ?_;(decide);(first | rfl | (focus (go_simp;done)));apply Exists.intro;refine ⟨fun wc hE=>?_,?_⟩;(go_simp;exact rfl);go_simp) | (refine Q0e ?_ ?_ ?_;(decide);(focus (go_simp;done));go_simp))
        refine Q0f ?_
        intro w6 hx6
        have Q6:=zh (Q.out.extend hx6)
        clear hx6 k0 k18 kp
        go_wp2_with fail
        have C:=Qou Hok.out Hi.out Hh.out Hfi.out (HP.out.ext X.out) hs4 Q6.out
        (with_reducible refine C.mono ?_)
        clear C
        rintro er w7 ⟨rfl,V7,Q7,T7⟩
        have Q7:=zh Q7
        have hsl:S.steps < fuel.toNat:=by omega
        clear T7
        go_wp2
        go_roundw
        case rel=>exact ⟨Q2i p i S,V7,Hok2.out,by rw [Qb3];omega,Hnext.out,Q7.out⟩
        case measure =>
         have e1:=Hmeas.out
         have hb:=Qfh (Q2i p i S).ahead
         have e2:=Qdm Q7.out fuel.toNat
         rw [e1,e2,Qb3]
         omega
       ·have ga:wr.cell? ⟨r,3,none⟩=some (.bool S.ahead):=Q.out.aheadCell.1
        have hd9:decide ((S.pl.at_:Int) < (p.code.length:Int))=false:=by simp;omega
        go_upto_region 8 with fail
        clear g0 g2 g4 p1
        refine Q0j 12 (by kernel_rfl) (by kernel_rfl) ?_
        simp only [List.take_succ_cons,List.take_zero,List.drop_succ_cons,List.drop_zero]
        repeat (first | (refine Q0d ?_ ?_ ?_;(decide);(first | rfl | (focus (go_simp;done)));apply Exists.intro;refine ⟨fun wc hE=>?_,?_⟩;(go_simp;exact rfl);go_simp) | (refine Q0e ?_ ?_ ?_;(decide);(focus (go_simp;done));go_simp))
        refine Q0f ?_
        intro w6 hx6
        have Q6:=zh (Q.out.extend hx6)
        have ga:=hx6.kept ga
        have hrl6:=Q6.out.box.lt
        have hgl6:=Q6.out.mach.box.lt
        clear hx6 k0 k18 kp
        cases hah:S.ahead
        ·rw [hah] at ga
         have Hlast:Hid (F={ S with fin:=2 }):=zh (by rw [← Hrun.out];exact Qnw Hk.out Hfin.out hah (by omega))
         have g0:=Q6.out.ptrCell
         have g2:=Q6.out.finCell
         have Q7:=zh (Q6.out.fin_ 2)
         clear hah
         go_wp2
         go_meet
         case rel=>exact ⟨by rw [Hlast.out];exact ⟨Hok.out.mid.fault 2,Hok.out.seen⟩,_,by rw [Hlast.out];exact Q7.out⟩
        ·rw [hah] at ga
         have Hah:=zh hah
         have Hnext:Hid (runS p (fuel.toNat - S.returns.steps) S.returns=F):=zh (by rw [← Hrun.out];exact (Qnu Hk.out Hfin.out hah (by omega)).symm)
         have Hok2:=zh (Hok.out.up hah)
         clear hah
         go_wp2_with fail
         have C:=Qdk Q6.out Hah.out (Nat.le_trans Hsn.out (by omega))
         (with_reducible refine C.mono ?_)
         clear C
         rintro er w7 ⟨rfl,V7,Q7,T7⟩
         have Q7:=zh Q7
         clear T7
         go_wp2
         go_roundw
         case rel=>exact ⟨S.returns,V7,Hok2.out,hst,Hnext.out,Q7.out⟩
         case measure =>
          have e1:=Hmeas.out
          have e2:=Qdm Q7.out fuel.toNat
          rw [e1,e2,Hah.out]
          simp [Spc.returns,bN]
      ·have hlt2:decide ((S.steps:Int) < fuel)=false:=by simpa using hlt
       have Hlast:Hid (F=S):=zh (by rw [← Hrun.out,show fuel.toNat - S.steps=0 by omega];rfl)
       clear hlt hQ hfin
       go_wp2
       go_meet
       case rel=>exact ⟨by rw [Hlast.out];exact Hok.out,V,by rw [Hlast.out];exact Q.out⟩
     ·have q6:(S.fin == (0:Int))=false:=by simpa using hfin
      have Hlast:Hid (F=S):=zh (by rw [← Hrun.out];exact Qnv hfin)
      clear hfin hQ
      go_wp2
      go_meet
      case rel=>exact ⟨by rw [Hlast.out];exact Hok.out,V,by rw [Hlast.out];exact Q.out⟩
   case rest =>
    obtain ⟨hokF,V7,P7⟩:=hcut
    have HOK:=zh (Que hokF)
    have g3:wc.cell? ⟨r,3,none⟩=some (.bool F.ahead):=P7.aheadCell.1
    have hrlc:=P7.box.lt
    have P7:=zh P7
    clear Q0 Hstart HF hokF
    go_upto_if 87 with fail
    go_cut [] from 84 to 97 (fun wx => ∃ (vS' vW':Value),MSt wx w2.heap.size g (.slice o1 p.regs.length s1) (.slice o2 p.code.length s2) (.slice none 0 0) vB vS' vW' (Q1g p) (Q2f (endS F))∧Ext w2 wx∧wx.cell? ⟨r,0,none⟩=some (.pointer (some ⟨g,0,none⟩)))
    case first =>
     cases ha:F.ahead
     ·rw [ha] at g3
      have HEF:Hid (endS F=F):=zh (by unfold endS;rw [if_neg (by rw [ha];simp)])
      clear ha
      go_wp2
      go_meet
      case rel=>exact ⟨_,_,by rw [HEF.out];exact P7.out.mach,P7.out.ext,P7.out.ptrCell⟩
     ·rw [ha] at g3
      have hrow:∃ ob cb,V7.bW=.slice ob F.back.words.length cb:=by
       have hf:=P7.out.fam
       unfold Q45 at hf
       rw [if_pos ha] at hf
       exact Q02 (hf.own (V7.bW,F.back.words) (List.mem_append_right _ List.mem_cons_self))
      obtain ⟨ob,cb,eb⟩:=hrow
      have hone:(stL V7.bR V7.bW V7.bA).toArray.all (·.oneCell')=true:=by rw [eb];exact Qcu _ _ _ _ _
      have hinf:(Tryz.prog.info? 74).map (·.size)=some (stL V7.bR V7.bW V7.bA).length:=by rw [Q6w P7.out.ten];exact Q12
      have B1:=zh P7.out.box
      have M1:=zh P7.out.mach.box
      have hms:7+(stL V7.bR V7.bW V7.bA).length≤(Q0z (.slice o1 p.regs.length s1) (.slice o2 p.code.length s2) (Q2f F).fin (Q2f F).value (Q2f F).steps V7.vS (.slice none 0 0) (Q2f F).regs V7.vW (Q2f F).at_ vB).toArray.size:=by
       rw [Q6w P7.out.ten,Qis P7.out.mach.len]
       omega
      have Hms:=zh hms
      have Hinf:=zh hinf
      have Hone:=zh hone
      have HLD:Hid (∀ j v,(stL V7.bR V7.bW V7.bA)[j]? = some v→(Q2n g V7 F).toArray[5+j]? = some v):=zh Qgs
      have k0:∀ Wx,Ext wc Wx→Wx.cell? ⟨r,0,none⟩=some (.pointer (some ⟨g,0,none⟩)):=fun _ h=>h.kept P7.out.ptrCell
      have Ha:=zh ha
      have hgc:=M1.out.lt
      clear ha eb hone hinf hms
      go_upto_region 14 with fail
      clear g3
      refine Q23 [8,9,10] 0 (by kernel_rfl) (by kernel_rfl) ?_
      repeat (first | (refine Q1x ?_ ?_;(decide)) | (refine Qf6 B1.out 5 (stL V7.bR V7.bW V7.bA) HLD.out Tryz.underlying74 rfl Hinf.out ?_ ?_ ?_ ?_;(decide);(first | rfl | (focus (go_simp;done)));exact ⟨_,rfl,rfl⟩;go_simp) | (refine Q1o ?_ ?_ ?_;(decide);(first | rfl | (focus (go_simp;done)));apply Exists.intro;refine ⟨fun wc hE=>?_,?_⟩;(go_simp;exact rfl);go_simp) | (refine Q1v ?_ ?_ ?_;(decide);(focus (go_simp;done));go_simp))
      refine Q1w ?_
      intro w5 hx
      have M2:=zh (M1.out.ext hx)
      have hg3:=M2.out.lt
      have E:=zh (P7.out.end_ Ha.out hx)
      clear k0 hx
      refine Q1q (Q0c rfl (Q0c rfl (Q0c rfl (Q22)))) ?_
      simp only [List.getElem_toArray,List.getElem_cons_succ,List.getElem_cons_zero]
      go_wp2_with (first | ((with_reducible refine Qcs M2.out 7 (stL V7.bR V7.bW V7.bA) Hms.out Hinf.out Hone.out ?_ ?_ ?_);rfl;rfl))
      go_meet
      case rel=>exact ⟨_,_,E.out.1,E.out.2.1,E.out.2.2⟩
    case rest =>
     obtain ⟨vS',vW',hM,hX,g0⟩:=hcut
     have HMm:=zh hM
     have HX:=zh hX
     clear hM hX P7 g3
     go_wp2_with fail
     have C:=Qcb p Hr.out HOK.out _ (HP.out.ext X.out) HX.out HMm.out
     (with_reducible refine C.mono ?_)
     clear C
     rintro e w9 ⟨u,rfl,hu,hx4⟩
     have HU:=zh hu
     obtain ⟨vs,vm',U,rfl,hs1,hs2⟩:=hu
     obtain ⟨os,osc,rfl⟩:=Q02 hs1
     obtain ⟨om,omk,omc,rfl⟩:∃ a b c,vm'=.slice a b c:=by
      obtain ⟨vs,h1,h2,-⟩:=hs2
      obtain ⟨a,c,h⟩:=Q02 h2
      exact ⟨a,_,c,h⟩
     have bR4:=BR2.out.ext hx4
     have r0:w9.cell? ⟨gb+1,0,none⟩=some (.int .i64 0)∧w9.frozen? ⟨gb+1,0,none⟩=false:=⟨by rw [bR4.cell];rfl,bR4.frozen _⟩
     have r1:w9.cell? ⟨gb+1,1,none⟩=some (.int .i64 0)∧w9.frozen? ⟨gb+1,1,none⟩=false:=⟨by rw [bR4.cell];rfl,bR4.frozen _⟩
     have r2:w9.cell? ⟨gb+1,2,none⟩=some (.int .i64 0)∧w9.frozen? ⟨gb+1,2,none⟩=false:=⟨by rw [bR4.cell];rfl,bR4.frozen _⟩
     have r3:w9.cell? ⟨gb+1,3,none⟩=some (.slice none 0 0)∧w9.frozen? ⟨gb+1,3,none⟩=false:=⟨by rw [bR4.cell];rfl,bR4.frozen _⟩
     have r4:w9.cell? ⟨gb+1,4,none⟩=some (.slice none 0 0)∧w9.frozen? ⟨gb+1,4,none⟩=false:=⟨by rw [bR4.cell];rfl,bR4.frozen _⟩
     have X4:=zh hx4
     have HW64:=zh HOK.out.w64
     have HE0:=zh (Qmz H0.out Hsc.out)
     clear hs1 hs2 hx4 g0
     go_wp2
     have hE:=Qb7 (F:=Q2f (endS F)) HU.out HW64.out bR4 hrl (Nat.le_succ_of_le Hb.out) X.out X4.out rfl
     have HE:=zh hE
     clear hE
     exact bodyPost_ret (Q7f (HE.out.1) rfl _ rfl rfl Tryz.underlying44 rfl (by kernel_rfl)) rfl ⟨_,by rw [HE0.out];rfl,HE.out.2.2,fun _=>HE.out.2.1,fun h=>absurd HE0.out h⟩
  ·have hE:Hid (Q2m p m script fuel=3):=zh (Qgh H0.out (by rw [Qd3,hn];simp))
   rw [hn] at C0
   clear hn hlen r0 r1 r2 r3 r4
   go_wp2_with fail
   (with_reducible refine C0.out.mono ?_)
   clear C0
   rintro e w2 ⟨rfl,hx⟩
   have bR:=bR.ext hx
   have X:=zh (X.out.trans hx)
   have r0:w2.cell? ⟨gb+1,0,none⟩=some (.int .i64 0)∧w2.frozen? ⟨gb+1,0,none⟩=false:=⟨by rw [bR.cell];rfl,bR.frozen _⟩
   have r1:w2.cell? ⟨gb+1,1,none⟩=some (.int .i64 0)∧w2.frozen? ⟨gb+1,1,none⟩=false:=⟨by rw [bR.cell];rfl,bR.frozen _⟩
   have r2:w2.cell? ⟨gb+1,2,none⟩=some (.int .i64 0)∧w2.frozen? ⟨gb+1,2,none⟩=false:=⟨by rw [bR.cell];rfl,bR.frozen _⟩
   have r3:w2.cell? ⟨gb+1,3,none⟩=some (.slice none 0 0)∧w2.frozen? ⟨gb+1,3,none⟩=false:=⟨by rw [bR.cell];rfl,bR.frozen _⟩
   have r4:w2.cell? ⟨gb+1,4,none⟩=some (.slice none 0 0)∧w2.frozen? ⟨gb+1,4,none⟩=false:=⟨by rw [bR.cell];rfl,bR.frozen _⟩
   have hBk:=((((bR.set_ 0 (.int .i64 0)).set_ 1 (.int .i64 0)).set_ 2 (.int .i64 0)).set_ 3 (.slice none 0 0)).set_ 4 (.slice none 0 0)
   have HBk:=zh hBk
   clear hx bP bR hBk
   go_wp2
   have hg0:w.heap.size≤gb+1:=Nat.le_succ_of_le Hb.out
   exact bodyPost_ret (Q7f HBk.out rfl _ rfl rfl Tryz.underlying44 rfl (by kernel_rfl)) rfl ⟨_,by rw [hE.out];rfl,((((X.out.setCell hg0 _).setCell hg0 _).setCell hg0 _).setCell hg0 _).setCell hg0 _,fun h=>absurd (hE.out.symm.trans h) (by decide),fun _=>Qb8 _⟩
 ·have H0:=zh h0
  have HE:=zh (Qd0 (script:=script) h0)
  have hne:(mayE p m fuel != 0)=true:=by simpa using h0
  generalize hc:mayE p m fuel=c at *
  clear h0
  go_wp2
  have hBk:=((((bR.set_ 0 (.int .i64 0)).set_ 1 (.int .i64 0)).set_ 2 (.int .i64 0)).set_ 3 (.slice none 0 0)).set_ 4 (.slice none 0 0)
  have hg0:w.heap.size≤gb+1:=Nat.le_succ_of_le Hb.out
  exact bodyPost_ret (Q7f hBk rfl _ rfl rfl Tryz.underlying44 rfl (by kernel_rfl)) rfl ⟨_,by rw [HE.out];rfl,((((X.out.setCell hg0 _).setCell hg0 _).setCell hg0 _).setCell hg0 _).setCell hg0 _,fun h=>absurd (HE.out.symm.trans h) H0.out,fun _=>Qb8 _⟩
end Go.Proofs.YtiafchefbehfbaaGreatDoor
