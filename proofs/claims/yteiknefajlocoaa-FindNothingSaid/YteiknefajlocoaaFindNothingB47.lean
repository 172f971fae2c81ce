/- Laid together from: Fm, CkS1. -/
import Derived.Test.YteiknefajlocoaaFindNothingB46
import Derived.Test.YteiknefajlocoaaFindNothingB17
import Derived.Test.YteiknefajlocoaaFindNothingB15
import Derived.Test.YteiknefajlocoaaFindNothingB29
import Derived.Test.YteiknefajlocoaaFindNothingB25

namespace Go.Proofs.Yteiknefajlocoaa
open Go.ChangeShapes Go.WideShapes Go.ChangeAt Go.RowKit
set_option linter.unusedVariables false
set_option linter.unusedSimpArgs false
structure FSt (w0 wr:World) (B go:Nat) (vR vC vP vL:Value) (regs:List LReg) (code:List LIns) (places looks:List Int):Prop where
 h:HSt w0 wr B go vR vC vP regs code places
 lk:wr.ownsRow B 3 1 vL looks.length (looks.map (Value.int .i64))
 apart:∀ k,vL.ownBlock=some k→vP.ownBlock≠some k
section
variable {w0 wr w' : World} {B go : Nat} {vR vC vP vL : Value} {regs : List LReg} {code : List LIns} {places looks : List Int}
theorem FSt.extend (h:FSt w0 wr B go vR vC vP vL regs code places looks) (hx:Ext wr w'):FSt w0 w' B go vR vC vP vL regs code places looks :=
 ⟨h.h.extend hx,Q3p h.lk hx,h.apart⟩
theorem FSt.place (h:FSt w0 wr B go vR vC vP vL regs code places looks) {vP':Value} {ps:List Int} (hg:wr.grownBy w' vP.ownBlock) (hat:vP'.ownBlock=vP.ownBlock∨vP'.ownBlock=some wr.heap.size) (ho:w'.ownsRow B 3 1 vP' ps.length (ps.map (Value.int .i64))):FSt w0 w' B go vR vC vP' vL regs code ps looks :=
 ⟨h.h.place hg ho,Q2j h.lk hg (fun k hk he=>h.apart k he hk),fun k hk he=>by
  rcases hat with e | e
  ·exact h.apart k hk (by rw [← e];exact he)
  ·rw [e] at he
   have:=(h.lk.lt k hk).2
   simp only [Option.some.injEq] at he
   omega⟩
theorem FSt.look (h:FSt w0 wr B go vR vC vP vL regs code places looks) {vL':Value} {ls:List Int} (hg:wr.grownBy w' vL.ownBlock) (hat:vL'.ownBlock=vL.ownBlock∨vL'.ownBlock=some wr.heap.size) (ho:w'.ownsRow B 3 1 vL' ls.length (ls.map (Value.int .i64))):FSt w0 w' B go vR vC vP vL' regs code places ls:=by
 have hb:=h.h.box.grown hg (Q0j h.lk h.h.box (by decide))
 refine ⟨⟨hb,Q2j h.h.rg hg (fun k hk he=>Q30 h.lk h.h.rg (by decide) k hk he),Q2j h.h.cd hg (fun k hk he=>Q30 h.lk h.h.cd (by decide) k hk he),Q2j h.h.pl hg (fun k hk he=>h.apart k hk he),
  Q8j h.h.ext hg h.h.ext.size (fun k hk=>Nat.le_trans h.h.hB (Q47 h.lk k hk)),h.h.hg,h.h.hB⟩,ho,fun k hk he=>?_⟩
 rcases hat with e | e
 ·exact h.apart k (by rw [← e];exact hk) he
 ·rw [e] at hk
  have:=(h.h.pl.lt k he).2
  simp only [Option.some.injEq] at hk
  omega
theorem FSt.code_ (h:FSt w0 wr B go vR vC vP vL regs code places looks) {vC':Value} {cs:List LIns} (hg:wr.grownBy w' vC.ownBlock) (ho:w'.ownsRow B 70 5 vC' cs.length (cs.flatMap Q29)):FSt w0 (w'.setCell ⟨go,1,none⟩ vC') B go vR vC' vP vL regs cs places looks:=by
 have hl:=Q2j h.lk hg (fun k hk he=>Q30 h.h.cd h.lk (by decide) k hk he)
 have hb:=h.h.box.grown hg (Q0j h.h.cd h.h.box (by decide))
 exact ⟨h.h.code_ hg ho,Q1k hl (Q0j hl hb (by decide)) _,h.apart⟩
theorem FSt.setN {kc cap n:Nat} (h:FSt w0 wr B go vR (.slice (some ⟨kc,0,none⟩) n cap) vP vL regs code places looks) {k:Nat} (hk:k < code.length) (x:Int) :
  FSt w0 (wr.setCell ⟨kc,k * 5+4,none⟩ (.int .i64 x)) B go vR (.slice (some ⟨kc,0,none⟩) n cap) vP vL regs (code.set k { code.getD k default with n:=x }) places looks :=
 ⟨h.h.setN hk x,Q1k h.lk (fun e=>Q30 h.lk h.h.cd (by decide) kc e.symm rfl) _,h.apart⟩
end
def Qtr (w0:World) (B go:Nat) (vR vP vL:Value) (regs:List LReg) (cs:List LIns) (places looks:List Int) (e:Ending) (w':World):Prop :=
 e=.returned (.tuple #[])∧∃ oC cC,FSt w0 w' B go vR (.slice oC cs.length cC) vP vL regs cs places looks
set_option maxRecDepth 100000 in
set_option maxHeartbeats 4000000 in
theorem Qdr {w0:World} {B go:Nat} {vR vP vL:Value} {oC:Option Addr} {cC:Nat} {regs:List LReg} {code:List LIns} {places looks:List Int} (op n:Int) (w:World) (h:FSt w0 w B go vR (.slice oC code.length cC) vP vL regs code places looks) (hl:code.length≤1000) :
  Calls Try.prog 77 #[.int .i64 op,.int .i64 n,.pointer (some ⟨go,0,none⟩)] w (Qtr w0 B go vR vP vL regs (code ++ [⟨op,0,0,0,n⟩]) places looks):=by
 have H:=Lib.hid h
 obtain ⟨j0,hj0,hy0,hy1,hy2⟩:=info_parts Qdk
 obtain ⟨d0,d1⟩:=h.h.cells
 have hgo:=h.h.box.lt
 have hBs:=h.h.size
 clear h
 go_enter Try.func77,Try.ntmps77
 go_wp2_with (at_builtin;refine Q3g _ rfl _ _ 23 rfl B 70 j0 _ 5 40 Try.underlying23 hj0 hy0 hy1 hy2 rfl (by decide) _ _ _ rfl (Q4y H.out.h.cd) (some ⟨w.heap.size,0,none⟩) 1 1 (Q29 ⟨op,0,0,0,n⟩) rfl ?c1 ?c3 ?c4 ?c5 ?_)
 case c1=>exact Q5a (size:=5) (Blk.new w 70 #[.int .i64 op,.int .i64 0,.int .i64 0,.int .i64 0,.int .i64 n]) rfl (by simp [Value.oneCell'])
 case c3=>unfold maxLen;omega
 case c4=>omega
 case c5=>simp;omega
 intro vC' w7 hown hgrow hat2
 clear hat2
 obtain ⟨oC2,cC2,rfl⟩:=Q1e hown
 have hxa:=(Ext.refl w).alloc (.cells #[.int .i64 op,.int .i64 0,.int .i64 0,.int .i64 0,.int .i64 n] 70)
 have HSa:=H.out.extend hxa
 have hgrow:(w.alloc (.cells #[.int .i64 op,.int .i64 0,.int .i64 0,.int .i64 0,.int .i64 n] 70)).grownBy w7 (Value.slice oC code.length cC).ownBlock:=hgrow
 have hlen:(code ++ ([⟨op,0,0,0,n⟩]:List LIns)).length=code.length+1:=by simp
 have HS7:Hid (FSt w0 (w7.setCell ⟨go,1,none⟩ (.slice oC2 (code.length+1) cC2)) B go vR (.slice oC2 (code.length+1) cC2) vP vL regs (code ++ [⟨op,0,0,0,n⟩]) places looks):=Lib.hid (HSa.code_ hgrow (by rw [hlen,List.flatMap_append];simpa using hown))
 have hb7:=HSa.h.box.grown hgrow (Q0j HSa.h.cd HSa.h.box (by decide))
 have q1:w7.cell? ⟨go,1,none⟩=some (.slice oC code.length cC)∧w7.frozen? ⟨go,1,none⟩=false:=⟨by rw [hb7.cell];rfl,hb7.frozen _⟩
 have hgo7:=hb7.lt
 have Hlen:=Lib.hid hlen
 clear hown hgrow hxa HSa hb7 hlen d0 d1
 go_wp2
 try refine bodyPost_end (results_none rfl _ _ _) rfl ?_
 exact ⟨rfl,oC2,cC2,by rw [Hlen.out];exact HS7.out⟩
theorem Qmp (p:Q00) {k:Nat} (hk:k < p.code.length):(p.code.take (k+1)).flatMap Q0l=(p.code.take k).flatMap Q0l ++ Q0l (p.code.getD k default):=by
 rw [List.take_succ_eq_append_getElem hk,List.flatMap_append]
 simp [hk]
theorem Qo7 (p:Q00) (k:Nat):(List.range (k+1)).map (fun k=>((Q0k p k:Nat):Int))=(List.range k).map (fun k=>((Q0k p k:Nat):Int)) ++ [((Q0k p k:Nat):Int)]:=by
 rw [List.range_succ,List.map_append]
 rfl
theorem Qq0 (p:Q00) (k:Nat):(ifsF p (k+1)).map (fun k=>((Q0k p k:Nat):Int))=(ifsF p k).map (fun k=>((Q0k p k:Nat):Int)) ++ (if isIf p k=true then [((Q0k p k:Nat):Int)] else []):=by
 rw [Q9l,List.map_append]
 split <;> rfl
theorem Qfs (p:Q00) (k:Nat):((p.code.take k).flatMap Q0l).length≤2 * p.code.length:=by
 have h1:=Q6c Q0l 2 (p.code.take k) (fun x _=>by rw [Q5l];split <;> omega)
 have h2:(p.code.take k).length≤p.code.length:=by simp;omega
 omega
theorem Qib (p:Q00) (k:Nat):(ifsF p k).length≤k:=by
 have:=List.length_filter_le (isIf p) (List.range k)
 simpa [ifsF] using this
theorem Qmq {p:Q00} (hins:∀ i ∈ p.code,Q01 p 8 i=true):∀ i ∈ p.code.flatMap Q0l,i.op=7→0≤i.n∧i.n.toNat < p.code.length:=by
 intro i hi h
 obtain ⟨j,hj,hij⟩:=List.mem_flatMap.1 hi
 have key:i=j∨i=fenI:=by
  unfold Q0l at hij
  split at hij
  ·simpa using hij
  ·left;simpa using hij
 rcases key with rfl | rfl
 ·have h0:=hins i hj
  obtain ⟨op,a,b,c,n⟩:=i
  simp only at h
  subst h
  unfold Q01 at h0
  simp [okIn] at h0
  simp only
  omega
 ·simp [fenI] at h
theorem Qcs (p:Q00) (j:Nat):Q3k p j≤4 * p.code.length:=by
 have h1:=Q8n p
 rw [Qdx] at h1
 have h2:=Qcn (Q2x p) p.code (show j≤max j p.code.length by omega)
 rw [Q69 (Q2x p) p.code (show p.code.length≤max j p.code.length by omega)] at h2
 unfold Q3k
 omega
theorem Qsd {p:Q00} (hcl:p.code.length≤200) (hf:∀ i ∈ p.code,i.fits):∀ i ∈ (Q12 p).code,i.fits:=by
 have hfen:fenI.fits:=by
  refine ⟨?_,?_,?_,?_,?_⟩ <;> (unfold R64 fenI;simp)
 have hpl:∀ k,R64 ((Q0k p k:Nat):Int):=fun k=>by
  have h1:=Qg9 p k
  have h2:=Qcs p 0
  unfold Q3k at h2
  unfold R64
  omega
 have hot:∀ k,R64 ((Q3k p k:Nat):Int):=fun k=>by
  have h2:=Qcs p k
  unfold R64
  omega
 intro i hi
 rcases List.mem_append.1 hi with h | h
 ·obtain ⟨x,hx,hix⟩:=List.mem_flatMap.1 h
  have hxm:x.1 ∈ p.code:=by
   obtain ⟨k,hk,rfl⟩:=List.getElem_of_mem hx
   simp
  obtain ⟨f1,f2,f3,f4,f5⟩:=hf _ hxm
  have hr:(relF p x.2 x.1).fits:=by
   unfold relF
   split
   ·exact ⟨f1,f2,f3,f4,hpl _⟩
   ·split
    ·exact ⟨f1,f2,f3,f4,hot _⟩
    ·exact ⟨f1,f2,f3,f4,f5⟩
  unfold Q0l at hix
  split at hix
  ·simp only [List.mem_cons,List.not_mem_nil,or_false] at hix
   rcases hix with rfl | rfl
   ·exact hr
   ·exact hfen
  ·simp only [List.mem_singleton] at hix
   rw [hix];exact hr
 ·obtain ⟨x,hx,hix⟩:=List.mem_flatMap.1 h
  unfold Q2x at hix
  split at hix
  ·simp only [List.mem_cons,List.not_mem_nil,or_false] at hix
   rcases hix with rfl | rfl
   ·exact hfen
   ·refine ⟨?_,?_,?_,?_,hpl _⟩ <;> (unfold R64;simp)
  ·simp at hix
set_option maxRecDepth 100000 in
set_option maxHeartbeats 8000000 in
theorem Qsf (p:Q00) (v:Value) (w:World) (hp:Q0b w v p):Calls Try.prog 42 #[v] w (Qjb Q12 p w):=by
 have HP:=Lib.hid hp
 obtain ⟨oa,capa,oc,capc,rfl⟩:∃ a b c d,v=.agg #[.slice a p.regs.length b,.slice c p.code.length d]:=by
  obtain ⟨v1,v2,rfl,⟨-,oa,cap,b,o,rfl,-⟩,⟨-,ob,capb,b2,o2,rfl,-⟩⟩:=hp
  exact ⟨_,_,_,_,rfl⟩
 obtain ⟨i0,hi0,hz0,hz1,hz2⟩:=info_parts Qi5
 obtain ⟨j0,hj0,hy0,hy1,hy2⟩:=info_parts Qdk
 obtain ⟨k0,hk0,hx0,hx1,hx2⟩:=info_parts Qdj
 clear hp
 go_enter Try.func42,Try.ntmps42
 go_upto_region 1 with fail
 obtain ⟨W,g,hg,hW,hx,bP,bR,bF⟩:=Q8q w #[.slice oa p.regs.length capa,.slice oc p.code.length capc] #[.slice none 0 0,.slice none 0 0] #[.int .i64 0,.int .i64 0] 25 25 28
 rw [hW,hg]
 have X:=Lib.hid hx
 have Hg:=Lib.hid hg
 have BP:=Lib.hid bP
 have BR:=Lib.hid bR
 have BF:=Lib.hid bF
 have p0:W.cell? ⟨g,0,none⟩=some (.slice oa p.regs.length capa):=by rw [bP.cell];rfl
 have p1:W.cell? ⟨g,1,none⟩=some (.slice oc p.code.length capc):=by rw [bP.cell];rfl
 clear hW hg hx bP bR bF
 go_wp2_with fail
 have C:=Qj1 p _ W (HP.out.ext X.out)
 (with_reducible refine C.mono ?_)
 clear C
 rintro e w1 ⟨F,rfl,hx,h1,h2⟩
 have X1:=Lib.hid hx
 have H1:=Lib.hid h1
 have H2:=Lib.hid h2
 clear hx h1 h2 p0 p1
 go_upto_region 2 with fail
 obtain ⟨w2,gf,hgf,hW,hx,bT⟩:=Q1f w1 #[.int .i64 F.1,.int .i64 (F.2:Int)] 28
 rw [hW,hgf]
 have X2:=Lib.hid (X1.out.trans hx)
 have BT:=Lib.hid bT
 have hgg:g+1+1 < gf:=by have:=(BF.out.ext X1.out).lt;omega
 have t0:w2.cell? ⟨gf,0,none⟩=some (.int .i64 F.1):=by rw [bT.cell];rfl
 have t1:w2.cell? ⟨gf,1,none⟩=some (.int .i64 (F.2:Int)):=by rw [bT.cell];rfl
 clear hW hgf hx bT
 by_cases hF:F.1=0
 ·have hq:(F.1 != (0:Int))=false:=by simp [hF]
  have hmay:Q36 p=true:=by
   cases hm:Q36 p
   ·have:=H2.out hm
    rw [this] at hF
    simp at hF
   ·rfl
  obtain ⟨hr,hc1,hcl,hins⟩:=Q6a hmay
  have hrl:=Q3o hr
  obtain ⟨v1,v2,hv,hR,hC⟩:=HP.out
  simp only [Value.agg.injEq,Array.mk.injEq,List.cons.injEq,and_true] at hv
  obtain ⟨rfl,rfl⟩:=hv
  obtain ⟨hr64,oa',capa',br,orr,hv3,hd1,hd2,hrow2⟩:=hR
  simp only [Value.slice.injEq,true_and] at hv3
  obtain ⟨rfl,rfl⟩:=hv3
  obtain ⟨hfi,oc',capc',bc,oo,hv2,hcc1,hcc2,hrow⟩:=hC
  simp only [Value.slice.injEq,true_and] at hv2
  obtain ⟨rfl,rfl⟩:=hv2
  have HRW:=Lib.hid (hrow2.ext (X.out.trans X2.out))
  have HCW:=Lib.hid (hrow.ext (X.out.trans X2.out))
  have hixr:=Q33 (cap:=capa) hrow2.at_
  have hixc:=Q1g (cap:=capc) hrow.at_
  have Hr64:=Lib.hid hr64
  have Hfi:=Lib.hid hfi
  have Hr:=Lib.hid hr
  have Hins:=Lib.hid hins
  have Hmay:=Lib.hid hmay
  have HF:=Lib.hid hF
  have bP:=BP.out.ext X2.out
  have p0:w2.cell? ⟨g,0,none⟩=some (.slice oa p.regs.length capa):=by rw [bP.cell];rfl
  have p1:w2.cell? ⟨g,1,none⟩=some (.slice oc p.code.length capc):=by rw [bP.cell];rfl
  have hgl:=bP.lt
  clear hrow hrow2 hr64 hfi hr hins hmay hF hd1 hd2 hcc1 hcc2 bP
  go_wp2_with (at_builtin;refine Q3g _ rfl _ _ 22 rfl w2.heap.size 68 i0 _ 2 16 Try.underlying22 hi0 hz0 hz1 hz2 rfl (by decide) _ 0 [] rfl ?c0 oa p.regs.length capa (p.regs.flatMap Q4f) rfl ?c1 ?c3 ?c4 ?c5 ?_)
  case c0 =>
   have h:=World.ownsRow_lit (base:=w2.heap.size) (e:=68) (size:=2) w2 #[] 0 (Nat.le_refl _) (by decide) rfl
   simpa [Act.eval] using h
  case c1=>exact Qf4 (HRW.out.ext ((Ext.refl w2).alloc _))
  case c3=>unfold maxLen;omega
  case c4=>omega
  case c5=>simp
  intro v1 w3 hown hgrow hat
  obtain ⟨o1,c1,rfl⟩:=Q1e hown
  have hx3:Ext w2 w3:=((Ext.refl w2).alloc _).grown hgrow (by
   intro k hk
   simp [Act.eval,Value.ownBlock] at hk
   omega)
  have X3:=Lib.hid hx3
  have OR:Hid (w3.ownsRow w2.heap.size 68 2 (.slice o1 p.regs.length c1) p.regs.length (p.regs.flatMap Q4f)):=Lib.hid (by simpa using hown)
  have p1:=hx3.kept p1
  have hgl:g < w3.heap.size:=hx3.lt hgl
  clear hown hgrow hat hx3 p0
  go_upto_region 5 with fail
  obtain ⟨w4,go,hg4,hW,hx,bO⟩:=Q1f w3 #[.slice o1 (0+p.regs.length) c1,.slice none 0 0] 25
  try simp only [Nat.zero_add] at hW bO
  rw [hW,hg4]
  have X4:=Lib.hid (X3.out.trans hx)
  have HS:Hid (FSt w2 w4 w2.heap.size go (.slice o1 p.regs.length c1) (.slice none 0 0) (.slice none 0 0) (.slice none 0 0) p.regs [] [] []):=Lib.hid ⟨⟨bO,Q3p OR.out hx,World.ownsRow_nil _ _ _ _,World.ownsRow_nil _ _ _ _,X3.out.trans hx,by have:=X3.out.size;omega,Nat.le_refl _⟩,World.ownsRow_nil _ _ _ _,fun k hk=>by simp [Value.ownBlock] at hk⟩
  have p1:=hx.kept p1
  clear hW hg4 hx bO OR hgl
  go_wp2_with fail
  go_loopw [7,8,32] (fun vP vL i wr => ∃ (k:Nat) (vC:Value),i=.int .i64 (k:Int)∧k≤p.code.length∧FSt w2 wr w2.heap.size go (.slice o1 p.regs.length c1) vC vP vL p.regs ((p.code.take k).flatMap Q0l) ((List.range k).map fun k=>((Q0k p k:Nat):Int)) ((ifsF p k).map fun k=>((Q0k p k:Nat):Int))) (fun _ _ i _=>p.code.length - (intOf i).toNat)
  case atStart=>exact ⟨0,_,rfl,by omega,by simpa [ifsF] using HS.out⟩
  case round =>
   obtain ⟨k,vC,rfl,hk,hS⟩:=hrel
   obtain ⟨op,cp,rfl⟩:=Q1e hS.h.pl
   obtain ⟨oL,cL,rfl⟩:=Q1e hS.lk
   obtain ⟨oC,cC,rfl⟩:=Q1e hS.h.cd
   have hrawl:=Qfs p k
   have hpll:((List.range k).map fun k=>((Q0k p k:Nat):Int)).length=k:=by simp
   have hlkl:((ifsF p k).map fun k=>((Q0k p k:Nat):Int)).length≤k:=by rw [List.length_map];exact Qib p k
   rw [hpll] at hS
   have HS:=Lib.hid hS
   rw [hpll]
   by_cases hlt:k < p.code.length
   ·obtain ⟨e0,e1,e2,e3,e4⟩:=(HCW.out.ext hS.h.ext).ins k hlt
    have Hraw:=Lib.hid (Qmp p hlt)
    have Hpls:=Lib.hid (Qo7 p k)
    have Hlks:=Lib.hid (Qq0 p k)
    have Hpk:Hid (((p.code.take k).flatMap Q0l).length=Q0k p k):=Lib.hid rfl
    have Hif:Hid (isIf p k=decide ((p.code.getD k default).op=8)):=Lib.hid rfl
    generalize p.code.getD k default=I at *
    obtain ⟨op',a,b,c,n⟩:=I
    simp only at e0 e1 e2 e3 e4 Hif
    obtain ⟨d0,d1⟩:=hS.h.cells
    have hgol:=hS.h.box.lt
    have hbl:=Q09 e0
    simp only at hbl
    clear hS
    generalize (p.code.take k).flatMap Q0l=code at *
    generalize ((List.range k).map fun k=>((Q0k p k:Nat):Int))=pls at *
    generalize ((ifsF p k).map fun k=>((Q0k p k:Nat):Int))=lks at *
    go_upto_region 11 with fail
    obtain ⟨w5,gi,hgi,hW,hx,bI⟩:=Q1f wr #[.int .i64 op',.int .i64 a,.int .i64 b,.int .i64 c,.int .i64 n] 70
    rw [hW,hgi]
    have HS5:=Lib.hid (HS.out.extend hx)
    have BI:=Lib.hid bI
    have HcB:Hid (∀ kk,(Value.slice oC code.length cC).ownBlock=some kk→kk < gi):=Lib.hid fun kk hkk=>by
     have:=(HS.out.h.cd.lt kk hkk).2
     omega
    have hBs:=HS5.out.h.size
    obtain ⟨d0,d1⟩:=HS5.out.h.cells
    have hgol:=HS5.out.h.box.lt
    clear hW hgi hx bI e0 e1 e2 e3 e4 hbl
    go_wp2_with (at_builtin;refine Q3g _ rfl _ _ 51 rfl w2.heap.size 3 k0 _ 1 8 Try.underlying51 hk0 hx0 hx1 hx2 rfl (by decide) _ _ _ rfl (Q4y HS5.out.h.pl) (some ⟨w5.heap.size,0,none⟩) 1 1 [.int .i64 (code.length:Int)] rfl ?c1 ?c3 ?c4 ?c5 ?_)
    case c1=>exact Q5a (size:=1) (Blk.new w5 3 #[.int .i64 (code.length:Int)]) rfl (by simp [Value.oneCell'])
    case c3=>unfold maxLen;omega
    case c4=>omega
    case c5=>simp;omega
    intro vP' w6 hown hgrow hat2
    obtain ⟨op2,cp2,rfl⟩:=Q1e hown
    have hxa:=(Ext.refl w5).alloc (.cells #[.int .i64 (code.length:Int)] 3)
    have HSa:=HS5.out.extend hxa
    have hgrow:(w5.alloc (.cells #[.int .i64 (code.length:Int)] 3)).grownBy w6 (Value.slice op k cp).ownBlock:=hgrow
    have HS6:=Lib.hid (HSa.place (ps:=pls ++ [((Q0k p k:Nat):Int)]) hgrow (by rw [World.size_alloc];exact hat2) (by rw [← Hpk.out];simpa [hpll] using hown))
    have bI6:=(BI.out.ext hxa).grown hgrow (Q0j HSa.h.pl (BI.out.ext hxa) (by decide))
    have BI6:=Lib.hid bI6
    obtain ⟨d0,d1⟩:=HS6.out.h.cells
    have hgol:=HS6.out.h.box.lt
    have i0':w6.cell? ⟨gi,0,none⟩=some (.int .i64 op'):=by rw [bI6.cell];rfl
    have i1':w6.cell? ⟨gi,1,none⟩=some (.int .i64 a):=by rw [bI6.cell];rfl
    have i2':w6.cell? ⟨gi,2,none⟩=some (.int .i64 b):=by rw [bI6.cell];rfl
    have i3':w6.cell? ⟨gi,3,none⟩=some (.int .i64 c):=by rw [bI6.cell];rfl
    have i4':w6.cell? ⟨gi,4,none⟩=some (.int .i64 n):=by rw [bI6.cell];rfl
    have hBs6:=HS6.out.h.size
    have hgil:=bI6.lt
    clear hown hgrow hxa HSa bI6 hat2
    by_cases h8:op'=8
    ·have hq8:(op' == (8:Int))=true:=by simp [h8]
     have Hbl:Hid (Q0l ⟨op',a,b,c,n⟩=[⟨op',a,b,c,n⟩,fenI]):=Lib.hid (by unfold Q0l;rw [if_pos h8])
     have Hlk:Hid (isIf p k=true):=Lib.hid (by rw [Hif.out,decide_eq_true h8])
     clear h8
     go_wp2_with (at_builtin;refine Q3g _ rfl _ _ 51 rfl w2.heap.size 3 k0 _ 1 8 Try.underlying51 hk0 hx0 hx1 hx2 rfl (by decide) _ _ _ rfl (Q4y HS6.out.lk) (some ⟨w6.heap.size,0,none⟩) 1 1 [.int .i64 (code.length:Int)] rfl ?c1 ?c3 ?c4 ?c5 ?_)
     case c1=>exact Q5a (size:=1) (Blk.new w6 3 #[.int .i64 (code.length:Int)]) rfl (by simp [Value.oneCell'])
     case c3=>unfold maxLen;omega
     case c4=>omega
     case c5=>simp;omega
     intro vL' w7 hown hgrow hat2
     obtain ⟨oL2,cL2,rfl⟩:=Q1e hown
     have hxa:=(Ext.refl w6).alloc (.cells #[.int .i64 (code.length:Int)] 3)
     have HSa:=HS6.out.extend hxa
     have hgrow:(w6.alloc (.cells #[.int .i64 (code.length:Int)] 3)).grownBy w7 (Value.slice oL lks.length cL).ownBlock:=hgrow
     have HS7:=Lib.hid (HSa.look (ls:=lks ++ [((Q0k p k:Nat):Int)]) hgrow (by rw [World.size_alloc];exact hat2) (by rw [← Hpk.out];simpa using hown))
     have bI7:=(BI6.out.ext hxa).grown hgrow (Q0j HSa.lk (BI6.out.ext hxa) (by decide))
     obtain ⟨d0,d1⟩:=HS7.out.h.cells
     have hgol:=HS7.out.h.box.lt
     have BI7:=Lib.hid bI7
     have i0':w7.cell? ⟨gi,0,none⟩=some (.int .i64 op'):=by rw [bI7.cell];rfl
     have i1':w7.cell? ⟨gi,1,none⟩=some (.int .i64 a):=by rw [bI7.cell];rfl
     have i2':w7.cell? ⟨gi,2,none⟩=some (.int .i64 b):=by rw [bI7.cell];rfl
     have i3':w7.cell? ⟨gi,3,none⟩=some (.int .i64 c):=by rw [bI7.cell];rfl
     have i4':w7.cell? ⟨gi,4,none⟩=some (.int .i64 n):=by rw [bI7.cell];rfl
     have hBs7:=HS7.out.h.size
     have hgil:=bI7.lt
     clear hown hgrow hxa HSa bI7 hat2
     go_wp2_with (at_builtin;refine Q3g _ rfl _ _ 23 rfl w2.heap.size 70 j0 _ 5 40 Try.underlying23 hj0 hy0 hy1 hy2 rfl (by decide) _ _ _ rfl (Q4y HS7.out.h.cd) (some ⟨w7.heap.size,0,none⟩) 1 1 (Q29 ⟨op',a,b,c,n⟩) rfl ?c1 ?c3 ?c4 ?c5 ?_)
     case c1=>exact Q5a (size:=5) (Blk.new w7 70 #[.int .i64 op',.int .i64 a,.int .i64 b,.int .i64 c,.int .i64 n]) rfl (by simp [Value.oneCell'])
     case c3=>unfold maxLen;omega
     case c4=>omega
     case c5=>simp;omega
     intro vC' w8 hown hgrow hat2
     obtain ⟨oC2,cC2,rfl⟩:=Q1e hown
     have hxa:=(Ext.refl w7).alloc (.cells #[.int .i64 op',.int .i64 a,.int .i64 b,.int .i64 c,.int .i64 n] 70)
     have HSa:=HS7.out.extend hxa
     have hgrow:(w7.alloc (.cells #[.int .i64 op',.int .i64 a,.int .i64 b,.int .i64 c,.int .i64 n] 70)).grownBy w8 (Value.slice oC code.length cC).ownBlock:=hgrow
     have hlen:(code ++ ([⟨op',a,b,c,n⟩]:List LIns)).length=code.length+1:=by simp
     have HS8:Hid (FSt w2 (w8.setCell ⟨go,1,none⟩ (.slice oC2 (code.length+1) cC2)) w2.heap.size go (.slice o1 p.regs.length c1) (.slice oC2 (code.length+1) cC2) (.slice op2 (k+1) cp2) (.slice oL2 (lks.length+1) cL2) p.regs (code ++ [⟨op',a,b,c,n⟩]) (pls ++ [((Q0k p k:Nat):Int)]) (lks ++ [((Q0k p k:Nat):Int)])):=Lib.hid (HSa.code_ hgrow (by rw [hlen,List.flatMap_append];simpa using hown))
     have hb8:=HSa.h.box.grown hgrow (Q0j HSa.h.cd HSa.h.box (by decide))
     have q1:w8.cell? ⟨go,1,none⟩=some (.slice oC code.length cC)∧w8.frozen? ⟨go,1,none⟩=false:=⟨by rw [hb8.cell];rfl,hb8.frozen _⟩
     have hgo8:=hb8.lt
     have bI8:=(BI7.out.ext hxa).grown hgrow (fun e=>by have:=HcB.out gi e.symm;omega)
     have hgg8:gi≠go:=Blk.ne_ bI8 hb8 (by decide)
     have i0':w8.cell? ⟨gi,0,none⟩=some (.int .i64 op'):=by rw [bI8.cell];rfl
     have Hlen:=Lib.hid hlen
     clear hown hgrow hxa HSa hb8 hlen hat2 bI8
     go_upto_region 15 with fail
     have i0'':(w8.setCell ⟨go,1,none⟩ (.slice oC2 (code.length+1) cC2)).cell? ⟨gi,0,none⟩=some (.int .i64 op'):=by
      rw [World.cell?_setCell_other _ _ _ _ (by intro e;simp only [Addr.mk.injEq] at e;omega)]
      exact i0'
     generalize w8.setCell ⟨go,1,none⟩ (.slice oC2 (code.length+1) cC2)=w9 at *
     clear q1 i0'
     go_wp2_with fail
     have C:=Qdr 12 0 w9 (by have:=HS8.out;rw [← Hlen.out] at this;exact this) (by rw [Hlen.out];omega)
     (with_reducible refine C.mono ?_)
     clear C
     rintro er w10 ⟨rfl,oC3,cC3,hS10⟩
     have HS10:=Lib.hid hS10
     clear hS10
     go_wp2
     go_roundw
     case rel =>
      have h':=HS10.out
      rw [List.append_assoc] at h'
      exact ⟨k+1,_,by go_num,by omega,by rw [Hraw.out,Hpls.out,Hlks.out,Hlk.out,Hbl.out];exact h'⟩
     case measure=>first | (simp [intOf];done) | (simp [intOf];omega)
    ·have hq8:(op' == (8:Int))=false:=by simp;omega
     have Hbl:Hid (Q0l ⟨op',a,b,c,n⟩=[⟨op',a,b,c,n⟩]):=Lib.hid (by unfold Q0l;rw [if_neg h8])
     have Hlk:Hid (isIf p k=false):=Lib.hid (by rw [Hif.out,decide_eq_false h8])
     clear h8
     go_wp2_with (at_builtin;refine Q3g _ rfl _ _ 23 rfl w2.heap.size 70 j0 _ 5 40 Try.underlying23 hj0 hy0 hy1 hy2 rfl (by decide) _ _ _ rfl (Q4y HS6.out.h.cd) (some ⟨w6.heap.size,0,none⟩) 1 1 (Q29 ⟨op',a,b,c,n⟩) rfl ?c1 ?c3 ?c4 ?c5 ?_)
     case c1=>exact Q5a (size:=5) (Blk.new w6 70 #[.int .i64 op',.int .i64 a,.int .i64 b,.int .i64 c,.int .i64 n]) rfl (by simp [Value.oneCell'])
     case c3=>unfold maxLen;omega
     case c4=>omega
     case c5=>simp;omega
     intro vC' w8 hown hgrow hat2
     obtain ⟨oC2,cC2,rfl⟩:=Q1e hown
     have hxa:=(Ext.refl w6).alloc (.cells #[.int .i64 op',.int .i64 a,.int .i64 b,.int .i64 c,.int .i64 n] 70)
     have HSa:=HS6.out.extend hxa
     have hgrow:(w6.alloc (.cells #[.int .i64 op',.int .i64 a,.int .i64 b,.int .i64 c,.int .i64 n] 70)).grownBy w8 (Value.slice oC code.length cC).ownBlock:=hgrow
     have hlen:(code ++ ([⟨op',a,b,c,n⟩]:List LIns)).length=code.length+1:=by simp
     have HS8:Hid (FSt w2 (w8.setCell ⟨go,1,none⟩ (.slice oC2 (code.length+1) cC2)) w2.heap.size go (.slice o1 p.regs.length c1) (.slice oC2 (code.length+1) cC2) (.slice op2 (k+1) cp2) (.slice oL lks.length cL) p.regs (code ++ [⟨op',a,b,c,n⟩]) (pls ++ [((Q0k p k:Nat):Int)]) lks):=Lib.hid (HSa.code_ hgrow (by rw [hlen,List.flatMap_append];simpa using hown))
     have hb8:=HSa.h.box.grown hgrow (Q0j HSa.h.cd HSa.h.box (by decide))
     have q1:w8.cell? ⟨go,1,none⟩=some (.slice oC code.length cC)∧w8.frozen? ⟨go,1,none⟩=false:=⟨by rw [hb8.cell];rfl,hb8.frozen _⟩
     have hgo8:=hb8.lt
     have bI8:=(BI6.out.ext hxa).grown hgrow (fun e=>by have:=HcB.out gi e.symm;omega)
     have hgg8:gi≠go:=Blk.ne_ bI8 hb8 (by decide)
     have i0':w8.cell? ⟨gi,0,none⟩=some (.int .i64 op'):=by rw [bI8.cell];rfl
     clear hown hgrow hxa HSa hb8 hlen hat2 bI8
     go_upto_region 15 with fail
     have i0'':(w8.setCell ⟨go,1,none⟩ (.slice oC2 (code.length+1) cC2)).cell? ⟨gi,0,none⟩=some (.int .i64 op'):=by
      rw [World.cell?_setCell_other _ _ _ _ (by intro e;simp only [Addr.mk.injEq] at e;omega)]
      exact i0'
     generalize w8.setCell ⟨go,1,none⟩ (.slice oC2 (code.length+1) cC2)=w9 at *
     clear q1 i0'
     go_wp2
     go_roundw
     case rel =>
      have h':FSt w2 w9 w2.heap.size go (.slice o1 p.regs.length c1) (.slice oC2 (code.length+1) cC2) (.slice op2 (k+1) cp2) (.slice oL lks.length cL) p.regs (code ++ [⟨op',a,b,c,n⟩]) (pls ++ [((Q0k p k:Nat):Int)]) (lks ++ (if false=true then [((Q0k p k:Nat):Int)] else [])):=by simpa using HS8.out
      exact ⟨k+1,_,by go_num,by omega,by rw [Hraw.out,Hpls.out,Hlks.out,Hlk.out,Hbl.out];exact h'⟩
     case measure=>first | (simp [intOf];done) | (simp [intOf];omega)
   ·have hje:k=p.code.length:=by omega
    subst hje
    have hlt2:decide ((p.code.length:Int) < (p.code.length:Int))=false:=by simp
    rw [List.take_length] at hS
    generalize hraw:p.code.flatMap Q0l=raw at *
    have hL1:0 < raw.length:=by
     have:=Q87 (p:=p) (k:=0) (by omega)
     unfold rawF at this
     rw [hraw] at this
     omega
    have hL2:raw.length≤400:=by
     have:=Qfs p p.code.length
     rw [List.take_length,hraw] at this
     omega
    obtain ⟨kc,cC',hv,hkB,hcap1,hcap2,-⟩:=Q9a hS.h.cd rfl hL1
    simp only [Value.slice.injEq,true_and] at hv
    obtain ⟨rfl,rfl⟩:=hv
    obtain ⟨kp,cp',hv,-,-⟩:=Q7w hS.h.pl (by simp;omega)
    simp only [List.length_map,List.length_range,Value.slice.injEq,true_and] at hv
    obtain ⟨rfl,rfl⟩:=hv
    have hixk:=Q1g (n:=raw.length) (cap:=cC) (b:=kc) (o:=0) (fun _=>rfl)
    simp only [Nat.zero_add] at hixk
    have hixp:=fun W=>Qbb kp p.code.length cp W
    have Hjump:=Lib.hid (by have:=Qmq Hins.out;rw [hraw] at this;exact this)
    obtain ⟨d0,d1⟩:=hS.h.cells
    have hgol:=hS.h.box.lt
    generalize hlks:((ifsF p p.code.length).map fun k=>((Q0k p k:Nat):Int))=lks at *
    have hlkl:lks.length=(ifsF p p.code.length).length:=by rw [← hlks,List.length_map]
    have hifl:=Qib p p.code.length
    have hlk200:lks.length≤200:=by omega
    have Hlkl:=Lib.hid hlkl
    clear hlkl hifl
    have hR0:FSt w2 wr w2.heap.size go (.slice o1 p.regs.length c1) (.slice (some ⟨kc,0,none⟩) raw.length cC) (.slice (some ⟨kp,0,none⟩) p.code.length cp) (.slice oL lks.length cL) p.regs (relG (rel7 p) raw 0) ((List.range p.code.length).map fun k=>((Q0k p k:Nat):Int)) lks:=by rw [Qme];exact hS
    have HR0:=Lib.hid hR0
    have Hraw:=Lib.hid hraw
    have Hlks:=Lib.hid hlks
    clear hS hR0 hraw hlks
    go_wp2_with fail
    go_loopw [66] (fun i wr => ∃ k:Nat,i=.int .i64 (k:Int)∧k≤raw.length∧FSt w2 wr w2.heap.size go (.slice o1 p.regs.length c1) (.slice (some ⟨kc,0,none⟩) raw.length cC) (.slice (some ⟨kp,0,none⟩) p.code.length cp) (.slice oL lks.length cL) p.regs (relG (rel7 p) raw k) ((List.range p.code.length).map fun k=>((Q0k p k:Nat):Int)) lks) (fun i _=>raw.length - (intOf i).toNat)
    case atStart=>exact ⟨0,rfl,by omega,HR0.out⟩
    case round =>
     obtain ⟨k,rfl,hk,hS⟩:=hrel
     have HS:=Lib.hid hS
     obtain ⟨d0,d1⟩:=hS.h.cells
     have hgol:=hS.h.box.lt
     by_cases hlt:k < raw.length
     ·obtain ⟨kc',cC',hv,-,-,-,hcs⟩:=Q9a hS.h.cd rfl (by rw [Qa9];exact hL1)
      rw [Qa9] at hv
      simp only [Value.slice.injEq,Option.some.injEq,Addr.mk.injEq,and_true,true_and] at hv
      obtain ⟨rfl,rfl⟩:=hv
      obtain ⟨s0,s4⟩:=hcs k (by rw [Qa9];exact hlt)
      rw [Qc6 _ _ hlt] at s0 s4
      have Hsame:=Lib.hid fun h=>Qmf (rel7 p) raw hlt h
      have Hsucc:=Lib.hid (Qfo (rel7 p) raw hlt)
      have Hj:=Lib.hid (Hjump.out _ (Q2b hlt))
      have hkcl:=Q09 s0.1
      simp only at hkcl
      have Hget:=Lib.hid (Qc6 (rel7 p) raw hlt)
      have HkL:=Lib.hid (show k < (relG (rel7 p) raw k).length by rw [Qa9];exact hlt)
      clear hcs hS
      generalize raw.getD k default=I at *
      by_cases h7:I.op=7
      ·obtain ⟨hn0,hn1⟩:=Hj.out h7
       obtain ⟨kp',cp',hv,-,hpc⟩:=Q7w HS.out.h.pl (by simp;omega)
       simp only [List.length_map,List.length_range,Value.slice.injEq,Option.some.injEq,Addr.mk.injEq,and_true,true_and] at hv
       obtain ⟨rfl,rfl⟩:=hv
       obtain ⟨q0,-⟩:=hpc I.n.toNat (.int .i64 ((Q0k p I.n.toNat:Nat):Int)) (by simp;omega) (by simp [hn1])
       have hq:(I.op == (7:Int))=true:=by simp [h7]
       have Hnext:Hid (relG (rel7 p) raw (k+1)=(relG (rel7 p) raw k).set k { (relG (rel7 p) raw k).getD k default with n:=((Q0k p I.n.toNat:Nat):Int) }):=Lib.hid (by
        rw [Hsucc.out,Hget.out]
        unfold rel7
        rw [if_pos h7])
       have hn2:I.n < (p.code.length:Int):=by omega
       have hkpl:=Q09 q0
       simp only at hkpl
       clear hpc h7
       go_wp2
       go_roundw
       case rel=>exact ⟨k+1,by go_num,by omega,by rw [Hnext.out];exact HS.out.setN HkL.out _⟩
       case measure=>first | (simp [intOf];done) | (simp [intOf];omega)
      ·have hq7:(I.op == (7:Int))=false:=by simp;omega
       have Hs:=Lib.hid (Hsame.out (by unfold rel7;rw [if_neg h7]))
       clear h7
       go_wp2
       go_roundw
       case rel=>exact ⟨k+1,by go_num,by omega,by rw [Hs.out];exact HS.out⟩
       case measure=>first | (simp [intOf];done) | (simp [intOf];omega)
     ·have hje:k=raw.length:=by omega
      subst hje
      have hlt3:decide ((raw.length:Int) < (raw.length:Int))=false:=by simp
      have HSf:Hid (FSt w2 wr w2.heap.size go (.slice o1 p.regs.length c1) (.slice (some ⟨kc,0,none⟩) raw.length cC) (.slice (some ⟨kp,0,none⟩) p.code.length cp) (.slice oL lks.length cL) p.regs (Q61 p 0) ((List.range p.code.length).map fun k=>((Q0k p k:Nat):Int)) lks):=Lib.hid (by
       have:=hS
       rw [Qmg,← Hraw.out,← Qk6] at this
       rw [← Hraw.out]
       exact this)
      clear hS
      go_wp2_with fail
      go_loopw [91] (fun i wr => ∃ (t:Nat) (vC:Value),i=.int .i64 (t:Int)∧t≤lks.length∧FSt w2 wr w2.heap.size go (.slice o1 p.regs.length c1) vC (.slice (some ⟨kp,0,none⟩) p.code.length cp) (.slice oL lks.length cL) p.regs (Q61 p t) ((List.range p.code.length).map fun k=>((Q0k p k:Nat):Int)) lks) (fun i _=>lks.length - (intOf i).toNat)
      case atStart=>exact ⟨0,_,rfl,by omega,HSf.out⟩
      case round =>
       obtain ⟨t,vC,rfl,ht,hS⟩:=hrel
       by_cases hlt:t < lks.length
       ·obtain ⟨j,i,hji,h8,hgj,htj,htj1⟩:=Qk7 (p:=p) (t:=t) (by rw [← Hlkl.out];exact hlt)
        obtain ⟨hpl1,hpl2⟩:=Qkm hji h8
        have hjl:=(List.getElem?_eq_some_iff.1 hji).1
        have hii:i ∈ p.code:=by obtain ⟨h1,h2⟩:=List.getElem?_eq_some_iff.1 hji;rw [← h2];exact List.getElem_mem h1
        have hn:0≤i.n∧i.n.toNat < p.code.length:=by
         have h0:=Hins.out i hii
         obtain ⟨op',a,b,c,n⟩:=i
         simp only at h8
         subst h8
         unfold Q01 at h0
         simp [okIn] at h0
         simp only
         omega
        rw [htj] at hS
        have hsl:(Q2y p j).length≤800:=by
         have:=Qcs p j
         rw [Qez]
         omega
        obtain ⟨kc2,cC2,rfl,hkB2,-,-,hcs⟩:=Q9a hS.h.cd rfl (by omega)
        obtain ⟨-,s4⟩:=hcs (Q0k p j) hpl1
        rw [hpl2] at s4
        obtain ⟨kp',cp',hv,-,hpc⟩:=Q7w hS.h.pl (by simp;omega)
        simp only [List.length_map,List.length_range,Value.slice.injEq,Option.some.injEq,Addr.mk.injEq,and_true,true_and] at hv
        obtain ⟨rfl,rfl⟩:=hv
        obtain ⟨q0,-⟩:=hpc i.n.toNat (.int .i64 ((Q0k p i.n.toNat:Nat):Int)) (by simp;omega) (by simp [hn.2])
        obtain ⟨kl,cl',hv,-,hlc⟩:=Q7w hS.lk (by omega)
        simp only [Value.slice.injEq,true_and] at hv
        obtain ⟨rfl,rfl⟩:=hv
        obtain ⟨l0,-⟩:=hlc t (.int .i64 ((Q0k p j:Nat):Int)) hlt (by
         rw [← Hlks.out]
         have hlt':t < (ifsF p p.code.length).length:=by rw [← Hlkl.out];exact hlt
         have:(ifsF p p.code.length)[t]? = some j:=by rw [List.getElem?_eq_getElem hlt'];rw [List.getD_eq_getElem?_getD,List.getElem?_eq_getElem hlt'] at hgj;simpa using hgj
         simp [this])
        have hixl:=fun W=>Qbb kl lks.length cL W
        have hixc:=Q1g (n:=(Q2y p j).length) (cap:=cC2) (b:=kc2) (o:=0) (fun _=>rfl)
        simp only [Nat.zero_add] at hixc
        obtain ⟨d0,d1⟩:=hS.h.cells
        have hgol:=hS.h.box.lt
        have HS:=Lib.hid hS
        have Hpl1:=Lib.hid hpl1
        have Hpl2:=Lib.hid hpl2
        have Hstep:=Lib.hid (Qkk hji h8)
        have Htj1:=Lib.hid htj1
        have hn2:i.n < (p.code.length:Int):=by omega
        have hn0:=hn.1
        have hkcl:=Q09 s4.1
        have hkpl:=Q09 q0
        have hkll:=Q09 l0
        simp only at hkcl hkpl hkll
        have hgk:go≠kc2:=fun e=>Q0j hS.h.cd hS.h.box (by decide) (by rw [e];rfl)
        clear hcs hpc hlc hS hji h8 htj htj1 hpl2 hii hn hgj
        generalize Q2y p j=code at *
        generalize Q0k p j=P at *
        generalize hPN:Q0k p i.n.toNat=PN at *
        clear hPN
        go_upto_region 30 with fail
        have HS2:=Lib.hid (HS.out.setN Hpl1.out (code.length:Int))
        rw [Hpl2.out] at HS2
        generalize wr.setCell ⟨kc2,P * 5+4,none⟩ (.int .i64 (code.length:Int))=w8 at *
        clear s4 q0 l0 d0 d1
        have Hl2:Hid ((code.set P { i with n:=(code.length:Int) }).length=code.length):=Lib.hid (by simp)
        generalize code.set P { i with n:=(code.length:Int) }=code2 at *
        go_wp2_with fail
        have C:=Qdr 12 0 w8 (by have:=HS2.out;rw [← Hl2.out] at this;exact this) (by rw [Hl2.out];omega)
        (with_reducible refine C.mono ?_)
        clear C
        rintro er w9 ⟨rfl,oC3,cC3,hS9⟩
        have HS9:=Lib.hid hS9
        clear hS9
        go_wp2_with fail
        have C:=Qdr 7 (PN:Int) w9 HS9.out (by rw [List.length_append,Hl2.out];simp;omega)
        (with_reducible refine C.mono ?_)
        clear C
        rintro er w10 ⟨rfl,oC4,cC4,hS10⟩
        have HS10:=Lib.hid hS10
        clear hS10
        go_wp2
        go_roundw
        case rel =>
         have h':=HS10.out
         rw [List.append_assoc] at h'
         exact ⟨t+1,_,by go_num,by omega,by rw [Htj1.out,Hstep.out];exact h'⟩
        case measure=>first | (simp [intOf];done) | (simp [intOf];omega)
       ·have hje:t=lks.length:=by omega
        subst hje
        have hlt4:decide ((lks.length:Int) < (lks.length:Int))=false:=by simp
        rw [Hlkl.out] at hS
        rw [Qk8,← Hlkl.out] at hS
        obtain ⟨oC5,cC5,rfl⟩:=Q1e hS.h.cd
        have HSg:=Lib.hid hS
        obtain ⟨d0,d1⟩:=hS.h.cells
        have hgol:=hS.h.box.lt
        have bR:=BR.out.ext (X2.out.trans hS.h.ext)
        have bF:=BF.out.ext (X2.out.trans hS.h.ext)
        have r0:wr.cell? ⟨g+1,0,none⟩=some (.slice none 0 0)∧wr.frozen? ⟨g+1,0,none⟩=false:=⟨by rw [bR.cell];rfl,bR.frozen _⟩
        have r1:wr.cell? ⟨g+1,1,none⟩=some (.slice none 0 0)∧wr.frozen? ⟨g+1,1,none⟩=false:=⟨by rw [bR.cell];rfl,bR.frozen _⟩
        have f0:wr.cell? ⟨g+1+1,0,none⟩=some (.int .i64 0)∧wr.frozen? ⟨g+1+1,0,none⟩=false:=⟨by rw [bF.cell];rfl,bF.frozen _⟩
        have f1:wr.cell? ⟨g+1+1,1,none⟩=some (.int .i64 0)∧wr.frozen? ⟨g+1+1,1,none⟩=false:=⟨by rw [bF.cell];rfl,bF.frozen _⟩
        have BR2:=Lib.hid bR
        have BF2:=Lib.hid bF
        have hgll:=bF.lt
        clear hS bR bF
        go_wp2
        have hgw:w.heap.size≤g+1:=by have:=Hg.out;omega
        have hF2:F=(0,0):=by
         have hf:F.1=0:=HF.out
         obtain ⟨T,hT,hF3⟩:=H1.out Hmay.out
         have:=Qiq p T
         rw [hF3] at hf ⊢
         exact this hf
        refine bodyPost_ret (Qa6 (Q72 BR2.out BF2.out).1 (Q72 BR2.out BF2.out).2 rfl _ rfl rfl Try.underlying25 rfl Qaz Try.underlying28 rfl Q3q) rfl ?_
        refine ⟨_,F,by rw [hF2];rfl,Qan (X.out.trans (X2.out.trans HSg.out.h.ext)) hgw,H1.out,H2.out,fun _=>⟨Hmay.out,?_⟩,fun h=>absurd HF.out h⟩
        refine ⟨_,_,rfl,Qc8 (Qah HSg.out.h.rg BR2.out BF2.out (by decide) (by decide)) Hr64.out,?_⟩
        exact Qe3 (Qah HSg.out.h.cd BR2.out BF2.out (by decide) (by decide)) (Qsd hcl Hfi.out)
 ·have hq:(F.1 != (0:Int))=true:=by simp [hF]
  have hF':=Lib.hid hF
  have bR:=BR.out.ext X2.out
  have bF:=BF.out.ext X2.out
  have r0:w2.cell? ⟨g+1,0,none⟩=some (.slice none 0 0)∧w2.frozen? ⟨g+1,0,none⟩=false:=⟨by rw [bR.cell];rfl,bR.frozen _⟩
  have r1:w2.cell? ⟨g+1,1,none⟩=some (.slice none 0 0)∧w2.frozen? ⟨g+1,1,none⟩=false:=⟨by rw [bR.cell];rfl,bR.frozen _⟩
  have f0:w2.cell? ⟨g+1+1,0,none⟩=some (.int .i64 0)∧w2.frozen? ⟨g+1+1,0,none⟩=false:=⟨by rw [bF.cell];rfl,bF.frozen _⟩
  have f1:w2.cell? ⟨g+1+1,1,none⟩=some (.int .i64 0)∧w2.frozen? ⟨g+1+1,1,none⟩=false:=⟨by rw [bF.cell];rfl,bF.frozen _⟩
  clear hF bR bF
  go_upto_region 3 with fail
  go_region
  go_wp2
  have bR:=BR.out.ext X2.out
  have bF:=BF.out.ext X2.out
  have hgw:w.heap.size≤g+1:=by have:=Hg.out;omega
  refine bodyPost_ret (Qa6 (Q72 bR bF).1.drew (Q72 bR bF).2.drew rfl _ rfl rfl Try.underlying25 rfl Qaz Try.underlying28 rfl Q3q) rfl ?_
  exact ⟨_,F,rfl,(Qan (X.out.trans X2.out) hgw).drew,H1.out,H2.out,fun h=>absurd h hF'.out,fun _=>rfl⟩
theorem Qdz {p:Q00} {T:Tab}:∀ (n k:Nat),(Q1v p T n k).1=0∨(Q1v p T n k).1=4∨(Q1v p T n k).1=5
 | 0,k=>.inl rfl
 | n+1,k=>by
  rw [Q1v]
  split
  ·exact Qdz n (k+1)
  ·split
   ·exact .inr (.inl rfl)
   ·split
    ·exact .inr (.inr rfl)
    ·exact Qdz n (k+1)
theorem Qsw {p:Q00} {v:Value} {w:World} (hp:Q0b w v p) {F:Int × Nat} (h1:Q36 p=true→∃ T,Q5x p T∧F=Q22 p T) (h2:Q36 p=false→F=(2,0)) :
  (F.1=2∨F.1=4∨F.1=5)∨(F.1=0∧Q36 p=true∧∃ T,Q3r p T∧Q5x p T∧F=Q22 p T):=by
 cases hm:Q36 p with
 | false=>left;left;rw [h2 hm]
 | true =>
  obtain ⟨T,hL,hF⟩:=h1 hm
  rcases Qdz (p:=p) (T:=T) p.code.length 0 with h | h | h
  ·right
   have h0:(Q22 p T).1=0:=h
   refine ⟨by rw [hF];exact h0,rfl,T,⟨hm,fun i hi=>?_,hL.post,h0⟩,hL,hF⟩
   obtain ⟨v1,v2,rfl,-,hc⟩:=hp
   exact (hc.1 i hi).2.2.2.2
  ·left;right;left;rw [hF];exact h
  ·left;right;right;rw [hF];exact h
end Go.Proofs.Yteiknefajlocoaa
