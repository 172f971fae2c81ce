/- Laid together from: Hst, Ref3a, Ref3b, Ref3c, Seq1, Ck1, CkL, Ref3d, Ref6a, Ref3e, PubW, Law1, RegW, Fam. -/
import Derived.Test.YteiknefajlocoaaFindNothingB16
import Derived.Test.YteiknefajlocoaaFindNothingB14
import Derived.Test.YteiknefajlocoaaFindNothingB19
import Derived.Test.YteiknefajlocoaaFindNothingB23
import Derived.Test.YteiknefajlocoaaFindNothingB21
import Derived.Test.YteiknefajlocoaaFindNothingB7
import Derived.Test.YteiknefajlocoaaFindNothingB10
import Derived.Test.YteiknefajlocoaaFindNothingB6
import Derived.Test.YteiknefajlocoaaProg
import Derived.Test.YteiknefajlocoaaFindNothingB9
import Derived.Test.YteiknefajlocoaaFindNothingB17
import Derived.Test.YteiknefajlocoaaFindNothingB26
import Derived.Test.YteiknefajlocoaaFindNothingB11

namespace Go.Proofs.Yteiknefajlocoaa
open Go.ChangeShapes Go.WideShapes Go.ChangeAt Go.RowKit
set_option linter.unusedVariables false
set_option linter.unusedSimpArgs false
theorem Qi5:(Try.prog.info? 68).map (fun i=>(i.zero,i.size,i.bytes))=some (some (.agg #[.int .i64 0,.bool false]),2,16):=by kernel_rfl
theorem Qdk:(Try.prog.info? 70).map (fun i=>(i.zero,i.size,i.bytes))=some (some (.agg #[.int .i64 0,.int .i64 0,.int .i64 0,.int .i64 0,.int .i64 0]),5,40):=by kernel_rfl
theorem Qaz:(Try.prog.info? 25).map (·.size)=some 2:=by kernel_rfl
theorem Qkr {w:World} {k size m:Nat} {T:TypeId} {cs:Array Value} (h:Blk w k T cs) (hs:cs.size=m * size) (h1:cs.all (·.oneCell')=true):Src w size (some ⟨k,0,none⟩) m cs.toList:=by
 refine ⟨by simpa using hs,(fun e=>by cases e),fun ad ha j u hu=>?_,fun u hu=>?_⟩
 ·obtain rfl:=Option.some.inj ha
  rw [show (⟨k,0,none⟩:Addr).add j=⟨k,0+j,none⟩ from Q3w k 0 j,Nat.zero_add,h.cell]
  simpa using hu
 ·rw [Array.all_eq_true'] at h1
  exact h1 u (by simpa using hu)
theorem Qi2:∀ (l:List LIns) (k:Nat) (x:Int),k < l.length→(l.flatMap Q29).set (k * 5+4) (.int .i64 x)=(l.set k { l.getD k default with n:=x }).flatMap Q29
 | [],k,x,h=>by simp at h
 | i :: l,0,x,h=>by simp [Q29]
 | i :: l,k+1,x,h=>by
  have:=Qi2 l k x (by simpa using h)
  rw [List.flatMap_cons,show (k+1) * 5+4=k * 5+4+5 by omega,List.set_cons_succ,List.flatMap_cons,List.getD_cons_succ,← this]
  simp [Q29]
theorem Qoh {w:World} {B kc cap n:Nat} {l:List LIns} (h:w.ownsRow B 70 5 (.slice (some ⟨kc,0,none⟩) n cap) l.length (l.flatMap Q29)) {k:Nat} (hk:k < l.length) (x:Int) :
  (w.setCell ⟨kc,k * 5+4,none⟩ (.int .i64 x)).ownsRow B 70 5 (.slice (some ⟨kc,0,none⟩) n cap) (l.set k { l.getD k default with n:=x }).length ((l.set k { l.getD k default with n:=x }).flatMap Q29):=by
 obtain ⟨h0,⟨-,h1⟩ | ⟨g,cap',cur,hv,h1,h2,h3,h4,h5,h6⟩⟩:=h
 ·omega
 simp only [Value.slice.injEq,Option.some.injEq,Addr.mk.injEq,and_true,true_and] at hv
 obtain ⟨rfl,rfl,rfl⟩:=hv
 have hb:Blk w kc 70 cur:=h2
 have hl:(l.set k { l.getD k default with n:=x }).length=l.length:=by simp
 rw [hl,← Qi2 l k x hk]
 refine ⟨by simpa using h0,.inr ⟨kc,cap,cur.setIfInBounds (k * 5+4) (.int .i64 x),rfl,h1,hb.set_ _ _,h3,h4,by simpa using h5,?_⟩⟩
 rw [← h6,Array.toList_setIfInBounds,List.take_set]
theorem Q9a {w:World} {B:Nat} {v:Value} {n:Nat} {l:List LIns} (h:w.ownsRow B 70 5 v n (l.flatMap Q29)) (hn:n=l.length) (h0:0 < n):∃ k cap,v=.slice (some ⟨k,0,none⟩) n cap∧B≤k∧n≤cap∧cap≤maxLen ∧
  ∀ j,j < l.length→(w.cell? ⟨k,j * 5,none⟩=some (.int .i64 (l.getD j default).op)∧w.frozen? ⟨k,j * 5,none⟩=false)∧(w.cell? ⟨k,j * 5+4,none⟩=some (.int .i64 (l.getD j default).n)∧w.frozen? ⟨k,j * 5+4,none⟩=false):=by
 subst hn
 obtain ⟨hl,⟨-,h1⟩ | ⟨g,cap',cur,rfl,h1,h2,h3,h4,h5,h6⟩⟩:=h
 ·omega
 have hb:Blk w g 70 cur:=h2
 refine ⟨g,cap',rfl,h1,h3,h4,fun j hj=>?_⟩
 have key:∀ c,c < 5→cur[j * 5+c]? = (Q29 (l.getD j default))[c]? := fun c hc=>by
  rw [← Q9n Q29 5 (fun _=>rfl) l j c hj hc,← h6,List.getElem?_take_of_lt (by omega)]
  simp
 refine ⟨⟨?_,hb.frozen _⟩,⟨?_,hb.frozen _⟩⟩
 ·rw [hb.cell]
  have:=key 0 (by omega)
  simpa [Q29] using this
 ·rw [hb.cell]
  have:=key 4 (by omega)
  simpa [Q29] using this
structure HSt (w0 wr:World) (B go:Nat) (vR vC vP:Value) (regs:List LReg) (code:List LIns) (places:List Int):Prop where
 box:Blk wr go 25 #[vR,vC]
 rg:wr.ownsRow B 68 2 vR regs.length (regs.flatMap Q4f)
 cd:wr.ownsRow B 70 5 vC code.length (code.flatMap Q29)
 pl:wr.ownsRow B 3 1 vP places.length (places.map (Value.int .i64))
 ext:Ext w0 wr
 hg:B≤go
 hB:w0.heap.size≤B
section
variable {w0 wr w' : World} {B go : Nat} {vR vC vP : Value} {regs : List LReg} {code : List LIns} {places : List Int}
theorem HSt.size (h:HSt w0 wr B go vR vC vP regs code places):B≤wr.heap.size:=by have:=h.box.lt;have:=h.hg;omega
theorem HSt.extend (h:HSt w0 wr B go vR vC vP regs code places) (hx:Ext wr w'):HSt w0 w' B go vR vC vP regs code places :=
 ⟨h.box.ext hx,Q3p h.rg hx,Q3p h.cd hx,Q3p h.pl hx,h.ext.trans hx,h.hg,h.hB⟩
theorem HSt.cells (h:HSt w0 wr B go vR vC vP regs code places):(wr.cell? ⟨go,0,none⟩=some vR∧wr.frozen? ⟨go,0,none⟩=false)∧(wr.cell? ⟨go,1,none⟩=some vC∧wr.frozen? ⟨go,1,none⟩=false) :=
 ⟨⟨by rw [h.box.cell];rfl,h.box.frozen _⟩,⟨by rw [h.box.cell];rfl,h.box.frozen _⟩⟩
theorem HSt.place (h:HSt w0 wr B go vR vC vP regs code places) {vP':Value} {ps:List Int} (hg:wr.grownBy w' vP.ownBlock) (ho:w'.ownsRow B 3 1 vP' ps.length (ps.map (Value.int .i64))):HSt w0 w' B go vR vC vP' regs code ps :=
 ⟨h.box.grown hg (Q0j h.pl h.box (by decide)),Q2j h.rg hg (fun k hk he=>Q30 h.pl h.rg (by decide) k hk he),Q2j h.cd hg (fun k hk he=>Q30 h.pl h.cd (by decide) k hk he),ho,
  Q8j h.ext hg h.ext.size (fun k hk=>Nat.le_trans h.hB (Q47 h.pl k hk)),h.hg,h.hB⟩
theorem HSt.code_ (h:HSt w0 wr B go vR vC vP regs code places) {vC':Value} {cs:List LIns} (hg:wr.grownBy w' vC.ownBlock) (ho:w'.ownsRow B 70 5 vC' cs.length (cs.flatMap Q29)):HSt w0 (w'.setCell ⟨go,1,none⟩ vC') B go vR vC' vP regs cs places:=by
 have hb:=h.box.grown hg (Q0j h.cd h.box (by decide))
 have hr:=Q2j h.rg hg (fun k hk he=>Q30 h.cd h.rg (by decide) k hk he)
 have hp:=Q2j h.pl hg (fun k hk he=>Q30 h.cd h.pl (by decide) k hk he)
 exact ⟨hb.set_ 1 vC',Q1k hr (Q0j hr hb (by decide)) _,Q1k ho (Q0j ho hb (by decide)) _,Q1k hp (Q0j hp hb (by decide)) _,
  (Q8j h.ext hg h.ext.size (fun k hk=>Nat.le_trans h.hB (Q47 h.cd k hk))).setCell (p:=⟨go,1,none⟩) (Nat.le_trans h.hB h.hg) _,h.hg,h.hB⟩
theorem HSt.setN {kc cap n:Nat} (h:HSt w0 wr B go vR (.slice (some ⟨kc,0,none⟩) n cap) vP regs code places) {k:Nat} (hk:k < code.length) (x:Int) :
  HSt w0 (wr.setCell ⟨kc,k * 5+4,none⟩ (.int .i64 x)) B go vR (.slice (some ⟨kc,0,none⟩) n cap) vP regs (code.set k { code.getD k default with n:=x }) places:=by
 have hkB:=Q47 h.cd kc rfl
 have hr:some kc≠vR.ownBlock:=fun e=>Q30 h.rg h.cd (by decide) kc e.symm rfl
 have hp:some kc≠vP.ownBlock:=fun e=>Q30 h.pl h.cd (by decide) kc e.symm rfl
 have hgk:go≠kc:=fun e=>Q0j h.cd h.box (by decide) (by rw [e];rfl)
 exact ⟨h.box.far (p:=⟨kc,k * 5+4,none⟩) hgk _,Q1k h.rg hr _,Qoh h.cd hk x,Q1k h.pl hp _,h.ext.setCell (p:=⟨kc,k * 5+4,none⟩) (Nat.le_trans h.hB hkB) _,h.hg,h.hB⟩
theorem HSt.prog (h:HSt w0 wr B go vR vC vP regs code places) (hr:∀ r ∈ regs,R64 r.log) (hc:∀ i ∈ code,i.fits):Q0b wr (.agg #[vR,vC]) ⟨regs,code⟩ :=
 ⟨_,_,rfl,Qc8 h.rg hr,Qe3 h.cd hc⟩
end
def relK (f:Nat→Nat) (l:List LIns) (k:Nat):List LIns:=(l.take k).map (Q2t f) ++ l.drop k
theorem Qmb (f:Nat→Nat) (l:List LIns):relK f l 0=l:=by simp [relK]
theorem Qmd (f:Nat→Nat) (l:List LIns):relK f l l.length=l.map (Q2t f):=by simp [relK]
theorem Qa8 (f:Nat→Nat) (l:List LIns) (k:Nat):(relK f l k).length=l.length:=by
 simp only [relK,List.length_append,List.length_map,List.length_take,List.length_drop]
 omega
theorem Qc5 (f:Nat→Nat) (l:List LIns) {k:Nat} (hk:k < l.length):(relK f l k).getD k default=l.getD k default:=by
 unfold relK
 rw [List.getD_eq_getElem?_getD,List.getElem?_append_right (by simp;omega)]
 simp [Nat.min_eq_left (Nat.le_of_lt hk),hk]
theorem Qfn (f:Nat→Nat) (l:List LIns) {k:Nat} (hk:k < l.length):relK f l (k+1)=(relK f l k).set k (Q2t f (l.getD k default)):=by
 have e:l.drop k=l.getD k default :: l.drop (k+1):=by
  rw [List.drop_eq_getElem_cons hk]
  simp [hk]
 have hlen:((l.take k).map (Q2t f)).length=k:=by simp;omega
 have h1:l[k]=l.getD k default:=by simp [hk]
 unfold relK
 rw [List.take_succ_eq_append_getElem hk,e,List.set_append_right _ _ (by omega),hlen,Nat.sub_self,List.set_cons_zero,List.map_append,List.append_assoc,h1]
 rfl
theorem Qmc (f:Nat→Nat) (l:List LIns) {k:Nat} (hk:k < l.length) (h:¬ ((l.getD k default).op=7∨(l.getD k default).op=8)):relK f l (k+1)=relK f l k:=by
 rw [Qfn f l hk,Qa7 h]
 apply List.ext_getElem (by simp)
 intro j h1 h2
 rw [List.getElem_set]
 split
 ·rename_i e
  subst e
  have:=Qc5 f l hk
  rw [List.getD_eq_getElem?_getD,List.getElem?_eq_getElem h2] at this
  exact this.symm
 ·rfl
def insV (i:LIns):Value:=.agg #[.int .i64 i.op,.int .i64 i.a,.int .i64 i.b,.int .i64 i.c,.int .i64 i.n]
theorem Qdm {oa:Option Addr} {n b o cap:Nat} (h:0 < n→oa=some ⟨b,o,none⟩) (W:World) (i:Int) (h0:0≤i) (h1:i < n) :
  (Instr.indexAt 71 (.slice oa n cap) (.int .i64 i)).run Try.prog W=.ok (.pointer (some ⟨b,o+i.toNat,none⟩)) W:=by
 obtain rfl:=h (by omega)
 have hs:(Try.prog.info? 71).isSome=true:=by kernel_rfl
 have hs:(Try.prog.info? 2).map (·.size)=some 1:=by kernel_rfl
 simp [Instr.indexAt,run_underlying Try.underlying71,asIntOf,h0,h1]
 exact Q3w b o _
theorem Qb1 (W:World) (k n cap:Nat) (i:Int) (h0:0≤i) (h1:i < n) :
  (Instr.indexAt 71 (.slice (some ⟨k,0,none⟩) n cap) (.int .i64 i)).run Try.prog W=.ok (.pointer (some ⟨k,i.toNat,none⟩)) W:=by
 have:=Qdm (oa:=some ⟨k,0,none⟩) (n:=n) (b:=k) (o:=0) (cap:=cap) (fun _=>rfl) W i h0 h1
 simpa using this
theorem Qrl:(Try.prog.info? 98).map (fun i=>(i.zero,i.size,i.bytes))=some (some (.agg #[.int .i64 0,.int .i64 0,.int .i64 0]),3,24):=by kernel_rfl
theorem Qb0:(Try.prog.info? 2).map (fun i=>(i.zero,i.size,i.bytes))=some (some (.int .i64 0),1,8):=by kernel_rfl
theorem Q70 {l:List Int} {i:LIns} (h:¬ (i.op=29∨i.op=30)):Q3b l i=[]:=by unfold Q3b;rw [if_neg h]
theorem index_mem' {oa:Option Addr} {n b o cap:Nat} (h:0 < n→oa=some ⟨b,o,none⟩) (W:World) (i:Int) (h0:0≤i) (h1:i < n) :
  (Instr.indexAt 31 (.slice oa n cap) (.int .i64 i)).run Try.prog W=.ok (.pointer (some ⟨b,o+i.toNat,none⟩)) W:=by
 obtain rfl:=h (by omega)
 have hs:(Try.prog.info? 71).map (·.size)=some 1:=by kernel_rfl
 simp [Instr.indexAt,run_underlying Try.underlying31,asIntOf,h0,h1]
 exact Q3w b o _
theorem Qrm:(Try.prog.info? 71).map (fun i=>(i.zero,i.size,i.bytes))=some (some (.slice none 0 0),1,24):=by kernel_rfl
section
variable {w0 wr w' : World} {U gs k : Nat} {vS vM : Value} {fin value : Int} {steps : Nat} {regs : List Int} {seen : List LSee} {mem : List (List Int)}
end
theorem Q38.far {w:World} {B U:Nat} {T E:TypeId} {v:Value} {m:List (List Int)} (h:Q38 w B U T E v m) {p:Addr} (hp:p.block < B) (u:Value):Q38 (w.setCell p u) B U T E v m:=by
 obtain ⟨vs,h1,h2,h3,h4,h5⟩:=h
 have key:∀ {e:TypeId} {s n:Nat} {v:Value} {xs:List Value},w.ownsRow B e s v n xs→(w.setCell p u).ownsRow B e s v n xs:=fun ho =>
  Q1k ho (fun e=>by have:=Q47 ho _ e.symm;omega) u
 exact ⟨vs,h1,key h2,h3,fun i hi=>⟨key (h4 i hi).1,(h4 i hi).2⟩,h5⟩
structure MOk (p:Q00) (M:Mach):Prop where
 len:M.regs.length=10
 r64:Q1w M.regs
 wlen:M.words.length=Q14 p
 w64:Q1w M.words
theorem MOk.step {p:Q00} {M:Mach} {i:LIns} (h:MOk p M) (hi:i.fits):MOk p (Qey p i M):=by
 unfold Qey
 obtain ⟨h1,h2,h3,h4⟩:=h
 simp only
 repeat' split
 all_goals first
  | exact ⟨h1,h2,h3,h4⟩
  | exact ⟨h1,h2,by simpa using h3,h4.set _ (h2 _)⟩
  | exact ⟨by rw [Q4w];exact h1,h2.rset _ (h4 _),h3,h4⟩
  | exact ⟨by rw [Q96];exact h1,Qed h2 hi.2.2.2.2,h3,h4⟩
theorem Qja {l:List Int} (h:∀ x ∈ l,R64 x):Q1w l:=fun n=>by
 by_cases hn:n < l.length
 ·have:l.getD n 0=l[n]:=by simp [hn]
  rw [this];exact h _ (List.getElem_mem hn)
 ·rw [List.getD_eq_getElem?_getD,List.getElem?_eq_none (by omega)]
  exact Q67
theorem Q1w.mem {l:List Int} (h:Q1w l):∀ x ∈ l,R64 x:=fun x hx=>by
 obtain ⟨n,hn,rfl⟩:=List.getElem_of_mem hx
 have:=h n
 simpa [hn] using this
theorem Qjr {p:Q00} {i:LIns} (hok:Q01 p 10 i=true) (h:i.op=3∨i.op=4∨i.op=5∨i.op=6):okIn 10 i.a=true∧okIn 10 i.b=true∧0≤i.c∧i.c.toNat < p.regs.length:=by
 have hr:(Q0s i || Q0m i)=true:=by unfold Q0s Q0m;rcases h with h | h | h | h <;> simp [h]
 have hc:=Q35 hok hr
 refine ⟨?_,?_,hc⟩ <;> (unfold Q01 at hok;rcases h with h | h | h | h <;> simp [h,okIn] at hok ⊢ <;> omega)
structure Turn (S:Nat→Prop) (w w':World):Prop where
 os:w'.os=w.os
 tape:w'.tape=w.tape
 output:w'.output=w.output
 size:w.heap.size≤w'.heap.size
 block:∀ j,j < w.heap.size→¬ S j→w'.heap[j]? = w.heap[j]?
section
variable {S S' : Nat → Prop} {w w' w'' : World}
theorem Turn.ofExt (h:Ext w w'):Turn S w w':=⟨h.os,h.tape,h.output,h.size,fun j hj _=>Below.block h j hj⟩
theorem Turn.refl (w:World):Turn S w w:=Turn.ofExt (Ext.refl w)
theorem Turn.trans (h:Turn S w w') (k:Turn S' w' w'') (hs:∀ j,j < w.heap.size→S' j→S j):Turn S w w'' :=
 ⟨k.os.trans h.os,k.tape.trans h.tape,k.output.trans h.output,Nat.le_trans h.size k.size,fun j hj hn=>(k.block j (Nat.lt_of_lt_of_le hj h.size) (fun e=>hn (hs j hj e))).trans (h.block j hj hn)⟩
theorem Turn.ext (h:Turn S w w') (k:Ext w' w''):Turn S w w'':=h.trans (Turn.ofExt (S:=S) k) (fun _ _ e=>e)
theorem Turn.grown {row:Option Nat} (h:w.grownBy w' row):Turn (fun j=>row=some j) w w':=⟨h.os,h.tape,h.output,h.size,fun j hj hn=>h.block j hj (fun e=>hn e.symm)⟩
theorem Turn.set (w:World) (p:Addr) (u:Value):Turn (fun j=>j=p.block) w (w.setCell p u):=⟨rfl,rfl,rfl,by simp [World.setCell],fun j hj hn=>Below.heap_setCell w p u j hn⟩
theorem Turn.mono (h:Turn S w w') (hs:∀ j,S j→S' j):Turn S' w w':=⟨h.os,h.tape,h.output,h.size,fun j hj hn=>h.block j hj (fun e=>hn (hs j e))⟩
theorem Turn.below {B:Nat} (h:Turn S w w') (hB:B≤w.heap.size) (hs:∀ j,S j→B≤j):Below B w w' :=
 ⟨h.os,h.tape,h.output,h.size,fun j hj=>h.block j (Nat.lt_of_lt_of_le hj hB) (fun e=>by have:=hs j e;omega)⟩
theorem Blk.turn {g:Nat} {t:TypeId} {cs:Array Value} (h:Blk w g t cs) (ht:Turn S w w') (hn:¬ S g):Blk w' g t cs:=(ht.block g h.lt hn).trans h
theorem Q5d {base:Nat} {e:TypeId} {size n:Nat} {v:Value} {xs:List Value} (h:w.ownsRow base e size v n xs) (ht:Turn S w w') (hn:∀ k,v.ownBlock=some k→¬ S k):w'.ownsRow base e size v n xs:=by
 refine ⟨h.1,?_⟩
 rcases h.2 with h | ⟨g,cap,cur,rfl,h1,h2,h3⟩
 ·exact .inl h
 ·exact .inr ⟨g,cap,cur,rfl,h1,(ht.block g (Array.getElem?_eq_some_iff.1 h2).1 (hn g rfl)).trans h2,h3⟩
end
def Q18 (vR vC:Value) (fin value:Int) (steps:Nat) (vS vM:Value) (regs:List Int) (vW:Value) (at_:Nat) (vB:Value):List Value :=
 [vR,vC,.int .i64 fin,.int .i64 value,.int .i64 steps,vS,vM] ++ (regs.map (Value.int .i64) ++ [vW,.int .i64 at_,vB])
section
variable {vR vC vS vM vW vB u : Value} {fin value x : Int} {steps at_ : Nat} {regs : List Int}
theorem Qh5 (h:regs.length=10):(Q18 vR vC fin value steps vS vM regs vW at_ vB).toArray.size=20:=by simp [Q18,h]
theorem Qpx (h:regs.length=10) {a:Int} (ha:a.toNat < 10):(Q18 vR vC fin value steps vS vM regs vW at_ vB).toArray[7+a.toNat]? = some (.int .i64 (rg regs a)):=by
 have h2:a.toNat < regs.length:=by omega
 rw [List.getElem?_toArray]
 unfold Q18
 rw [List.getElem?_append_right (by simp),List.getElem?_append_left (by simp;omega)]
 simp [rg,h2]
theorem Qps (h:regs.length=10) {a:Int} (ha:a.toNat < 10):(Q18 vR vC fin value steps vS vM regs vW at_ vB).toArray.setIfInBounds (7+a.toNat) (.int .i64 x)=(Q18 vR vC fin value steps vS vM (rset regs a x) vW at_ vB).toArray:=by
 have h2:a.toNat < (regs.map (Value.int .i64)).length:=by simp;omega
 rw [List.setIfInBounds_toArray]
 unfold Q18 rset
 rw [List.set_append_right _ _ (by simp),List.set_append_left _ _ (by simp;omega),List.map_set]
 simp
theorem Qpu:(Q18 vR vC fin value steps vS vM regs vW at_ vB).toArray.setIfInBounds 2 (.int .i64 x)=(Q18 vR vC x value steps vS vM regs vW at_ vB).toArray:=by simp [Q18]
theorem Qpp:(Q18 vR vC fin value steps vS vM regs vW at_ vB).toArray.setIfInBounds 3 (.int .i64 x)=(Q18 vR vC fin x steps vS vM regs vW at_ vB).toArray:=by simp [Q18]
theorem Qpq {k:Nat}:(Q18 vR vC fin value steps vS vM regs vW at_ vB).toArray.setIfInBounds 4 (.int .i64 (k:Int))=(Q18 vR vC fin value k vS vM regs vW at_ vB).toArray:=by simp [Q18]
theorem Qpr:(Q18 vR vC fin value steps vS vM regs vW at_ vB).toArray.setIfInBounds 5 u=(Q18 vR vC fin value steps u vM regs vW at_ vB).toArray:=by simp [Q18]
theorem Qpt:(Q18 vR vC fin value steps vS vM regs vW at_ vB).toArray.setIfInBounds 6 u=(Q18 vR vC fin value steps vS u regs vW at_ vB).toArray:=by simp [Q18]
theorem Qpo (h:regs.length=10):(Q18 vR vC fin value steps vS vM regs vW at_ vB).toArray.setIfInBounds 17 u=(Q18 vR vC fin value steps vS vM regs u at_ vB).toArray:=by simp [Q18,List.set_append,h]
theorem Qpw (h:regs.length=10) {k:Nat}:(Q18 vR vC fin value steps vS vM regs vW at_ vB).toArray.setIfInBounds 18 (.int .i64 (k:Int))=(Q18 vR vC fin value steps vS vM regs vW k vB).toArray:=by simp [Q18,List.set_append,h]
theorem Qpv (h:regs.length=10):(Q18 vR vC fin value steps vS vM regs vW at_ vB).toArray.setIfInBounds 19 u=(Q18 vR vC fin value steps vS vM regs vW at_ u).toArray:=by simp [Q18,List.set_append,h]
end
structure MSt (w:World) (B g:Nat) (vR vC vM vB vS vW:Value) (bases:List Int) (M:Mach):Prop where
 box:Blk w g 110 (Q18 vR vC M.fin M.value M.steps vS vM M.regs vW M.at_ vB).toArray
 sn:w.ownsRow B 98 3 vS M.seen.length (M.seen.flatMap Q6j)
 ws:w.ownsRow B 2 1 vW M.words.length (M.words.map (Value.int .i64))
 bs:w.ownsRow B 3 1 vB bases.length (bases.map (Value.int .i64))
 len:M.regs.length=10
 hg:B≤g
section
variable {w w' : World} {B g : Nat} {vR vC vM vB vS vW : Value} {bases : List Int} {M : Mach}
theorem MSt.size (h:MSt w B g vR vC vM vB vS vW bases M):B≤w.heap.size:=by have:=h.box.lt;have:=h.hg;omega
theorem MSt.ext (h:MSt w B g vR vC vM vB vS vW bases M) (hx:Ext w w'):MSt w' B g vR vC vM vB vS vW bases M :=
 ⟨h.box.ext hx,Q3p h.sn hx,Q3p h.ws hx,Q3p h.bs hx,h.len,h.hg⟩
theorem MSt.gs (h:MSt w B g vR vC vM vB vS vW bases M):some g≠vS.ownBlock:=Q0j h.sn h.box (by decide)
theorem MSt.gw (h:MSt w B g vR vC vM vB vS vW bases M):some g≠vW.ownBlock:=Q0j h.ws h.box (by decide)
theorem MSt.gb (h:MSt w B g vR vC vM vB vS vW bases M):some g≠vB.ownBlock:=Q0j h.bs h.box (by decide)
theorem MSt.put (h:MSt w B g vR vC vM vB vS vW bases M) (i:Nat) (u:Value) {M':Mach} (h1:M'.seen=M.seen) (h2:M'.words=M.words) (h3:M'.regs.length=10)
  (hc:(Q18 vR vC M.fin M.value M.steps vS vM M.regs vW M.at_ vB).toArray.setIfInBounds i u=(Q18 vR vC M'.fin M'.value M'.steps vS vM M'.regs vW M'.at_ vB).toArray) :
  MSt (w.setCell ⟨g,i,none⟩ u) B g vR vC vM vB vS vW bases M' :=
 ⟨by rw [← hc];exact h.box.set_ i u,by rw [h1];exact Q1k h.sn h.gs u,by rw [h2];exact Q1k h.ws h.gw u,Q1k h.bs h.gb u,h3,h.hg⟩
theorem MSt.fin_ (h:MSt w B g vR vC vM vB vS vW bases M) (x:Int):MSt (w.setCell ⟨g,2,none⟩ (.int .i64 x)) B g vR vC vM vB vS vW bases { M with fin:=x }:=h.put 2 _ rfl rfl h.len Qpu
theorem MSt.value_ (h:MSt w B g vR vC vM vB vS vW bases M) (x:Int):MSt (w.setCell ⟨g,3,none⟩ (.int .i64 x)) B g vR vC vM vB vS vW bases { M with value:=x }:=h.put 3 _ rfl rfl h.len Qpp
theorem MSt.steps_ (h:MSt w B g vR vC vM vB vS vW bases M) (k:Nat):MSt (w.setCell ⟨g,4,none⟩ (.int .i64 (k:Int))) B g vR vC vM vB vS vW bases { M with steps:=k }:=h.put 4 _ rfl rfl h.len Qpq
theorem MSt.at__ (h:MSt w B g vR vC vM vB vS vW bases M) (k:Nat):MSt (w.setCell ⟨g,18,none⟩ (.int .i64 (k:Int))) B g vR vC vM vB vS vW bases { M with at_:=k }:=h.put 18 _ rfl rfl h.len (Qpw h.len)
theorem MSt.reg_ (h:MSt w B g vR vC vM vB vS vW bases M) {a:Int} (ha:okIn 10 a=true) (x:Int):MSt (w.setCell ⟨g,7+a.toNat,none⟩ (.int .i64 x)) B g vR vC vM vB vS vW bases { M with regs:=rset M.regs a x }:=by
 obtain ⟨h0,h1⟩:=Q08.1 ha
 exact h.put _ _ rfl rfl (by rw [Q4w];exact h.len) (Qps h.len (by omega))
theorem MSt.show_ (h:MSt w B g vR vC vM vB vS vW bases M) {vS':Value} {s:List LSee} (hg:w.grownBy w' vS.ownBlock) (ho:w'.ownsRow B 98 3 vS' s.length (s.flatMap Q6j)) :
  MSt (w'.setCell ⟨g,5,none⟩ vS') B g vR vC vM vB vS' vW bases { M with seen:=s }:=by
 have hb:=h.box.grown hg h.gs
 have hne:some g≠vS'.ownBlock:=Q0j ho hb (by decide)
 have hw:=Q2j h.ws hg (fun k hk he=>Q30 h.sn h.ws (by decide) k hk he)
 have hbs:=Q2j h.bs hg (fun k hk he=>Q30 h.sn h.bs (by decide) k hk he)
 exact ⟨by rw [← Qpr (u:=vS')];exact hb.set_ 5 vS',Q1k ho hne _,Q1k hw h.gw _,Q1k hbs h.gb _,h.len,h.hg⟩
theorem MSt.word (h:MSt w B g vR vC vM vB vS vW bases M) {x k cap:Nat} (hv:vW=.slice (some ⟨k,0,none⟩) M.words.length cap) (z:Int) :
  MSt (w.setCell ⟨k,x,none⟩ (.int .i64 z)) B g vR vC vM vB vS vW bases { M with words:=M.words.set x z }:=by
 subst hv
 have hws:=h.ws
 have hkg:=h.gw
 have hset:=Q90 w ⟨k,x,none⟩ (.int .i64 z)
 refine ⟨h.box.far (p:=⟨k,x,none⟩) (by intro e;exact hkg (by simp [Value.ownBlock,e])) _,Q2j h.sn hset (fun j e he=>Q30 h.sn h.ws (by decide) j he (by simpa [Value.ownBlock] using e)),?_,
  Q2j h.bs hset (fun j e he=>Q30 h.bs h.ws (by decide) j he (by simpa [Value.ownBlock] using e)),h.len,h.hg⟩
 have:=(hws.stored x (.int .i64 z)).1
 simp only [List.length_set]
 rw [List.map_set]
 exact this
theorem MSt.cells (h:MSt w B g vR vC vM vB vS vW bases M) :
  (w.cell? ⟨g,0,none⟩=some vR∧w.frozen? ⟨g,0,none⟩=false)∧(w.cell? ⟨g,1,none⟩=some vC∧w.frozen? ⟨g,1,none⟩=false)∧(w.cell? ⟨g,2,none⟩=some (.int .i64 M.fin)∧w.frozen? ⟨g,2,none⟩=false) ∧
  (w.cell? ⟨g,3,none⟩=some (.int .i64 M.value)∧w.frozen? ⟨g,3,none⟩=false)∧(w.cell? ⟨g,4,none⟩=some (.int .i64 M.steps)∧w.frozen? ⟨g,4,none⟩=false)∧(w.cell? ⟨g,5,none⟩=some vS∧w.frozen? ⟨g,5,none⟩=false) ∧
  (w.cell? ⟨g,6,none⟩=some vM∧w.frozen? ⟨g,6,none⟩=false)∧(w.cell? ⟨g,17,none⟩=some vW∧w.frozen? ⟨g,17,none⟩=false)∧(w.cell? ⟨g,18,none⟩=some (.int .i64 M.at_)∧w.frozen? ⟨g,18,none⟩=false) ∧
  (w.cell? ⟨g,19,none⟩=some vB∧w.frozen? ⟨g,19,none⟩=false):=by
 have hl:=h.len
 refine ⟨⟨?_,h.box.frozen _⟩,⟨?_,h.box.frozen _⟩,⟨?_,h.box.frozen _⟩,⟨?_,h.box.frozen _⟩,⟨?_,h.box.frozen _⟩,⟨?_,h.box.frozen _⟩,⟨?_,h.box.frozen _⟩,⟨?_,h.box.frozen _⟩,⟨?_,h.box.frozen _⟩,⟨?_,h.box.frozen _⟩⟩ <;>
  (rw [h.box.cell];simp [Q18,List.getElem?_append,hl])
theorem MSt.reg (h:MSt w B g vR vC vM vB vS vW bases M) {a:Int} (ha:okIn 10 a=true):w.cell? ⟨g,7+a.toNat,none⟩=some (.int .i64 (rg M.regs a))∧w.frozen? ⟨g,7+a.toNat,none⟩=false:=by
 obtain ⟨h0,h1⟩:=Q08.1 ha
 exact ⟨by rw [h.box.cell];exact Qpx h.len (by omega),h.box.frozen _⟩
def Qbh (w w':World) (B g:Nat) (vR vC vM vB vS vW:Value) (bases:List Int) (M':Mach):Prop :=
 ∃ vS',MSt w' B g vR vC vM vB vS' vW bases M'∧Turn (fun j=>j=g∨vS.ownBlock=some j) w w'∧(∀ j,vS'.ownBlock=some j→vS.ownBlock=some j∨w.heap.size≤j)
theorem Qbh.keep {w1:World} {M':Mach} (h:MSt w' B g vR vC vM vB vS vW bases M') (ht:Turn (fun j=>j=g∨vS.ownBlock=some j) w w'):Qbh w w' B g vR vC vM vB vS vW bases M':=⟨vS,h,ht,fun _ e=>.inl e⟩
end
def Q4t (k:LKn):List Value:=[.int .i64 k.bits,.bool k.sec]
def knV (k:LKn):Value:=.agg #[.int .i64 k.bits,.bool k.sec]
def stV (s:KSt):Array Value:=(s.flatMap Q4t).toArray
theorem Qd9 (s:KSt):(s.flatMap Q4t).length=s.length * 2:=by
 induction s with
 | nil=>rfl
 | cons k s ih=>rw [List.flatMap_cons,List.length_append,ih,List.length_cons];simp [Q4t];omega
theorem Q15 {s:KSt} (h:s.length=8):(stV s).size=16:=by
 unfold stV
 rw [List.size_toArray,Qd9,h]
theorem Qho:∀ (s:KSt) (a:Nat),a < s.length→(s.flatMap Q4t)[a * 2]? = some (.int .i64 (s.getD a default).bits)∧(s.flatMap Q4t)[a * 2+1]? = some (.bool (s.getD a default).sec)
 | [],a,h=>by simp at h
 | k :: s,0,h=>by simp [Q4t]
 | k :: s,a+1,h=>by
  have:=Qho s a (by simpa using h)
  rw [List.flatMap_cons,show (a+1) * 2=a * 2+2 by omega,show a * 2+2+1=a * 2+1+2 by omega]
  simp only [Q4t,List.cons_append,List.nil_append,List.getElem?_cons_succ,List.getD_cons_succ]
  exact this
theorem Qf1 {s:KSt} (h:s.length=8) {a:Int} (ha:a.toNat < 8):(stV s)[a.toNat * 2]? = some (.int .i64 (kg s a).bits)∧(stV s)[a.toNat * 2+1]? = some (.bool (kg s a).sec):=by
 have:=Qho s a.toNat (by omega)
 unfold stV kg
 simpa using this
theorem Qhn:∀ (s:KSt) (a:Nat) (k:LKn),a < s.length→((s.flatMap Q4t).set (a * 2) (.int .i64 k.bits)).set (a * 2+1) (.bool k.sec)=(s.set a k).flatMap Q4t
 | [],a,k,h=>by simp at h
 | x :: s,0,k,h=>by simp [Q4t]
 | x :: s,a+1,k,h=>by
  have:=Qhn s a k (by simpa using h)
  rw [List.flatMap_cons,show (a+1) * 2=a * 2+2 by omega,show a * 2+2+1=a * 2+1+2 by omega,List.set_cons_succ,List.flatMap_cons]
  simp only [Q4t,List.cons_append,List.nil_append,List.set_cons_succ]
  rw [this]
theorem Qf0 {s:KSt} (h:s.length=8) {a:Int} (ha:a.toNat < 8) (k:LKn):((stV s).setIfInBounds (a.toNat * 2) (.int .i64 k.bits)).setIfInBounds (a.toNat * 2+1) (.bool k.sec)=stV (kset s a k):=by
 have:=Qhn s a.toNat k (by omega)
 unfold stV kset
 rw [← this]
 simp
theorem Q6h (s:KSt):(stV s).all (·.oneCell')=true:=by
 unfold stV
 rw [Array.all_eq_true']
 intro u hu
 simp only [List.mem_toArray,List.mem_flatMap,Q4t,List.mem_cons,List.not_mem_nil,or_false] at hu
 obtain ⟨k,-,rfl | rfl⟩:=hu <;> rfl
section
variable {w w' : World} {k : Nat} {s : KSt}
theorem Q1t (h:Blk w k 80 (stV s)) (hl:s.length=8) {a:Int} (ha:okIn 8 a=true) :
  (w.cell? ⟨k,a.toNat * 2,none⟩=some (.int .i64 (kg s a).bits)∧w.frozen? ⟨k,a.toNat * 2,none⟩=false)∧(w.cell? ⟨k,a.toNat * 2+1,none⟩=some (.bool (kg s a).sec)∧w.frozen? ⟨k,a.toNat * 2+1,none⟩=false):=by
 obtain ⟨h0,h1⟩:=Q08.1 ha
 obtain ⟨g1,g2⟩:=Qf1 hl (a:=a) (by omega)
 exact ⟨⟨by rw [h.cell,g1],h.frozen _⟩,⟨by rw [h.cell,g2],h.frozen _⟩⟩
theorem Q3j (h:Blk w k 80 (stV s)) (hl:s.length=8) {a:Int} (ha:okIn 8 a=true) (x:LKn) :
  Blk ((w.setCell ⟨k,a.toNat * 2,none⟩ (.int .i64 x.bits)).setCell ⟨k,a.toNat * 2+1,none⟩ (.bool x.sec)) k 80 (stV (kset s a x)):=by
 obtain ⟨h0,h1⟩:=Q08.1 ha
 rw [← Qf0 hl (by omega) x]
 exact (h.set_ _ _).set_ _ _
end
def Q55 (w:World) (B ks n:Nat) (T:Tab):Prop :=
 ∃ R:Array Value,Blk w ks 81 R∧R.size=n∧∀ j,j < n→match tg T j with
  | none=>R[j]? = some (.pointer none)
  | some s => ∃ k,R[j]? = some (.pointer (some ⟨k,0,none⟩))∧B≤k∧Blk w k 80 (stV s)
theorem Q55.ext {w w':World} {B ks n:Nat} {T:Tab} (h:Q55 w B ks n T) (hx:Ext w w'):Q55 w' B ks n T:=by
 obtain ⟨R,h1,h2,h3⟩:=h
 refine ⟨R,h1.ext hx,h2,fun j hj=>?_⟩
 have:=h3 j hj
 cases ht:tg T j with
 | none=>rw [ht] at this;exact this
 | some s =>
  rw [ht] at this
  obtain ⟨k,e1,e2,e3⟩:=this
  exact ⟨k,e1,e2,e3.ext hx⟩
theorem Q55.put {w:World} {B ks n k at_:Nat} {T:Tab} {s:KSt} (h:Q55 w B ks n T) (hT:T.length=n) (hat:at_ < n) (hB:B≤k) (hk:Blk w k 80 (stV s)) :
  Q55 (w.setCell ⟨ks,at_,none⟩ (.pointer (some ⟨k,0,none⟩))) B ks n (T.set at_ (some s)):=by
 obtain ⟨R,h1,h2,h3⟩:=h
 refine ⟨_,h1.set_ at_ _,by simpa using h2,fun j hj=>?_⟩
 have far:∀ {k':Nat} {u:KSt},Blk w k' 80 (stV u)→Blk (w.setCell ⟨ks,at_,none⟩ (.pointer (some ⟨k,0,none⟩))) k' 80 (stV u):=fun hb=>hb.far (p:=⟨ks,at_,none⟩) (Blk.ne_ hb h1 (by decide)) _
 rw [Q6v]
 by_cases e:at_=j
 ·subst e
  rw [if_pos ⟨rfl,by omega⟩]
  exact ⟨k,by simp [h2,hat],hB,far hk⟩
 ·rw [if_neg (by omega)]
  have:=h3 j hj
  cases ht:tg T j with
  | none=>rw [ht] at this;simpa [Array.getElem?_setIfInBounds,e] using this
  | some u =>
   rw [ht] at this
   obtain ⟨k',e1,e2,e3⟩:=this
   exact ⟨k',by simpa [Array.getElem?_setIfInBounds,e] using e1,e2,far e3⟩
theorem Q55.far {w:World} {B ks n:Nat} {T:Tab} (h:Q55 w B ks n T) {p:Addr} {t:TypeId} {cs:Array Value} (hp:Blk w p.block t cs) (h1:t≠81) (h2:t≠80) (u:Value):Q55 (w.setCell p u) B ks n T:=by
 obtain ⟨R,e1,e2,e3⟩:=h
 refine ⟨R,e1.far (Blk.ne_ e1 hp (fun e=>h1 e.symm)) u,e2,fun j hj=>?_⟩
 have:=e3 j hj
 cases ht:tg T j with
 | none=>rw [ht] at this;exact this
 | some s =>
  rw [ht] at this
  obtain ⟨k,f1,f2,f3⟩:=this
  exact ⟨k,f1,f2,f3.far (Blk.ne_ f3 hp (fun e=>h2 e.symm)) u⟩
theorem Q55.grown {w w':World} {B ks n m:Nat} {T:Tab} {D:Nat} {v:Value} {xs:List Value} (h:Q55 w B ks n T) (hu:w.ownsRow D 3 1 v m xs) (hg:w.grownBy w' v.ownBlock):Q55 w' B ks n T:=by
 obtain ⟨R,e1,e2,e3⟩:=h
 refine ⟨R,e1.grown hg (Q0j hu e1 (by decide)),e2,fun j hj=>?_⟩
 have:=e3 j hj
 cases ht:tg T j with
 | none=>rw [ht] at this;exact this
 | some s =>
  rw [ht] at this
  obtain ⟨k,f1,f2,f3⟩:=this
  exact ⟨k,f1,f2,f3.grown hg (Q0j hu f3 (by decide))⟩
structure CSt (w:World) (B g ks:Nat) (vR vC vK:Value) (p:Q00) (T:Tab) (wk:List Int):Prop where
 box:Blk w g 75 #[vR,vC,.slice (some ⟨ks,0,none⟩) p.code.length p.code.length,vK]
 row:Q55 w B ks p.code.length T
 wk:w.ownsRow B 3 1 vK wk.length (wk.map (Value.int .i64))
 tok:Tok p T
 hg:B≤g
 hk:B≤ks
section
variable {w w' : World} {B g ks : Nat} {vR vC vK : Value} {p : Q00} {T : Tab} {wk : List Int}
theorem CSt.ext (h:CSt w B g ks vR vC vK p T wk) (hx:Ext w w'):CSt w' B g ks vR vC vK p T wk:=⟨h.box.ext hx,h.row.ext hx,Q3p h.wk hx,h.tok,h.hg,h.hk⟩
theorem CSt.size (h:CSt w B g ks vR vC vK p T wk):B≤w.heap.size:=by have:=h.box.lt;have:=h.hg;omega
theorem CSt.cells (h:CSt w B g ks vR vC vK p T wk):(w.cell? ⟨g,0,none⟩=some vR∧w.frozen? ⟨g,0,none⟩=false)∧(w.cell? ⟨g,1,none⟩=some vC∧w.frozen? ⟨g,1,none⟩=false) ∧
  (w.cell? ⟨g,2,none⟩=some (.slice (some ⟨ks,0,none⟩) p.code.length p.code.length)∧w.frozen? ⟨g,2,none⟩=false)∧(w.cell? ⟨g,3,none⟩=some vK∧w.frozen? ⟨g,3,none⟩=false):=by
 refine ⟨⟨?_,h.box.frozen _⟩,⟨?_,h.box.frozen _⟩,⟨?_,h.box.frozen _⟩,⟨?_,h.box.frozen _⟩⟩ <;> (rw [h.box.cell];rfl)
theorem CSt.put (h:CSt w B g ks vR vC vK p T wk) {k at_:Nat} {s:KSt} (hat:at_ < p.code.length) (hB:B≤k) (hk:Blk w k 80 (stV s)) (hs:Sok s) :
  CSt (w.setCell ⟨ks,at_,none⟩ (.pointer (some ⟨k,0,none⟩))) B g ks vR vC vK p (T.set at_ (some s)) wk:=by
 obtain ⟨R,r1,r2,r3⟩:=h.row
 refine ⟨h.box.far (p:=⟨ks,at_,none⟩) (Blk.ne_ h.box r1 (by decide)) _,h.row.put h.tok.len hat hB hk,Q1k h.wk (Q0j h.wk r1 (by decide)) _,⟨by simpa using h.tok.len,fun j u hu=>?_⟩,h.hg,h.hk⟩
 rw [Q6v] at hu
 split at hu
 ·simp only [Option.some.injEq] at hu;subst hu;exact hs
 ·exact h.tok.ok j u hu
theorem CSt.work (h:CSt w B g ks vR vC vK p T wk) {vK':Value} {wk':List Int} (hg:w.grownBy w' vK.ownBlock) (ho:w'.ownsRow B 3 1 vK' wk'.length (wk'.map (Value.int .i64))) :
  CSt (w'.setCell ⟨g,3,none⟩ vK') B g ks vR vC vK' p T wk':=by
 have hb:=h.box.grown hg (Q0j h.wk h.box (by decide))
 have hne:some g≠vK'.ownBlock:=Q0j ho hb (by decide)
 exact ⟨hb.set_ 3 vK',(h.row.grown h.wk hg).far (p:=⟨g,3,none⟩) hb (by decide) (by decide) _,Q1k ho hne _,h.tok,h.hg,h.hk⟩
theorem CSt.row_at (h:CSt w B g ks vR vC vK p T wk) {j:Nat} (hj:j < p.code.length):(tg T j=none→w.cell? ⟨ks,j,none⟩=some (.pointer none)∧w.frozen? ⟨ks,j,none⟩=false) ∧
  (∀ s,tg T j=some s→∃ k,(w.cell? ⟨ks,j,none⟩=some (.pointer (some ⟨k,0,none⟩))∧w.frozen? ⟨ks,j,none⟩=false)∧B≤k∧Blk w k 80 (stV s)):=by
 obtain ⟨R,r1,r2,r3⟩:=h.row
 have:=r3 j hj
 refine ⟨fun ht=>?_,fun s ht=>?_⟩
 ·rw [ht] at this
  exact ⟨by rw [r1.cell,this],r1.frozen _⟩
 ·rw [ht] at this
  obtain ⟨k,e1,e2,e3⟩:=this
  exact ⟨k,⟨by rw [r1.cell,e1],r1.frozen _⟩,e2,e3⟩
end
def Q51 (p:Q00) (T:Tab) (at_:Nat) (s:KSt):Tab:=if p.code.length≤at_ then T else Q17 T (at_,s)
def Q4q (p:Q00) (T:Tab) (wk:List Int) (at_:Nat) (s:KSt):List Int :=
 if p.code.length≤at_ then wk else match tg T at_ with
  | none=>wk ++ [(at_:Int)]
  | some t=>if Q11 s t=t then wk else wk ++ [(at_:Int)]
end Go.Proofs.Yteiknefajlocoaa

namespace Go.Proofs.Yteiknefajlocoaa
open Go.ChangeShapes Go.WideShapes Go.ChangeAt Go.RowKit
theorem infoState':(Try.prog.info? 80).map (·.size)=some 16:=by kernel_rfl
theorem Qsh {o:Oper} {a:Act} {x:Operand} {w:World} {g:Nat} {s:KSt} (ho:o.op=.load 80 x) (hx:a.eval x=.pointer (some ⟨g,0,none⟩)) (hb:Blk w g 80 (stV s)) (hl:s.length=8) :
  (execOp a.eval o).run Try.prog w=.ok (.value (.agg (stV s))) w:=by
 have h:=run_loadVar_mid (P:=Try.prog) w g 0 80 (stV s).toList _ (hb.range 0 _ (fun j v hv=>by simpa using hv)) Try.underlying80 rfl (by rw [Array.length_toList,Q15 hl];exact infoState')
 unfold execOp
 simp only [ho,hx,Instr.loadAt,Instr.sureAddr,Sem.run_bind,Sem.run_pure,Result.andThen_ok,h,Array.toArray_toList]
section
variable {ops : Array Oper} {W : World} {i0 k : Nat} {mk : Nat → Value} {T : TypeId} {cs : Array Value} {Qa : Act → Prop} {o : Oper} {rest : List Oper} {a : Act} {g : Nat} {s : KSt} {hs : List Nat}
theorem Qe6 (hk:k≠i0) (hw:Region.wanted o (yielded ops a.tmps)=true) (ho:∃ x,o.op=.load 80 x∧a.eval x=.pointer (some ⟨g,0,none⟩)) (hb:Blk W g 80 (stV s)) (hl:s.length=8)
  (h:Q3f Try.prog ops W i0 mk T cs Qa (k+1) rest (a.put o.dst (.agg (stV s)))):Q3f Try.prog ops W i0 mk T cs Qa k (o :: rest) a :=
 by
 obtain ⟨x,ho,hx⟩:=ho
 exact Q0h hk hw ⟨_,fun _ hE=>Qsh ho hx (hb.ext hE) hl,h⟩
end
end Go.Proofs.Yteiknefajlocoaa

namespace Go.Proofs.Yteiknefajlocoaa
open Go.ChangeShapes Go.WideShapes Go.ChangeAt Go.RowKit
set_option linter.unusedVariables false
set_option linter.unusedSimpArgs false
def ten:Array Value:=regV (List.replicate 10 0)
def KnAt (w:World) (B:Nat) (v:Value) (s:KSt):Prop :=
 s.length=8∧∃ b cap R,v=.slice (some ⟨b,0,none⟩) 8 cap∧8≤cap∧cap≤maxLen∧B≤b∧Blk w b 78 R∧∀ j,j < 16→R[j]? = (stV s)[j]?
theorem KnAt.ext {w w':World} {B:Nat} {v:Value} {s:KSt} (h:KnAt w B v s) (hx:Ext w w'):KnAt w' B v s:=by
 obtain ⟨h0,b,cap,R,h1,h2,h3,h4,h5,h6⟩:=h
 exact ⟨h0,b,cap,R,h1,h2,h3,h4,h5.ext hx,h6⟩
theorem KnAt.mono {w:World} {B B':Nat} {v:Value} {s:KSt} (h:KnAt w B v s) (hB:B'≤B):KnAt w B' v s:=by
 obtain ⟨h0,b,cap,R,h1,h2,h3,h4,h5,h6⟩:=h
 exact ⟨h0,b,cap,R,h1,h2,h3,by omega,h5,h6⟩
theorem KnAt.own {w:World} {B:Nat} {v:Value} {s:KSt} (hl:s.length=8) (h:w.ownsRow B 78 2 v 8 (s.flatMap Q4t)):KnAt w B v s:=by
 refine ⟨hl,?_⟩
 obtain ⟨h0,⟨-,h1⟩ | ⟨g,cap,cur,rfl,h1,h2,h3,h4,h5,h6⟩⟩:=h
 ·omega
 ·refine ⟨g,cap,cur,rfl,h3,h4,h1,h2,fun j hj=>?_⟩
  unfold stV
  rw [← h6]
  simp only [List.getElem?_toArray]
  rw [List.getElem?_take_of_lt (by omega)]
  simp
theorem KnAt.form {w:World} {B:Nat} {v:Value} {s:KSt} (h:KnAt w B v s):∃ b cap,v=.slice (some ⟨b,0,none⟩) 8 cap∧8≤cap∧cap≤maxLen∧B≤b:=by
 obtain ⟨h0,b,cap,R,h1,h2,h3,h4,h5,h6⟩:=h
 exact ⟨b,cap,h1,h2,h3,h4⟩
section
variable {w : World} {B b cap : Nat} {s : KSt}
theorem KnAt.cell (h:KnAt w B (.slice (some ⟨b,0,none⟩) 8 cap) s) {a:Int} (ha:okIn 8 a=true) :
  (w.cell? ⟨b,a.toNat * 2,none⟩=some (.int .i64 (kg s a).bits)∧w.frozen? ⟨b,a.toNat * 2,none⟩=false)∧(w.cell? ⟨b,a.toNat * 2+1,none⟩=some (.bool (kg s a).sec)∧w.frozen? ⟨b,a.toNat * 2+1,none⟩=false):=by
 obtain ⟨h0,b',cap',R,h1,h2,h3,h4,h5,h6⟩:=h
 simp only [Value.slice.injEq,Option.some.injEq,Addr.mk.injEq,and_true,true_and] at h1
 obtain ⟨rfl,rfl⟩:=h1
 obtain ⟨k0,k1⟩:=Q08.1 ha
 obtain ⟨g1,g2⟩:=Qf1 h0 (a:=a) (by omega)
 exact ⟨⟨by rw [h5.cell,h6 _ (by omega),g1],h5.frozen _⟩,⟨by rw [h5.cell,h6 _ (by omega),g2],h5.frozen _⟩⟩
theorem KnAt.put (h:KnAt w B (.slice (some ⟨b,0,none⟩) 8 cap) s) {a:Int} (ha:okIn 8 a=true) (x:LKn) :
  KnAt ((w.setCell ⟨b,a.toNat * 2,none⟩ (.int .i64 x.bits)).setCell ⟨b,a.toNat * 2+1,none⟩ (.bool x.sec)) B (.slice (some ⟨b,0,none⟩) 8 cap) (kset s a x):=by
 obtain ⟨h0,b',cap',R,h1,h2,h3,h4,h5,h6⟩:=h
 simp only [Value.slice.injEq,Option.some.injEq,Addr.mk.injEq,and_true,true_and] at h1
 obtain ⟨rfl,rfl⟩:=h1
 obtain ⟨k0,k1⟩:=Q08.1 ha
 have hs:=Q15 h0
 have hR:16≤R.size:=by
  have:=h6 15 (by omega)
  rcases Nat.lt_or_ge 15 R.size with h | h
  ·omega
  ·rw [Array.getElem?_eq_none h,Array.getElem?_eq_getElem (by omega)] at this
   cases this
 refine ⟨by simpa [kset] using h0,b,cap,_,rfl,h2,h3,h4,(h5.set_ _ _).set_ _ _,fun j hj=>?_⟩
 rw [← Qf0 h0 (by omega) x]
 rw [Array.getElem?_setIfInBounds,Array.getElem?_setIfInBounds,Array.getElem?_setIfInBounds,Array.getElem?_setIfInBounds]
 simp only [Array.size_setIfInBounds]
 repeat' split
 all_goals first | rfl | omega | exact h6 j hj
theorem KnAt.far {v:Value} (h:KnAt w B v s) {p:Addr} {t:TypeId} {cs:Array Value} (hp:Blk w p.block t cs) (h1:t≠78) (u:Value):KnAt (w.setCell p u) B v s:=by
 obtain ⟨h0,b',cap',R,e1,h2,h3,h4,h5,h6⟩:=h
 exact ⟨h0,b',cap',R,e1,h2,h3,h4,h5.far (Blk.ne_ h5 hp (fun e=>h1 e.symm)) u,h6⟩
end
theorem Q2l (b cap:Nat) (W:World) (i:Int) (h0:0≤i) (h1:i < 8) :
  (Instr.indexAt 85 (.slice (some ⟨b,0,none⟩) 8 cap) (.int .i64 i)).run Try.prog W=.ok (.pointer (some ⟨b,i.toNat * 2,none⟩)) W:=by
 have hs:(Try.prog.info? 78).map (·.size)=some 2:=by kernel_rfl
 simp [Instr.indexAt,run_underlying Try.underlying85,asIntOf,h0,h1]
 have:=Q3w b 0 (i.toNat * 2)
 simpa using this
def Q4v (w:World) (B:Nat) (v:Value) (l:List (Nat × KSt)):Prop :=
 ∃ oa cap b,v=.slice oa l.length cap∧l.length≤cap∧cap≤maxLen∧B≤b∧(0 < l.length→oa=some ⟨b,0,none⟩)∧∃ vs:Nat→Value,∀ k,k < l.length →
  w.cell? ⟨b,k * 3,none⟩=some (.int .i64 ((l.getD k default).1:Int))∧w.cell? ⟨b,k * 3+1,none⟩=some (.bool true)∧w.cell? ⟨b,k * 3+2,none⟩=some (vs k)∧KnAt w B (vs k) (l.getD k default).2
theorem Q4v.ext {w w':World} {B:Nat} {v:Value} {l:List (Nat × KSt)} (h:Q4v w B v l) (hx:Ext w w'):Q4v w' B v l:=by
 obtain ⟨oa,cap,b,h1,h2,h3,hB,h4,vs,h5⟩:=h
 refine ⟨oa,cap,b,h1,h2,h3,hB,h4,vs,fun k hk=>?_⟩
 obtain ⟨e1,e2,e3,e4⟩:=h5 k hk
 exact ⟨hx.kept e1,hx.kept e2,hx.kept e3,e4.ext hx⟩
theorem KnAt.low {w:World} {B:Nat} {v:Value} {s:KSt} (h:KnAt w B v s) {p:Addr} (hp:p.block < B) (u:Value):KnAt (w.setCell p u) B v s:=by
 obtain ⟨h0,b',cap',R,e1,h2,h3,h4,h5,h6⟩:=h
 exact ⟨h0,b',cap',R,e1,h2,h3,h4,h5.far (by omega) u,h6⟩
theorem Q4v.low {w:World} {B:Nat} {v:Value} {l:List (Nat × KSt)} (h:Q4v w B v l) {p:Addr} (hp:p.block < B) (u:Value):Q4v (w.setCell p u) B v l:=by
 obtain ⟨oa,cap,b,h1,h2,h3,hB,h4,vs,h5⟩:=h
 refine ⟨oa,cap,b,h1,h2,h3,hB,h4,vs,fun k hk=>?_⟩
 obtain ⟨e1,e2,e3,e4⟩:=h5 k hk
 have hne:∀ o:Nat,p≠⟨b,o,none⟩:=fun o e=>by rw [e] at hp;simp only at hp;omega
 exact ⟨by rw [World.cell?_setCell_other _ _ _ _ (hne _)];exact e1,by rw [World.cell?_setCell_other _ _ _ _ (hne _)];exact e2,by rw [World.cell?_setCell_other _ _ _ _ (hne _)];exact e3,e4.low hp u⟩
def Q4l (w:World) (ks n:Nat) (T:Tab):Prop :=
 ∃ R:Array Value,Blk w ks 87 R∧R.size=n * 2∧∀ j,j < n→match tg T j with
  | none=>R[j * 2]? = some (.bool false)∧R[j * 2+1]? = some (.slice none 0 0)
  | some s=>R[j * 2]? = some (.bool true)∧∃ v,R[j * 2+1]? = some v∧KnAt w 0 v s
theorem Q4l.ext {w w':World} {ks n:Nat} {T:Tab} (h:Q4l w ks n T) (hx:Ext w w'):Q4l w' ks n T:=by
 obtain ⟨R,h1,h2,h3⟩:=h
 refine ⟨R,h1.ext hx,h2,fun j hj=>?_⟩
 have:=h3 j hj
 cases ht:tg T j with
 | none=>rw [ht] at this;exact this
 | some s =>
  rw [ht] at this
  obtain ⟨e1,v,e2,e3⟩:=this
  exact ⟨e1,v,e2,e3.ext hx⟩
theorem Q4l.put {w:World} {ks n at_:Nat} {T:Tab} {s:KSt} {v:Value} (h:Q4l w ks n T) (hT:T.length=n) (hat:at_ < n) (hk:KnAt w 0 v s) :
  Q4l ((w.setCell ⟨ks,at_ * 2,none⟩ (.bool true)).setCell ⟨ks,at_ * 2+1,none⟩ v) ks n (T.set at_ (some s)):=by
 obtain ⟨R,h1,h2,h3⟩:=h
 have far:∀ {v':Value} {u:KSt},KnAt w 0 v' u→KnAt ((w.setCell ⟨ks,at_ * 2,none⟩ (.bool true)).setCell ⟨ks,at_ * 2+1,none⟩ v) 0 v' u:=fun hb =>
  (hb.far (p:=⟨ks,at_ * 2,none⟩) h1 (by decide) _).far (p:=⟨ks,at_ * 2+1,none⟩) (h1.set_ _ _) (by decide) _
 refine ⟨_,(h1.set_ _ _).set_ _ _,by simpa using h2,fun j hj=>?_⟩
 rw [Q6v]
 by_cases e:at_=j
 ·subst e
  rw [if_pos ⟨rfl,by omega⟩]
  refine ⟨?_,v,?_,far hk⟩
  ·rw [Array.getElem?_setIfInBounds_ne (by omega),Array.getElem?_setIfInBounds_self_of_lt (by omega)]
  ·rw [Array.getElem?_setIfInBounds_self_of_lt (by simp;omega)]
 ·rw [if_neg (by omega)]
  have:=h3 j hj
  cases ht:tg T j with
  | none =>
   rw [ht] at this
   rw [Array.getElem?_setIfInBounds_ne (by omega),Array.getElem?_setIfInBounds_ne (by omega),Array.getElem?_setIfInBounds_ne (by omega),Array.getElem?_setIfInBounds_ne (by omega)]
   exact this
  | some u =>
   rw [ht] at this
   obtain ⟨e1,v',e2,e3⟩:=this
   refine ⟨?_,v',?_,far e3⟩
   ·rw [Array.getElem?_setIfInBounds_ne (by omega),Array.getElem?_setIfInBounds_ne (by omega)];exact e1
   ·rw [Array.getElem?_setIfInBounds_ne (by omega),Array.getElem?_setIfInBounds_ne (by omega)];exact e2
theorem Qi8 {oa:Option Addr} {n b o cap:Nat} (h:0 < n→oa=some ⟨b,o,none⟩) (W:World) (i:Int) (h0:0≤i) (h1:i < n) :
  (Instr.indexAt 34 (.slice oa n cap) (.int .i64 i)).run Try.prog W=.ok (.pointer (some ⟨b,o+i.toNat * 3,none⟩)) W:=by
 obtain rfl:=h (by omega)
 have hs:(Try.prog.info? 98).map (·.size)=some 3:=by kernel_rfl
 simp [Instr.indexAt,run_underlying Try.underlying34,asIntOf,h0,h1]
 exact Q3w b o _
theorem Qm5 {l r:List Int} (hl:l.length=r.length) (h:∀ x,x < l.length→l.getD x default=r.getD x default):l=r:=by
 apply List.ext_getElem hl
 intro x h1 h2
 have:=h x h1
 simpa [h1,h2] using this
theorem Qjq {l:List LReg} (h:Q02 l=true):∀ j,j < l.length→Q0e (l.getD j default)≤64:=fun j hj=>by
 exact Q6u _ (Q66 h _ (by simp [hj])).2
theorem Qnr {p:Q00} {m n:List (List Int)} {j:Nat} (hj:j < p.regs.length) (hs:(p.regs.getD j default).secret=false) (h:m.getD j default≠n.getD j default):Q5f p m n=false:=by
 cases hq:Q5f p m n
 ·rfl
 ·unfold Q5f at hq
  have:=List.all_eq_true.1 hq j (by simpa using hj)
  rw [hs,Bool.false_or,decide_eq_true_eq] at this
  exact absurd this h
theorem Qnp {p:Q00} {m n:List (List Int)} (h:∀ r,r < p.regs.length→(p.regs.getD r default).secret=false→m.getD r default=n.getD r default):Q5f p m n=true:=by
 unfold Q5f
 simp only [List.all_eq_true,List.mem_range,Bool.or_eq_true,decide_eq_true_eq]
 intro r hr
 cases hs:(p.regs.getD r default).secret
 ·exact .inr (h r hr hs)
 ·exact .inl rfl
set_option maxRecDepth 100000 in
set_option maxHeartbeats 4000000 in
theorem Qno (p:Q00) (m n:List (List Int)) {oa:Option Addr} {capa:Nat} {vC vm vn:Value} (w:World) (hp:Q5n w (.slice oa p.regs.length capa) p.regs) (hm:Q2w w vm m) (hn:Q2w w vn n) (fm:Q2f p m=true) (fn:Q2f p n=true) :
  Calls Try.prog 29 #[.agg #[.slice oa p.regs.length capa,vC],vm,vn] w fun e w'=>e=.returned (.bool (Q5f p m n))∧Ext w w':=by
 obtain ⟨hml,hmr⟩:=Q8k fm
 obtain ⟨hnl,hnr⟩:=Q8k fn
 have hrl:p.regs.length≤6:=Q3o (by unfold Q2f at fm;simp only [Bool.and_eq_true] at fm;exact fm.1.1)
 obtain ⟨-,oa',capa',br,orr,hv3,hd1,hd2,hrow2⟩:=hp
 simp only [Value.slice.injEq,true_and] at hv3
 obtain ⟨rfl,rfl⟩:=hv3
 have hixr:=Q33 (cap:=capa) hrow2.at_
 obtain ⟨ob,capb,b,o,rfl,hc1,hc2,vs,hrow,hin⟩:=hm
 obtain ⟨oc,capc,b2,o2,rfl,hc3,hc4,us,hrow3,hin3⟩:=hn
 rw [hml] at hc1 hrow
 rw [hnl] at hc3 hrow3
 have hixm:=index_mem' (cap:=capb) hrow.at_
 have hixn:=index_mem' (cap:=capc) hrow3.at_
 have HR:=Lib.hid hrow2
 have HM:=Lib.hid hrow
 have HN:=Lib.hid hrow3
 have HI:=Lib.hid hin
 have HJ:=Lib.hid hin3
 have HMR:=Lib.hid hmr
 have HNR:=Lib.hid hnr
 have HML:=Lib.hid hml
 have HNL:=Lib.hid hnl
 have HW64:Hid (∀ j,j < p.regs.length→Q0e (p.regs.getD j default)≤64):=Lib.hid (Qjq (by unfold Q2f at fm;simp only [Bool.and_eq_true] at fm;exact fm.1.1))
 rw [hml,hnl]
 clear hrow2 hrow hrow3 hin hin3 hmr hnr fm fn hd1 hd2 hc1 hc2 hc3 hc4 hml hnl
 go_enter Try.func29,Try.ntmps29
 go_upto_region 1 with fail
 obtain ⟨W,gp,hg,hW,hx,bP⟩:=Q1f w #[.slice oa p.regs.length capa,vC] 25
 rw [hW,hg]
 have X:=Lib.hid hx
 have p0:W.cell? ⟨gp,0,none⟩=some (.slice oa p.regs.length capa):=by rw [bP.cell];rfl
 clear hW hg hx bP
 go_wp2_with fail
 go_loopw [7] (fun i wr => ∃ j:Nat,j≤p.regs.length∧i=.int .i64 (j:Int)∧(∀ r,r < j→(p.regs.getD r default).secret=false→m.getD r default=n.getD r default)∧Ext W wr) (fun i _=>p.regs.length - (intOf i).toNat)
 case atStart=>exact ⟨0,by omega,rfl,fun r hr=>by omega,Ext.refl _⟩
 case round =>
  obtain ⟨j,hj,rfl,hs,hE⟩:=hrel
  have XE:=Lib.hid hE
  have HS:=Lib.hid hs
  have p0:=hE.kept p0
  clear hE hs
  by_cases hlt:j < p.regs.length
  ·obtain ⟨-,e1⟩:=(HR.out.ext (X.out.trans XE.out)).reg j hlt
   cases hsec:(p.regs.getD j default).secret
   ·rw [hsec] at e1
    have f0:=(HM.out.ext (X.out.trans XE.out)).one j hlt
    have f1:=(HN.out.ext (X.out.trans XE.out)).one j hlt
    have g0:=(HI.out j (by rw [HML.out];exact hlt)).ext (X.out.trans XE.out)
    have g1:=(HJ.out j (by rw [HNL.out];exact hlt)).ext (X.out.trans XE.out)
    have hq1:=HMR.out j hlt
    have hq2:=HNR.out j hlt
    have Hsec:=Lib.hid hsec
    have Hno:Hid (m.getD j default≠n.getD j default→Q5f p m n=false):=Lib.hid fun h=>Qnr hlt hsec h
    have Hyes:Hid (m.getD j default=n.getD j default→∀ r,r < j+1→(p.regs.getD r default).secret=false→m.getD r default=n.getD r default):=Lib.hid fun h r hr hrs=>by
     by_cases hrj:r=j
     ·rw [hrj];exact h
     ·exact HS.out r (by omega) hrs
    generalize m.getD j default=l at *
    generalize n.getD j default=r at *
    generalize vs j=vl at *
    generalize us j=vr at *
    obtain ⟨-,od,capd,b3,o3,rfl,-,-,r3⟩:=g0
    obtain ⟨-,oe,cape,b4,o4,rfl,-,-,r4⟩:=g1
    have hlr:r.length=l.length:=by rw [hq1,hq2]
    have hw64:=HW64.out j hlt
    rw [← hq1] at hw64
    rw [hlr] at f1 r4
    have hiy:=Qdm (cap:=capd) r3.at_
    have hiy2:=Qdm (cap:=cape) r4.at_
    have R3:=Lib.hid r3
    have R4:=Lib.hid r4
    have Hlr:=Lib.hid hlr
    clear r3 r4 hq1 hq2 hsec hlr
    go_wp2_with fail
    obtain ⟨w1,hw1⟩:∃ w1,w1=wr:=⟨_,rfl⟩
    subst hw1
    go_loopw [8] (fun i wr => ∃ k:Nat,k≤l.length∧i=.int .i64 (k:Int)∧(∀ x,x < k→l.getD x default=r.getD x default)∧Ext w1 wr) (fun i _=>l.length - (intOf i).toNat)
    case atStart=>exact ⟨0,by omega,rfl,fun x hx=>by omega,Ext.refl _⟩
    case round =>
     obtain ⟨k,hk,rfl,hs,hE⟩:=hrel
     have XK:=Lib.hid hE
     have HK:=Lib.hid hs
     have f0:=hE.kept f0
     have f1:=hE.kept f1
     have p0:=hE.kept p0
     clear hE hs e1
     by_cases hkk:k < l.length
     ·have x0:=(R3.out.ext XK.out).one k hkk
      have y0:=(R4.out.ext XK.out).one k hkk
      have Hn:Hid (l.getD k default=r.getD k default→∀ x,x < k+1→l.getD x default=r.getD x default):=Lib.hid fun h x hx=>by
       by_cases hxk:x=k
       ·rw [hxk];exact h
       ·exact HK.out x (by omega)
      have Hd:Hid (l.getD k default≠r.getD k default→Q5f p m n=false):=Lib.hid fun h=>Hno.out fun e=>h (by rw [e])
      generalize l.getD k default=x at *
      generalize r.getD k default=y at *
      have k0:∀ W,Ext wr W→W.cell? ⟨b,o+j,none⟩=some (.slice od l.length capd):=fun _ h=>h.kept f0
      have k1:∀ W,Ext wr W→W.cell? ⟨b2,o2+j,none⟩=some (.slice oe l.length cape):=fun _ h=>h.kept f1
      have k2:∀ W,Ext wr W→W.cell? ⟨b3,o3+k,none⟩=some (.int .i64 x):=fun _ h=>h.kept x0
      have k3:∀ W,Ext wr W→W.cell? ⟨b4,o4+k,none⟩=some (.int .i64 y):=fun _ h=>h.kept y0
      clear x0 y0
      by_cases hxy:x=y
      ·have hq:(x != y)=false:=by simp [hxy]
       have Hn:=Lib.hid (Hn.out hxy)
       clear hxy
       go_upto_region 8 with fail
       refine Q0z 15 (by kernel_rfl) (by kernel_rfl) ?_
       simp only [List.take_succ_cons,List.take_zero,List.drop_succ_cons,List.drop_zero]
       repeat (first | (refine Q0p ?_ ?_ (fun wc hE=>?_) ?_;(decide);rfl;(focus (go_simp;done));go_simp) | (refine Q0h ?_ ?_ ?_;(decide);(first | rfl | (focus (go_simp;done)));apply Exists.intro;refine ⟨fun wc hE=>?_,?_⟩;(go_simp;exact rfl);go_simp) | (refine Q0q ?_ ?_ ?_;(decide);(first | rfl | (focus (go_simp;done)));apply Exists.intro;refine ⟨fun wc hE=>?_,?_⟩;(go_simp;(first | fail));go_simp) | (refine Q0n ?_ ?_ ?_;(decide);(focus (go_simp;done));go_simp))
       refine Q0o ?_
       intro wy hy
       have XK:=Lib.hid (XK.out.trans hy)
       clear hy k0 k1 k2 k3
       go_wp2
       go_roundw
       case rel=>exact ⟨k+1,by omega,by go_num,Hn.out,XK.out⟩
       case measure=>first | (simp [intOf];done) | (simp [intOf];omega)
      ·have hq:(x != y)=true:=by simp [hxy]
       have Hd:=Lib.hid (Hd.out hxy)
       clear hxy
       go_upto_region 8 with fail
       refine Q0z 15 (by kernel_rfl) (by kernel_rfl) ?_
       simp only [List.take_succ_cons,List.take_zero,List.drop_succ_cons,List.drop_zero]
       repeat (first | (refine Q0p ?_ ?_ (fun wc hE=>?_) ?_;(decide);rfl;(focus (go_simp;done));go_simp) | (refine Q0h ?_ ?_ ?_;(decide);(first | rfl | (focus (go_simp;done)));apply Exists.intro;refine ⟨fun wc hE=>?_,?_⟩;(go_simp;exact rfl);go_simp) | (refine Q0q ?_ ?_ ?_;(decide);(first | rfl | (focus (go_simp;done)));apply Exists.intro;refine ⟨fun wc hE=>?_,?_⟩;(go_simp;(first | fail));go_simp) | (refine Q0n ?_ ?_ ?_;(decide);(focus (go_simp;done));go_simp))
       refine Q0o ?_
       intro wy hy
       have XK:=Lib.hid (XK.out.trans hy)
       clear hy k0 k1 k2 k3
       go_wp2
       go_ret
       rw [Hd.out]
       exact ⟨rfl,X.out.trans (XE.out.trans XK.out)⟩
     ·have hje:k=l.length:=by omega
      subst hje
      have hlt2:decide ((l.length:Int) < (l.length:Int))=false:=by simp
      have Hy:=Lib.hid (Hyes.out (Qm5 Hlr.out.symm HK.out))
      go_wp2
      go_roundw
      case rel=>exact ⟨j+1,by omega,by go_num,Hy.out,XE.out.trans XK.out⟩
      case measure=>first | (simp [intOf];done) | (simp [intOf];omega)
   ·rw [hsec] at e1
    have Hy:Hid (∀ r,r < j+1→(p.regs.getD r default).secret=false→m.getD r default=n.getD r default):=Lib.hid fun r hr hrs=>by
     by_cases hrj:r=j
     ·rw [hrj,hsec] at hrs;cases hrs
     ·exact HS.out r (by omega) hrs
    clear hsec
    go_wp2
    go_roundw
    case rel=>exact ⟨j+1,by omega,by go_num,Hy.out,XE.out⟩
    case measure=>first | (simp [intOf];done) | (simp [intOf];omega)
  ·have hje:j=p.regs.length:=by omega
   subst hje
   have hlt2:decide ((p.regs.length:Int) < (p.regs.length:Int))=false:=by simp
   have Hy:=Lib.hid (Qnp HS.out)
   go_wp2
   go_ret
   rw [Hy.out]
   exact ⟨rfl,X.out.trans XE.out⟩
theorem Qb6 {p q:Q00} {m:List (List Int)} (h:q.regs=p.regs) (hf:Q2f p m=true):Q2f q m=true:=by
 unfold Q2f at hf ⊢
 rw [h]
 exact hf
theorem Qcm {w:World} {v:Value} {p:Q00} (h:Q0b w v p):∃ a b c d,v=.agg #[.slice a p.regs.length b,.slice c p.code.length d]∧Q5n w (.slice a p.regs.length b) p.regs∧Q7d w (.slice c p.code.length d) p.code:=by
 obtain ⟨v1,v2,rfl,h1,h2⟩:=h
 have g1:=h1
 have g2:=h2
 obtain ⟨-,oa,cap,b,o,rfl,-⟩:=h1
 obtain ⟨-,ob,capb,b2,o2,rfl,-⟩:=h2
 exact ⟨_,_,_,_,rfl,g1,g2⟩
theorem own_at' {w:World} {B:Nat} {e:TypeId} {v:Value} {n:Nat} {xs:List Value} (h:w.ownsRow B e 1 v n xs) (hn:0 < n):∃ k cap,v=.slice (some ⟨k,0,none⟩) n cap∧B≤k∧∀ j x,j < n→xs[j]? = some x→w.cell? ⟨k,j,none⟩=some x∧w.frozen? ⟨k,j,none⟩=false:=by
 have h':=h
 rcases h.2 with ⟨-,h0⟩ | ⟨k,cap,cur,rfl,a1,a2,a3⟩
 ·omega
 ·exact ⟨k,cap,rfl,a1,fun j x hj hx=>⟨by rw [h'.cellAt j (by omega),hx],h'.frozenAt j⟩⟩
structure Fam (w:World) (B:Nat) (L:List (Value × List Int)):Prop where
 own:∀ x ∈ L,w.ownsRow B 2 1 x.1 x.2.length (x.2.map (Value.int .i64))
 apart:L.Pairwise fun x y => ∀ k,x.1.ownBlock=some k→y.1.ownBlock≠some k
section
variable {w w' : World} {B B' : Nat} {L L' : List (Value × List Int)}
theorem own_mono' {w:World} {b b':Nat} {e:TypeId} {s n:Nat} {v:Value} {xs:List Value} (h:w.ownsRow b e s v n xs) (hb:b'≤b):w.ownsRow b' e s v n xs:=by
 refine ⟨h.1,?_⟩
 rcases h.2 with h | ⟨g,cap,cur,rfl,h1,h2,h3⟩
 ·exact .inl h
 ·exact .inr ⟨g,cap,cur,rfl,by omega,h2,h3⟩
theorem Fam.nil (w:World) (B:Nat):Fam w B []:=⟨fun x h=>by simp at h,List.Pairwise.nil⟩
theorem Fam.ext (h:Fam w B L) (hx:Ext w w'):Fam w' B L:=⟨fun x k=>Q3p (h.own x k) hx,h.apart⟩
theorem Fam.mono (h:Fam w B L) (hB:B'≤B):Fam w B' L:=⟨fun x k=>own_mono' (h.own x k) hB,h.apart⟩
theorem Fam.kept (h:Fam w B L) {row:Option Nat} (hg:w.grownBy w' row) (hne:∀ x ∈ L,∀ k,row=some k→x.1.ownBlock≠some k):Fam w' B L :=
 ⟨fun x k=>Q2j (h.own x k) hg (hne x k),h.apart⟩
theorem Fam.far (h:Fam w B L) {g:Nat} {t:TypeId} {cs:Array Value} (hb:Blk w g t cs) (ht:2 ≠ t) (i:Nat) (u:Value):Fam (w.setCell ⟨g,i,none⟩ u) B L :=
 ⟨fun x k=>Q1k (p:=⟨g,i,none⟩) (h.own x k) (Q0j (h.own x k) hb ht) u,h.apart⟩
theorem Fam.other (h:Fam w B L) {e:TypeId} {s n:Nat} {v:Value} {xs:List Value} (ho:w.ownsRow B e s v n xs) (he:e≠2) (hg:w.grownBy w' v.ownBlock):Fam w' B L :=
 h.kept hg fun x hx k hk=>Q30 ho (h.own x hx) he k hk
theorem Fam.sub (h:Fam w B L) (hs:L'.Sublist L):Fam w B L':=⟨fun x k=>h.own x (hs.subset k),h.apart.sublist hs⟩
theorem Fam.size (h:Fam w B L) {x:Value × List Int} (hx:x ∈ L):∀ k,x.1.ownBlock=some k→B≤k∧k < w.heap.size:=fun k hk=>(h.own x hx).lt k hk
theorem Fam.app (h:Fam w B L) (h':Fam w B' L') (hB:B≤B') (hlt:∀ x ∈ L,∀ k,x.1.ownBlock=some k→k < B'):Fam w B (L ++ L'):=by
 refine ⟨fun x hx=>?_,?_⟩
 ·rcases List.mem_append.1 hx with k | k
  ·exact h.own x k
  ·exact own_mono' (h'.own x k) hB
 ·rw [List.pairwise_append]
  refine ⟨h.apart,h'.apart,fun a ha b hb k hk hk'=>?_⟩
  have h1:=hlt a ha k hk
  have h2:=(h'.size hb k hk').1
  omega
theorem Fam.ne (h:Fam w B L) {i j:Nat} (hij:i≠j) {x y:Value × List Int} (hi:L[i]? = some x) (hj:L[j]? = some y):∀ k,x.1.ownBlock=some k→y.1.ownBlock≠some k:=by
 obtain ⟨hi1,rfl⟩:=List.getElem?_eq_some_iff.1 hi
 obtain ⟨hj1,rfl⟩:=List.getElem?_eq_some_iff.1 hj
 have hp:=List.pairwise_iff_getElem.1 h.apart
 intro k hk hk'
 rcases Nat.lt_or_gt_of_ne hij with hl | hl
 ·exact hp i j hi1 hj1 hl k hk hk'
 ·exact hp j i hj1 hi1 hl k hk' hk
theorem Fam.at_ (h:Fam w B L) {i:Nat} {v:Value} {l:List Int} (hi:L[i]? = some (v,l)):w.ownsRow B 2 1 v l.length (l.map (Value.int .i64)):=by
 obtain ⟨hi1,e⟩:=List.getElem?_eq_some_iff.1 hi
 have:=h.own _ (List.getElem_mem hi1)
 rw [e] at this
 exact this
theorem Fam.set_ (h:Fam w B L) {i:Nat} {v v':Value} {l l':List Int} (hi:L[i]? = some (v,l)) (hg:w.grownBy w' v.ownBlock) (ho:w'.ownsRow B 2 1 v' l'.length (l'.map (Value.int .i64)))
  (hat:∀ k,v'.ownBlock=some k→v.ownBlock=some k∨w.heap.size≤k):Fam w' B (L.set i (v',l')):=by
 have hi1:=(List.getElem?_eq_some_iff.1 hi).1
 have hset:∀ j,j < L.length→(L.set i (v',l'))[j]? = if j=i then some (v',l') else L[j]? := fun j hj=>by
  rw [List.getElem?_set]
  by_cases e:i=j
  ·subst e;simp [hj]
  ·rw [if_neg e,if_neg (fun e'=>e e'.symm)]
 have hap:∀ j x,j≠i→L[j]? = some x→∀ k,v'.ownBlock=some k→x.1.ownBlock≠some k:=fun j x hj hx k hk hk'=>by
  rcases hat k hk with h1 | h1
  ·exact h.ne (Ne.symm hj) hi hx k h1 hk'
  ·have:=(h.size (List.mem_of_getElem? hx) k hk').2
   omega
 refine ⟨fun x hx=>?_,?_⟩
 ·obtain ⟨j,hj,rfl⟩:=List.getElem_of_mem hx
  have hj':j < L.length:=by simpa using hj
  have hs:=hset j hj'
  rw [List.getElem?_eq_getElem hj] at hs
  by_cases e:j=i
  ·rw [if_pos e] at hs
   rw [Option.some.inj hs]
   exact ho
  ·rw [if_neg e,List.getElem?_eq_getElem hj'] at hs
   rw [Option.some.inj hs]
   exact Q2j (h.own _ (List.getElem_mem hj')) hg (fun k hk=>h.ne (Ne.symm e) hi (List.getElem?_eq_getElem hj') k hk)
 ·rw [List.pairwise_iff_getElem]
  intro a b ha hb hab
  have ha':a < L.length:=by simpa using ha
  have hb':b < L.length:=by simpa using hb
  have sa:=hset a ha'
  have sb:=hset b hb'
  rw [List.getElem?_eq_getElem ha] at sa
  rw [List.getElem?_eq_getElem hb] at sb
  by_cases ea:a=i
  ·rw [if_pos ea] at sa
   have eb:b≠i:=by omega
   rw [if_neg eb] at sb
   rw [Option.some.inj sa]
   exact hap b _ eb sb.symm
  ·rw [if_neg ea] at sa
   by_cases eb:b=i
   ·rw [if_pos eb] at sb
    rw [Option.some.inj sb]
    intro k hk hk'
    exact hap a _ ea sa.symm k hk' hk
   ·rw [if_neg eb] at sb
    exact h.ne (by omega) sa.symm sb.symm
theorem Fam.put (h:Fam w B L) {i k n cap x:Nat} {l:List Int} (hi:L[i]? = some (.slice (some ⟨k,0,none⟩) n cap,l)) (z:Int):Fam (w.setCell ⟨k,x,none⟩ (.int .i64 z)) B (L.set i (.slice (some ⟨k,0,none⟩) n cap,l.set x z)):=by
 have ho:=h.at_ hi
 obtain rfl:n=l.length:=by
  rcases ho.2 with ⟨h0,-⟩ | ⟨g,c,cur,hv,-⟩
  ·cases h0
  ·simp only [Value.slice.injEq] at hv
   exact hv.2.1
 refine h.set_ hi (Q90 w ⟨k,x,none⟩ _) ?_ (fun j hj=>.inl hj)
 have:=(ho.stored x (.int .i64 z)).1
 rw [List.length_set,List.map_set]
 exact this
end
section
variable {w w' w'' : World} {B : Nat}
end
end Go.Proofs.Yteiknefajlocoaa
