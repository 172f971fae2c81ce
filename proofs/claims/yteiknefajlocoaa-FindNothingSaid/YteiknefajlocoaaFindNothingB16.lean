/- Laid together from: Typed, HardP, Sim, FenceP. -/
import Derived.Test.YteiknefajlocoaaFindNothingB15

namespace Go.Proofs.Yteiknefajlocoaa
open Go.RowKit
set_option linter.unusedSimpArgs false
set_option linter.unusedVariables false
abbrev Lab:=Nat→Bool
def lb (L:Lab) (r:Int):Bool:=L r.toNat
def lset (L:Lab) (r:Int) (x:Bool):Lab:=fun j=>if j=r.toNat then x else L j
def labT (p:Q00) (L:Lab) (i:LIns):Lab :=
 if i.op=1 then lset L i.a false
 else if i.op=2∨i.op=10 then lset L i.a (lb L i.b)
 else if i.op=3∨i.op=5 then lset L i.a (Q0c p i).secret
 else if i.op=4∨i.op=6∨i.op=7∨i.op=8∨i.op=9∨i.op=11∨i.op=12 then L
 else lset L i.a (lb L i.b || lb L i.c)
def mkT (i:LIns):Option (Int × Int):=if i.op=11 then some (i.a,i.n) else none
def okT (p:Q00) (L:Lab) (mk:Option (Int × Int)) (i:LIns):Prop :=
 (i.op=3∨i.op=4→lb L i.b=false∧i.n=0∧mk=some (i.b,((Q0e (Q0c p i):Nat):Int))) ∧
  (i.op=4∨i.op=6→lb L i.a=true→(Q0c p i).secret=true)∧(i.op=8→lb L i.a=false∧lb L i.b=false)∧(i.op=29∨i.op=30→lb L i.b=false∧lb L i.c=false)∧(i.op=9→lb L i.a=false)
def Q4b (L M:Lab):Prop := ∀ j,j < 10→M j=false→L j=false
def Q59 (q:Nat) (i:LIns):List Nat:=if i.op=7 then [i.n.toNat] else if i.op=8 then [q+1,i.n.toNat] else if i.op=9 then [] else [q+1]
structure Q80 (p:Q00) (Ann:Nat→Lab→Option (Int × Int)→Prop):Prop where
 hard:Q5e p=true
 ok:∀ q L mk i,Ann q L mk→p.code[q]? = some i→okT p L mk i
 next:∀ q L mk i,Ann q L mk→p.code[q]? = some i→∀ q' ∈ Q59 q i,q' < p.code.length→∃ L' mk',Ann q' L' mk'∧Q4b (labT p L i) L'∧(mk'=none∨mk'=mkT i)
structure Base (p:Q00) (a b:Plc):Prop where
 ra:a.regs.length=10
 rb:b.regs.length=10
 wa:a.words.length=Q14 p
 wb:b.words.length=Q14 p
 pa:a.past.length=Q14 p
 pb:b.past.length=Q14 p
 mem:MemR p a b
def EqL (L:Lab) (r t:List Int):Prop := ∀ j,j < 10→L j=false→r.getD j 0=t.getD j 0
def MkOk (mk:Option (Int × Int)) (r:List Int):Prop := ∀ x n,mk=some (x,n)→0≤rg r x∧rg r x < n
structure TPl (p:Q00) (Ann:Nat→Lab→Option (Int × Int)→Prop) (a b:Plc):Prop where
 at_:a.at_=b.at_
 base:Base p a b
 lab:a.at_ < p.code.length→∃ L mk,Ann a.at_ L mk∧EqL L a.regs b.regs∧MkOk mk a.regs∧MkOk mk b.regs
theorem EqL.mono {L M:Lab} {r t:List Int} (h:EqL L r t) (k:Q4b L M):EqL M r t:=fun j hj e=>h j hj (k j hj e)
theorem EqL.set {L:Lab} {r t:List Int} (h:EqL L r t) (hr:r.length=10) (ht:t.length=10) (a:Int) {x:Bool} {v w:Int} (hv:x=false→v=w):EqL (lset L a x) (rset r a v) (rset t a w):=fun j hj=>by
 unfold lset rset
 rw [Q20,Q20,hr,ht]
 by_cases e:j=a.toNat
 ·rw [if_pos e,if_pos ⟨e,hj⟩,if_pos ⟨e,hj⟩];exact hv
 ·rw [if_neg e,if_neg (by omega),if_neg (by omega)];exact h j hj
theorem EqL.at_ {L:Lab} {r t:List Int} (h:EqL L r t) {a:Int} (ha:okIn 10 a=true) (hs:lb L a=false):rg r a=rg t a:=by
 rw [Q08] at ha
 exact h a.toNat (by omega) hs
theorem Base.goTo {p:Q00} {a b:Plc} (h:Base p a b) (k l:Nat):Base p { a with at_:=k } { b with at_:=l }:=⟨h.1,h.2,h.3,h.4,h.5,h.6,⟨h.mem.1,h.mem.2,h.mem.3⟩⟩
theorem Base.regs {p:Q00} {a b:Plc} (h:Base p a b) (k l:Nat) {r t:List Int} (hr:r.length=10) (ht:t.length=10):Base p { a with at_:=k,regs:=r } { b with at_:=l,regs:=t }:=⟨hr,ht,h.3,h.4,h.5,h.6,⟨h.mem.1,h.mem.2,h.mem.3⟩⟩
section
variable {p : Q00} {Ann : Nat → Lab → Option (Int × Int) → Prop}
theorem Q9e {L:Lab} {mk:Option (Int × Int)} {i:LIns} {r:List Int} (hp:Q02 p.regs=true) (hok:okT p L mk i) (hi:Q01 p 10 i=true) (hm:MkOk mk r) (hw:Q1n i=true):Q2v p i (Q1a r i)=true:=by
 have hc:=(Q35 hi hw).2
 by_cases e:i.op=3∨i.op=4
 ·obtain ⟨h1,h2,h3⟩:=hok.1 e
  have h4:=hm _ _ h3
  have hlog:(rg r i.b+i.n)=rg r i.b:=by omega
  have hl:=Q6u (Q0c p i) (Q66 hp (Q0c p i) (by unfold Q0c;simp [hc])).2
  have:Q1a r i=wrap64 (rg r i.b):=by unfold Q1a;rw [if_neg (by omega),hlog]
  rw [this,Q5z h4.1 (by omega)]
  simp only [Q2v,Bool.and_eq_true,decide_eq_true_eq]
  exact h4
 ·have hop:=Q7f hw
  have e5:i.op=5∨i.op=6:=by omega
  have:Q1a r i=i.n:=by unfold Q1a;rw [if_pos e5]
  rw [this]
  simp only [Q01] at hi
  rw [if_neg (by omega),if_neg (by omega),if_neg (by omega),if_neg (by omega),if_pos e5] at hi
  simp only [okIn,Bool.and_eq_true,decide_eq_true_eq] at hi
  simp only [Q2v,Bool.and_eq_true,decide_eq_true_eq]
  unfold Q0c
  exact hi.2
theorem Q9r {L:Lab} {mk:Option (Int × Int)} {i:LIns} {a b:Plc} (hok:okT p L mk i) (hi:Q01 p 10 i=true) (hB:Base p a b) (he:EqL L a.regs b.regs) (hw:Q1n i=true):Q1a a.regs i=Q1a b.regs i∧Q0y p i a=Q0y p i b∧Q1z p i a=Q1z p i b:=by
 obtain ⟨g1,g2,g10,g3,g5,g8,g9,g11,go,g7,gop⟩:=Q2e hi
 have e1:Q1a a.regs i=Q1a b.regs i:=by
  unfold Q1a
  by_cases e:i.op=3∨i.op=4
  ·rw [if_neg (by omega),if_neg (by omega),he.at_ (g3 e).2 (hok.1 e).1]
  ·have hop:=Q7f hw
   rw [if_pos (by omega),if_pos (by omega)]
 have e2:Q0y p i a=Q0y p i b:=by unfold Q0y;rw [e1]
 exact ⟨e1,e2,by unfold Q1z;rw [e2,hB.wa,hB.wb]⟩
theorem Qep {L:Lab} {mk:Option (Int × Int)} {i:LIns} {a b:Plc} (hok:okT p L mk i) (hi:Q01 p 10 i=true) (hB:Base p a b) (he:EqL L a.regs b.regs):Q24 p i a=Q24 p i b∧Q2s p i a=Q2s p i b:=by
 obtain ⟨g1,g2,g10,g3,g5,g8,g9,g11,go,g7,gop⟩:=Q2e hi
 cases hw:Q1n i
 ·obtain ⟨w3,w4,w5,w6,hp,ht⟩:=Q9c hw
  refine ⟨by simp [Q24,ht],?_⟩
  unfold Q2s
  rw [hw]
  split
  ·rfl
  ·rename_i hc
   simp only [Bool.false_eq_true,if_false,Q3b]
   split
   ·rename_i h29
    have:=go (by omega) (by omega) (by omega) w3 w4 w5 w6 (by omega) (by omega) (by omega) (by omega) (by omega)
    have hq':=hok.2.2.2.1 h29
    rw [he.at_ this.2.1 hq'.1,he.at_ this.2.2.1 hq'.2]
   ·rfl
 ·obtain ⟨e1,e2,e3⟩:=Q9r hok hi hB he hw
  refine ⟨by unfold Q24;rw [e3],?_⟩
  unfold Q2s
  rw [e2,hw]
  split
  ·rfl
  ·rfl
theorem Qqo {L:Lab} {i:LIns} {r t:List Int} (hi:Q01 p 10 i=true) (hr:r.length=10) (ht:t.length=10) (he:EqL L r t) (hw:Q1n i=false) (h7:i.op≠7) (h8:i.op≠8) (h9:i.op≠9):EqL (labT p L i) (Q1i r i) (Q1i t i):=by
 obtain ⟨g1,g2,g10,g3,g5,g8,g9,g11,go,g7,gop⟩:=Q2e hi
 obtain ⟨w3,w4,w5,w6,-,-⟩:=Q9c hw
 by_cases e12:i.op=12
 ·have:labT p L i=L:=by
   unfold labT
   rw [if_neg (by omega),if_neg (by omega),if_neg (by omega),if_pos (by omega)]
  rw [this]
  unfold Q1i
  rw [if_neg (by omega),if_neg (by omega),if_neg (by omega),if_neg (by omega),if_pos e12,if_neg (by omega),if_neg (by omega),if_neg (by omega),if_neg (by omega),if_pos e12]
  exact he
 rw [Qad r i e12,Qad t i e12]
 unfold labT Qac
 by_cases e1:i.op=1
 ·rw [if_pos e1,if_pos e1,if_pos e1]
  exact he.set hr ht _ fun _=>rfl
 rw [if_neg e1,if_neg e1,if_neg e1]
 by_cases e2:i.op=2
 ·rw [if_pos (.inl e2),if_pos e2,if_pos e2]
  exact he.set hr ht _ fun e=>he.at_ (g2 e2).2 e
 by_cases e10:i.op=10
 ·rw [if_pos (.inr e10),if_neg e2,if_neg e2,if_pos e10,if_pos e10]
  exact he.set hr ht _ fun e=>by rw [he.at_ (g10 e10).2 e]
 rw [if_neg (by omega),if_neg e2,if_neg e2,if_neg e10,if_neg e10,if_neg (by omega)]
 by_cases e11:i.op=11
 ·rw [if_pos (by omega),if_pos e11,if_pos e11]
  have:L=lset L i.a (lb L i.a):=by
   funext j
   unfold lset lb
   split
   ·rename_i e;rw [e]
   ·rfl
  rw [this]
  refine he.set hr ht _ fun e=>?_
  have ha:rg r i.a=rg t i.a:=he.at_ (g11 e11).1 e
  rw [ha]
 rw [if_neg (by omega),if_neg e11,if_neg e11]
 have:=go e1 e2 e10 w3 w4 w5 w6 h7 h8 h9 e11 e12
 refine he.set hr ht _ fun e=>?_
 simp only [Bool.or_eq_false_iff] at e
 rw [he.at_ this.2.1 e.1,he.at_ this.2.2.1 e.2]
theorem Qgu {i:LIns} {r:List Int} (hi:Q01 p 10 i=true) (hr:r.length=10) (hw:Q1n i=false):MkOk (mkT i) (Q1i r i):=by
 obtain ⟨g1,g2,g10,g3,g5,g8,g9,g11,go,g7,gop⟩:=Q2e hi
 intro x n h
 unfold mkT at h
 split at h
 ·rename_i e11
  simp only [Option.some.injEq,Prod.mk.injEq] at h
  obtain ⟨rfl,rfl⟩:=h
  have ha:=Q08.1 (g11 e11).1
  unfold Q1i
  rw [if_neg (by omega),if_neg (by omega),if_neg (by omega),if_pos e11]
  split
  ·have:rg (rset r i.a 0) i.a=0:=by
    unfold rg rset
    rw [Q20,if_pos ⟨rfl,by omega⟩]
   rw [this]
   omega
  ·omega
 ·cases h
theorem Q9d (r:List Int):MkOk none r:=fun _ _ h=>by cases h
theorem Q7h (T:Q80 p Ann) {a:Plc} {L:Lab} {mk:Option (Int × Int)} {i:LIns} (hA:Ann a.at_ L mk) (hi:p.code[a.at_]? = some i) {x y:Plc} (hxy:x.at_=y.at_) (hB:Base p x y) (hs:x.at_ ∈ Q59 a.at_ i) (he:EqL (labT p L i) x.regs y.regs) (hm:MkOk (mkT i) x.regs∧MkOk (mkT i) y.regs):TPl p Ann x y:=by
 refine ⟨hxy,hB,fun hl=>?_⟩
 obtain ⟨L',mk',h1,h2,h3⟩:=T.next _ L mk i hA hi _ hs hl
 refine ⟨L',mk',h1,he.mono h2,?_,?_⟩
 ·rcases h3 with rfl | rfl
  ·exact Q9d _
  ·exact hm.1
 ·rcases h3 with rfl | rfl
  ·exact Q9d _
  ·exact hm.2
theorem Q5h {i:LIns} (h:i.op≠11) (r:List Int):MkOk (mkT i) r:=by
 unfold mkT
 rw [if_neg h]
 exact Q9d _
theorem Qk3 {L:Lab} {mk:Option (Int × Int)} {i:LIns} {a b:Plc} (hp:Q02 p.regs=true) (hok:okT p L mk i) (hi:Q01 p 10 i=true) (hB:Base p a b) (he:EqL L a.regs b.regs) (hm:MkOk mk a.regs) (hput:Q0s i=true):Base p (Q07 p i a) (Q07 p i b)∧(Q07 p i a).regs=a.regs∧(Q07 p i b).regs=b.regs:=by
 have hw:Q1n i=true:=by simp [Q1n,hput]
 obtain ⟨g1,g2,g10,g3,g5,g8,g9,g11,go,g7,gop⟩:=Q2e hi
 have hop:i.op=4∨i.op=6:=by simpa [Q0s] using hput
 obtain ⟨e1,e2,e3⟩:=Q9r hok hi hB he hw
 have hc:=(Q35 hi hw).2
 obtain ⟨s1,s2,s3⟩:=Q82 hp hc (Q9e hp hok hi hm hw)
 cases ht:Q1z p i a
 ·rw [Q7k p a hput ht,Q7k p b hput (by rw [← e3];exact ht)]
  exact ⟨hB.goTo _ _,rfl,rfl⟩
 ·rw [Q4o p a hput ht,Q4o p b hput (by rw [← e3];exact ht),← e2]
  have hA:secW p (Q0y p i a).toNat=false→rg a.regs i.a=rg b.regs i.a:=fun e=>by
   rw [s1] at e
   refine he.at_ ?_ ?_
   ·rcases hop with o | o
    ·exact (g3 (.inr o)).1
    ·exact g5 (.inr o)
   ·cases hl:lb L i.a
    ·rfl
    ·rw [hok.2.1 hop hl] at e;cases e
  refine ⟨⟨hB.ra,hB.rb,by simp [hB.wa],by simp [hB.wb],by simp [hB.pa],by simp [hB.pb],⟨fun n e=>?_,fun n=>?_,fun n e=>?_⟩⟩,rfl,rfl⟩
  ·simp only
   rw [Q20,Q20,hB.wa,hB.wb]
   split
   ·rename_i hh;exact hA (by rw [← hh.1];exact e)
   ·exact hB.mem.pub n e
  ·simp only
   rw [Q6l,Q6l,hB.pa,hB.pb]
   split
   ·rw [List.length_append,List.length_append,hB.mem.plen];rfl
   ·exact hB.mem.plen n
  ·simp only
   rw [Q6l,Q6l,hB.pa,hB.pb]
   split
   ·rename_i hh
    rw [← hh.1,hB.mem.ppub n e,hB.mem.pub n e]
   ·exact hB.mem.ppub n e
theorem Q73 {L:Lab} {i:LIns} (h:i.op=4∨i.op=6∨i.op=7∨i.op=8∨i.op=9∨i.op=11∨i.op=12):labT p L i=L:=by
 unfold labT
 rw [if_neg (by omega),if_neg (by omega),if_neg (by omega),if_pos h]
theorem Qhj {L:Lab} {i:LIns} (h:Q0m i=true):labT p L i=lset L i.a (Q0c p i).secret:=by
 have hop:i.op=3∨i.op=5:=by simpa [Q0m] using h
 unfold labT
 rw [if_neg (by omega),if_neg (by omega),if_pos hop]
theorem Qeq (T:Q80 p Ann) {a b:Plc} {i:LIns} (h:TPl p Ann a b) (hi:p.code[a.at_]? = some i) (h9:i.op≠9):TPl p Ann (Q07 p i a) (Q07 p i b):=by
 obtain ⟨p1,p2,p3,p4⟩:=Q8i T.hard
 have hlt:a.at_ < p.code.length:=(List.getElem?_eq_some_iff.1 hi).1
 obtain ⟨L,mk,hA,he,m1,m2⟩:=h.lab hlt
 have hok:=T.ok _ L mk i hA hi
 have hin:=p4 i (List.mem_of_getElem? hi)
 obtain ⟨g1,g2,g10,g3,g5,g8,g9,g11,go,g7,gop⟩:=Q2e hin
 by_cases h7:i.op=7
 ·rw [Qa3 p a h7,Qa3 p b h7]
  exact Q7h T hA hi rfl (h.base.goTo _ _) (by simp [Q59,h7]) (by rw [Q73 (by omega)];exact he) ⟨Q5h (by omega) _,Q5h (by omega) _⟩
 by_cases h8:i.op=8
 ·have hq:=hok.2.2.1 h8
  rw [Qa4 p a h8,Qa4 p b h8,he.at_ (g8 h8).1 hq.1,he.at_ (g8 h8).2.1 hq.2]
  refine Q7h T hA hi (by simp only [h.at_]) (h.base.goTo _ _) ?_ (by rw [Q73 (by omega)];exact he) ⟨Q5h (by omega) _,Q5h (by omega) _⟩
  unfold Q59
  rw [if_neg (by omega),if_pos h8]
  simp only []
  split <;> simp
 have hsucc:(Q07 p i a).at_ ∈ Q59 a.at_ i:=by
  rw [Q83 p a h7 h8]
  simp [Q59,h7,h8,h9]
 have hat:(Q07 p i a).at_=(Q07 p i b).at_:=by rw [Q83 p a h7 h8,Q83 p b h7 h8,h.at_]
 cases hw:Q1n i
 ·refine Q7h T hA hi hat ?_ hsucc ?_ ?_
  ·rw [Q5r p a hw h7 h8 h9,Q5r p b hw h7 h8 h9]
   exact h.base.regs _ _ (by rw [Q96];exact h.base.ra) (by rw [Q96];exact h.base.rb)
  ·rw [Q5r p a hw h7 h8 h9,Q5r p b hw h7 h8 h9]
   exact Qqo hin h.base.ra h.base.rb he hw h7 h8 h9
  ·rw [Q5r p a hw h7 h8 h9,Q5r p b hw h7 h8 h9]
   exact ⟨Qgu hin h.base.ra hw,Qgu hin h.base.rb hw⟩
 ·have hop:=Q7f hw
  cases hput:Q0s i
  ·have ht:Q0m i=true:=by simpa [Q1n,hput] using hw
   obtain ⟨e1,e2,e3⟩:=Q9r hok hin h.base he hw
   have hc:=(Q35 hin hw).2
   obtain ⟨s1,s2,s3⟩:=Q82 p1 hc (Q9e p1 hok hin m1 hw)
   refine Q7h T hA hi hat ?_ hsucc ?_ ⟨Q5h (by omega) _,Q5h (by omega) _⟩
   ·rw [Q6k p a ht,Q6k p b ht]
    exact h.base.regs _ _ (by rw [Q4w];exact h.base.ra) (by rw [Q4w];exact h.base.rb)
   ·rw [Q6k p a ht,Q6k p b ht,Qhj ht,← e2,← e3]
    refine he.set h.base.ra h.base.rb _ fun e=>?_
    split
    ·exact h.base.mem.pub _ (by rw [s1];exact e)
    ·rfl
  ·obtain ⟨b1,b2,b3⟩:=Qk3 p1 hok hin h.base he m1 hput
   have hop4:i.op=4∨i.op=6:=by simpa [Q0s] using hput
   exact Q7h T hA hi hat b1 hsucc (by rw [b2,b3,Q73 (by omega)];exact he) ⟨Q5h (by omega) _,Q5h (by omega) _⟩
theorem Qk0 (T:Q80 p Ann) {a b:Plc} {i:LIns} (h:TPl p Ann a b) (hi:p.code[a.at_]? = some i) (c:Int):(Q1b p i a c=none∧Q1b p i b c=none)∨∃ x y,Q1b p i a c=some x∧Q1b p i b c=some y∧TPl p Ann x y:=by
 obtain ⟨p1,p2,p3,p4⟩:=Q8i T.hard
 have hlt:a.at_ < p.code.length:=(List.getElem?_eq_some_iff.1 hi).1
 obtain ⟨L,mk,hA,he,m1,m2⟩:=h.lab hlt
 have hok:=T.ok _ L mk i hA hi
 have hin:=p4 i (List.mem_of_getElem? hi)
 obtain ⟨g1,g2,g10,g3,g5,g8,g9,g11,go,g7,gop⟩:=Q2e hin
 by_cases h8:i.op=8
 ·have hq:=hok.2.2.1 h8
  unfold Q1b
  rw [if_pos h8,if_pos h8]
  by_cases hc:c=0
  ·rw [if_pos hc,if_pos hc];exact .inl ⟨rfl,rfl⟩
  ·rw [if_neg hc,if_neg hc,he.at_ (g8 h8).1 hq.1,he.at_ (g8 h8).2.1 hq.2]
   refine .inr ⟨_,_,rfl,rfl,Q7h T hA hi (by simp only [h.at_]) (h.base.goTo _ _) ?_ (by rw [Q73 (by omega)];exact he) ⟨Q5h (by omega) _,Q5h (by omega) _⟩⟩
   unfold Q59
   rw [if_neg (by omega),if_pos h8]
   simp only []
   split <;> simp
 cases ht:Q0m i
 ·unfold Q1b
  rw [if_neg h8,if_neg h8,ht]
  exact .inl ⟨rfl,rfl⟩
 have hw:Q1n i=true:=by simp [Q1n,ht]
 have hop:i.op=3∨i.op=5:=by simpa [Q0m] using ht
 obtain ⟨e1,e2,e3⟩:=Q9r hok hin h.base he hw
 have hc:=(Q35 hin hw).2
 obtain ⟨s1,s2,s3⟩:=Q82 p1 hc (Q9e p1 hok hin m1 hw)
 have hl:=h.base.mem.plen (Q0y p i a).toNat
 have wa:Q1b p i a c=if 0 < c∧c≤(a.past.getD (Q0y p i a).toNat []).length∧Q1z p i a=true then
   some { a with at_:=a.at_+1,regs:=rset (rset a.regs i.a (a.words.getD (Q0y p i a).toNat 0)) i.a ((a.past.getD (Q0y p i a).toNat []).getD ((a.past.getD (Q0y p i a).toNat []).length - c.toNat) 0) } else none:=by
  unfold Q1b
  rw [if_neg (by omega),ht]
  cases Q1z p i a
  ·rw [if_neg (by simp),if_neg (by simp)]
  ·rw [if_pos (by simp)]
   by_cases hcc:0 < c∧c≤(a.past.getD (Q0y p i a).toNat []).length
   ·rw [if_pos hcc,if_pos ⟨hcc.1,hcc.2,rfl⟩]
   ·rw [if_neg hcc,if_neg (by rintro ⟨q1,q2,-⟩;exact hcc ⟨q1,q2⟩)]
 have wb:Q1b p i b c=if 0 < c∧c≤(a.past.getD (Q0y p i a).toNat []).length∧Q1z p i a=true then
   some { b with at_:=b.at_+1,regs:=rset (rset b.regs i.a (b.words.getD (Q0y p i a).toNat 0)) i.a ((b.past.getD (Q0y p i a).toNat []).getD ((a.past.getD (Q0y p i a).toNat []).length - c.toNat) 0) } else none:=by
  unfold Q1b
  rw [if_neg (by omega),ht,← e2,← e3,← hl]
  cases Q1z p i a
  ·rw [if_neg (by simp),if_neg (by simp)]
  ·rw [if_pos (by simp)]
   by_cases hcc:0 < c∧c≤(a.past.getD (Q0y p i a).toNat []).length
   ·rw [if_pos hcc,if_pos ⟨hcc.1,hcc.2,rfl⟩]
   ·rw [if_neg hcc,if_neg (by rintro ⟨q1,q2,-⟩;exact hcc ⟨q1,q2⟩)]
 by_cases hcc:0 < c∧c≤(a.past.getD (Q0y p i a).toNat []).length∧Q1z p i a=true
 ·rw [if_pos hcc] at wa wb
  have e:∀ (r:List Int) (u v:Int),rset (rset r i.a u) i.a v=rset r i.a v:=fun r u v=>by simp [rset]
  rw [e] at wa wb
  refine .inr ⟨_,_,wa,wb,Q7h T hA hi (by simp [h.at_]) (h.base.regs _ _ (by rw [Q4w];exact h.base.ra) (by rw [Q4w];exact h.base.rb)) (by simp [Q59];rw [if_neg (by omega),if_neg (by omega),if_neg (by omega)];simp) ?_ ⟨Q5h (by omega) _,Q5h (by omega) _⟩⟩
  rw [Qhj ht]
  refine he.set h.base.ra h.base.rb _ fun es=>?_
  rw [h.base.mem.ppub _ (by rw [s1];exact es)]
 ·rw [if_neg hcc] at wa wb
  exact .inl ⟨wa,wb⟩
theorem Qeo (T:Q80 p Ann) (C:Int→Prop):Sys p C (TPl p Ann) (TPl p Ann) (Pub p):=by
 obtain ⟨p1,p2,p3,p4⟩:=Q8i T.hard
 refine ⟨fun a b h=>h.at_,fun _ _ h=>h,fun a b h=>h.base.mem.pub,?_,?_,fun a b i c h hi _=>Qk0 T h hi c,fun a b i h hi h9 _=>Qeq T h hi h9,fun a b i h hi h9=>Qeq T h hi h9,?_,?_⟩
 ·intro a b i h hi
  have hlt:a.at_ < p.code.length:=(List.getElem?_eq_some_iff.1 hi).1
  obtain ⟨L,mk,hA,he,m1,m2⟩:=h.lab hlt
  exact (Qep (T.ok _ L mk i hA hi) (p4 i (List.mem_of_getElem? hi)) h.base he).1
 ·intro a b i h hi
  have hlt:a.at_ < p.code.length:=(List.getElem?_eq_some_iff.1 hi).1
  obtain ⟨L,mk,hA,he,m1,m2⟩:=h.lab hlt
  exact (Qep (T.ok _ L mk i hA hi) (p4 i (List.mem_of_getElem? hi)) h.base he).2
 ·intro a b i h hi hw
  have hlt:a.at_ < p.code.length:=(List.getElem?_eq_some_iff.1 hi).1
  obtain ⟨L,mk,hA,he,m1,m2⟩:=h.lab hlt
  have hok:=T.ok _ L mk i hA hi
  exact ⟨Q9e p1 hok (p4 i (List.mem_of_getElem? hi)) m1 hw,Q9e p1 hok (p4 i (List.mem_of_getElem? hi)) m2 hw⟩
 ·intro a b i h hi h9
  have hlt:a.at_ < p.code.length:=(List.getElem?_eq_some_iff.1 hi).1
  obtain ⟨L,mk,hA,he,m1,m2⟩:=h.lab hlt
  obtain ⟨g1,g2,g10,g3,g5,g8,g9,g11,go,g7,gop⟩:=Q2e (p4 i (List.mem_of_getElem? hi))
  exact he.at_ (g9 h9) ((T.ok _ L mk i hA hi).2.2.2.2 h9)
theorem Qk1 (T:Q80 p Ann) (C:Int→Prop) (hC:C 0) {ws wt script:List Int} (hs:∀ c ∈ script,C c) (hl:ws.length=Q14 p) (hm:wt.length=Q14 p) (hp:Pub p ws wt) (h0:∃ L,Ann 0 L none):SRel C (TPl p Ann) (TPl p Ann) (Pub p) (Q0x ws script) (Q0x wt script):=by
 obtain ⟨L,hL⟩:=h0
 refine ⟨rfl,rfl,rfl,rfl,rfl,rfl,rfl,⟨hC,hs⟩,fun _ _=>⟨rfl,⟨by simp [Q0x],by simp [Q0x],hl,hm,by simp [Q0x,hl],by simp [Q0x,hm],hp,fun n=>by simp only [Q0x];rw [hl,hm],fun n _=>by simp only [Q0x];rw [hl,hm]⟩,fun _=>⟨L,none,hL,fun _ _ _=>rfl,Q9d _,Q9d _⟩⟩,fun k=>absurd rfl k,fun k=>by simp [Q0x] at k⟩
theorem Qk2 (T:Q80 p Ann) {ws wt:List Int} (script:List Int) (hl:ws.length=Q14 p) (hm:wt.length=Q14 p) (hp:Pub p ws wt) (h0:∃ L,Ann 0 L none) (k:Nat) :
  (runS p k (Q0x ws script)).seen=(runS p k (Q0x wt script)).seen∧(runS p k (Q0x ws script)).fin=(runS p k (Q0x wt script)).fin∧(runS p k (Q0x ws script)).value=(runS p k (Q0x wt script)).value ∧
   (runS p k (Q0x ws script)).steps=(runS p k (Q0x wt script)).steps∧Pub p (endS (runS p k (Q0x ws script))).pl.words (endS (runS p k (Q0x wt script))).pl.words :=
 Qg0 (Qeo T fun _=>True) (Qc3 (Qeo T fun _=>True) k _ _ (Qk1 T (fun _=>True) trivial (fun _ _=>trivial) hl hm hp h0))
end
section
variable {α β : Type}
def plc (f:α→List β) (l:List α) (k:Nat):Nat:=((l.take k).flatMap f).length
theorem Qab (f:α→List β) (l:List α):plc f l 0=0:=by simp [plc]
theorem Q85 (f:α→List β) (l:List α) {k:Nat} {x:α} (h:l[k]? = some x):plc f l (k+1)=plc f l k+(f x).length:=by
 obtain ⟨hk,rfl⟩:=List.getElem?_eq_some_iff.1 h
 unfold plc
 rw [List.take_succ_eq_append_getElem hk,List.flatMap_append]
 simp
theorem Q69 (f:α→List β) (l:List α) {k:Nat} (h:l.length≤k):plc f l k=(l.flatMap f).length:=by
 unfold plc
 rw [List.take_of_length_le h]
theorem Qcn (f:α→List β) (l:List α) {j k:Nat} (h:j≤k):plc f l j≤plc f l k:=by
 obtain ⟨d,rfl⟩:∃ d,k=j+d:=⟨k - j,by omega⟩
 unfold plc
 rw [List.take_add,List.flatMap_append,List.length_append]
 omega
theorem Qb5 (f:α→List β) (l:List α) {k:Nat} {x:α} (h:l[k]? = some x) (j:Nat) (hj:j < (f x).length):(l.flatMap f)[plc f l k+j]? = (f x)[j]? := by
 obtain ⟨hk,rfl⟩:=List.getElem?_eq_some_iff.1 h
 have e:l=l.take k ++ l[k] :: l.drop (k+1):=by
  rw [← List.drop_eq_getElem_cons hk,List.take_append_drop]
 have e2:l.flatMap f=(l.take k).flatMap f ++ (f l[k] ++ (l.drop (k+1)).flatMap f):=by
  conv=>lhs;rw [e]
  rw [List.flatMap_append,List.flatMap_cons]
 rw [e2]
 unfold plc
 rw [List.getElem?_append_right (by omega),Nat.add_sub_cancel_left,List.getElem?_append_left hj]
theorem Qg7 (f:α→List β) (hf:∀ x,f x≠[]) (l:List α) {k:Nat} (h:k < l.length):plc f l k < (l.flatMap f).length:=by
 have h1:=Q85 f l (List.getElem?_eq_getElem h)
 have h2:=Qcn f l (show k+1≤l.length by omega)
 rw [Q69 f l (Nat.le_refl _)] at h2
 have:=List.length_pos_iff.2 (hf l[k])
 omega
theorem Q6c (f:α→List β) (c:Nat):∀ (l:List α),(∀ x ∈ l,(f x).length≤c)→(l.flatMap f).length≤c * l.length
 | [],_=>by simp
 | x :: l,h=>by
  have h1:=h x (by simp)
  have h2:=Q6c f c l fun y hy=>h y (by simp [hy])
  rw [List.flatMap_cons,List.length_append,List.length_cons,Nat.mul_succ]
  omega
theorem Qii (f:α→List β):∀ (l:List α) (q:Nat),q < (l.flatMap f).length→∃ k x j,l[k]? = some x∧j < (f x).length∧q=plc f l k+j
 | [],q,h=>by simp at h
 | x :: l,q,h=>by
  rcases Nat.lt_or_ge q (f x).length with h1 | h1
  ·exact ⟨0,x,q,by simp,h1,by simp [plc]⟩
  ·rw [List.flatMap_cons,List.length_append] at h
   obtain ⟨k,y,j,e1,e2,e3⟩:=Qii f l (q - (f x).length) (by omega)
   refine ⟨k+1,y,j,by simpa using e1,e2,?_⟩
   unfold plc at e3 ⊢
   rw [List.take_succ_cons,List.flatMap_cons,List.length_append]
   omega
end
def Q1q (p:Q00) (i:LIns):List LIns :=
 if i.op=3∨i.op=4 then [⟨10,8,i.b,0,i.n⟩,⟨11,8,0,0,((Q0e (Q0c p i):Nat):Int)⟩,⟨i.op,i.a,8,i.c,0⟩] else [i]
def Q2t (f:Nat→Nat) (i:LIns):LIns:=if i.op=7∨i.op=8 then { i with n:=(f i.n.toNat:Nat) } else i
def rawH (p:Q00):List LIns:=p.code.flatMap (Q1q p)
def Q0w (p:Q00) (k:Nat):Nat:=plc (Q1q p) p.code k
def Q1h (p:Q00):Q00:=⟨p.regs,(rawH p).map (Q2t (Q0w p))⟩
theorem Qt9 (p:Q00) (i:LIns):Q1q p i≠[]:=by unfold Q1q;split <;> simp
theorem Qbd (p:Q00) (i:LIns):(Q1q p i).length=if i.op=3∨i.op=4 then 3 else 1:=by unfold Q1q;split <;> rfl
theorem Qrz (p:Q00):(Q1h p).code.length≤3 * p.code.length:=by
 simp only [Q1h,rawH,List.length_map]
 refine Q6c (Q1q p) 3 p.code fun x _=>?_
 rw [Qbd]
 split <;> omega
theorem Qa7 {f:Nat→Nat} {i:LIns} (h:¬ (i.op=7∨i.op=8)):Q2t f i=i:=by unfold Q2t;rw [if_neg h]
theorem Qcp {p:Q00} {k:Nat} (h:k < p.code.length):Q0w p k < (Q1h p).code.length:=by
 simp only [Q1h,rawH,List.length_map]
 exact Qg7 _ (Qt9 p) _ h
theorem Qo8 {p:Q00} {k:Nat} (h:p.code.length≤k):Q0w p k=(Q1h p).code.length:=by
 simp only [Q1h,rawH,List.length_map]
 exact Q69 _ _ h
theorem Qdq {p:Q00} {k:Nat} {i:LIns} (h:p.code[k]? = some i) (h3:¬ (i.op=3∨i.op=4)):(Q1h p).code[Q0w p k]? = some (Q2t (Q0w p) i)∧Q0w p (k+1)=Q0w p k+1:=by
 have e:Q1q p i=[i]:=by unfold Q1q;rw [if_neg h3]
 have h1:=Qb5 (Q1q p) p.code h 0 (by rw [e];simp)
 have h2:=Q85 (Q1q p) p.code h
 rw [e] at h1 h2
 refine ⟨?_,h2⟩
 simp only [Q1h,rawH,List.getElem?_map]
 have h1':(p.code.flatMap (Q1q p))[Q0w p k]? = some i:=by simpa [Q0w] using h1
 rw [h1'];rfl
theorem Q7r {p:Q00} {k:Nat} {i:LIns} (h:p.code[k]? = some i) (h3:i.op=3∨i.op=4) :
  (Q1h p).code[Q0w p k]? = some ⟨10,8,i.b,0,i.n⟩∧(Q1h p).code[Q0w p k+1]? = some ⟨11,8,0,0,((Q0e (Q0c p i):Nat):Int)⟩∧(Q1h p).code[Q0w p k+2]? = some ⟨i.op,i.a,8,i.c,0⟩∧Q0w p (k+1)=Q0w p k+3:=by
 have e:Q1q p i=[⟨10,8,i.b,0,i.n⟩,⟨11,8,0,0,((Q0e (Q0c p i):Nat):Int)⟩,⟨i.op,i.a,8,i.c,0⟩]:=by unfold Q1q;rw [if_pos h3]
 have g:=fun j hj=>Qb5 (Q1q p) p.code h j (by rw [e];exact hj)
 have h2:=Q85 (Q1q p) p.code h
 rw [e] at h2
 simp only [e] at g
 have m:∀ (q:Nat) (x:LIns),(p.code.flatMap (Q1q p))[q]? = some x→¬ (x.op=7∨x.op=8)→(Q1h p).code[q]? = some x:=by
  intro q x hq hx
  simp only [Q1h,rawH,List.getElem?_map,hq,Option.map_some,Qa7 hx]
 refine ⟨m _ _ (by simpa [Q0w] using g 0 (by simp)) (by simp),m _ _ (by simpa [Q0w] using g 1 (by simp)) (by simp),m _ _ (by simpa [Q0w] using g 2 (by simp)) ?_,h2⟩
 show ¬ (i.op=7∨i.op=8)
 omega
theorem Qi0 {p q:Q00} (hr:p.regs=q.regs) {R:Int} {i:LIns} (h:Q01 p R i=true) (h7:¬ (i.op=7∨i.op=8)):Q01 q R i=true:=by
 simp only [Q01] at *
 rw [← hr]
 by_cases e7:i.op=7
 ·omega
 by_cases e8:i.op=8
 ·omega
 simp only [e7,e8,if_false] at *
 exact h
theorem Qic {p:Q00} (hm:Q36 p=true):Q5e (Q1h p)=true:=by
 obtain ⟨m1,m2,m3,m4⟩:=Q6a hm
 have hl:=Qrz p
 have hpos:=Qcp (p:=p) (k:=0) (by omega)
 simp only [Q5e,Q46,Bool.and_eq_true,decide_eq_true_eq,List.all_eq_true]
 refine ⟨⟨⟨m1,by omega⟩,by omega⟩,fun x hx=>?_⟩
 obtain ⟨q,hq,rfl⟩:=List.getElem_of_mem hx
 have hq':q < (p.code.flatMap (Q1q p)).length:=by simpa [Q1h,rawH] using hq
 obtain ⟨k,i,j,h1,h2,h3⟩:=Qii (Q1q p) p.code q hq'
 have hi:=m4 i (List.mem_of_getElem? h1)
 have hi10:=Qi1 (S:=10) (by omega) hi
 obtain ⟨g1,g2,g10,g3,g5,g8,g9,g11,go,g7,gop⟩:=Q2e hi
 suffices h:∀ y,(Q1h p).code[q]? = some y→Q01 (Q1h p) 10 y=true from h _ (List.getElem?_eq_getElem hq)
 intro y hy
 by_cases e3:i.op=3∨i.op=4
 ·obtain ⟨a1,a2,a3,a4⟩:=Q7r h1 e3
  rw [Qbd,if_pos e3] at h2
  have hb:=g3 e3
  have hc:=(Q35 hi (by simp only [Q0s,Q0m,Bool.or_eq_true,decide_eq_true_eq];omega))
  have hw:=Q6u (Q0c p i) (Q66 m1 (Q0c p i) (by unfold Q0c;simp [hc.2])).2
  have hw0:=Qem (Q0c p i)
  simp only [Q08] at hb
  have hj:j=0∨j=1∨j=2:=by omega
  have hcr:i.c < p.regs.length:=by omega
  unfold Q0w at a1 a2 a3
  rcases hj with rfl | rfl | rfl
  ·rw [h3,Nat.add_zero,a1] at hy
   obtain rfl:=Option.some.inj hy
   simp [Q01,okIn];omega
  ·rw [h3,a2] at hy
   obtain rfl:=Option.some.inj hy
   simp [Q01,okIn];omega
  ·rw [h3,a3] at hy
   obtain rfl:=Option.some.inj hy
   have hrl:(Q1h p).regs.length=p.regs.length:=rfl
   rcases e3 with e | e <;> simp [Q01,okIn,e] <;> omega
 ·obtain ⟨a1,a2⟩:=Qdq h1 e3
  rw [Qbd,if_neg e3] at h2
  obtain rfl:j=0:=by omega
  unfold Q0w at a1
  rw [h3,Nat.add_zero,a1] at hy
  obtain rfl:=Option.some.inj hy
  by_cases e7:i.op=7∨i.op=8
  ·have ht:=Qcp (g7 e7).2
   unfold Q0w at ht
   unfold Q2t
   rw [if_pos e7]
   simp only [Q01] at hi10 ⊢
   rcases e7 with e | e
   ·simp [e,okIn] at hi10 ⊢;refine ⟨?_,?_⟩ <;> omega
   ·simp [e,okIn] at hi10 ⊢;omega
  ·rw [Qa7 e7]
   exact Qi0 (p:=p) (q:=Q1h p) rfl hi10 e7
def Q2h (s:KSt):Lab:=fun r=>if r < 8 then (s.getD r default).sec else true
inductive AnnH (p:Q00) (T:Tab):Nat→Lab→Option (Int × Int)→Prop
 | at_ (k:Nat) (s:KSt) (h:tg T k=some s):AnnH p T (Q0w p k) (Q2h s) none
 | mask (k:Nat) (s:KSt) (i:LIns) (h:tg T k=some s) (hi:p.code[k]? = some i) (h3:i.op=3∨i.op=4):AnnH p T (Q0w p k+1) (lset (Q2h s) 8 false) none
 | word (k:Nat) (s:KSt) (i:LIns) (h:tg T k=some s) (hi:p.code[k]? = some i) (h3:i.op=3∨i.op=4):AnnH p T (Q0w p k+2) (lset (Q2h s) 8 false) (some (8,((Q0e (Q0c p i):Nat):Int)))
theorem Q6p {s:KSt} {r:Int} (h:okIn 8 r=true):lb (Q2h s) r=(kg s r).sec:=by
 rw [Q08] at h
 unfold lb Q2h kg
 rw [if_pos (by omega)]
theorem Qhg {s:KSt} {r:Int} (h:okIn 8 r=true):lb (lset (Q2h s) 8 false) r=(kg s r).sec:=by
 rw [← Q6p h]
 rw [Q08] at h
 unfold lb lset
 rw [if_neg (by omega)]
theorem Qqp {s t:KSt} (h:Sle s t):Q4b (Q2h s) (Q2h t):=fun j hj e=>by
 unfold Q2h at *
 split
 ·rename_i h8
  rw [if_pos h8] at e
  cases hs:(s.getD j default).sec
  ·rfl
  ·rw [(h j).2 hs] at e;cases e
 ·rename_i h8
  rw [if_neg h8] at e;cases e
theorem Q4b.trans {L M N:Lab} (h:Q4b L M) (k:Q4b M N):Q4b L N:=fun j hj e=>h j hj (k j hj e)
theorem Q9g {s:KSt} (hl:s.length=8) (a:Int) (k:LKn) {L:Lab} (hL:Q4b L (Q2h s)):Q4b (lset L a k.sec) (Q2h (kset s a k)):=fun j hj e=>by
 unfold Q2h at e
 split at e
 ·rename_i h8
  rw [Q5j,hl] at e
  unfold lset
  split
  ·rename_i h
   rw [if_pos ⟨h,h8⟩] at e
   exact e
  ·rename_i h
   rw [if_neg (by omega)] at e
   refine hL j hj ?_
   unfold Q2h
   rw [if_pos h8];exact e
 ·cases e
theorem Qd2 {s:KSt} (hl:s.length=8) (a:Int) (k:LKn) (hk:k.sec=(kg s a).sec):Q4b (Q2h s) (Q2h (kset s a k)):=fun j hj e=>by
 unfold Q2h at *
 split at e
 ·rename_i h8
  rw [if_pos h8]
  rw [Q5j,hl] at e
  by_cases h:j=a.toNat
  ·rw [if_pos ⟨h,h8⟩,hk] at e
   unfold kg at e
   rw [h];exact e
  ·rw [if_neg (by omega)] at e;exact e
 ·cases e
theorem Qhi {s:KSt} (hl:s.length=8) (i:LIns) (c:Bool):Q4b (Q2h s) (Q2h (Q16 s i c)):=by
 simp only [Q16]
 have h1:Q4b (Q2h s) (Q2h (if Q3i i.c c then kset s i.a (Q0r (kg s i.a) (kg s i.b)) else s)):=by
  split
  ·exact Qd2 hl _ _ rfl
  ·exact fun _ _ e=>e
 split
 ·refine h1.trans (Qd2 (by split <;> simp [kset,hl]) _ _ ?_)
  show (kg s i.b).sec=_
  split
  ·unfold kg
   rw [Q5j]
   split
   ·rename_i e2
    show _=(kg s i.a).sec
    unfold kg
    rw [e2.1]
   ·rfl
  ·rfl
 ·exact h1
theorem Qhh {p h:Q00} (hr:h.regs=p.regs) {s:KSt} {i j:LIns} (hok:Q01 p 8 i=true) (hs:Sok s) (h7:i.op≠7) (h8:i.op≠8) (h9:i.op≠9) (ho:j.op=i.op) (ha:j.a=i.a) (hc:j.c=i.c) (hb:j.b=i.b∨i.op=3∨i.op=4) {L:Lab} (hL:Q4b L (Q2h s)) (hL2:∀ r,okIn 8 r=true→lb L r=(kg s r).sec) :
  Q4b (labT h L j) (Q2h (oneK p s i)):=by
 obtain ⟨g1,g2,g10,g3,g5,g8,g9,g11,go,g7,gop⟩:=Q2e hok
 have hreg:Q0c h j=Q0c p i:=by unfold Q0c;rw [hr,hc]
 unfold labT oneK
 rw [ho,ha]
 by_cases e1:i.op=1
 ·rw [if_pos e1,if_pos e1];exact Q9g hs.len _ _ hL
 rw [if_neg e1,if_neg e1]
 by_cases e2:i.op=2
 ·have hb':j.b=i.b:=by omega
  rw [if_pos (.inl e2),if_pos e2,hb',hL2 _ (g2 e2).2];exact Q9g hs.len _ _ hL
 rw [if_neg e2]
 by_cases e10:i.op=10
 ·have hb':j.b=i.b:=by omega
  rw [if_pos (.inr e10),if_pos e10,hb',hL2 _ (g10 e10).2]
  have:(kg s i.b).sec=(ksum (kg s i.b) i.n).sec:=by
   unfold ksum
   split
   ·rfl
   ·simp [kopK,kofK]
  rw [this]
  exact Q9g hs.len _ _ hL
 rw [if_neg (by omega),if_neg e10]
 by_cases e3:i.op=3∨i.op=5
 ·rw [if_pos e3,if_pos e3,hreg]
  exact Q9g hs.len _ ⟨17,(Q0c p i).secret⟩ hL
 rw [if_neg e3,if_neg e3]
 by_cases e11:i.op=11
 ·rw [if_pos (by omega),if_pos e11]
  exact hL.trans (Qd2 hs.len _ _ rfl)
 rw [if_neg e11]
 by_cases e4:i.op=4∨i.op=6∨i.op=12
 ·rw [if_pos (by omega),if_pos e4];exact hL
 rw [if_neg (by omega),if_neg e4]
 have:=go e1 e2 e10 (by omega) (by omega) (by omega) (by omega) h7 h8 h9 e11 (by omega)
 have hb':j.b=i.b:=by omega
 rw [hb',hc,hL2 _ this.2.1,hL2 _ this.2.2.1]
 exact Q9g hs.len _ (kopK (i.op - 20) (kg s i.b) (kg s i.c)) hL
theorem Q9v {q:Nat} {i:LIns} (h7:i.op≠7) (h8:i.op≠8) {q':Nat} (h:q' ∈ Q59 q i):q'=q+1:=by
 unfold Q59 at h
 rw [if_neg h7,if_neg h8] at h
 split at h
 ·simp at h
 ·simpa using h
theorem Q9p {p:Q00} {T:Tab} (S:Q3r p T) {k:Nat} {s:KSt} {i:LIns} (hs:tg T k=some s) (hi:p.code[k]? = some i) {n:Nat} {s':KSt} (hx:(n,s') ∈ Q0f p k s i) (hq:Q0w p n < (Q1h p).code.length) {L:Lab} (hL:Q4b L (Q2h s')) :
  ∃ L' mk',AnnH p T (Q0w p n) L' mk'∧Q4b L L'∧mk'=none:=by
 have hn:n < p.code.length:=by
  rcases Nat.lt_or_ge n p.code.length with h | h
  ·exact h
  ·rw [Qo8 h] at hq;omega
 obtain ⟨t,ht,hl⟩:=S.led hs hi hx hn
 exact ⟨Q2h t,none,.at_ n t ht,hL.trans (Qqp hl),rfl⟩
theorem Qas {p:Q00} {k:Nat} {s:KSt} {i:LIns} (h7:i.op≠7) (h8:i.op≠8) (h9:i.op≠9):(k+1,oneK p s i) ∈ Q0f p k s i:=by
 unfold Q0f;rw [if_neg h7,if_neg h9,if_neg h8];simp
theorem Qqn {p:Q00} {L:Lab} {i:LIns} (h:i.op=2∨i.op=10):labT p L i=lset L i.a (lb L i.b):=by
 unfold labT;rw [if_neg (by omega),if_pos h]
theorem Qrw {p:Q00} {T:Tab} (S:Q3r p T):Q80 (Q1h p) (AnnH p T):=by
 refine ⟨Qic S.may,?_,?_⟩
 ·intro q L mk j hA hj
  cases hA with
  | at_ k s h =>
   have hk:=Q9t S.post.tok h
   have hi:=List.getElem?_eq_getElem hk
   generalize p.code[k]=i at hi
   obtain ⟨hbd,hq⟩:=S.faults h hi
   obtain ⟨hok,hn⟩:=S.ins hi
   obtain ⟨g1,g2,g10,g3,g5,g8,g9,g11,go,g7,gop⟩:=Q2e hok
   by_cases e3:i.op=3∨i.op=4
   ·obtain ⟨a1,a2,a3,a4⟩:=Q7r hi e3
    rw [a1] at hj
    obtain rfl:=Option.some.inj hj
    simp [okT]
   ·obtain ⟨a1,a2⟩:=Qdq hi e3
    rw [a1] at hj
    obtain rfl:=Option.some.inj hj
    have eop:(Q2t (Q0w p) i).op=i.op∧(Q2t (Q0w p) i).a=i.a∧(Q2t (Q0w p) i).b=i.b∧(Q2t (Q0w p) i).c=i.c:=by unfold Q2t;split <;> simp
    obtain ⟨r1,r2,r3,r4⟩:=eop
    unfold okT
    rw [r1,r2,r3,r4]
    have hreg:Q0c (Q1h p) (Q2t (Q0w p) i)=Q0c p i:=by unfold Q0c;rw [r4];rfl
    refine ⟨fun e=>absurd e e3,fun e hl=>?_,fun e=>?_,fun e=>?_,fun e=>?_⟩
    ·have e6:i.op=6:=by omega
     rw [Q6p (g5 (.inr e6))] at hl
     rw [hreg]
     simpa [Q0t,e6,hl] using hq
    ·rw [Q6p (g8 e).1,Q6p (g8 e).2.1]
     simpa [Q0t,e] using hq
    ·have:=go (by omega) (by omega) (by omega) (by omega) (by omega) (by omega) (by omega) (by omega) (by omega) (by omega) (by omega) (by omega)
     rw [Q6p this.2.1,Q6p this.2.2.1]
     rcases e with e | e <;> simpa [Q0t,e] using hq
    ·rw [Q6p (g9 e)]
     simpa [Q0t,e] using hq
  | mask k s i h hi h3 =>
   obtain ⟨a1,a2,a3,a4⟩:=Q7r hi h3
   rw [a2] at hj
   obtain rfl:=Option.some.inj hj
   simp [okT]
  | word k s i h hi h3 =>
   obtain ⟨a1,a2,a3,a4⟩:=Q7r hi h3
   rw [a3] at hj
   obtain rfl:=Option.some.inj hj
   obtain ⟨hbd,hq⟩:=S.faults h hi
   obtain ⟨hok,hn⟩:=S.ins hi
   obtain ⟨g1,g2,g10,g3,g5,g8,g9,g11,go,g7,gop⟩:=Q2e hok
   refine ⟨fun _=>⟨rfl,rfl,rfl⟩,fun e hl=>?_,fun e=>?_,fun e=>?_,fun e=>?_⟩
   ·simp only at e hl ⊢
    have e4:i.op=4:=by omega
    rw [Qhg (g3 h3).1] at hl
    show (Q0c p i).secret=true
    have:=hq
    simp [Q0t,e4,hl] at this
    exact this.2
   ·simp only at e;omega
   ·simp only at e;omega
   ·simp only at e;omega
 ·intro q L mk j hA hj q' hq' hlt
  cases hA with
  | at_ k s h =>
   have hk:=Q9t S.post.tok h
   have hi:=List.getElem?_eq_getElem hk
   generalize p.code[k]=i at hi
   obtain ⟨hok,hn⟩:=S.ins hi
   obtain ⟨g1,g2,g10,g3,g5,g8,g9,g11,go,g7,gop⟩:=Q2e hok
   have hS:=S.post.tok.ok _ _ h
   by_cases e3:i.op=3∨i.op=4
   ·obtain ⟨a1,a2,a3,a4⟩:=Q7r hi e3
    rw [a1] at hj
    obtain rfl:=Option.some.inj hj
    obtain rfl:=Q9v (by simp) (by simp) hq'
    refine ⟨_,none,.mask k s i h hi e3,?_,.inl rfl⟩
    rw [Qqn (by simp)]
    simp only
    obtain ⟨hbd,hq⟩:=S.faults h hi
    have hb:(kg s i.b).sec=false:=by
     rcases e3 with e | e
     ·simpa [Q0t,e] using hq
     ·simp [Q0t,e] at hq;exact hq.1
    rw [Q6p (g3 e3).2,hb]
    exact fun _ _ e=>e
   ·obtain ⟨a1,a2⟩:=Qdq hi e3
    rw [a1] at hj
    obtain rfl:=Option.some.inj hj
    by_cases e7:i.op=7
    ·have er:Q2t (Q0w p) i={ i with n:=(Q0w p i.n.toNat:Nat) }:=by unfold Q2t;rw [if_pos (.inl e7)]
     rw [er] at hq' ⊢
     unfold Q59 at hq'
     rw [if_pos e7] at hq'
     simp at hq'
     subst hq'
     obtain ⟨L',mk',b1,b2,b3⟩:=Q9p S h hi (n:=i.n.toNat) (s':=s) (by unfold Q0f;rw [if_pos e7];simp) hlt (fun _ _ e=>e)
     exact ⟨L',mk',b1,by rw [Q73 (by simp only;omega)];exact b2,.inl b3⟩
    by_cases e8:i.op=8
    ·have er:Q2t (Q0w p) i={ i with n:=(Q0w p i.n.toNat:Nat) }:=by unfold Q2t;rw [if_pos (.inr e8)]
     rw [er] at hq' ⊢
     unfold Q59 at hq'
     rw [if_neg e7,if_pos e8] at hq'
     simp at hq'
     have hl8:(k+1,Q16 s i false) ∈ Q0f p k s i∧(i.n.toNat,Q16 s i true) ∈ Q0f p k s i:=by
      unfold Q0f;rw [if_neg e7,if_neg (by omega),if_pos e8];simp
     rcases hq' with rfl | rfl
     ·rw [← a2] at hlt ⊢
      obtain ⟨L',mk',b1,b2,b3⟩:=Q9p S h hi hl8.1 hlt (Qhi hS.len i false)
      exact ⟨L',mk',b1,by rw [Q73 (by simp only;omega)];exact b2,.inl b3⟩
     ·obtain ⟨L',mk',b1,b2,b3⟩:=Q9p S h hi hl8.2 hlt (Qhi hS.len i true)
      exact ⟨L',mk',b1,by rw [Q73 (by simp only;omega)];exact b2,.inl b3⟩
    have er:Q2t (Q0w p) i=i:=Qa7 (by omega)
    rw [er] at hq' ⊢
    by_cases e9:i.op=9
    ·unfold Q59 at hq'
     rw [if_neg e7,if_neg e8,if_pos e9] at hq'
     simp at hq'
    obtain rfl:=Q9v e7 e8 hq'
    rw [← a2] at hlt ⊢
    obtain ⟨L',mk',b1,b2,b3⟩:=Q9p S h hi (Qas e7 e8 e9) hlt (Qhh (h:=Q1h p) (p:=p) (j:=i) rfl hok hS e7 e8 e9 rfl rfl rfl (.inl rfl) (L:=Q2h s) (fun _ _ e=>e) (fun r hr=>Q6p hr))
    exact ⟨L',mk',b1,b2,.inl b3⟩
  | mask k s i h hi h3 =>
   obtain ⟨a1,a2,a3,a4⟩:=Q7r hi h3
   rw [a2] at hj
   obtain rfl:=Option.some.inj hj
   obtain rfl:=Q9v (by simp) (by simp) hq'
   refine ⟨_,_,.word k s i h hi h3,?_,.inr rfl⟩
   rw [Q73 (by simp)]
   exact fun _ _ e=>e
  | word k s i h hi h3 =>
   obtain ⟨a1,a2,a3,a4⟩:=Q7r hi h3
   rw [a3] at hj
   obtain rfl:=Option.some.inj hj
   obtain ⟨hok,hn⟩:=S.ins hi
   have hS:=S.post.tok.ok _ _ h
   obtain rfl:=Q9v (by simp only;omega) (by simp only;omega) hq'
   rw [show Q0w p k+2+1=Q0w p (k+1) by omega] at hlt ⊢
   have h8le:Q4b (lset (Q2h s) 8 false) (Q2h s):=fun j hj e=>by
    unfold lset
    split
    ·rfl
    ·exact e
   obtain ⟨L',mk',b1,b2,b3⟩:=Q9p S h hi (Qas (by omega) (by omega) (by omega)) hlt (Qhh (h:=Q1h p) (p:=p) (j:=⟨i.op,i.a,8,i.c,0⟩) rfl hok hS (by omega) (by omega) (by omega) rfl rfl rfl (.inr h3) h8le (fun r hr=>Qhg hr))
   exact ⟨L',mk',b1,b2,.inl b3⟩
theorem Qrx {p:Q00} {T:Tab} (S:Q3r p T) {ws wt:List Int} (script:List Int) (hl:ws.length=Q14 p) (hm:wt.length=Q14 p) (hp:Pub p ws wt) (k:Nat) :
  (runS (Q1h p) k (Q0x ws script)).seen=(runS (Q1h p) k (Q0x wt script)).seen∧(runS (Q1h p) k (Q0x ws script)).fin=(runS (Q1h p) k (Q0x wt script)).fin∧(runS (Q1h p) k (Q0x ws script)).value=(runS (Q1h p) k (Q0x wt script)).value ∧
   (runS (Q1h p) k (Q0x ws script)).steps=(runS (Q1h p) k (Q0x wt script)).steps∧Pub p (endS (runS (Q1h p) k (Q0x ws script))).pl.words (endS (runS (Q1h p) k (Q0x wt script))).pl.words:=by
 obtain ⟨s0,e0,l0⟩:=S.post.first
 exact Qk2 (Qrw S) script hl hm hp ⟨_,by simpa [Q0w,Qab] using AnnH.at_ (p:=p) (T:=T) 0 s0 e0⟩ k
def fenI:LIns:=⟨12,0,0,0,0⟩
def Q0l (i:LIns):List LIns:=if i.op=8 then [i,fenI] else [i]
def Q0k (p:Q00) (k:Nat):Nat:=plc Q0l p.code k
def rawF (p:Q00):Nat:=(p.code.flatMap Q0l).length
def Q2x (p:Q00) (i:LIns):List LIns:=if i.op=8 then [fenI,⟨7,0,0,0,(Q0k p i.n.toNat:Nat)⟩] else []
def Q3k (p:Q00) (k:Nat):Nat:=rawF p+plc (Q2x p) p.code k
def relF (p:Q00) (k:Nat) (i:LIns):LIns:=if i.op=7 then { i with n:=(Q0k p i.n.toNat:Nat) } else if i.op=8 then { i with n:=(Q3k p k:Nat) } else i
def Qap (p:Q00):List LIns:=p.code.zipIdx.flatMap fun x=>Q0l (relF p x.2 x.1)
def Q12 (p:Q00):Q00:=⟨p.regs,Qap p ++ p.code.flatMap (Q2x p)⟩
theorem Q40 (p:Q00) (k:Nat) (i:LIns):(relF p k i).op=i.op∧(relF p k i).a=i.a∧(relF p k i).b=i.b∧(relF p k i).c=i.c:=by
 unfold relF
 split
 ·simp
 ·split <;> simp
theorem Q92 {p:Q00} {k:Nat} {i:LIns} (h7:i.op≠7) (h8:i.op≠8):relF p k i=i:=by
 unfold relF;rw [if_neg h7,if_neg h8]
theorem Q5l (i:LIns):(Q0l i).length=if i.op=8 then 2 else 1:=by unfold Q0l;split <;> rfl
theorem Qta (i:LIns):Q0l i≠[]:=by unfold Q0l;split <;> simp
theorem Qbl {p:Q00} {k:Nat} {i:LIns} (h:p.code[k]? = some i):p.code.zipIdx[k]? = some (i,k):=by
 rw [List.getElem?_zipIdx,h];simp
theorem Q97 (p:Q00):∀ k,plc (fun x:LIns × Nat=>Q0l (relF p x.2 x.1)) p.code.zipIdx k=Q0k p k
 | 0=>by rw [Qab];exact (Qab _ _).symm
 | k+1=>by
  rcases Nat.lt_or_ge k p.code.length with h | h
  ·have hi:=List.getElem?_eq_getElem h
   have e1:=Q85 (fun x:LIns × Nat=>Q0l (relF p x.2 x.1)) p.code.zipIdx (Qbl hi)
   have e2:=Q85 Q0l p.code hi
   have ih:=Q97 p k
   unfold Q0k at ih ⊢
   rw [e1,e2,ih,Q5l,Q5l,(Q40 p k _).1]
  ·have e1:plc (fun x:LIns × Nat=>Q0l (relF p x.2 x.1)) p.code.zipIdx (k+1)=plc (fun x:LIns × Nat=>Q0l (relF p x.2 x.1)) p.code.zipIdx k:=by
    rw [Q69 _ _ (by simp;omega),Q69 _ _ (by simp;omega)]
   have e2:plc Q0l p.code (k+1)=plc Q0l p.code k:=by
    rw [Q69 _ _ (by omega),Q69 _ _ (by omega)]
   have ih:=Q97 p k
   unfold Q0k at ih ⊢
   rw [e1,e2,ih]
theorem Qao (p:Q00):(Qap p).length=rawF p:=by
 have h:=Q97 p p.code.length
 unfold Q0k at h
 rw [Q69 _ _ (by simp),Q69 _ _ (Nat.le_refl _)] at h
 exact h
theorem Qg9 (p:Q00) (k:Nat):Q0k p k≤rawF p:=by
 have h:=Qcn Q0l p.code (show k≤max k p.code.length by omega)
 rw [Q69 Q0l p.code (show p.code.length≤max k p.code.length by omega)] at h
 exact h
theorem Q87 {p:Q00} {k:Nat} (h:k < p.code.length):Q0k p k < rawF p:=Qg7 _ Qta _ h
theorem Qae {p:Q00} {k:Nat} {i:LIns} (h:p.code[k]? = some i):Q0k p (k+1)=Q0k p k+if i.op=8 then 2 else 1:=by
 have:=Q85 Q0l p.code h
 rw [Q5l] at this
 exact this
theorem Qdx (p:Q00):(Q12 p).code.length=rawF p+(p.code.flatMap (Q2x p)).length:=by
 simp [Q12,Qao]
theorem Q8n (p:Q00):(Q12 p).code.length≤4 * p.code.length:=by
 rw [Qdx]
 have h1:=Q6c Q0l 2 p.code fun x _=>by rw [Q5l];split <;> omega
 have h2:=Q6c (Q2x p) 2 p.code fun x _=>by unfold Q2x;split <;> simp
 unfold rawF
 omega
theorem Qh3 {p:Q00} {k:Nat} {i:LIns} (h:p.code[k]? = some i) (j:Nat) (hj:j < (Q0l i).length):(Q12 p).code[Q0k p k+j]? = (Q0l (relF p k i))[j]? := by
 have hl:(Q0l (relF p k i)).length=(Q0l i).length:=by rw [Q5l,Q5l,(Q40 p k i).1]
 have h1:=Qb5 (fun x:LIns × Nat=>Q0l (relF p x.2 x.1)) p.code.zipIdx (Qbl h) j (by simpa [hl] using hj)
 rw [Q97] at h1
 have h2:=Qae h
 have h3:=Qg9 p (k+1)
 rw [Q5l] at hj
 simp only [Q12]
 rw [List.getElem?_append_left (by rw [Qao];omega)]
 exact h1
theorem Qdy {p:Q00} {k:Nat} {i:LIns} (h:p.code[k]? = some i):(Q12 p).code[Q0k p k]? = some (relF p k i)∧(i.op=8→(Q12 p).code[Q0k p k+1]? = some fenI):=by
 have h0:=Qh3 h 0 (by rw [Q5l];split <;> omega)
 refine ⟨?_,fun h8=>?_⟩
 ·rw [Nat.add_zero] at h0
  rw [h0]
  unfold Q0l
  split <;> rfl
 ·rw [Qh3 h 1 (by rw [Q5l,if_pos h8];omega)]
  unfold Q0l
  rw [if_pos (by rw [(Q40 p k i).1];exact h8)]
  rfl
theorem Qba {p:Q00} {k:Nat} {i:LIns} (h:p.code[k]? = some i) (h8:i.op=8):(Q12 p).code[Q3k p k]? = some fenI∧(Q12 p).code[Q3k p k+1]? = some ⟨7,0,0,0,(Q0k p i.n.toNat:Nat)⟩:=by
 have e:Q2x p i=[fenI,⟨7,0,0,0,(Q0k p i.n.toNat:Nat)⟩]:=by unfold Q2x;rw [if_pos h8]
 have g:=fun j hj=>Qb5 (Q2x p) p.code h j (by rw [e];exact hj)
 simp only [e] at g
 have m:∀ j x,(p.code.flatMap (Q2x p))[plc (Q2x p) p.code k+j]? = some x→(Q12 p).code[Q3k p k+j]? = some x:=by
  intro j x hx
  simp only [Q12]
  unfold Q3k
  rw [List.getElem?_append_right (by rw [Qao];omega),Qao,show rawF p+plc (Q2x p) p.code k+j - rawF p=plc (Q2x p) p.code k+j by omega]
  exact hx
 exact ⟨by simpa using m 0 _ (by simpa using g 0 (by simp)),m 1 _ (by simpa using g 1 (by simp))⟩
theorem Qsc {p:Q00} (hm:Q36 p=true):Q5e (Q12 p)=true:=by
 obtain ⟨m1,m2,m3,m4⟩:=Q6a hm
 have hl:=Q8n p
 have hpos:=Q87 (p:=p) (k:=0) (by omega)
 have hfl:=Qdx p
 have hfen:Q01 (Q12 p) 10 fenI=true:=by simp [Q01,okIn,fenI]
 simp only [Q5e,Q46,Bool.and_eq_true,decide_eq_true_eq,List.all_eq_true]
 refine ⟨⟨⟨m1,by omega⟩,by omega⟩,fun x hx=>?_⟩
 have hx':x ∈ Qap p∨x ∈ p.code.flatMap (Q2x p):=by simpa [Q12] using hx
 rcases hx' with hx' | hx'
 ·obtain ⟨⟨i,k⟩,hik,hxb⟩:=List.mem_flatMap.1 hx'
  have hk:p.code[k]? = some i:=by
   have:=List.mem_zipIdx_iff_getElem?.1 hik
   simpa using this
  have hi:=m4 i (List.mem_of_getElem? hk)
  have hi10:=Qi1 (S:=10) (by omega) hi
  obtain ⟨g1,g2,g10,g3,g5,g8,g9,g11,go,g7,gop⟩:=Q2e hi
  have hrel:Q01 (Q12 p) 10 (relF p k i)=true:=by
   by_cases e7:i.op=7
   ·have ht:=Q87 (g7 (.inl e7)).2
    unfold relF
    rw [if_pos e7]
    simp only [Q01] at hi10 ⊢
    simp [e7,okIn] at hi10 ⊢;omega
   by_cases e8:i.op=8
   ·have ht:=(List.getElem?_eq_some_iff.1 (Qba hk e8).1).1
    unfold relF
    rw [if_neg e7,if_pos e8]
    simp only [Q01] at hi10 ⊢
    simp [e8,okIn] at hi10 ⊢;omega
   rw [Q92 e7 e8]
   exact Qi0 (p:=p) (q:=Q12 p) rfl hi10 (by omega)
  unfold Q0l at hxb
  split at hxb
  ·simp at hxb
   rcases hxb with rfl | rfl
   ·exact hrel
   ·exact hfen
  ·simp at hxb
   subst hxb
   exact hrel
 ·obtain ⟨i,hi,hxb⟩:=List.mem_flatMap.1 hx'
  unfold Q2x at hxb
  split at hxb
  ·rename_i h8
   have hi':=m4 i hi
   obtain ⟨g1,g2,g10,g3,g5,g8,g9,g11,go,g7,gop⟩:=Q2e hi'
   have ht:=Q87 (g7 (.inr h8)).2
   simp at hxb
   rcases hxb with rfl | rfl
   ·exact hfen
   ·simp [Q01,okIn];omega
  ·simp at hxb
inductive PosF (p:Q00):Nat→Nat→Prop
 | at_ (k:Nat):PosF p (Q0k p k) k
 | fen (k:Nat) (i:LIns) (hi:p.code[k]? = some i) (h8:i.op=8):PosF p (Q0k p k+1) (k+1)
 | other (k:Nat) (i:LIns) (hi:p.code[k]? = some i) (h8:i.op=8):PosF p (Q3k p k) i.n.toNat
 | jump (k:Nat) (i:LIns) (hi:p.code[k]? = some i) (h8:i.op=8):PosF p (Q3k p k+1) i.n.toNat
def INF (p:Q00) (T:Tab) (a b:Plc):Prop:=a.at_=b.at_∧∃ k s,PosF p a.at_ k∧tg T k=some s∧Pair p s a b
def IAF (p:Q00) (T:Tab) (a b:Plc):Prop:=INF p T a b∨(a.at_=b.at_∧(Q12 p).code[a.at_]? = some fenI)
theorem INF.to {p:Q00} {T:Tab} (h:Q3r p T) {k:Nat} {s s':KSt} {i:LIns} (hk:tg T k=some s) (hi:p.code[k]? = some i) {a b:Plc} {n:Nat} (hx:(n,s') ∈ Q0f p k s i) (hn:n < p.code.length) (hP:Pair p s' a b) (hab:a.at_=b.at_) (hpos:PosF p a.at_ n):INF p T a b:=by
 obtain ⟨t,ht,hl⟩:=h.led hk hi hx hn
 exact ⟨hab,n,t,hpos,ht,hP.mono (Q8d p k (h.post.tok.ok k s hk) i _ hx) (h.post.tok.ok _ _ ht) hl⟩
theorem INF.keep {p:Q00} {T:Tab} {k:Nat} {s:KSt} (hk:tg T k=some s) {a b:Plc} (hP:Pair p s a b) {m n:Nat} (hmn:m=n) (hpos:PosF p m k):INF p T { a with at_:=m } { b with at_:=n }:=⟨hmn,k,s,hpos,hk,hP.goTo _ _⟩
theorem Q54 {p:Q00} (a:Plc) (c:Int):Q24 p fenI a=false∧Q2s p fenI a=[]∧Q1b p fenI a c=none∧Q07 p fenI a={ a with at_:=a.at_+1 }:=by
 refine ⟨by simp [Q24,fenI,Q0m],by simp [Q2s,fenI],by simp [Q1b,fenI,Q0m],by simp [Q07,fenI]⟩
theorem Q75 {p:Q00} (a:Plc) (c:Int) (n:Nat):Q24 p ⟨7,0,0,0,(n:Nat)⟩ a=false∧Q2s p ⟨7,0,0,0,(n:Nat)⟩ a=[]∧Q1b p ⟨7,0,0,0,(n:Nat)⟩ a c=none∧Q07 p ⟨7,0,0,0,(n:Nat)⟩ a={ a with at_:=n }:=by
 refine ⟨by simp [Q24,Q0m],by simp [Q2s],by simp [Q1b,Q0m],by simp [Q07]⟩
theorem Q84 {p:Q00} {T:Tab} (S:Q3r p T) {q k:Nat} {s:KSt} (h:PosF p q k) (hk:tg T k=some s) {x:LIns} (hx:(Q12 p).code[q]? = some x) :
  (∃ i,q=Q0k p k∧p.code[k]? = some i∧x=relF p k i)∨(x=fenI∧PosF p (q+1) k)∨x=⟨7,0,0,0,(Q0k p k:Nat)⟩:=by
 cases h with
 | at_ =>
  have hl:=Q9t S.post.tok hk
  have hi:=List.getElem?_eq_getElem hl
  rw [(Qdy hi).1] at hx
  exact .inl ⟨_,rfl,hi,(Option.some.inj hx).symm⟩
 | fen k i hi h8 =>
  rw [(Qdy hi).2 h8] at hx
  refine .inr (.inl ⟨(Option.some.inj hx).symm,?_⟩)
  have:=Qae hi
  rw [if_pos h8] at this
  rw [show Q0k p k+1+1=Q0k p (k+1) by omega]
  exact .at_ _
 | other k i hi h8 =>
  rw [(Qba hi h8).1] at hx
  exact .inr (.inl ⟨(Option.some.inj hx).symm,.jump k i hi h8⟩)
 | jump k i hi h8 =>
  rw [(Qba hi h8).2] at hx
  exact .inr (.inr (Option.some.inj hx).symm)
theorem Q93 {p:Q00} (a:Plc) (k:Nat) (i:LIns):Q24 (Q12 p) (relF p k i) a=Q24 p i a∧Q2s (Q12 p) (relF p k i) a=Q2s p i a∧Q1n (relF p k i)=Q1n i:=by
 by_cases h7:i.op=7
 ·have e:(relF p k i).op=7:=by rw [(Q40 p k i).1,h7]
  exact ⟨by simp [Q24,e,h7,Q0m],by simp [Q2s,e,h7],by simp [Q1n,Q0s,Q0m,e,h7]⟩
 by_cases h8:i.op=8
 ·have e:(relF p k i).op=8:=by rw [(Q40 p k i).1,h8]
  exact ⟨by simp [Q24,e,h8,Q0m],by simp [Q2s,e,h8],by simp [Q1n,Q0s,Q0m,e,h8]⟩
 rw [Q92 h7 h8]
 exact ⟨rfl,rfl,rfl⟩
theorem Qei (p:Q00) (a:Plc) {i:LIns} (h8:i.op=8) (c:Int):Q1b p i a c=if c=0 then none else some { a with at_:=if Q3d i.c (rg a.regs i.a) (rg a.regs i.b) then a.at_+1 else i.n.toNat }:=by
 unfold Q1b
 rw [if_pos h8]
theorem Qip {p:Q00} {T:Tab} (S:Q3r p T):Sys (Q12 p) (fun _=>True) (INF p T) (IAF p T) (Pub p):=by
 have hregs:=(Q6a S.may).1
 have rightN:∀ a b i,INF p T a b→(Q12 p).code[a.at_]? = some i→i.op≠9→INF p T (Q07 (Q12 p) i a) (Q07 (Q12 p) i b):=by
  rintro a b x ⟨hab,k,s,hpos,hk,hP⟩ hx h9
  rcases Q84 S hpos hk hx with ⟨i,hq,hi,rfl⟩ | ⟨rfl,hpos'⟩ | rfl
  ·obtain ⟨hok,hn⟩:=S.ins hi
   obtain ⟨hbd,hq'⟩:=S.faults hk hi
   obtain ⟨g1,g2,g10,g3,g5,g8,g9,g11,go,g7,gop⟩:=Q2e hok
   have hS:=S.post.tok.ok _ _ hk
   have asucc:=Qae hi
   rw [(Q40 p k i).1] at h9
   by_cases h7:i.op=7
   ·have er:relF p k i={ i with n:=(Q0k p i.n.toNat:Nat) }:=by unfold relF;rw [if_pos h7]
    rw [Qa3 _ a (i:=relF p k i) (by rw [er];exact h7),Qa3 _ b (i:=relF p k i) (by rw [er];exact h7),er]
    refine INF.to S hk hi (n:=i.n.toNat) (s':=s) (by unfold Q0f;rw [if_pos h7];simp) (g7 (.inl h7)).2 (hP.goTo _ _) rfl ?_
    simp only [Int.toNat_natCast]
    exact .at_ _
   ·have hnx:=S.next hk hi h7 h9
    by_cases h8:i.op=8
    ·have er:relF p k i={ i with n:=(Q3k p k:Nat) }:=by unfold relF;rw [if_neg h7,if_pos h8]
     obtain ⟨e,hB⟩:=Qgg hok hS hq' hP h8
     rw [Qa4 _ a (i:=relF p k i) (by rw [er];exact h8),Qa4 _ b (i:=relF p k i) (by rw [er];exact h8),(Q40 p k i).2.1,(Q40 p k i).2.2.1,(Q40 p k i).2.2.2,← e,er]
     have hl8:(k+1,Q16 s i false) ∈ Q0f p k s i∧(i.n.toNat,Q16 s i true) ∈ Q0f p k s i:=by
      unfold Q0f;rw [if_neg h7,if_neg h9,if_pos h8];simp
     generalize Q3d i.c (rg a.regs i.a) (rg a.regs i.b)=hold at *
     cases hold
     ·refine INF.to S hk hi hl8.1 hnx (hB.goTo _ _) (by simp [hab]) ?_
      simp only [Bool.false_eq_true,if_false]
      rw [hq]
      exact .fen k i hi h8
     ·refine INF.to S hk hi hl8.2 (g7 (.inr h8)).2 (hB.goTo _ _) (by simp) ?_
      simp only [if_true,Int.toNat_natCast]
      exact .other k i hi h8
    ·rw [Q92 h7 h8]
     have:=Qoe hregs hok hn hS hq' hP (fun hw=>S.inside hk hi hP.ga.sat hw) h7 h8 h9
     refine INF.to S hk hi (Qas h7 h8 h9) hnx this (by rw [Q83 _ a h7 h8,Q83 _ b h7 h8,hab]) ?_
     rw [Q83 _ a h7 h8,hq]
     rw [if_neg h8] at asucc
     rw [← asucc]
     exact .at_ _
  ·rw [(Q54 (p:=Q12 p) a 0).2.2.2,(Q54 (p:=Q12 p) b 0).2.2.2]
   exact INF.keep hk hP (by rw [hab]) hpos'
  ·rw [(Q75 (p:=Q12 p) a 0 _).2.2.2,(Q75 (p:=Q12 p) b 0 _).2.2.2]
   exact INF.keep hk hP rfl (.at_ _)
 have wrong:∀ a b i c,IAF p T a b→(Q12 p).code[a.at_]? = some i→True→(Q1b (Q12 p) i a c=none∧Q1b (Q12 p) i b c=none)∨∃ x y,Q1b (Q12 p) i a c=some x∧Q1b (Q12 p) i b c=some y∧IAF p T x y:=by
  rintro a b x c (⟨hab,k,s,hpos,hk,hP⟩ | ⟨hab,hf⟩) hx -
  ·rcases Q84 S hpos hk hx with ⟨i,hq,hi,rfl⟩ | ⟨rfl,hpos'⟩ | rfl
   ·obtain ⟨hok,hn⟩:=S.ins hi
    obtain ⟨hbd,hq'⟩:=S.faults hk hi
    have hS:=S.post.tok.ok _ _ hk
    have asucc:=Qae hi
    obtain ⟨a1,a8⟩:=Qdy hi
    by_cases h8:i.op=8
    ·obtain ⟨t1,t2⟩:=Qba hi h8
     have er:relF p k i={ i with n:=(Q3k p k:Nat) }:=by unfold relF;rw [if_neg (by omega),if_pos h8]
     obtain ⟨e,hB⟩:=Qgg hok hS hq' hP h8
     rw [Qei _ a (i:=relF p k i) (by rw [er];exact h8),Qei _ b (i:=relF p k i) (by rw [er];exact h8),(Q40 p k i).2.1,(Q40 p k i).2.2.1,(Q40 p k i).2.2.2,← e,er]
     by_cases hc:c=0
     ·rw [if_pos hc,if_pos hc];exact .inl ⟨rfl,rfl⟩
     ·rw [if_neg hc,if_neg hc]
      refine .inr ⟨_,_,rfl,rfl,.inr ?_⟩
      generalize Q3d i.c (rg a.regs i.a) (rg a.regs i.b)=hold at *
      cases hold
      ·simp only [Bool.false_eq_true,if_false,Int.toNat_natCast]
       exact ⟨trivial,t1⟩
      ·simp only [if_true]
       rw [← hab,hq]
       exact ⟨rfl,a8 h8⟩
    ·cases ht:Q0m i
     ·have hnt:Q0m (relF p k i)=false:=by
       have e:=(Q40 p k i).1
       simp only [Q0m,e] at ht ⊢;exact ht
      unfold Q1b
      rw [(Q40 p k i).1,if_neg h8,if_neg h8,hnt]
      exact .inl ⟨rfl,rfl⟩
     ·have hop:i.op=3∨i.op=5:=by simpa [Q0m] using ht
      rw [Q92 (by omega) h8]
      rcases Qoc hregs hok hS hq' hP (fun hw=>S.inside hk hi hP.ga.sat hw) ht c with h | ⟨x,y,hx1,hy1,hP',ex,ey⟩
      ·exact .inl h
      ·refine .inr ⟨x,y,hx1,hy1,.inl ?_⟩
       refine INF.to S hk hi (Qas (by omega) (by omega) (by omega)) (S.next hk hi (by omega) (by omega)) hP' (by rw [ex,ey,hab]) ?_
       rw [ex,hq]
       rw [if_neg h8] at asucc
       rw [← asucc]
       exact .at_ _
   ·exact .inl ⟨(Q54 (p:=Q12 p) a c).2.2.1,(Q54 (p:=Q12 p) b c).2.2.1⟩
   ·exact .inl ⟨(Q75 (p:=Q12 p) a c _).2.2.1,(Q75 (p:=Q12 p) b c _).2.2.1⟩
  ·rw [hf] at hx
   obtain rfl:=Option.some.inj hx
   exact .inl ⟨(Q54 (p:=Q12 p) a c).2.2.1,(Q54 (p:=Q12 p) b c).2.2.1⟩
 refine ⟨?_,fun _ _ h=>.inl h,?_,?_,?_,wrong,?_,rightN,?_,?_⟩
 ·rintro a b (h | h)
  ·exact h.1
  ·exact h.1
 ·rintro a b ⟨hab,k,s,hpos,hk,hP⟩
  exact hP.mem.pub
 ·rintro a b x (⟨hab,k,s,hpos,hk,hP⟩ | ⟨hab,hf⟩) hx
  ·rcases Q84 S hpos hk hx with ⟨i,hq,hi,rfl⟩ | ⟨rfl,hpos'⟩ | rfl
   ·rw [(Q93 a k i).1,(Q93 b k i).1]
    exact (Qgf (S.ins hi).1 (S.faults hk hi).2 hP).1
   ·rw [(Q54 a 0).1,(Q54 b 0).1]
   ·rw [(Q75 a 0 _).1,(Q75 b 0 _).1]
  ·rw [hf] at hx
   obtain rfl:=Option.some.inj hx
   rw [(Q54 a 0).1,(Q54 b 0).1]
 ·rintro a b x (⟨hab,k,s,hpos,hk,hP⟩ | ⟨hab,hf⟩) hx
  ·rcases Q84 S hpos hk hx with ⟨i,hq,hi,rfl⟩ | ⟨rfl,hpos'⟩ | rfl
   ·rw [(Q93 a k i).2.1,(Q93 b k i).2.1]
    exact (Qgf (S.ins hi).1 (S.faults hk hi).2 hP).2
   ·rw [(Q54 a 0).2.1,(Q54 b 0).2.1]
   ·rw [(Q75 a 0 _).2.1,(Q75 b 0 _).2.1]
  ·rw [hf] at hx
   obtain rfl:=Option.some.inj hx
   rw [(Q54 a 0).2.1,(Q54 b 0).2.1]
 ·rintro a b x (h | ⟨hab,hf⟩) hx h9 h12
  ·exact .inl (rightN a b x h hx h9)
  ·rw [hf] at hx
   obtain rfl:=Option.some.inj hx
   exact absurd rfl h12
 ·rintro a b x ⟨hab,k,s,hpos,hk,hP⟩ hx hw
  rcases Q84 S hpos hk hx with ⟨i,hq,hi,rfl⟩ | ⟨rfl,hpos'⟩ | rfl
  ·rw [(Q93 a k i).2.2] at hw
   have hop:=Q7f hw
   rw [Q92 (by omega) (by omega)]
   exact ⟨S.inside hk hi hP.ga.sat hw,S.inside hk hi hP.gb.sat hw⟩
  ·cases hw
  ·cases hw
 ·rintro a b x ⟨hab,k,s,hpos,hk,hP⟩ hx h9
  rcases Q84 S hpos hk hx with ⟨i,hq,hi,rfl⟩ | ⟨rfl,hpos'⟩ | rfl
  ·rw [(Q40 p k i).1] at h9
   rw [(Q40 p k i).2.1]
   obtain ⟨g1,g2,g10,g3,g5,g8,g9,g11,go,g7,gop⟩:=Q2e (S.ins hi).1
   refine hP.eq.at_ (g9 h9) ?_
   have hq:=(S.faults hk hi).2
   simpa [Q0t,h9] using hq
  ·cases h9
  ·cases h9
theorem Qsb {p:Q00} {T:Tab} (S:Q3r p T) {ws wt:List Int} (script:List Int) (hl:ws.length=Q14 p) (hm:wt.length=Q14 p) (hw:∀ x ∈ ws,R64 x) (hv:∀ x ∈ wt,R64 x) (hp:Pub p ws wt) (k:Nat) :
  (runS (Q12 p) k (Q0x ws script)).seen=(runS (Q12 p) k (Q0x wt script)).seen∧(runS (Q12 p) k (Q0x ws script)).fin=(runS (Q12 p) k (Q0x wt script)).fin∧(runS (Q12 p) k (Q0x ws script)).value=(runS (Q12 p) k (Q0x wt script)).value ∧
   (runS (Q12 p) k (Q0x ws script)).steps=(runS (Q12 p) k (Q0x wt script)).steps∧Pub p (endS (runS (Q12 p) k (Q0x ws script))).pl.words (endS (runS (Q12 p) k (Q0x wt script))).pl.words:=by
 obtain ⟨s0,e0,l0⟩:=S.post.first
 refine Qg0 (Qip S) (Qc3 (Qip S) k _ _ ⟨rfl,rfl,rfl,rfl,rfl,rfl,rfl,⟨trivial,fun _ _=>trivial⟩,fun _ _=>⟨rfl,0,s0,?_,e0,?_⟩,fun k=>absurd rfl k,fun k=>by simp [Q0x] at k⟩)
 ·have:PosF p (Q0k p 0) 0:=.at_ 0
  simpa [Q0k,Qab,Q0x] using this
 ·exact (Qod hl hm hw hv hp).mono Qd4 (S.post.tok.ok _ _ e0) l0
end Go.Proofs.Yteiknefajlocoaa
