/- Laid together from: DrL, DrQ, Drp, Drd, Drf, Drg, Drw, Dry. -/
import Derived.Test.YtiafchefbehfbaaGreatDoorDriveOnB49
import Derived.Test.YtiafchefbehfbaaGreatDoorDriveOnB28
import Derived.Test.YtiafchefbehfbaaGreatDoorDriveOnB40
import Derived.Test.YtiafchefbehfbaaGreatDoorDriveOnB5
import Derived.Test.YtiafchefbehfbaaGreatDoorDriveOnB51
import Derived.Test.YtiafchefbehfbaaGreatDoorDriveOnB48
import Derived.Test.YtiafchefbehfbaaGreatDoorDriveOnB14

namespace Go.Proofs.YtiafchefbehfbaaGreatDoor
open Go.ChangeShapes Go.WideShapes Go.ChangeAt Go.RowKit
set_option linter.unusedVariables false
set_option linter.unusedSimpArgs false
def runA (p:Q00) (m:List (List Int)) (f:Int):List UInt8 :=
 ranT (mayE p m f) (runM p f.toNat (Q06 m.flatten)).fin (runM p f.toNat (Q06 m.flatten)).value (runM p f.toNat (Q06 m.flatten)).steps (runM p f.toNat (Q06 m.flatten)).seen.length
def Q7e (p:Q00) (m:List (List Int)) (sc:List Int) (f:Int):List UInt8 :=
 ranT (Q2a p m sc f) (endS (runS p f.toNat (Q1k m.flatten sc))).fin (endS (runS p f.toNat (Q1k m.flatten sc))).value (endS (runS p f.toNat (Q1k m.flatten sc))).steps (endS (runS p f.toNat (Q1k m.flatten sc))).seen.length
noncomputable def layD:Q5m:=⟨runA,Q7e,checkA,hardA,Q89,loadA⟩
theorem Qan {E fin value:Int} {steps seen:Nat} (h:E≠0):ranT E fin value steps seen=ranT E 0 0 0 0:=by
 unfold ranT
 rw [if_neg h,if_neg h]
theorem Qks {p:Q00} {i:LIns} {m:Mach} (h:MOk p m) (hv:R64 m.value):R64 (Q0z p i m).value:=by
 unfold Q0z
 dsimp only
 repeat' split
 all_goals first | exact hv | exact rg64 h.r64 _
theorem Qc6 {p:Q00} (hf:∀ i ∈ p.code,i.fits):∀ (k:Nat) (m:Mach),MOk p m→R64 m.value→R64 (runM p k m).value
 | 0,m,h,hv=>hv
 | k+1,m,h,hv=>by
  rw [runM]
  split
  ·exact hv
  ·split
   ·exact hv
   ·rename_i i hi
    have hm:=List.mem_of_getElem? hi
    exact Qc6 hf k _ (h.step (hf i hm)) (Qks h hv)
theorem Qd3 (s:Spc):s.leave.value=s.value:=by unfold Spc.leave;split <;> rfl
theorem Qt6 {p:Q00} {i:LIns} {s:Spc} (h:Q1m s.pl.regs) (hv:R64 s.value):R64 (doS p i s).value:=by
 unfold doS
 split
 ·exact hv
 split
 ·unfold Q4b
  dsimp only
  split
  ·exact hv
  ·simp only [Spc.goTo,Spc.chosen,Qd3]
   exact hv
 split
 ·split
  ·exact hv
  ·exact rg64 h _
 split
 ·exact hv
 split
 ·unfold Q38
  dsimp only
  split
  ·exact hv
  ·split
   ·split
    ·exact hv
    ·unfold Q3w
     dsimp only
     split
     ·simp only [Spc.put_,Spc.goTo,Spc.chosen,Qd3]
      exact hv
     ·exact hv
   ·split
    ·exact hv
    ·exact hv
 ·exact hv
theorem Qkq {p:Q00} {i:LIns} {s:Spc} (h:Q1m s.pl.regs) (hv:R64 s.value):R64 (Q24 p i s).value:=by
 have h1:=Qt6 (p:=p) (i:=i) (s:={ s with steps:=s.steps+1,seen:=s.seen ++ [⟨1,s.pl.at_,0⟩] }) h hv
 unfold Q24
 dsimp only
 split
 ·split
  ·exact h1
  ·exact h1
 ·exact h1
theorem Qc4 {p:Q00} (hh:Q37 p=true) (hf:∀ i ∈ p.code,i.fits):∀ (k:Nat) (S:Spc),SOk p S→R64 S.value→R64 (runS p k S).value
 | 0,S,h,hv=>hv
 | k+1,S,h,hv=>by
  obtain ⟨-,-,-,hall⟩:=Q56 hh
  rw [runS]
  split
  ·exact hv
  ·have hu:SOk p (upS p S)∧R64 (upS p S).value:=by
    unfold upS
    split
    ·rename_i hc
     exact ⟨h.up hc.1,hv⟩
    ·exact ⟨h,hv⟩
   split
   ·exact hu.2
   ·rename_i i hi
    have hlt:=(List.getElem?_eq_some_iff.1 hi).1
    have hm:=List.mem_of_getElem? hi
    exact Qc4 hh hf k _ (hu.1.step hlt (hall i hm) (hf i hm)) (Qkq hu.1.mid.pl.r64 hu.2)
theorem Q9f (p:Q00) (m:List (List Int)) (f:Int):R64 (mayE p m f):=by
 unfold mayE R64
 split
 ·omega
 ·split <;> omega
theorem Qab (p:Q00) (m:List (List Int)) (sc:List Int) (f:Int):R64 (Q2a p m sc f):=by
 have:=Q9f p m f
 unfold Q2a
 split
 ·split <;> (unfold R64;omega)
 ·exact this
theorem Qge {w:World} {v:Value} {p:Q00} (h:Q0v w v p):∀ i ∈ p.code,i.fits:=by
 obtain ⟨v1,v2,-,-,h2⟩:=h
 exact h2.1
theorem Qag {w:World} {v:Value} {fin value:Int} {steps:Nat} {seen:List LSee} {mem:List (List Int)} (h:Q58 w v fin value steps seen mem) :
  ∃ s1 s2 s3 s4,v=.agg #[.int .i64 fin,.int .i64 value,.int .i64 (steps:Int),.slice s1 seen.length s2,.slice s3 mem.length s4]:=by
 obtain ⟨vs,vm,rfl,⟨oa,cap,b,o,rfl,-⟩,⟨oa2,cap2,b2,o2,rfl,-⟩⟩:=h
 exact ⟨oa,cap,oa2,cap2,rfl⟩
def RanR (A:List UInt8) (w:World) (e:Ending) (w':World):Prop :=
 ∃ (s1:Option Addr) (s2:Nat) (s3:Option Addr) (s4:Nat) (E fin value:Int) (steps:Nat) (seen:List LSee) (mem:List (List Int)),e=.returned (.tuple #[.agg #[.int .i64 fin,.int .i64 value,.int .i64 (steps:Int),.slice s1 seen.length s2,.slice s3 mem.length s4],.int .i64 E])∧Ext w w' ∧
  Q58 w' (.agg #[.int .i64 fin,.int .i64 value,.int .i64 (steps:Int),.slice s1 seen.length s2,.slice s3 mem.length s4]) fin value steps seen mem∧(R64 E∧0≤fin∧fin≤2∧R64 value∧steps≤1000000)∧ranT E fin value steps seen.length=A
theorem Qah (p:Q00) (m:List (List Int)) (fuel:Int) (v vm:Value) (w:World) (hp:Q0v w v p) (hm:Q4i w vm m) (hf:R64 fuel) :
  Calls Tryz.prog 11 #[v,vm,.int .i64 fuel] w (RanR (runA p m fuel) w):=by
 refine (Q5c p m fuel v vm w hp hm hf).mono fun e w' ⟨u,h1,h2,h3,h4⟩=>?_
 by_cases h0:mayE p m fuel=0
 ·have hS:=h3 h0
  obtain ⟨hh,hfit,hf0,hf4⟩:=Q8k h0
  obtain ⟨s1,s2,s3,s4,rfl⟩:=Qag hS
  have hok:=Qcw hfit (fun l hl x hx=>Qcx hm x (List.mem_flatten.2 ⟨l,hl,hx⟩))
  have hfin:=Qfv p fuel.toNat (Q06 m.flatten) (.inl rfl)
  have hval:=Qc6 (Qge hp) fuel.toNat (Q06 m.flatten) hok.ok Q4c
  have hst:=(Qc7 p fuel.toNat (Q06 m.flatten)).2.1
  have hst0:(Q06 m.flatten).steps=0:=rfl
  refine ⟨s1,s2,s3,s4,_,_,_,_,_,_,h1,h2,hS,⟨Q9f _ _ _,?_,?_,hval,by omega⟩,rfl⟩
  ·rcases hfin with e | e | e <;> omega
  ·rcases hfin with e | e | e <;> omega
 ·have hS:=h4 h0
  obtain ⟨s1,s2,s3,s4,rfl⟩:=Qag hS
  exact ⟨s1,s2,s3,s4,_,0,0,0,[],[],h1,h2,hS,⟨Q9f _ _ _,by omega,by omega,Q4c,by omega⟩,(Qan h0).symm⟩
theorem Qkz (p:Q00) (m:List (List Int)) (sc:List Int) (fuel:Int) (v vm vx:Value) (w:World) (hp:Q0v w v p) (hm:Q4i w vm m) (hs:Q2z w vx sc) (hf:R64 fuel) :
  Calls Tryz.prog 13 #[v,vm,vx,.int .i64 fuel] w (RanR (Q7e p m sc fuel) w):=by
 refine (Ql0 p m sc fuel v vm vx w hp hm hs hf).mono fun e w' ⟨u,h1,h2,h3,h4⟩=>?_
 by_cases h0:Q2a p m sc fuel=0
 ·have hS:=h3 h0
  have h00:mayE p m fuel=0:=by
   apply Classical.byContradiction
   intro hn
   rw [Qc0 hn] at h0
   exact hn h0
  obtain ⟨hh,hfit,hf0,hf4⟩:=Q8k h00
  obtain ⟨s1,s2,s3,s4,rfl⟩:=Qag hS
  obtain ⟨-,e2,e3,e4⟩:=Qis (runS p fuel.toNat (Q1k m.flatten sc))
  have hok:SOk p (Q1k m.flatten sc):=Qc1 (Qba hfit) (Q8u (Qcx hm))
  have hfin:=Qfu p fuel.toNat (Q1k m.flatten sc) (.inl rfl)
  have hval:=Qc4 hh (Qge hp) fuel.toNat (Q1k m.flatten sc) hok Q4c
  have hst:=Qc5 p fuel.toNat (Q1k m.flatten sc)
  have hst0:(Q1k m.flatten sc).steps=0:=rfl
  refine ⟨s1,s2,s3,s4,_,_,_,_,_,_,h1,h2,hS,⟨Qab _ _ _ _,?_,?_,by rw [e3];exact hval,by omega⟩,rfl⟩
  ·rw [e2];rcases hfin with e | e | e <;> omega
  ·rw [e2];rcases hfin with e | e | e <;> omega
 ·have hS:=h4 h0
  obtain ⟨s1,s2,s3,s4,rfl⟩:=Qag hS
  exact ⟨s1,s2,s3,s4,_,0,0,0,[],[],h1,h2,hS,⟨Qab _ _ _ _,by omega,by omega,Q4c,by omega⟩,(Qan h0).symm⟩
theorem Qku (p:Q00) (i:LIns) (m:Mach):(Q0z p i m).seen.length≤m.seen.length+2:=by
 have hp:(Q30 m.regs i).length≤1:=by unfold Q30;split <;> simp
 unfold Q0z
 dsimp only
 repeat' split
 all_goals simp only [List.length_append,List.length_cons,List.length_nil]
 all_goals omega
theorem Qfw (p:Q00):∀ (k:Nat) (m:Mach),(runM p k m).seen.length≤m.seen.length+2 * k
 | 0,m=>by simp [runM]
 | k+1,m=>by
  rw [runM]
  split
  ·omega
  ·split
   ·show m.seen.length≤_
    omega
   ·rename_i i hi
    have h1:=Qfw p k (Q0z p i m)
    have h2:=Qku p i m
    omega
theorem Qfh {p:Q00} (hh:Q37 p=true) (hf:∀ i ∈ p.code,i.fits):∀ (k:Nat) (S:Spc),SOk p S→SOk p (runS p k S)
 | 0,S,h=>h
 | k+1,S,h=>by
  obtain ⟨-,-,-,hall⟩:=Q56 hh
  rw [runS]
  split
  ·exact h
  ·have hu:SOk p (upS p S):=by
    unfold upS
    split
    ·rename_i hc
     exact h.up hc.1
    ·exact h
   split
   ·exact ⟨hu.mid.fault 2,hu.seen⟩
   ·rename_i i hi
    have hlt:=(List.getElem?_eq_some_iff.1 hi).1
    have hm:=List.mem_of_getElem? hi
    exact Qfh hh hf k _ (hu.step hlt (hall i hm) (hf i hm))
theorem Qt1 (fin:Int):(endT fin).length≤5:=by
 unfold endT
 split
 ·decide
 ·split <;> decide
theorem Qam {E fin value:Int} {steps seen:Nat} (hE:R64 E) (hv:R64 value) (h1:steps≤1000000) (h2:seen≤1000000):(ranT E fin value steps seen).length≤100:=by
 unfold ranT
 split
 ·have:=Q6j (endT fin) [value,(steps:Int),(seen:Int)] (fun x hx=>by
   simp only [List.mem_cons,List.not_mem_nil,or_false] at hx
   rcases hx with rfl | rfl | rfl
   ·exact hv
   ·unfold R64;omega
   ·unfold R64;omega)
  have h3:=Qt1 fin
  simp only [List.length_cons,List.length_nil] at this
  omega
 ·have:=Q6j badW [E] (fun x hx=>by rw [List.mem_singleton.1 hx];exact hE)
  have h3:badW.length=3:=rfl
  simp only [List.length_cons,List.length_nil] at this
  omega
theorem Qm5 {p:Q00} {m:List (List Int)} (f:Int) (hf:∀ i ∈ p.code,i.fits) (h64:∀ l ∈ m,∀ z ∈ l,R64 z):(runA p m f).length≤100:=by
 unfold runA
 by_cases h0:mayE p m f=0
 ·obtain ⟨hh,hfit,hf0,hf4⟩:=Q8k h0
  have hok:=Qcw hfit h64
  have hval:=Qc6 hf f.toNat (Q06 m.flatten) hok.ok Q4c
  have hst:=(Qc7 p f.toNat (Q06 m.flatten)).2.1
  have hst0:(Q06 m.flatten).steps=0:=rfl
  have hse:=Qfw p f.toNat (Q06 m.flatten)
  have hse0:(Q06 m.flatten).seen.length=0:=rfl
  exact Qam (Q9f _ _ _) hval (by omega) (by omega)
 ·rw [Qan h0]
  exact Qam (Q9f _ _ _) Q4c (by omega) (by omega)
theorem Quy {p:Q00} {m:List (List Int)} (sc:List Int) (f:Int) (hf:∀ i ∈ p.code,i.fits) (h64:∀ l ∈ m,∀ z ∈ l,R64 z):(Q7e p m sc f).length≤100:=by
 unfold Q7e
 by_cases h0:Q2a p m sc f=0
 ·have h00:mayE p m f=0:=by
   apply Classical.byContradiction
   intro hn
   rw [Qc0 hn] at h0
   exact hn h0
  obtain ⟨hh,hfit,hf0,hf4⟩:=Q8k h00
  obtain ⟨e1,e2,e3,e4⟩:=Qis (runS p f.toNat (Q1k m.flatten sc))
  have hok:SOk p (Q1k m.flatten sc):=Qc1 (Qba hfit) (Q8u (fun x hx=>by
   obtain ⟨l,hl,hx⟩:=List.mem_flatten.1 hx
   exact h64 l hl x hx))
  have hval:=Qc4 hh hf f.toNat (Q1k m.flatten sc) hok Q4c
  have hst:=Qc5 p f.toNat (Q1k m.flatten sc)
  have hst0:(Q1k m.flatten sc).steps=0:=rfl
  have hse:=(Qfh hh hf f.toNat _ hok).seen
  rw [e1,e2,e3,e4]
  exact Qam (Qab _ _ _ _) hval (by omega) (by omega)
 ·rw [Qan h0]
  exact Qam (Qab _ _ _ _) Q4c (by omega) (by omega)
theorem Qee {p:Q00} (hc:p.code.length≤600):(sayT badW [(faultD p).1,((faultD p).2:Int)]).length≤100:=by
 obtain ⟨h1,h2⟩:=Qbf p hc
 have:=Q6j badW [(faultD p).1,((faultD p).2:Int)] (fun x hx=>by
  simp only [List.mem_cons,List.not_mem_nil,or_false] at hx
  rcases hx with rfl | rfl
  ·exact h1
  ·exact h2)
 have h3:badW.length=3:=rfl
 simp only [List.length_cons,List.length_nil] at this
 omega
theorem Q9b {n:Int} (h:R64 n):(sayT okW [n]).length≤100:=by
 have:=Q6j okW [n] (fun x hx=>by rw [List.mem_singleton.1 hx];exact h)
 have h3:okW.length=2:=rfl
 simp only [List.length_cons,List.length_nil] at this
 omega
theorem Quu {n:Int} (h:R64 n):(sayT badW [n]).length≤100:=by
 have:=Q6j badW [n] (fun x hx=>by rw [List.mem_singleton.1 hx];exact h)
 have h3:badW.length=3:=rfl
 simp only [List.length_cons,List.length_nil] at this
 omega
theorem Qfz {m:List (List Int)} {k:Nat} (h:k < m.length):m.getD k [] ∈ m:=by
 rw [List.getD_eq_getElem?_getD,List.getElem?_eq_getElem h]
 exact List.getElem_mem h
set_option maxHeartbeats 4000000 in
theorem Qou {s:LPl} {w:List UInt8} {l:List Int} (h:Q0y s) (hf:∀ i ∈ s.p.code,i.fits):(Q2e layD s w l).1.length≤4000:=by
 have q1:([63]:List UInt8).length≤4000:=by simp
 have hc:=h.code
 have hr:=h.regs6
 unfold Q2e
 split
 ·split
  ·unfold Q3j
   split
   ·exact q1
   ·have:=Q9b (n:=((s.p.regs.length+1:Nat):Int)) (by unfold R64;omega)
    show (sayT okW _).length≤_
    omega
  ·exact q1
 split
 ·split
  ·unfold Q5k
   split
   ·exact q1
   ·show okW.length≤4000
    decide
  ·exact q1
 split
 ·split
  ·rename_i hh
   obtain ⟨h1,h2,h3⟩:=hh
   have hm:=Qfz (m:=s.m) (k:=(l.getD 0 0).toNat) (by omega)
   have:=Q6j isW _ (h.m64 _ hm)
   have h4:=(h.rows _ hm).2
   have h5:isW.length=2:=rfl
   show (sayT isW _).length≤_
   omega
  ·exact q1
 split
 ·split
  ·have:=Q9b (n:=((s.p.code.length+1:Nat):Int)) (by unfold R64;omega)
   show (sayT okW _).length≤_
   omega
  ·exact q1
 split
 ·split
  ·have:=Qm5 (p:=s.p) (m:=s.m) (l.getD 0 0) hf h.m64
   show (runA s.p s.m _).length≤_
   omega
  ·exact q1
 split
 ·split
  ·have:=Quy (p:=s.p) (m:=s.m) (l.drop 1) (l.getD 0 0) hf h.m64
   show (Q7e s.p s.m _ _).length≤_
   omega
  ·exact q1
 split
 ·split
  ·show (checkA s.p).length≤_
   unfold checkA
   split
   ·decide
   ·have:=Qee hc
    omega
  ·exact q1
 split
 ·split
  ·show (hardA s.p).1.length≤_
   unfold hardA
   split
   ·have:=Q9b (n:=((Q04 s.p).code.length:Int)) (by have:=Q8q s.p;unfold R64;omega)
    show (sayT okW _).length≤_
    omega
   ·have:=Qee hc
    show (sayT badW _).length≤_
    omega
  ·exact q1
 split
 ·split
  ·show (Q89 s.p).length≤_
   unfold Q89
   split
   ·rename_i he
    have:=Q9b (n:=((Q4m s.p).length:Int)) (by
     unfold Q4m
     split
     ·rename_i hh
      have:=(Qd1 hh hf).1
      unfold R64
      omega
     ·unfold R64
      simp)
    omega
   ·have:=Quu (n:=Q48 s.p) (by unfold Q48 R64;split <;> omega)
    omega
  ·exact q1
 split
 ·split
  ·show (loadA s.p).length≤_
   unfold loadA
   split
   ·have:=Q9b (n:=((Q1y s.p).code.length:Int)) (by have:=Q7v s.p;unfold R64;omega)
    omega
   ·have:=Qee hc
    omega
  ·exact q1
 ·exact q1
theorem Qd2 {s:LPl} {t:List UInt8} (h:Q0y s) (hf:∀ i ∈ s.p.code,i.fits):(Q2h layD s t).1.length≤4000:=by
 unfold Q2h
 split
 ·simp
 ·exact Qou h hf
theorem Qsv {p:Q00} (h:(faultD p).1=0):Q20 p=true:=by
 unfold faultD at h
 split at h
 ·rename_i hh
  exact hh.1
 ·simp at h
theorem Q39 {c:Prop} [Decidable c] {x y:List UInt8 × LPl} (h1:c→Q0y x.2) (h2:¬ c→Q0y y.2):Q0y (if c then x else y).2:=by
 by_cases h:c
 ·rw [if_pos h];exact h1 h
 ·rw [if_neg h];exact h2 h
theorem Qox {s:LPl} {w:List UInt8} {l:List Int} (h:Q0y s) (h6:∀ x ∈ l,R6 x):Q0y (Q2e layD s w l).2:=by
 unfold Q2e
 refine Q39 (fun _=>Q39 (fun _=>?_) fun _=>h) fun _=>Q39 (fun _=>Q39 (fun hl1=>?_) fun _=>h) fun _=>Q39 (fun _=>Q39 (fun _=>h) fun _=>h) fun _=>Q39 (fun _=>Q39 (fun hh=>Qsh h hh.2) fun _=>h) fun _=>Q39 (fun _=>Q39 (fun _=>h) fun _=>h) fun _=>Q39 (fun _=>Q39 (fun _=>h) fun _=>h) fun _=>Q39 (fun _=>Q39 (fun _=>h) fun _=>h) fun _=>Q39 (fun _=>Q39 (fun _=>?_) fun _=>h) fun _=>Q39 (fun _=>Q39 (fun _=>h) fun _=>h) fun _=>Q39 (fun _=>Q39 (fun _=>h) fun _=>h) fun _=>h
 ·unfold Q3j
  refine Q39 (fun _=>h) fun hh=>?_
  exact Qsf h (by omega) (by omega) (by omega)
 ·unfold Q5k
  refine Q39 (fun _=>h) fun hh=>?_
  have hk:(l.getD 0 0).toNat < s.m.length:=by omega
  refine Qse h ?_ hk fun z hz=>?_
  ·simp only [List.length_append,List.length_drop]
   omega
  ·rcases List.mem_append.1 hz with k | k
   ·exact (h6 z (List.mem_of_mem_drop k)).r64
   ·exact h.m64 _ (Qfz hk) z (List.mem_of_mem_drop k)
 ·show Q0y ⟨(hardA s.p).2,s.m⟩
  unfold hardA
  by_cases hh:(faultD s.p).1=0
  ·rw [if_pos hh]
   have h1:=(Q4o (Qsv hh)).2.2.1
   have h2:=Q8q s.p
   exact Qsg h rfl (by show (Q04 s.p).code.length≤_;omega)
  ·rw [if_neg hh]
   exact h
theorem Qq9 {s:LPl} {t:List UInt8} (h:Q0y s):Q0y (Q2h layD s t).2:=by
 unfold Q2h
 cases hl:Q0s ((Q07 32 t).drop 1) with
 | none=>exact h
 | some l=>exact Qox h (Q2o _ _ hl)
section
variable {A : Q5m} {s : LPl} {l : List Int}
theorem Qoq:Q2e A s [114,101,103,105,111,110] l=(if l.length=2 then Q3j s (l.getD 0 0) (l.getD 1 0) else ([63],s)):=by
 unfold Q2e
 exact if_pos rfl
theorem Qoy:Q2e A s [102,105,108,108] l=(if 1≤l.length then Q5k s l else ([63],s)):=by
 unfold Q2e
 rw [if_neg (by decide)]
 exact if_pos rfl
theorem Qos:Q2e A s [108,111,111,107] l=(if l.length=1∧0≤l.getD 0 0∧l.getD 0 0 < s.m.length then (sayT isW (s.m.getD (l.getD 0 0).toNat []),s) else ([63],s)):=by
 unfold Q2e
 rw [if_neg (by decide),if_neg (by decide)]
 exact if_pos rfl
theorem Qov:Q2e A s [105,110,115] l=(if l.length=5∧s.p.code.length < 200 then (sayT okW [((s.p.code.length+1:Nat):Int)],⟨⟨s.p.regs,s.p.code ++ [⟨l.getD 0 0,l.getD 1 0,l.getD 2 0,l.getD 3 0,l.getD 4 0⟩]⟩,s.m⟩) else ([63],s)):=by
 unfold Q2e
 rw [if_neg (by decide),if_neg (by decide),if_neg (by decide)]
 exact if_pos rfl
theorem Qop:Q2e A s [114,117,110] l=(if l.length=1 then (A.run s.p s.m (l.getD 0 0),s) else ([63],s)):=by
 unfold Q2e
 rw [if_neg (by decide),if_neg (by decide),if_neg (by decide),if_neg (by decide)]
 exact if_pos rfl
theorem Qp2:Q2e A s [97,104,101,97,100] l=(if 1≤l.length then (A.ahead s.p s.m (l.drop 1) (l.getD 0 0),s) else ([63],s)):=by
 unfold Q2e
 rw [if_neg (by decide),if_neg (by decide),if_neg (by decide),if_neg (by decide),if_neg (by decide)]
 exact if_pos rfl
theorem Qp0:Q2e A s [99,104,101,99,107] l=(if l.length=0 then (A.check s.p,s) else ([63],s)):=by
 unfold Q2e
 rw [if_neg (by decide),if_neg (by decide),if_neg (by decide),if_neg (by decide),if_neg (by decide),if_neg (by decide)]
 exact if_pos rfl
theorem Qow:Q2e A s [104,97,114,100] l=(if l.length=0 then ((A.hard s.p).1,⟨(A.hard s.p).2,s.m⟩) else ([63],s)):=by
 unfold Q2e
 rw [if_neg (by decide),if_neg (by decide),if_neg (by decide),if_neg (by decide),if_neg (by decide),if_neg (by decide),if_neg (by decide)]
 exact if_pos rfl
theorem Qoo:Q2e A s [116,101,120,116] l=(if l.length=0 then (A.text s.p,s) else ([63],s)):=by
 unfold Q2e
 rw [if_neg (by decide),if_neg (by decide),if_neg (by decide),if_neg (by decide),if_neg (by decide),if_neg (by decide),if_neg (by decide),if_neg (by decide)]
 exact if_pos rfl
theorem Qot:Q2e A s [108,111,97,100] l=(if l.length=0 then (A.load s.p,s) else ([63],s)):=by
 unfold Q2e
 rw [if_neg (by decide),if_neg (by decide),if_neg (by decide),if_neg (by decide),if_neg (by decide),if_neg (by decide),if_neg (by decide),if_neg (by decide),if_neg (by decide)]
 exact if_pos rfl
theorem Qor {W0:List UInt8} (h0:¬ W0=[114,101,103,105,111,110]) (h1:¬ W0=[102,105,108,108]) (h2:¬ W0=[108,111,111,107]) (h3:¬ W0=[105,110,115]) (h4:¬ W0=[114,117,110]) (h5:¬ W0=[97,104,101,97,100]) (h6:¬ W0=[99,104,101,99,107]) (h7:¬ W0=[104,97,114,100]) (h8:¬ W0=[116,101,120,116]) (h9:¬ W0=[108,111,97,100]):Q2e A s W0 l=([63],s):=by
 unfold Q2e
 rw [if_neg (show ¬ W0=Qg3 from h0),if_neg (show ¬ W0=Qil from h1),if_neg (show ¬ W0=Qhb from h2),if_neg (show ¬ W0=Qhz from h3),if_neg (show ¬ W0=runW from h4),if_neg (show ¬ W0=Qja from h5),if_neg (show ¬ W0=Qj0 from h6),if_neg (show ¬ W0=Qid from h7),if_neg (show ¬ W0=Qf0 from h8),if_neg (show ¬ W0=Qhe from h9)]
theorem len1 {l:List Int} (h:l.length=1):∃ a,l=[a]:=by
 match l,h with
 | [a],_=>exact ⟨a,rfl⟩
theorem len2 {l:List Int} (h:l.length=2):∃ a b,l=[a,b]:=by
 match l,h with
 | [a,b],_=>exact ⟨a,b,rfl⟩
theorem len5 {l:List Int} (h:l.length=5):∃ a b c d e,l=[a,b,c,d,e]:=by
 match l,h with
 | [a,b,c,d,e],_=>exact ⟨a,b,c,d,e,rfl⟩
end
section
variable {w0 w : World} {B g : Nat} {vR vC vM : Value} {p : Q00} {L : List (Value × List Int)} {t : List UInt8} {ws : List (List UInt8)}
set_option maxRecDepth 100000
set_option maxHeartbeats 16000000
theorem Qt9 (h:PlSt w0 w B g 65 vR vC vM p L) (hg:Q0y ⟨p,L.map (·.2)⟩) (ht:Tab9 w0) (hT:t.length≤1000000000) (a:Int) (hs:Q07 32 t=[114,117,110] :: ws) (hn:Q0s ws=some ([a])) :
  Calls Tryz.prog 20 #[.pointer (some ⟨g,0,none⟩),str t] w (Q0l (runA p (L.map (·.2)) a,⟨p,L.map (·.2)⟩) w0 B g 65):=by
 have HS:=Lib.hid h
 have Hg:=Lib.hid hg
 have Ht:=Lib.hid ht
 have HT:=Lib.hid hT
 have Hn:=Lib.hid hn
 have HW:=Lib.hid (Q2u hs)
 obtain ⟨oR,cR,rfl⟩:=Q02 h.rg
 obtain ⟨oC,cC,rfl⟩:=Q02 h.cd
 obtain ⟨oM,cM,rfl⟩:=Q02 h.mo
 have HSp:=Lib.hid (Q2q 32 _ hT w (ht.ext h.ext))
 clear h hg ht hT hn hs
 go_enter Tryz.func20,Tryz.ntmps20
 go_wp2_with fail
 (with_reducible refine HSp.out.mono ?_)
 clear HSp
 rintro e w5 ⟨v5,rfl,hv,hx⟩
 have HS5:=Lib.hid (HS.out.extend hx)
 obtain ⟨kw,cw,ow,rfl,hcw,hwl,Hcw,hix,hsl,Hrow,Hwl⟩:=Q2v HW.out HT.out hv
 clear hx hv
 go_wp2_with fail
 (with_reducible refine (Q2w ws _ w5 Hrow.out Hwl.out (Ht.out.ext HS5.out.ext)).mono ?_)
 clear hsl Hrow Hwl
 rintro e w6 ⟨v6,b6,rfl,hx,hc⟩
 have HS6:=Lib.hid (HS5.out.extend hx)
 have cw0:=Hcw.out w6 hx
 clear hx Hcw
 rcases hc with ⟨rfl,l',hl',hown⟩ | ⟨rfl,hno⟩
 case inr=>exact absurd (Hn.out.symm.trans hno) (by simp)
 obtain rfl:=Option.some.inj (Hn.out.symm.trans hl')
 have hv:=Q2m hown (fun x hx=>(Q2o _ _ Hn.out x hx).r64)
 clear hown hl'
 obtain ⟨bl,ol,cl,rfl,c0⟩:=Qde hv
 have hil:=Q6a (oa:=some ⟨bl,ol,none⟩) (n:=1) (b:=bl) (o:=ol) (cap:=cl) (fun _=>rfl)
 have Ha:=Lib.hid (hv.1 a (by simp))
 clear hv
 obtain ⟨d0,d1,d2⟩:=HS6.out.cells
 have hgl:=HS6.out.box.lt
 go_upto_region 16 with fail
 have q0:∀ Wx,Ext w6 Wx→Wx.cell? ⟨bl,ol,none⟩=some (.int .i64 a):=fun _ h=>h.kept c0
 have k0:∀ Wx,Ext w6 Wx→Wx.cell? ⟨g,0,none⟩=some (.slice oR p.regs.length cR):=fun _ h=>h.kept d0.1
 have k1:∀ Wx,Ext w6 Wx→Wx.cell? ⟨g,1,none⟩=some (.slice oC p.code.length cC):=fun _ h=>h.kept d1.1
 have k2:∀ Wx,Ext w6 Wx→Wx.cell? ⟨g,2,none⟩=some (.slice oM L.length cM):=fun _ h=>h.kept d2.1
 have hG:∀ Wx,Ext w6 Wx→g < Wx.heap.size:=fun _ h=>Nat.lt_of_lt_of_le hgl h.size
 clear c0 cw0 hix d0 d1 d2 hgl
 refine Qg1 [11,12,13,14,15] (by kernel_rfl) (by kernel_rfl) ?_
 repeat (first | (refine Q29 ?_ ?_;(decide)) | (refine Q23 ?_ ?_ ?_;(decide);(first | rfl | (focus (go_simp;done)));apply Exists.intro;refine ⟨fun wc hE=>?_,?_⟩;(go_simp;exact rfl);go_simp) | (refine Q27 ?_ ?_ ?_;(decide);(focus (go_simp;done));go_simp))
 refine Q28 ?_
 intro w7 hx
 have HS7:=Lib.hid (HS6.out.extend hx)
 have HX:=Lib.hid hx
 clear hx q0 k0 k1 k2 hG
 refine Q4j (i:=11) (by decide) (by kernel_rfl) ?_
 refine Q11 rfl ?_
 go_wp2_with fail
 (with_reducible refine (Qah p (L.map (·.2)) a _ _ w7 HS7.out.prog HS7.out.mem Ha.out).mono ?_)
 rintro e w8 ⟨s1,s2,s3,s4,E,fin,value,steps,seen,mem,rfl,hx,hsh,hb,hA⟩
 have HX8:=Lib.hid (HX.out.trans hx)
 have HS8:=Lib.hid (HS7.out.extend hx)
 have Hsh:=Lib.hid hsh
 have Hb:=Lib.hid hb
 have HA:=Lib.hid hA
 clear hx hsh hb hA
 go_wp2
 refine ⟨HX8.out,Q3s ?_⟩
 refine Qeo (i:=12) (j:=13) (by decide) (by kernel_rfl) ?_ ?_
 ·refine Q11 rfl ?_
  go_wp2
  refine ⟨HX8.out,Q3s ?_⟩
  refine Q4j (i:=13) (by decide) (by kernel_rfl) ?_
  refine Q11 rfl ?_
  go_wp2
  refine ⟨HX8.out,Q3s ?_⟩
  refine Q4j (i:=14) (by decide) (by kernel_rfl) ?_
  refine Q11 rfl ?_
  go_wp2_with fail
  (with_reducible refine (Qbg E fin value steps seen mem _ w8 Hsh.out Hb.out.1 Hb.out.2.1 Hb.out.2.2.1 Hb.out.2.2.2.1 Hb.out.2.2.2.2 (Ht.out.tabs.ext HS8.out.ext)).mono ?_)
  rintro e w9 ⟨rfl,hx⟩
  have HX9:=Lib.hid (HX8.out.trans hx)
  have HS9:=Lib.hid (HS8.out.extend hx)
  clear hx
  rw [HA.out]
  go_wp2
  refine ⟨HX9.out,Q3s ?_⟩
  refine Q4j (i:=15) (by decide) (by kernel_rfl) ?_
  refine Q11 rfl ?_
  go_wp2
  refine ⟨HX9.out,Q3s ?_⟩
  refine Q9y (by decide) ?_
  go_wp2
  go_ret
  exact Q0l.same (s:=⟨p,L.map (·.2)⟩) rfl HS9.out
 ·refine Q11 rfl ?_
  go_wp2
  refine ⟨HX8.out,Q3s ?_⟩
  refine Q4j (i:=12) (by decide) (by kernel_rfl) ?_
  refine Q11 rfl ?_
  go_wp2
  refine ⟨HX8.out,Q3s ?_⟩
  refine Q4j (i:=14) (by decide) (by kernel_rfl) ?_
  refine Q11 rfl ?_
  go_wp2_with fail
  (with_reducible refine (Qbg E fin value steps seen mem _ w8 Hsh.out Hb.out.1 Hb.out.2.1 Hb.out.2.2.1 Hb.out.2.2.2.1 Hb.out.2.2.2.2 (Ht.out.tabs.ext HS8.out.ext)).mono ?_)
  rintro e w9 ⟨rfl,hx⟩
  have HX9:=Lib.hid (HX8.out.trans hx)
  have HS9:=Lib.hid (HS8.out.extend hx)
  clear hx
  rw [HA.out]
  go_wp2
  refine ⟨HX9.out,Q3s ?_⟩
  refine Q4j (i:=15) (by decide) (by kernel_rfl) ?_
  refine Q11 rfl ?_
  go_wp2
  refine ⟨HX9.out,Q3s ?_⟩
  refine Q9y (by decide) ?_
  go_wp2
  go_ret
  exact Q0l.same (s:=⟨p,L.map (·.2)⟩) rfl HS9.out
end
section
variable {w0 w : World} {B g : Nat} {vR vC vM : Value} {p : Q00} {L : List (Value × List Int)} {t : List UInt8} {ws : List (List UInt8)}
set_option maxRecDepth 100000
set_option maxHeartbeats 16000000
theorem Qtu (h:PlSt w0 w B g 65 vR vC vM p L) (hg:Q0y ⟨p,L.map (·.2)⟩) (ht:Tab9 w0) (hT:t.length≤1000000000) (a:Int) (cs:List Int) (hs:Q07 32 t=[97,104,101,97,100] :: ws) (hn:Q0s ws=some (a :: cs)) :
  Calls Tryz.prog 20 #[.pointer (some ⟨g,0,none⟩),str t] w (Q0l (Q7e p (L.map (·.2)) cs a,⟨p,L.map (·.2)⟩) w0 B g 65):=by
 have HS:=Lib.hid h
 have Hg:=Lib.hid hg
 have Ht:=Lib.hid ht
 have HT:=Lib.hid hT
 have Hn:=Lib.hid hn
 have HW:=Lib.hid (Q2u hs)
 obtain ⟨oR,cR,rfl⟩:=Q02 h.rg
 obtain ⟨oC,cC,rfl⟩:=Q02 h.cd
 obtain ⟨oM,cM,rfl⟩:=Q02 h.mo
 have HSp:=Lib.hid (Q2q 32 _ hT w (ht.ext h.ext))
 clear h hg ht hT hn hs
 go_enter Tryz.func20,Tryz.ntmps20
 go_wp2_with fail
 (with_reducible refine HSp.out.mono ?_)
 clear HSp
 rintro e w5 ⟨v5,rfl,hv,hx⟩
 have HS5:=Lib.hid (HS.out.extend hx)
 obtain ⟨kw,cw,ow,rfl,hcw,hwl,Hcw,hix,hsl,Hrow,Hwl⟩:=Q2v HW.out HT.out hv
 clear hx hv
 go_wp2_with fail
 (with_reducible refine (Q2w ws _ w5 Hrow.out Hwl.out (Ht.out.ext HS5.out.ext)).mono ?_)
 clear hsl Hrow Hwl
 rintro e w6 ⟨v6,b6,rfl,hx,hc⟩
 have HS6:=Lib.hid (HS5.out.extend hx)
 have cw0:=Hcw.out w6 hx
 clear hx Hcw
 rcases hc with ⟨rfl,l',hl',hown⟩ | ⟨rfl,hno⟩
 case inr=>exact absurd (Hn.out.symm.trans hno) (by simp)
 obtain rfl:=Option.some.inj (Hn.out.symm.trans hl')
 have hv:=Q2m hown (fun x hx=>(Q2o _ _ Hn.out x hx).r64)
 clear hown hl'
 have Ha:=Lib.hid (hv.1 a (by simp))
 have H64:=Lib.hid (fun x (hx:x ∈ cs)=>hv.1 x (List.mem_cons_of_mem _ hx))
 obtain ⟨bl,ol,cl,rfl,hlc,c0,hcs⟩:=Qdd hv
 have hil:=Q6a (oa:=some ⟨bl,ol,none⟩) (n:=cs.length+1) (b:=bl) (o:=ol) (cap:=cl) (fun _=>rfl)
 have Hcs:=Lib.hid hcs
 obtain ⟨oq,hoq,hsl⟩:=Qlc bl ol cs.length cl hlc
 have hiq:=Q6a (oa:=oq) (n:=cs.length) (b:=bl) (o:=ol+1) (cap:=cl - 1) hoq
 have hge:(1:Int)≤((cs.length+1:Nat):Int):=by omega
 have hge2:decide ((1:Int)≤(cs.length:Int)+1)=true:=decide_eq_true (by omega)
 have hcl:cs.length≤1000000001:=by have:=Q9c _ _ Hn.out;simp only [List.length_cons] at this;omega
 obtain ⟨j0,hj0,hy0,hy1,hy2⟩:=info_parts Q7y
 clear hv hcs hoq
 go_wp2_with fail
 go_loopw [9,165] (fun sv iv wr => ∃ k:Nat,k≤cs.length∧iv=.int .i64 (k:Int)∧wr.ownsRow w6.heap.size 3 1 sv (cs.take k).length ((cs.take k).map (Value.int .i64))∧Ext w6 wr) (fun _ iv _=>cs.length - (intOf iv).toNat)
 case atStart=>exact ⟨0,by omega,rfl,World.ownsRow_nil _ _ _ _,Ext.refl _⟩
 case round =>
  obtain ⟨k,hk,rfl,hown,hE⟩:=hrel
  rw [show (cs.take k).length=k by rw [List.length_take];omega] at hown
  obtain ⟨os,cs',rfl⟩:=Q02 hown
  have X:=Lib.hid hE
  have HO:=Lib.hid hown
  clear hE hown
  by_cases hlt:k < cs.length
  ·have c1:=X.out.kept (Hcs.out k cs[k] (by simp [hlt]))
   have hin:(k:Int) < (cs.length:Int):=by omega
   have HT2:=Lib.hid (List.take_succ_eq_append_getElem hlt)
   have hbs:=X.out.size
   generalize cs[k]=x at *
   generalize cs.take k=tk at *
   go_wp2_with (at_builtin;refine Q1z _ rfl _ _ 49 rfl w6.heap.size 3 j0 _ 1 8 Tryz.underlying49 hj0 hy0 hy1 hy2 rfl (by decide) _ _ _ rfl (Q2s HO.out) (some ⟨wr.heap.size,0,none⟩) 1 1 [.int .i64 x] rfl ?c1 ?c3 ?c4 ?c5 ?_)
   case c1=>exact Q35 (size:=1) (Blk.new wr 3 #[.int .i64 x]) rfl (by simp [Value.oneCell'])
   case c3=>unfold maxLen;omega
   case c4=>omega
   case c5=>simp;omega
   intro v4 w4 hown hgrow hat
   obtain ⟨o4,c4,rfl⟩:=Q02 hown
   have X4:=Lib.hid ((X.out.alloc (.cells #[.int .i64 x] 3)).grown hgrow (fun k hk=>Q2k HO.out k hk))
   have HO4:Hid (w4.ownsRow w6.heap.size 3 1 (.slice o4 (k+1) c4) (cs.take (k+1)).length ((cs.take (k+1)).map (Value.int .i64))):=Lib.hid (by rw [show (cs.take (k+1)).length=k+1 by rw [List.length_take];omega,HT2.out,List.map_append];exact hown)
   clear hown hgrow hat
   go_wp2
   go_roundw
   case rel=>exact ⟨k+1,by omega,by go_num,HO4.out,X4.out⟩
   case measure=>first | (simp [intOf];done) | (simp [intOf];omega)
  ·have hke:k=cs.length:=by omega
   subst hke
   have HI:Hid (Q2z wr (.slice os cs.length cs') cs):=Lib.hid (by
    have h:=HO.out
    rw [List.take_length] at h
    exact Q2m h H64.out)
   have HSr:=Lib.hid (HS6.out.extend X.out)
   obtain ⟨d0,d1,d2⟩:=HSr.out.cells
   have hgl:=HSr.out.box.lt
   have c1:=X.out.kept c0
   clear HO
   go_upto_region 24 with fail
   have q0:∀ Wx,Ext wr Wx→Wx.cell? ⟨bl,ol,none⟩=some (.int .i64 a):=fun _ h=>h.kept c1
   have k0:∀ Wx,Ext wr Wx→Wx.cell? ⟨g,0,none⟩=some (.slice oR p.regs.length cR):=fun _ h=>h.kept d0.1
   have k1:∀ Wx,Ext wr Wx→Wx.cell? ⟨g,1,none⟩=some (.slice oC p.code.length cC):=fun _ h=>h.kept d1.1
   have k2:∀ Wx,Ext wr Wx→Wx.cell? ⟨g,2,none⟩=some (.slice oM L.length cM):=fun _ h=>h.kept d2.1
   clear c0 c1 cw0 hix d0 d1 d2 hgl
   refine Qg1 [12,13,14,15,16] (by kernel_rfl) (by kernel_rfl) ?_
   repeat (first | (refine Q29 ?_ ?_;(decide)) | (refine Q23 ?_ ?_ ?_;(decide);(first | rfl | (focus (go_simp;done)));apply Exists.intro;refine ⟨fun wc hE=>?_,?_⟩;(go_simp;exact rfl);go_simp) | (refine Q27 ?_ ?_ ?_;(decide);(focus (go_simp;done));go_simp))
   refine Q28 ?_
   intro w7 hx
   have HS7:=Lib.hid (HSr.out.extend hx)
   have HX:=Lib.hid hx
   have HI7:=Lib.hid (HI.out.ext hx)
   clear hx q0 k0 k1 k2
   refine Q4j (i:=12) (by decide) (by kernel_rfl) ?_
   refine Q11 rfl ?_
   go_wp2_with fail
   (with_reducible refine (Qkz p (L.map (·.2)) cs a _ _ _ w7 HS7.out.prog HS7.out.mem HI7.out Ha.out).mono ?_)
   rintro e w8 ⟨s1,s2,s3,s4,E,fin,value,steps,seen,mem,rfl,hx,hsh,hb,hA⟩
   have HX8:=Lib.hid (HX.out.trans hx)
   have HS8:=Lib.hid (HS7.out.extend hx)
   have Hsh:=Lib.hid hsh
   have Hb:=Lib.hid hb
   have HA:=Lib.hid hA
   clear hx hsh hb hA
   go_wp2
   refine ⟨HX8.out,Q3s ?_⟩
   refine Qeo (i:=13) (j:=14) (by decide) (by kernel_rfl) ?_ ?_
   ·refine Q11 rfl ?_
    go_wp2
    refine ⟨HX8.out,Q3s ?_⟩
    refine Q4j (i:=14) (by decide) (by kernel_rfl) ?_
    refine Q11 rfl ?_
    go_wp2
    refine ⟨HX8.out,Q3s ?_⟩
    refine Q4j (i:=15) (by decide) (by kernel_rfl) ?_
    refine Q11 rfl ?_
    go_wp2_with fail
    (with_reducible refine (Qbg E fin value steps seen mem _ w8 Hsh.out Hb.out.1 Hb.out.2.1 Hb.out.2.2.1 Hb.out.2.2.2.1 Hb.out.2.2.2.2 (Ht.out.tabs.ext HS8.out.ext)).mono ?_)
    rintro e w9 ⟨rfl,hx⟩
    have HX9:=Lib.hid (HX8.out.trans hx)
    have HS9:=Lib.hid (HS8.out.extend hx)
    clear hx
    rw [HA.out]
    go_wp2
    refine ⟨HX9.out,Q3s ?_⟩
    refine Q4j (i:=16) (by decide) (by kernel_rfl) ?_
    refine Q11 rfl ?_
    go_wp2
    refine ⟨HX9.out,Q3s ?_⟩
    refine Q9y (by decide) ?_
    go_wp2
    go_ret
    exact Q0l.same (s:=⟨p,L.map (·.2)⟩) rfl HS9.out
   ·refine Q11 rfl ?_
    go_wp2
    refine ⟨HX8.out,Q3s ?_⟩
    refine Q4j (i:=13) (by decide) (by kernel_rfl) ?_
    refine Q11 rfl ?_
    go_wp2
    refine ⟨HX8.out,Q3s ?_⟩
    refine Q4j (i:=15) (by decide) (by kernel_rfl) ?_
    refine Q11 rfl ?_
    go_wp2_with fail
    (with_reducible refine (Qbg E fin value steps seen mem _ w8 Hsh.out Hb.out.1 Hb.out.2.1 Hb.out.2.2.1 Hb.out.2.2.2.1 Hb.out.2.2.2.2 (Ht.out.tabs.ext HS8.out.ext)).mono ?_)
    rintro e w9 ⟨rfl,hx⟩
    have HX9:=Lib.hid (HX8.out.trans hx)
    have HS9:=Lib.hid (HS8.out.extend hx)
    clear hx
    rw [HA.out]
    go_wp2
    refine ⟨HX9.out,Q3s ?_⟩
    refine Q4j (i:=16) (by decide) (by kernel_rfl) ?_
    refine Q11 rfl ?_
    go_wp2
    refine ⟨HX9.out,Q3s ?_⟩
    refine Q9y (by decide) ?_
    go_wp2
    go_ret
    exact Q0l.same (s:=⟨p,L.map (·.2)⟩) rfl HS9.out
end
theorem Qiw {w0 w:World} {B g:Nat} {vR vC vM:Value} {p:Q00} {L:List (Value × List Int)} {t:List UInt8} (h:PlSt w0 w B g 65 vR vC vM p L) (hg:Q0y ⟨p,L.map (·.2)⟩) (ht:Tab9 w0) (hT:t.length≤1000000000) :
  Calls Tryz.prog 20 #[.pointer (some ⟨g,0,none⟩),str t] w (Q0l (Q2h layD ⟨p,L.map (·.2)⟩ t) w0 B g 65):=by
 obtain ⟨W0,ws,hs⟩:∃ W0 ws,Q07 32 t=W0 :: ws:=by
  cases hq:Q07 32 t with
  | nil=>exact absurd hq (Q7k 32 t)
  | cons a b=>exact ⟨a,b,rfl⟩
 cases hn:Q0s ws with
 | none =>
  rw [Qq7 hs hn]
  exact Qtm h hg ht hT W0 hs hn
 | some l =>
  rw [Qq6 hs hn]
  have hml:(L.map (·.2)).length=L.length:=List.length_map _
  by_cases h_region:W0=[114,101,103,105,111,110]
  ·subst h_region
   rw [Qoq]
   by_cases hl:l.length=2
   case neg =>
    rw [if_neg hl]
    by_cases h0:l.length=0
    ·obtain rfl:=List.eq_nil_of_length_eq_zero h0
     exact Qtg h hg ht hT hs hn
    ·exact Qtc h hg ht hT l h0 hl hs hn
   obtain ⟨a,b,rfl⟩:=len2 hl
   rw [if_pos hl]
   exact Qta h hg ht hT a b hs hn
  by_cases h_fill:W0=[102,105,108,108]
  ·subst h_fill
   rw [Qoy]
   cases l with
   | nil =>
    rw [if_neg (by simp)]
    exact Qtk h hg ht hT hs hn
   | cons a cs =>
    rw [if_pos (by simp)]
    exact Qts h hg ht hT a cs hs hn
  by_cases h_look:W0=[108,111,111,107]
  ·subst h_look
   rw [Qos]
   by_cases hl:l.length=1
   case neg =>
    rw [if_neg (fun hh=>hl hh.1)]
    by_cases h0:l.length=0
    ·obtain rfl:=List.eq_nil_of_length_eq_zero h0
     exact Qti h hg ht hT hs hn
    ·exact Qtd h hg ht hT l h0 hl hs hn
   obtain ⟨a,rfl⟩:=len1 hl
   by_cases ha:a < 0∨(L.length:Int)≤a
   ·rw [if_neg (by simp only [List.getD_cons_zero,hml];omega)]
    exact Qtn h hg ht hT a ha hs hn
   ·obtain ⟨i,rfl⟩:∃ i:Nat,a=(i:Int):=⟨a.toNat,by omega⟩
    have hi:i < L.length:=by omega
    have hLi:L[i]? = some (L[i].1,L[i].2):=by simp [hi]
    rw [if_pos ⟨hl,by simp only [List.getD_cons_zero,hml];omega⟩]
    have e:(L.map (·.2)).getD (([(i:Int)].getD 0 0).toNat) []=L[i].2:=by simp [hi]
    show Calls _ _ _ _ (Q0l (sayT isW ((L.map (·.2)).getD (([(i:Int)].getD 0 0).toNat) []),_) _ _ _ _)
    rw [e]
    exact Qto h hg ht hT i _ _ hLi hs hn
  by_cases h_ins:W0=[105,110,115]
  ·subst h_ins
   rw [Qov]
   by_cases hl:l.length=5
   case neg =>
    rw [if_neg (fun hh=>hl hh.1)]
    by_cases h0:l.length=0
    ·obtain rfl:=List.eq_nil_of_length_eq_zero h0
     exact Qtj h hg ht hT hs hn
    ·exact Qe2 h hg ht hT l h0 hl hs hn
   obtain ⟨a,b,c,d,n,rfl⟩:=len5 hl
   by_cases hc:p.code.length < 200
   ·rw [if_pos ⟨hl,hc⟩]
    exact Qtq h hg ht hT a b c d n hc hs hn
   ·rw [if_neg (fun hh=>hc hh.2)]
    exact Qte h hg ht hT a b c d n (by omega) hs hn
  by_cases h_run:W0=[114,117,110]
  ·subst h_run
   rw [Qop]
   by_cases hl:l.length=1
   case neg =>
    rw [if_neg hl]
    by_cases h0:l.length=0
    ·obtain rfl:=List.eq_nil_of_length_eq_zero h0
     exact Qtf h hg ht hT hs hn
    ·exact Qtb h hg ht hT l h0 hl hs hn
   obtain ⟨a,rfl⟩:=len1 hl
   rw [if_pos hl]
   exact Qt9 h hg ht hT a hs hn
  by_cases h_ahead:W0=[97,104,101,97,100]
  ·subst h_ahead
   rw [Qp2]
   cases l with
   | nil =>
    rw [if_neg (by simp)]
    exact Qtl h hg ht hT hs hn
   | cons a cs =>
    rw [if_pos (by simp)]
    exact Qtu h hg ht hT a cs hs hn
  by_cases h_check:W0=[99,104,101,99,107]
  ·subst h_check
   rw [Qp0]
   cases l with
   | nil =>
    rw [if_pos List.length_nil]
    exact Qtt h hg ht hT hs hn
   | cons a cs =>
    rw [if_neg (by simp)]
    exact Q9q h hg ht hT [99,104,101,99,107] (a :: cs) (by simp) (by decide) (by decide) (by decide) (by decide) (by decide) (by decide) hs hn
  by_cases h_hard:W0=[104,97,114,100]
  ·subst h_hard
   rw [Qow]
   cases l with
   | nil =>
    rw [if_pos List.length_nil]
    exact Qtr h hg ht hT hs hn
   | cons a cs =>
    rw [if_neg (by simp)]
    exact Q9q h hg ht hT [104,97,114,100] (a :: cs) (by simp) (by decide) (by decide) (by decide) (by decide) (by decide) (by decide) hs hn
  by_cases h_text:W0=[116,101,120,116]
  ·subst h_text
   rw [Qoo]
   cases l with
   | nil =>
    rw [if_pos List.length_nil]
    exact Qt8 h hg ht hT hs hn
   | cons a cs =>
    rw [if_neg (by simp)]
    exact Q9q h hg ht hT [116,101,120,116] (a :: cs) (by simp) (by decide) (by decide) (by decide) (by decide) (by decide) (by decide) hs hn
  by_cases h_load:W0=[108,111,97,100]
  ·subst h_load
   rw [Qot]
   cases l with
   | nil =>
    rw [if_pos List.length_nil]
    exact Qtp h hg ht hT hs hn
   | cons a cs =>
    rw [if_neg (by simp)]
    exact Q9q h hg ht hT [108,111,97,100] (a :: cs) (by simp) (by decide) (by decide) (by decide) (by decide) (by decide) (by decide) hs hn
  rw [Qor h_region h_fill h_look h_ins h_run h_ahead h_check h_hard h_text h_load]
  by_cases h0:l.length=0
  ·obtain rfl:=List.eq_nil_of_length_eq_zero h0
   exact Qth h hg ht hT W0 h_region h_fill h_ins h_run h_ahead h_look h_check h_hard h_load h_text hs hn
  ·exact Q9q h hg ht hT W0 l h0 h_region h_fill h_ins h_run h_ahead h_look hs hn
theorem Qla (k n cap m:Nat) (h1:m≤n) (h2:n≤cap) (W:World) :
  (Instr.slice 22 (.slice (some ⟨k,0,none⟩) n cap) none (some (.int .i64 (m:Int))) none).run Tryz.prog W=.ok (.slice (some ⟨k,0,none⟩) m cap) W:=by
 have hu:Tryz.prog.underlying 22 = some (.slice (Tryz.prog.elem 22)):=by kernel_rfl
 have hz:(sizeOf (Tryz.prog.elem 22)).run Tryz.prog W=.ok 1 W:=by kernel_rfl
 rw [run_slice_h (P:=Tryz.prog) W 22 (some ⟨k,0,none⟩) n cap hu .i64 (m:Int) (by omega) (by omega),hz]
 simp only [Result.andThen,sliced,Int.toNat_natCast,Nat.sub_zero]
 by_cases h:cap=0
 ·rw [if_pos h]
 ·rw [if_neg h]
  rfl
theorem Qqi {l:List (List UInt8)} (h:l≠[]):l.getLastD []=l.getD (l.length - 1) []:=by
 rw [List.getLastD_eq_getLast?,List.getLast?_eq_getElem?,List.getD_eq_getElem?_getD]
structure Q6p (w0 wr:World) (B g T:Nat) (LL:List (List UInt8)) (k:Nat) (O:List UInt8) (S:LPl):Prop where
 st:∃ vR vC vM L,L.map (·.2)=S.m∧PlSt w0 wr B g T vR vC vM S.p L
 good:Q0y S
 eq:O ++ goD layD S (LL.drop k)=goD layD Q34 LL
 len:O.length≤k * 4001
theorem Q6p.fits {w0 wr:World} {B g T:Nat} {LL:List (List UInt8)} {k:Nat} {O:List UInt8} {S:LPl} (h:Q6p w0 wr B g T LL k O S):∀ i ∈ S.p.code,i.fits:=by
 obtain ⟨vR,vC,vM,L,-,h⟩:=h.st
 exact h.fc
theorem Q6p.next {w0 wr w':World} {B g T:Nat} {LL:List (List UInt8)} {k:Nat} {O:List UInt8} {S:LPl} (h:Q6p w0 wr B g T LL k O S) (hk:k < LL.length) (h':∃ vR vC vM L,L.map (·.2)=(Q2h layD S (LL.getD k [])).2.m∧PlSt w0 w' B g T vR vC vM (Q2h layD S (LL.getD k [])).2.p L) :
  Q6p w0 w' B g T LL (k+1) (O ++ ((Q2h layD S (LL.getD k [])).1 ++ [10])) (Q2h layD S (LL.getD k [])).2:=by
 refine ⟨h',Qq9 h.good,?_,?_⟩
 ·have e:LL.drop k=LL.getD k [] :: LL.drop (k+1):=by
   rw [List.drop_eq_getElem_cons hk]
   simp [hk]
  rw [← h.eq,e,goD]
  simp
 ·have h1:=h.len
  have h2:=Qd2 (t:=LL.getD k []) h.good h.fits
  simp only [List.length_append,List.length_cons,List.length_nil]
  omega
theorem Qq2 (s:List UInt8):(Q07 10 s).length - 1≤(Q36 s).length∧(Q36 s).length≤(Q07 10 s).length∧∀ j,j < (Q36 s).length→(Q36 s).getD j []=(Q07 10 s).getD j []:=by
 unfold Q36
 split
 ·refine ⟨by rw [List.length_dropLast];exact Nat.le_refl _,by rw [List.length_dropLast];omega,fun j hj=>?_⟩
  rw [List.length_dropLast] at hj
  rw [List.getD_eq_getElem?_getD,List.getD_eq_getElem?_getD,List.dropLast_eq_take,List.getElem?_take_of_lt hj]
 ·exact ⟨by omega,Nat.le_refl _,fun j hj=>rfl⟩
set_option maxRecDepth 100000 in
set_option maxHeartbeats 16000000 in
theorem Qe1 (s:List UInt8) (hs:s.length≤1000000000) (w:World) (ht:Tab9 w) :
  Calls Tryz.prog 7 #[str s] w fun e w'=>e=.returned (str (Q68 layD s))∧Ext w w':=by
 have Hs:=Lib.hid hs
 have Ht:=Lib.hid ht
 have C:=Lib.hid (Q2q 10 s hs w ht)
 have Hlen:=Lib.hid (Qaa 10 s)
 have Hpl:=Lib.hid (fun x (hx:x ∈ Q07 10 s)=>Q9a 10 s x hx)
 have Hlp:=Lib.hid (Qq2 s)
 have Hne:=Lib.hid (Q7k 10 s)
 have HPL:Hid (Q68 layD s=goD layD Q34 ((Q36 s).take 40)):=Lib.hid rfl
 have HLD:Hid (Q36 s=if (Q07 10 s).getLastD []=[] then (Q07 10 s).dropLast else Q07 10 s):=Lib.hid rfl
 have hadd:=Qa7
 have hsl:=List.count_le_length (a:=(10:UInt8)) (l:=s)
 clear hs ht
 go_enter Tryz.func7,Tryz.ntmps7
 go_wp2_with fail
 (with_reducible refine C.out.mono ?_)
 clear C
 rintro e w1 ⟨v1,rfl,⟨kw,cw,rfl,hcw,hcmw,hkw,hcells⟩,hx⟩
 have X1:=Lib.hid hx
 have Hcells:=Lib.hid hcells
 have hn1:1≤(Q07 10 s).length:=by rw [Hlen.out];omega
 have hn9:(Q07 10 s).length≤1000000001:=by rw [Hlen.out];have:=Hs.out;omega
 have hl:=hcells ((Q07 10 s).length - 1) (by omega)
 have hlast:(Q07 10 s).getD ((Q07 10 s).length - 1) []=(Q07 10 s).getLastD []:=(Qqi Hne.out).symm
 rw [hlast] at hl
 clear hcells hx hlast hsl
 obtain ⟨n,hn⟩:∃ n,(Q07 10 s).length=n:=⟨_,rfl⟩
 have Hn:=Lib.hid hn
 rw [hn] at hcw hn1 hn9 hl ⊢
 clear hn
 have hix:=Q73 (oa:=some ⟨kw,0,none⟩) (n:=n) (b:=kw) (o:=0) (cap:=cw) (fun _=>rfl)
 have hw1:wrap64 ((n:Int) - 1)=((n - 1:Nat):Int):=by unfold wrap64;omega
 have hw2:IntKind.i64.wrap ((n:Int) - 1)=((n - 1:Nat):Int):=(Qdo _).trans hw1
 have hb1:(0:Int)≤((n - 1:Nat):Int):=by omega
 have hb2:((n - 1:Nat):Int) < (n:Int):=by omega
 have hst:=Qla kw n cw (n - 1) (by omega) hcw
 generalize (Q07 10 s).getLastD []=Z at hl HLD
 by_cases hq:Z=[]
 ·have Hld:Hid (Q36 s=(Q07 10 s).dropLast):=Lib.hid (HLD.out.trans (if_pos hq))
  have Hln:Hid ((Q36 s).length=n - 1):=Lib.hid (by rw [Hld.out,List.length_dropLast,Hn.out])
  rw [hq] at hl
  have hN:n - 1≤n:=by omega
  obtain ⟨N,hN'⟩:∃ N:Nat,N=min (n - 1) 40:=⟨_,rfl⟩
  have e1:(min (((n - 1):Nat):Int) 40).toNat=N:=by omega
  have e2:max (min (((n - 1):Nat):Int) 40) 0=(N:Int):=by omega
  have e3:min (((n - 1):Nat):Int) 40=(N:Int):=by omega
  have hLL:Hid (((Q36 s).take 40).length=N):=Lib.hid (by rw [List.length_take,Hln.out,hN',Nat.min_comm])
  have hN40:N≤40:=by omega
  have hNn:N≤n:=by omega
  have hix2:=Q73 (oa:=some ⟨kw,0,none⟩) (n:=N) (b:=kw) (o:=0) (cap:=cw) (fun _=>rfl)
  go_upto_region 7 with fail
  try rw [e2]
  try rw [e1]
  try rw [e3]
  have HL2:Hid (∀ j,j < N→((Q36 s).take 40).getD j []=(Q07 10 s).getD j []):=Lib.hid (fun j hj=>by
   rw [List.getD_eq_getElem?_getD,List.getElem?_take_of_lt (by omega),← List.getD_eq_getElem?_getD]
   exact Hlp.out.2.2 j (by rw [Hln.out];omega))
  generalize (Q36 s).take 40=LL at *
  obtain ⟨w2,g,hg,hW,hx2,bP⟩:=Q2p w1 #[.slice none 0 0,.slice none 0 0,.slice none 0 0] 65
  rw [hW,hg]
  have hPl:PlSt w1 w2 w1.heap.size g 65 (.slice none 0 0) (.slice none 0 0) (.slice none 0 0) Q34.p [] :=
   ⟨bP,World.ownsRow_nil _ _ _ _,World.ownsRow_nil _ _ _ _,World.ownsRow_nil _ _ _ _,Fam.nil _ _,hx2,by omega,Nat.le_refl _,by decide,by decide,by decide,by decide,fun r hr=>by simp [Q34] at hr,fun i hi=>by simp [Q34] at hi,fun x hx=>by simp at hx⟩
  have HP0:Hid (Q6p w1 w2 w1.heap.size g 65 LL 0 [] Q34):=Lib.hid ⟨⟨_,_,_,[],rfl,hPl⟩,Qig,by rw [List.drop_zero];rfl,by simp⟩
  clear hPl hg hW hx2 bP e1 e2 e3 hl
  go_loopw [5,30] (fun ov iv wr => ∃ (k:Nat) (O:List UInt8) (S:LPl),k≤N∧iv=.int .i64 (k:Int)∧ov=str O∧Q6p w1 wr w1.heap.size g 65 LL k O S) (fun _ iv _=>N - (intOf iv).toNat)
  case atStart=>exact ⟨0,[],Q34,by omega,rfl,rfl,HP0.out⟩
  case round =>
   obtain ⟨k,O,S,hk,rfl,rfl,hI⟩:=hrel
   have HI:=Lib.hid hI
   have HB:Hid (Ext w1 wr):=Lib.hid (by
    obtain ⟨vR,vC,vM,L,-,hP⟩:=hI.st
    exact hP.ext)
   clear hI
   by_cases hlt:k < N
   ·have hin:(k:Int) < (N:Int):=by omega
    have c0:=(HB.out.kept (Hcells.out k (by rw [Hn.out];omega)))
    rw [← HL2.out k hlt] at c0
    have hT:(LL.getD k []).length≤1000000000:=by
     rw [HL2.out k hlt]
     exact Nat.le_trans (Hpl.out _ (Qdr (by rw [Hn.out];omega))) Hs.out
    have HT:=Lib.hid hT
    have hOl:=HI.out.len
    have hO4:O.length≤4000000:=by omega
    have hA:=Qd2 (t:=LL.getD k []) HI.out.good HI.out.fits
    have hNx:=Lib.hid (fun w' h'=>HI.out.next (w':=w') (by rw [hLL.out];exact hlt) h')
    obtain ⟨vR,vC,vM,L,hm,hP⟩:=HI.out.st
    have HPs:=Lib.hid hP
    have Hgood:Hid (Q0y ⟨S.p,L.map (·.2)⟩):=Lib.hid (by rw [hm];exact HI.out.good)
    have Hm:=Lib.hid hm
    clear hm hP hT hOl
    generalize LL.getD k []=t at *
    have hS:(⟨S.p,L.map (·.2)⟩:LPl)=S:=by rw [Hm.out]
    have CL:=Qiw HPs.out Hgood.out (Ht.out.ext X1.out) HT.out
    rw [hS] at CL
    have CL:=Lib.hid CL
    clear hS
    have hA2:((Q2h layD S t).1 ++ [10]).length≤4000000:=by rw [List.length_append];simp only [List.length_cons,List.length_nil];omega
    have hA3:(Q2h layD S t).1.length≤4000000:=by omega
    go_wp2_with fail
    (with_reducible refine CL.out.mono ?_)
    rintro e w3 ⟨rfl,h3⟩
    have HN:=Lib.hid (hNx.out w3 h3)
    obtain ⟨vR',vC',vM',L',hm',hP'⟩:=h3
    clear hm' hP' CL c0
    generalize (Q2h layD S t).1=Q at *
    go_wp2
    go_roundw
    case rel=>exact ⟨k+1,O ++ (Q ++ [10]),_,by omega,by go_num,by show Value.string (_ ++ _)=_;rw [Q3h],HN.out⟩
    case measure=>first | (simp [intOf];done) | (simp [intOf];omega)
   ·have hke:k=N:=by omega
    subst hke
    have HE:Hid (O=Q68 layD s):=Lib.hid (by
     have:=HI.out.eq
     rw [← hLL.out,List.drop_length,goD,List.append_nil] at this
     rw [this,HPL.out])
    obtain ⟨vR,vC,vM,L,hm,hP⟩:=HI.out.st
    have HX:=Lib.hid (X1.out.trans hP.ext)
    clear hm hP
    go_wp2
    go_ret
    exact ⟨by rw [HE.out];rfl,HX.out⟩
 ·have Hld:Hid (Q36 s=Q07 10 s):=Lib.hid (HLD.out.trans (if_neg hq))
  have Hln:Hid ((Q36 s).length=n):=Lib.hid (by rw [Hld.out,Hn.out])
  have hqf:(Z == [])=false:=by simpa using hq
  have hqe:Z.isEmpty=false:=by simpa using hq
  have hN:n≤n:=Nat.le_refl _
  obtain ⟨N,hN'⟩:∃ N:Nat,N=min n 40:=⟨_,rfl⟩
  have e1:(min ((n:Nat):Int) 40).toNat=N:=by omega
  have e2:max (min ((n:Nat):Int) 40) 0=(N:Int):=by omega
  have e3:min ((n:Nat):Int) 40=(N:Int):=by omega
  have hLL:Hid (((Q36 s).take 40).length=N):=Lib.hid (by rw [List.length_take,Hln.out,hN',Nat.min_comm])
  have hN40:N≤40:=by omega
  have hNn:N≤n:=by omega
  have hix2:=Q73 (oa:=some ⟨kw,0,none⟩) (n:=N) (b:=kw) (o:=0) (cap:=cw) (fun _=>rfl)
  go_upto_region 7 with fail
  try rw [e2]
  try rw [e1]
  try rw [e3]
  have HL2:Hid (∀ j,j < N→((Q36 s).take 40).getD j []=(Q07 10 s).getD j []):=Lib.hid (fun j hj=>by
   rw [List.getD_eq_getElem?_getD,List.getElem?_take_of_lt (by omega),← List.getD_eq_getElem?_getD]
   exact Hlp.out.2.2 j (by rw [Hln.out];omega))
  generalize (Q36 s).take 40=LL at *
  obtain ⟨w2,g,hg,hW,hx2,bP⟩:=Q2p w1 #[.slice none 0 0,.slice none 0 0,.slice none 0 0] 65
  rw [hW,hg]
  have hPl:PlSt w1 w2 w1.heap.size g 65 (.slice none 0 0) (.slice none 0 0) (.slice none 0 0) Q34.p [] :=
   ⟨bP,World.ownsRow_nil _ _ _ _,World.ownsRow_nil _ _ _ _,World.ownsRow_nil _ _ _ _,Fam.nil _ _,hx2,by omega,Nat.le_refl _,by decide,by decide,by decide,by decide,fun r hr=>by simp [Q34] at hr,fun i hi=>by simp [Q34] at hi,fun x hx=>by simp at hx⟩
  have HP0:Hid (Q6p w1 w2 w1.heap.size g 65 LL 0 [] Q34):=Lib.hid ⟨⟨_,_,_,[],rfl,hPl⟩,Qig,by rw [List.drop_zero];rfl,by simp⟩
  clear hPl hg hW hx2 bP e1 e2 e3 hl
  go_loopw [5,30] (fun ov iv wr => ∃ (k:Nat) (O:List UInt8) (S:LPl),k≤N∧iv=.int .i64 (k:Int)∧ov=str O∧Q6p w1 wr w1.heap.size g 65 LL k O S) (fun _ iv _=>N - (intOf iv).toNat)
  case atStart=>exact ⟨0,[],Q34,by omega,rfl,rfl,HP0.out⟩
  case round =>
   obtain ⟨k,O,S,hk,rfl,rfl,hI⟩:=hrel
   have HI:=Lib.hid hI
   have HB:Hid (Ext w1 wr):=Lib.hid (by
    obtain ⟨vR,vC,vM,L,-,hP⟩:=hI.st
    exact hP.ext)
   clear hI
   by_cases hlt:k < N
   ·have hin:(k:Int) < (N:Int):=by omega
    have c0:=(HB.out.kept (Hcells.out k (by rw [Hn.out];omega)))
    rw [← HL2.out k hlt] at c0
    have hT:(LL.getD k []).length≤1000000000:=by
     rw [HL2.out k hlt]
     exact Nat.le_trans (Hpl.out _ (Qdr (by rw [Hn.out];omega))) Hs.out
    have HT:=Lib.hid hT
    have hOl:=HI.out.len
    have hO4:O.length≤4000000:=by omega
    have hA:=Qd2 (t:=LL.getD k []) HI.out.good HI.out.fits
    have hNx:=Lib.hid (fun w' h'=>HI.out.next (w':=w') (by rw [hLL.out];exact hlt) h')
    obtain ⟨vR,vC,vM,L,hm,hP⟩:=HI.out.st
    have HPs:=Lib.hid hP
    have Hgood:Hid (Q0y ⟨S.p,L.map (·.2)⟩):=Lib.hid (by rw [hm];exact HI.out.good)
    have Hm:=Lib.hid hm
    clear hm hP hT hOl
    generalize LL.getD k []=t at *
    have hS:(⟨S.p,L.map (·.2)⟩:LPl)=S:=by rw [Hm.out]
    have CL:=Qiw HPs.out Hgood.out (Ht.out.ext X1.out) HT.out
    rw [hS] at CL
    have CL:=Lib.hid CL
    clear hS
    have hA2:((Q2h layD S t).1 ++ [10]).length≤4000000:=by rw [List.length_append];simp only [List.length_cons,List.length_nil];omega
    have hA3:(Q2h layD S t).1.length≤4000000:=by omega
    go_wp2_with fail
    (with_reducible refine CL.out.mono ?_)
    rintro e w3 ⟨rfl,h3⟩
    have HN:=Lib.hid (hNx.out w3 h3)
    obtain ⟨vR',vC',vM',L',hm',hP'⟩:=h3
    clear hm' hP' CL c0
    generalize (Q2h layD S t).1=Q at *
    go_wp2
    go_roundw
    case rel=>exact ⟨k+1,O ++ (Q ++ [10]),_,by omega,by go_num,by show Value.string (_ ++ _)=_;rw [Q3h],HN.out⟩
    case measure=>first | (simp [intOf];done) | (simp [intOf];omega)
   ·have hke:k=N:=by omega
    subst hke
    have HE:Hid (O=Q68 layD s):=Lib.hid (by
     have:=HI.out.eq
     rw [← hLL.out,List.drop_length,goD,List.append_nil] at this
     rw [this,HPL.out])
    obtain ⟨vR,vC,vM,L,hm,hP⟩:=HI.out.st
    have HX:=Lib.hid (X1.out.trans hP.ext)
    clear hm hP
    go_wp2
    go_ret
    exact ⟨by rw [HE.out];rfl,HX.out⟩
set_option maxRecDepth 100000 in
set_option maxHeartbeats 16000000 in
theorem Qt2 (a b:List UInt8) (ha:a.length≤1048576) (hb:b.length≤1048576) (w:World) (ht:Tab9 w) :
  Calls Tryz.prog 4 #[str a,str b] w fun e w'=>e=.returned (.bool true)∧Ext w w':=by
 have Ht:=Lib.hid ht
 have C1:=Lib.hid fun W (X:Ext w W)=>Qe1 (a ++ [10]) (by rw [List.length_append];simp only [List.length_cons,List.length_nil];omega) W (ht.ext X)
 have C2:=Lib.hid fun W (X:Ext w W)=>Qe1 (a ++ [10] ++ b) (by rw [List.length_append,List.length_append];simp only [List.length_cons,List.length_nil];omega) W (ht.ext X)
 have C3:=Lib.hid fun W (X:Ext w W)=>Qe1 [63] (by simp) W (ht.ext X)
 have HP:=Lib.hid (Qnb layD a b)
 have hadd:=Qa7
 have ha1:a.length≤4000000:=by omega
 have hb1:b.length≤4000000:=by omega
 have ha2:(a ++ [10]).length≤4000000:=by rw [List.length_append];simp only [List.length_cons,List.length_nil];omega
 obtain ⟨X,hX⟩:=HP.out
 rw [hX] at C2
 rw [Qna layD] at C3
 generalize Q68 layD (a ++ [10])=S at *
 clear ht HP hX
 have hS:decide (S.length≤(S ++ X).length)=true:=decide_eq_true (by simp)
 have hE:((⟨(S ++ X).toArray⟩:ByteArray).extract 0 S.length).toList=S:=by
  rw [ByteArray.toList_eq,ByteArray.data_extract]
  simp
 go_enter Tryz.func4,Tryz.ntmps4
 go_wp2_with fail
 (refine (C1.out w (Ext.refl w)).mono ?_)
 rintro e w1 ⟨rfl,hx⟩
 have X1:=Lib.hid hx
 clear C1 hx
 go_wp2_with fail
 (refine (C2.out w1 X1.out).mono ?_)
 rintro e w2 ⟨rfl,hx⟩
 have X2:=Lib.hid (X1.out.trans hx)
 clear C2 hx
 go_wp2_with fail
 (refine (C3.out w2 X2.out).mono ?_)
 rintro e w3 ⟨rfl,hx⟩
 have X3:=Lib.hid (X2.out.trans hx)
 clear C3 hx
 go_wp2
 go_ret
 exact ⟨rfl,X3.out⟩
end Go.Proofs.YtiafchefbehfbaaGreatDoor
