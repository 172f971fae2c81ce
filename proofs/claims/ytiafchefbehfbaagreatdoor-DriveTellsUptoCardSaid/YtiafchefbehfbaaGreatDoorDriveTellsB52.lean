/- Laid together from: DrL, DrQ, Drp, Dma, Drd, Drf, Dmg, Drw, Kme, Kmg, Kmr, Kms, Kmz, Drx. -/
import Derived.Test.YtiafchefbehfbaaGreatDoorDriveTellsB49
import Derived.Test.YtiafchefbehfbaaGreatDoorDriveTellsB28
import Derived.Test.YtiafchefbehfbaaGreatDoorDriveTellsB40
import Derived.Test.YtiafchefbehfbaaGreatDoorDriveTellsB5
import Derived.Test.YtiafchefbehfbaaGreatDoorDriveTellsB51
import Derived.Test.YtiafchefbehfbaaGreatDoorDriveTellsB48
import Derived.Test.YtiafchefbehfbaaGreatDoorDriveTellsB14
import Derived.Test.YtiafchefbehfbaaGreatDoorDriveTellsB45

namespace Go.Proofs.YtiafchefbehfbaaGreatDoor
open Go.ChangeShapes Go.WideShapes Go.ChangeAt Go.RowKit
set_option linter.unusedVariables false
set_option linter.unusedSimpArgs false
def runA (p:Q00) (m:List (List Int)) (f:Int):List UInt8 :=
 ranT (mayE p m f) (runM p f.toNat (Q0a m.flatten)).fin (runM p f.toNat (Q0a m.flatten)).value (runM p f.toNat (Q0a m.flatten)).steps (runM p f.toNat (Q0a m.flatten)).seen.length
def Q75 (p:Q00) (m:List (List Int)) (sc:List Int) (f:Int):List UInt8 :=
 ranT (Q2m p m sc f) (endS (runS p f.toNat (Q1l m.flatten sc))).fin (endS (runS p f.toNat (Q1l m.flatten sc))).value (endS (runS p f.toNat (Q1l m.flatten sc))).steps (endS (runS p f.toNat (Q1l m.flatten sc))).seen.length
noncomputable def layD:Q82:=⟨runA,Q75,checkA,hardA,Q79,loadA⟩
theorem Qbi {E fin value:Int} {steps seen:Nat} (h:E≠0):ranT E fin value steps seen=ranT E 0 0 0 0:=by
 unfold ranT
 rw [if_neg h,if_neg h]
theorem Qmm {p:Q00} {i:LIns} {m:Mach} (h:MOk p m) (hv:R64 m.value):R64 (Q0y p i m).value:=by
 unfold Q0y
 dsimp only
 repeat' split
 all_goals first | exact hv | exact rg64 h.r64 _
theorem Qd8 {p:Q00} (hf:∀ i ∈ p.code,i.fits):∀ (k:Nat) (m:Mach),MOk p m→R64 m.value→R64 (runM p k m).value
 | 0,m,h,hv=>hv
 | k+1,m,h,hv=>by
  rw [runM]
  split
  ·exact hv
  ·split
   ·exact hv
   ·rename_i i hi
    have hm:=List.mem_of_getElem? hi
    exact Qd8 hf k _ (h.step (hf i hm)) (Qmm h hv)
theorem Qe4 (s:Spc):s.leave.value=s.value:=by unfold Spc.leave;split <;> rfl
theorem Quj {p:Q00} {i:LIns} {s:Spc} (h:Q1p s.pl.regs) (hv:R64 s.value):R64 (doS p i s).value:=by
 unfold doS
 split
 ·exact hv
 split
 ·unfold Q4j
  dsimp only
  split
  ·exact hv
  ·simp only [Spc.goTo,Spc.chosen,Qe4]
   exact hv
 split
 ·split
  ·exact hv
  ·exact rg64 h _
 split
 ·exact hv
 split
 ·unfold Q3h
  dsimp only
  split
  ·exact hv
  ·split
   ·split
    ·exact hv
    ·unfold Q44
     dsimp only
     split
     ·simp only [Spc.put_,Spc.goTo,Spc.chosen,Qe4]
      exact hv
     ·exact hv
   ·split
    ·exact hv
    ·exact hv
 ·exact hv
theorem Qmk {p:Q00} {i:LIns} {s:Spc} (h:Q1p s.pl.regs) (hv:R64 s.value):R64 (Q2i p i s).value:=by
 have h1:=Quj (p:=p) (i:=i) (s:={ s with steps:=s.steps+1,seen:=s.seen ++ [⟨1,s.pl.at_,0⟩] }) h hv
 unfold Q2i
 dsimp only
 split
 ·split
  ·exact h1
  ·exact h1
 ·exact h1
theorem Qd6 {p:Q00} (hh:Q3f p=true) (hf:∀ i ∈ p.code,i.fits):∀ (k:Nat) (S:Spc),SOk p S→R64 S.value→R64 (runS p k S).value
 | 0,S,h,hv=>hv
 | k+1,S,h,hv=>by
  obtain ⟨-,-,-,hall⟩:=Q5m hh
  rw [runS]
  split
  ·exact hv
  ·have hu:SOk p (upS p S)∧R64 (upS p S).value:=by
    unfold upS
    split
    ·rename_i hc
     exact ⟨h.up hc.1,hv⟩
    ·exact ⟨h,hv⟩
   split
   ·exact hu.2
   ·rename_i i hi
    have hlt:=(List.getElem?_eq_some_iff.1 hi).1
    have hm:=List.mem_of_getElem? hi
    exact Qd6 hh hf k _ (hu.1.step hlt (hall i hm) (hf i hm)) (Qmk hu.1.mid.pl.r64 hu.2)
theorem Qa9 (p:Q00) (m:List (List Int)) (f:Int):R64 (mayE p m f):=by
 unfold mayE R64
 split
 ·omega
 ·split <;> omega
theorem Qb4 (p:Q00) (m:List (List Int)) (sc:List Int) (f:Int):R64 (Q2m p m sc f):=by
 have:=Qa9 p m f
 unfold Q2m
 split
 ·split <;> (unfold R64;omega)
 ·exact this
theorem Qhh {w:World} {v:Value} {p:Q00} (h:Q29 w v p):∀ i ∈ p.code,i.fits:=by
 obtain ⟨v1,v2,-,-,h2⟩:=h
 exact h2.1
theorem Qba {w:World} {v:Value} {fin value:Int} {steps:Nat} {seen:List LSee} {mem:List (List Int)} (h:Q52 w v fin value steps seen mem) :
  ∃ s1 s2 s3 s4,v=.agg #[.int .i64 fin,.int .i64 value,.int .i64 (steps:Int),.slice s1 seen.length s2,.slice s3 mem.length s4]:=by
 obtain ⟨vs,vm,rfl,⟨oa,cap,b,o,rfl,-⟩,⟨oa2,cap2,b2,o2,rfl,-⟩⟩:=h
 exact ⟨oa,cap,oa2,cap2,rfl⟩
def RanR (A:List UInt8) (w:World) (e:Ending) (w':World):Prop :=
 ∃ (s1:Option Addr) (s2:Nat) (s3:Option Addr) (s4:Nat) (E fin value:Int) (steps:Nat) (seen:List LSee) (mem:List (List Int)),e=.returned (.tuple #[.agg #[.int .i64 fin,.int .i64 value,.int .i64 (steps:Int),.slice s1 seen.length s2,.slice s3 mem.length s4],.int .i64 E])∧Ext w w' ∧
  Q52 w' (.agg #[.int .i64 fin,.int .i64 value,.int .i64 (steps:Int),.slice s1 seen.length s2,.slice s3 mem.length s4]) fin value steps seen mem∧(R64 E∧0≤fin∧fin≤2∧R64 value∧steps≤1000000)∧ranT E fin value steps seen.length=A
theorem Q7d (p:Q00) (m:List (List Int)) (fuel:Int) (v vm:Value) (w:World) (hp:Q29 w v p) (hm:Q4q w vm m) (hf:R64 fuel) :
  Calls Tryz.prog 11 #[v,vm,.int .i64 fuel] w (RanR (runA p m fuel) w):=by
 refine (Q5b p m fuel v vm w hp hm hf).mono fun e w' ⟨u,h1,h2,h3,h4⟩=>?_
 by_cases h0:mayE p m fuel=0
 ·have hS:=h3 h0
  obtain ⟨hh,hfit,hf0,hf4⟩:=Q9c h0
  obtain ⟨s1,s2,s3,s4,rfl⟩:=Qba hS
  have hok:=Qdy hfit (fun l hl x hx=>Qdz hm x (List.mem_flatten.2 ⟨l,hl,hx⟩))
  have hfin:=Qgv p fuel.toNat (Q0a m.flatten) (.inl rfl)
  have hval:=Qd8 (Qhh hp) fuel.toNat (Q0a m.flatten) hok.ok Q4l
  have hst:=(Qd9 p fuel.toNat (Q0a m.flatten)).2.1
  have hst0:(Q0a m.flatten).steps=0:=rfl
  refine ⟨s1,s2,s3,s4,_,_,_,_,_,_,h1,h2,hS,⟨Qa9 _ _ _,?_,?_,hval,by omega⟩,rfl⟩
  ·rcases hfin with e | e | e <;> omega
  ·rcases hfin with e | e | e <;> omega
 ·have hS:=h4 h0
  obtain ⟨s1,s2,s3,s4,rfl⟩:=Qba hS
  exact ⟨s1,s2,s3,s4,_,0,0,0,[],[],h1,h2,hS,⟨Qa9 _ _ _,by omega,by omega,Q4l,by omega⟩,(Qbi h0).symm⟩
theorem Qcv (p:Q00) (m:List (List Int)) (sc:List Int) (fuel:Int) (v vm vx:Value) (w:World) (hp:Q29 w v p) (hm:Q4q w vm m) (hs:Q2z w vx sc) (hf:R64 fuel) :
  Calls Tryz.prog 13 #[v,vm,vx,.int .i64 fuel] w (RanR (Q75 p m sc fuel) w):=by
 refine (Qmt p m sc fuel v vm vx w hp hm hs hf).mono fun e w' ⟨u,h1,h2,h3,h4⟩=>?_
 by_cases h0:Q2m p m sc fuel=0
 ·have hS:=h3 h0
  have h00:mayE p m fuel=0:=by
   apply Classical.byContradiction
   intro hn
   rw [Qd0 hn] at h0
   exact hn h0
  obtain ⟨hh,hfit,hf0,hf4⟩:=Q9c h00
  obtain ⟨s1,s2,s3,s4,rfl⟩:=Qba hS
  obtain ⟨-,e2,e3,e4⟩:=Qkl (runS p fuel.toNat (Q1l m.flatten sc))
  have hok:SOk p (Q1l m.flatten sc):=Qd1 (Qc5 hfit) (Q9p (Qdz hm))
  have hfin:=Qgu p fuel.toNat (Q1l m.flatten sc) (.inl rfl)
  have hval:=Qd6 hh (Qhh hp) fuel.toNat (Q1l m.flatten sc) hok Q4l
  have hst:=Qd7 p fuel.toNat (Q1l m.flatten sc)
  have hst0:(Q1l m.flatten sc).steps=0:=rfl
  refine ⟨s1,s2,s3,s4,_,_,_,_,_,_,h1,h2,hS,⟨Qb4 _ _ _ _,?_,?_,by rw [e3];exact hval,by omega⟩,rfl⟩
  ·rw [e2];rcases hfin with e | e | e <;> omega
  ·rw [e2];rcases hfin with e | e | e <;> omega
 ·have hS:=h4 h0
  obtain ⟨s1,s2,s3,s4,rfl⟩:=Qba hS
  exact ⟨s1,s2,s3,s4,_,0,0,0,[],[],h1,h2,hS,⟨Qb4 _ _ _ _,by omega,by omega,Q4l,by omega⟩,(Qbi h0).symm⟩
theorem Qmo (p:Q00) (i:LIns) (m:Mach):(Q0y p i m).seen.length≤m.seen.length+2:=by
 have hp:(Q39 m.regs i).length≤1:=by unfold Q39;split <;> simp
 unfold Q0y
 dsimp only
 repeat' split
 all_goals simp only [List.length_append,List.length_cons,List.length_nil]
 all_goals omega
theorem Qgw (p:Q00):∀ (k:Nat) (m:Mach),(runM p k m).seen.length≤m.seen.length+2 * k
 | 0,m=>by simp [runM]
 | k+1,m=>by
  rw [runM]
  split
  ·omega
  ·split
   ·show m.seen.length≤_
    omega
   ·rename_i i hi
    have h1:=Qgw p k (Q0y p i m)
    have h2:=Qmo p i m
    omega
theorem Qgi {p:Q00} (hh:Q3f p=true) (hf:∀ i ∈ p.code,i.fits):∀ (k:Nat) (S:Spc),SOk p S→SOk p (runS p k S)
 | 0,S,h=>h
 | k+1,S,h=>by
  obtain ⟨-,-,-,hall⟩:=Q5m hh
  rw [runS]
  split
  ·exact h
  ·have hu:SOk p (upS p S):=by
    unfold upS
    split
    ·rename_i hc
     exact h.up hc.1
    ·exact h
   split
   ·exact ⟨hu.mid.fault 2,hu.seen⟩
   ·rename_i i hi
    have hlt:=(List.getElem?_eq_some_iff.1 hi).1
    have hm:=List.mem_of_getElem? hi
    exact Qgi hh hf k _ (hu.step hlt (hall i hm) (hf i hm))
theorem Quf (fin:Int):(endT fin).length≤5:=by
 unfold endT
 split
 ·decide
 ·split <;> decide
theorem Qbh {E fin value:Int} {steps seen:Nat} (hE:R64 E) (hv:R64 value) (h1:steps≤1000000) (h2:seen≤1000000):(ranT E fin value steps seen).length≤100:=by
 unfold ranT
 split
 ·have:=Q6m (endT fin) [value,(steps:Int),(seen:Int)] (fun x hx=>by
   simp only [List.mem_cons,List.not_mem_nil,or_false] at hx
   rcases hx with rfl | rfl | rfl
   ·exact hv
   ·unfold R64;omega
   ·unfold R64;omega)
  have h3:=Quf fin
  simp only [List.length_cons,List.length_nil] at this
  omega
 ·have:=Q6m badW [E] (fun x hx=>by rw [List.mem_singleton.1 hx];exact hE)
  have h3:badW.length=3:=rfl
  simp only [List.length_cons,List.length_nil] at this
  omega
theorem Qo1 {p:Q00} {m:List (List Int)} (f:Int) (hf:∀ i ∈ p.code,i.fits) (h64:∀ l ∈ m,∀ z ∈ l,R64 z):(runA p m f).length≤100:=by
 unfold runA
 by_cases h0:mayE p m f=0
 ·obtain ⟨hh,hfit,hf0,hf4⟩:=Q9c h0
  have hok:=Qdy hfit h64
  have hval:=Qd8 hf f.toNat (Q0a m.flatten) hok.ok Q4l
  have hst:=(Qd9 p f.toNat (Q0a m.flatten)).2.1
  have hst0:(Q0a m.flatten).steps=0:=rfl
  have hse:=Qgw p f.toNat (Q0a m.flatten)
  have hse0:(Q0a m.flatten).seen.length=0:=rfl
  exact Qbh (Qa9 _ _ _) hval (by omega) (by omega)
 ·rw [Qbi h0]
  exact Qbh (Qa9 _ _ _) Q4l (by omega) (by omega)
theorem Qvy {p:Q00} {m:List (List Int)} (sc:List Int) (f:Int) (hf:∀ i ∈ p.code,i.fits) (h64:∀ l ∈ m,∀ z ∈ l,R64 z):(Q75 p m sc f).length≤100:=by
 unfold Q75
 by_cases h0:Q2m p m sc f=0
 ·have h00:mayE p m f=0:=by
   apply Classical.byContradiction
   intro hn
   rw [Qd0 hn] at h0
   exact hn h0
  obtain ⟨hh,hfit,hf0,hf4⟩:=Q9c h00
  obtain ⟨e1,e2,e3,e4⟩:=Qkl (runS p f.toNat (Q1l m.flatten sc))
  have hok:SOk p (Q1l m.flatten sc):=Qd1 (Qc5 hfit) (Q9p (fun x hx=>by
   obtain ⟨l,hl,hx⟩:=List.mem_flatten.1 hx
   exact h64 l hl x hx))
  have hval:=Qd6 hh hf f.toNat (Q1l m.flatten sc) hok Q4l
  have hst:=Qd7 p f.toNat (Q1l m.flatten sc)
  have hst0:(Q1l m.flatten sc).steps=0:=rfl
  have hse:=(Qgi hh hf f.toNat _ hok).seen
  rw [e1,e2,e3,e4]
  exact Qbh (Qb4 _ _ _ _) hval (by omega) (by omega)
 ·rw [Qbi h0]
  exact Qbh (Qb4 _ _ _ _) Q4l (by omega) (by omega)
theorem Qfg {p:Q00} (hc:p.code.length≤600):(sayT badW [(faultD p).1,((faultD p).2:Int)]).length≤100:=by
 obtain ⟨h1,h2⟩:=Qal p hc
 have:=Q6m badW [(faultD p).1,((faultD p).2:Int)] (fun x hx=>by
  simp only [List.mem_cons,List.not_mem_nil,or_false] at hx
  rcases hx with rfl | rfl
  ·exact h1
  ·exact h2)
 have h3:badW.length=3:=rfl
 simp only [List.length_cons,List.length_nil] at this
 omega
theorem Qa2 {n:Int} (h:R64 n):(sayT okW [n]).length≤100:=by
 have:=Q6m okW [n] (fun x hx=>by rw [List.mem_singleton.1 hx];exact h)
 have h3:okW.length=2:=rfl
 simp only [List.length_cons,List.length_nil] at this
 omega
theorem Qvu {n:Int} (h:R64 n):(sayT badW [n]).length≤100:=by
 have:=Q6m badW [n] (fun x hx=>by rw [List.mem_singleton.1 hx];exact h)
 have h3:badW.length=3:=rfl
 simp only [List.length_cons,List.length_nil] at this
 omega
theorem Qgz {m:List (List Int)} {k:Nat} (h:k < m.length):m.getD k [] ∈ m:=by
 rw [List.getD_eq_getElem?_getD,List.getElem?_eq_getElem h]
 exact List.getElem_mem h
set_option maxHeartbeats 4000000 in
theorem Qqe {s:LPl} {w:List UInt8} {l:List Int} (h:Q0x s) (hf:∀ i ∈ s.p.code,i.fits):(Q2o layD s w l).1.length≤4000:=by
 have q1:([63]:List UInt8).length≤4000:=by simp
 have hc:=h.code
 have hr:=h.regs6
 unfold Q2o
 split
 ·split
  ·unfold Q2e
   split
   ·exact q1
   ·have:=Qa2 (n:=((s.p.regs.length+1:Nat):Int)) (by unfold R64;omega)
    show (sayT okW _).length≤_
    omega
  ·exact q1
 split
 ·split
  ·unfold Q36
   split
   ·exact q1
   ·show okW.length≤4000
    decide
  ·exact q1
 split
 ·split
  ·rename_i hh
   obtain ⟨h1,h2,h3⟩:=hh
   have hm:=Qgz (m:=s.m) (k:=(l.getD 0 0).toNat) (by omega)
   have:=Q6m isW _ (h.m64 _ hm)
   have h4:=(h.rows _ hm).2
   have h5:isW.length=2:=rfl
   show (sayT isW _).length≤_
   omega
  ·exact q1
 split
 ·split
  ·have:=Qa2 (n:=((s.p.code.length+1:Nat):Int)) (by unfold R64;omega)
   show (sayT okW _).length≤_
   omega
  ·exact q1
 split
 ·split
  ·have:=Qo1 (p:=s.p) (m:=s.m) (l.getD 0 0) hf h.m64
   show (runA s.p s.m _).length≤_
   omega
  ·exact q1
 split
 ·split
  ·have:=Qvy (p:=s.p) (m:=s.m) (l.drop 1) (l.getD 0 0) hf h.m64
   show (Q75 s.p s.m _ _).length≤_
   omega
  ·exact q1
 split
 ·split
  ·show (checkA s.p).length≤_
   unfold checkA
   split
   ·decide
   ·have:=Qfg hc
    omega
  ·exact q1
 split
 ·split
  ·show (hardA s.p).1.length≤_
   unfold hardA
   split
   ·have:=Qa2 (n:=((Q06 s.p).code.length:Int)) (by have:=Q8p s.p;unfold R64;omega)
    show (sayT okW _).length≤_
    omega
   ·have:=Qfg hc
    show (sayT badW _).length≤_
    omega
  ·exact q1
 split
 ·split
  ·show (Q79 s.p).length≤_
   unfold Q79
   split
   ·rename_i he
    have:=Qa2 (n:=((Q46 s.p).length:Int)) (by
     unfold Q46
     split
     ·rename_i hh
      have:=(Qe3 hh hf).1
      unfold R64
      omega
     ·unfold R64
      simp)
    omega
   ·have:=Qvu (n:=Q3r s.p) (by unfold Q3r R64;split <;> omega)
    omega
  ·exact q1
 split
 ·split
  ·show (loadA s.p).length≤_
   unfold loadA
   split
   ·have:=Qa2 (n:=((Q1s s.p).code.length:Int)) (by have:=Q7l s.p;unfold R64;omega)
    omega
   ·have:=Qfg hc
    omega
  ·exact q1
 ·exact q1
theorem Qab {s:LPl} {t:List UInt8} (h:Q0x s) (hf:∀ i ∈ s.p.code,i.fits):(Q20 layD s t).1.length≤4000:=by
 unfold Q20
 split
 ·simp
 ·exact Qqe h hf
theorem Qu9 {p:Q00} (h:(faultD p).1=0):Q2p p=true:=by
 unfold faultD at h
 split at h
 ·rename_i hh
  exact hh.1
 ·simp at h
theorem Q3i {c:Prop} [Decidable c] {x y:List UInt8 × LPl} (h1:c→Q0x x.2) (h2:¬ c→Q0x y.2):Q0x (if c then x else y).2:=by
 by_cases h:c
 ·rw [if_pos h];exact h1 h
 ·rw [if_neg h];exact h2 h
theorem Qqf {s:LPl} {w:List UInt8} {l:List Int} (h:Q0x s) (h6:∀ x ∈ l,R6 x):Q0x (Q2o layD s w l).2:=by
 unfold Q2o
 refine Q3i (fun _=>Q3i (fun _=>?_) fun _=>h) fun _=>Q3i (fun _=>Q3i (fun hl1=>?_) fun _=>h) fun _=>Q3i (fun _=>Q3i (fun _=>h) fun _=>h) fun _=>Q3i (fun _=>Q3i (fun hh=>Qtu h hh.2) fun _=>h) fun _=>Q3i (fun _=>Q3i (fun _=>h) fun _=>h) fun _=>Q3i (fun _=>Q3i (fun _=>h) fun _=>h) fun _=>Q3i (fun _=>Q3i (fun _=>h) fun _=>h) fun _=>Q3i (fun _=>Q3i (fun _=>?_) fun _=>h) fun _=>Q3i (fun _=>Q3i (fun _=>h) fun _=>h) fun _=>Q3i (fun _=>Q3i (fun _=>h) fun _=>h) fun _=>h
 ·unfold Q2e
  refine Q3i (fun _=>h) fun hh=>?_
  exact Qts h (by omega) (by omega) (by omega)
 ·unfold Q36
  refine Q3i (fun _=>h) fun hh=>?_
  have hk:(l.getD 0 0).toNat < s.m.length:=by omega
  refine Qtr h ?_ hk fun z hz=>?_
  ·simp only [List.length_append,List.length_drop]
   omega
  ·rcases List.mem_append.1 hz with k | k
   ·exact (h6 z (List.mem_of_mem_drop k)).r64
   ·exact h.m64 _ (Qgz hk) z (List.mem_of_mem_drop k)
 ·show Q0x ⟨(hardA s.p).2,s.m⟩
  unfold hardA
  by_cases hh:(faultD s.p).1=0
  ·rw [if_pos hh]
   have h1:=(Q5g (Qu9 hh)).2.2.1
   have h2:=Q8p s.p
   exact Qtt h rfl (by show (Q06 s.p).code.length≤_;omega)
  ·rw [if_neg hh]
   exact h
theorem Qri {s:LPl} {t:List UInt8} (h:Q0x s):Q0x (Q20 layD s t).2:=by
 unfold Q20
 cases hl:Q0m ((Q08 32 t).drop 1) with
 | none=>exact h
 | some l=>exact Qqf h (Q3a _ _ hl)
section
variable {A : Q82} {s : LPl} {l : List Int}
theorem Qie:Q2o A s [114,101,103,105,111,110] l=(if l.length=2 then Q2e s (l.getD 0 0) (l.getD 1 0) else ([63],s)):=by
 unfold Q2o
 exact if_pos rfl
theorem Qii:Q2o A s [102,105,108,108] l=(if 1≤l.length then Q36 s l else ([63],s)):=by
 unfold Q2o
 rw [if_neg (by decide)]
 exact if_pos rfl
theorem Qig:Q2o A s [108,111,111,107] l=(if l.length=1∧0≤l.getD 0 0∧l.getD 0 0 < s.m.length then (sayT isW (s.m.getD (l.getD 0 0).toNat []),s) else ([63],s)):=by
 unfold Q2o
 rw [if_neg (by decide),if_neg (by decide)]
 exact if_pos rfl
theorem Qih:Q2o A s [105,110,115] l=(if l.length=5∧s.p.code.length < 200 then (sayT okW [((s.p.code.length+1:Nat):Int)],⟨⟨s.p.regs,s.p.code ++ [⟨l.getD 0 0,l.getD 1 0,l.getD 2 0,l.getD 3 0,l.getD 4 0⟩]⟩,s.m⟩) else ([63],s)):=by
 unfold Q2o
 rw [if_neg (by decide),if_neg (by decide),if_neg (by decide)]
 exact if_pos rfl
theorem Qid:Q2o A s [114,117,110] l=(if l.length=1 then (A.run s.p s.m (l.getD 0 0),s) else ([63],s)):=by
 unfold Q2o
 rw [if_neg (by decide),if_neg (by decide),if_neg (by decide),if_neg (by decide)]
 exact if_pos rfl
theorem Qij:Q2o A s [97,104,101,97,100] l=(if 1≤l.length then (A.ahead s.p s.m (l.drop 1) (l.getD 0 0),s) else ([63],s)):=by
 unfold Q2o
 rw [if_neg (by decide),if_neg (by decide),if_neg (by decide),if_neg (by decide),if_neg (by decide)]
 exact if_pos rfl
theorem Qa7:Q2o A s [99,104,101,99,107] l=(if l.length=0 then (A.check s.p,s) else ([63],s)):=by
 unfold Q2o
 rw [if_neg (by decide),if_neg (by decide),if_neg (by decide),if_neg (by decide),if_neg (by decide),if_neg (by decide)]
 exact if_pos rfl
theorem Qa6:Q2o A s [104,97,114,100] l=(if l.length=0 then ((A.hard s.p).1,⟨(A.hard s.p).2,s.m⟩) else ([63],s)):=by
 unfold Q2o
 rw [if_neg (by decide),if_neg (by decide),if_neg (by decide),if_neg (by decide),if_neg (by decide),if_neg (by decide),if_neg (by decide)]
 exact if_pos rfl
theorem Qa4:Q2o A s [116,101,120,116] l=(if l.length=0 then (A.text s.p,s) else ([63],s)):=by
 unfold Q2o
 rw [if_neg (by decide),if_neg (by decide),if_neg (by decide),if_neg (by decide),if_neg (by decide),if_neg (by decide),if_neg (by decide),if_neg (by decide)]
 exact if_pos rfl
theorem Qa5:Q2o A s [108,111,97,100] l=(if l.length=0 then (A.load s.p,s) else ([63],s)):=by
 unfold Q2o
 rw [if_neg (by decide),if_neg (by decide),if_neg (by decide),if_neg (by decide),if_neg (by decide),if_neg (by decide),if_neg (by decide),if_neg (by decide),if_neg (by decide)]
 exact if_pos rfl
theorem Qif {W0:List UInt8} (h0:¬ W0=[114,101,103,105,111,110]) (h1:¬ W0=[102,105,108,108]) (h2:¬ W0=[108,111,111,107]) (h3:¬ W0=[105,110,115]) (h4:¬ W0=[114,117,110]) (h5:¬ W0=[97,104,101,97,100]) (h6:¬ W0=[99,104,101,99,107]) (h7:¬ W0=[104,97,114,100]) (h8:¬ W0=[116,101,120,116]) (h9:¬ W0=[108,111,97,100]):Q2o A s W0 l=([63],s):=by
 unfold Q2o
 rw [if_neg (show ¬ W0=Qh6 from h0),if_neg (show ¬ W0=Qkd from h1),if_neg (show ¬ W0=Qiu from h2),if_neg (show ¬ W0=Qjp from h3),if_neg (show ¬ W0=runW from h4),if_neg (show ¬ W0=Ql5 from h5),if_neg (show ¬ W0=Qku from h6),if_neg (show ¬ W0=Qk6 from h7),if_neg (show ¬ W0=Qg3 from h8),if_neg (show ¬ W0=Qiy from h9)]
theorem Qu2 {a:Int} {cs:List Int} (h:a < 0∨(s.m.length:Int)≤a):Q36 s (a :: cs)=([63],s):=by
 unfold Q36
 rw [if_pos]
 simp only [List.getD_cons_zero]
 rcases h with h | h
 ·exact .inl h
 ·exact .inr (.inl h)
theorem Qu4 {i:Nat} {cs:List Int} (h:(s.m.getD i []).length < cs.length):Q36 s ((i:Int) :: cs)=([63],s):=by
 unfold Q36
 rw [if_pos]
 simp only [List.getD_cons_zero,Int.toNat_natCast,List.length_cons,Nat.add_sub_cancel]
 exact .inr (.inr h)
theorem Qu3 {i:Nat} {cs:List Int} (hi:i < s.m.length) (h:cs.length≤(s.m.getD i []).length):Q36 s ((i:Int) :: cs)=(okW,⟨s.p,s.m.set i (cs ++ (s.m.getD i []).drop cs.length)⟩):=by
 unfold Q36
 rw [if_neg]
 ·simp only [List.getD_cons_zero,Int.toNat_natCast,List.length_cons,Nat.add_sub_cancel,List.drop_succ_cons,List.drop_zero]
 ·simp only [List.getD_cons_zero,Int.toNat_natCast,List.length_cons,Nat.add_sub_cancel]
  omega
theorem len1 {l:List Int} (h:l.length=1):∃ a,l=[a]:=by
 match l,h with
 | [a],_=>exact ⟨a,rfl⟩
theorem len2 {l:List Int} (h:l.length=2):∃ a b,l=[a,b]:=by
 match l,h with
 | [a,b],_=>exact ⟨a,b,rfl⟩
theorem len5 {l:List Int} (h:l.length=5):∃ a b c d e,l=[a,b,c,d,e]:=by
 match l,h with
 | [a,b,c,d,e],_=>exact ⟨a,b,c,d,e,rfl⟩
end
section
variable {w0 w : World} {B g : Nat} {vR vC vM : Value} {p : Q00} {L : List (Value × List Int)} {t : List UInt8} {ws : List (List UInt8)}
set_option maxRecDepth 100000
set_option maxHeartbeats 16000000
theorem Qun (h:PlSt w0 w B g 65 vR vC vM p L) (hg:Q0x ⟨p,L.map (·.2)⟩) (ht:Tab9 w0) (hT:t.length≤1000000000) (W0:List UInt8) (hs:Q08 32 t=W0 :: ws) (hn:Q0m ws=none) :
  Calls Tryz.prog 20 #[.pointer (some ⟨g,0,none⟩),str t] w (Q07 ([63],⟨p,L.map (·.2)⟩) w0 B g 65):=by
 have HS:=zh h
 have Hg:=zh hg
 have Ht:=zh ht
 have HT:=zh hT
 have Hn:=zh hn
 have HW:=zh (Q3g hs)
 obtain ⟨oR,cR,rfl⟩:=Q02 h.rg
 obtain ⟨oC,cC,rfl⟩:=Q02 h.cd
 obtain ⟨oM,cM,rfl⟩:=Q02 h.mo
 have HSp:=zh (Q4k 32 _ hT w (ht.ext h.ext))
 clear h hg ht hT hn hs
 go_enter Tryz.func20,Tryz.ntmps20
 go_wp2_with fail
 (with_reducible refine HSp.out.mono ?_)
 clear HSp
 rintro e w5 ⟨v5,rfl,hv,hx⟩
 have HS5:=zh (HS.out.extend hx)
 obtain ⟨kw,cw,ow,rfl,hcw,hwl,Hcw,hix,hsl,Hrow,Hwl⟩:=Q3e HW.out HT.out hv
 clear hx hv
 go_wp2_with fail
 (with_reducible refine (Q65 ws _ w5 Hrow.out Hwl.out (Ht.out.ext HS5.out.ext)).mono ?_)
 clear hsl Hrow Hwl
 rintro e w6 ⟨v6,b6,rfl,hx,hc⟩
 have HS6:=zh (HS5.out.extend hx)
 have cw0:=Hcw.out w6 hx
 clear hx Hcw
 rcases hc with ⟨rfl,l',hl',-⟩ | ⟨rfl,-⟩
 ·exact absurd (Hn.out.symm.trans hl') (by simp)
 go_wp2
 go_ret
 exact Q07.same (s:=⟨p,L.map (·.2)⟩) rfl HS6.out
theorem Q8t (h:PlSt w0 w B g 65 vR vC vM p L) (hg:Q0x ⟨p,L.map (·.2)⟩) (ht:Tab9 w0) (hT:t.length≤1000000000) (W0:List UInt8) (h_check:¬ W0=[99,104,101,99,107]) (h_hard:¬ W0=[104,97,114,100]) (h_load:¬ W0=[108,111,97,100]) (h_text:¬ W0=[116,101,120,116]) (hs:Q08 32 t=W0 :: ws) (hn:Q0m ws=some ([])) :
  Calls Tryz.prog 20 #[.pointer (some ⟨g,0,none⟩),str t] w (Q07 ([63],⟨p,L.map (·.2)⟩) w0 B g 65):=by
 have HS:=zh h
 have Hg:=zh hg
 have Ht:=zh ht
 have HT:=zh hT
 have Hn:=zh hn
 have HW:=zh (Q3g hs)
 obtain rfl:=Qcw (by rw [Qi8 hn] at hs;exact hs)
 obtain ⟨oR,cR,rfl⟩:=Q02 h.rg
 obtain ⟨oC,cC,rfl⟩:=Q02 h.cd
 obtain ⟨oM,cM,rfl⟩:=Q02 h.mo
 have HSp:=zh (Q4k 32 _ hT w (ht.ext h.ext))
 clear h hg ht hT hn hs
 go_enter Tryz.func20,Tryz.ntmps20
 go_wp2_with fail
 (with_reducible refine HSp.out.mono ?_)
 clear HSp
 rintro e w5 ⟨v5,rfl,hv,hx⟩
 have HS5:=zh (HS.out.extend hx)
 obtain ⟨kw,cw,ow,rfl,hcw,hwl,Hcw,hix,hsl,Hrow,Hwl⟩:=Q3e HW.out HT.out hv
 clear hx hv
 go_wp2_with fail
 (with_reducible refine (Q65 ws _ w5 Hrow.out Hwl.out (Ht.out.ext HS5.out.ext)).mono ?_)
 clear hsl Hrow Hwl
 rintro e w6 ⟨v6,b6,rfl,hx,hc⟩
 have HS6:=zh (HS5.out.extend hx)
 have cw0:=Hcw.out w6 hx
 clear hx Hcw
 rcases hc with ⟨rfl,l',hl',hown⟩ | ⟨rfl,hno⟩
 case inr=>exact absurd (Hn.out.symm.trans hno) (by simp)
 obtain rfl:=Option.some.inj (Hn.out.symm.trans hl')
 have hv:=Q32 hown (fun x hx=>(Q3a _ _ Hn.out x hx).r64)
 clear hown hl'
 have n_check:(t == [99,104,101,99,107])=false:=by simpa using h_check
 have n_hard:(t == [104,97,114,100])=false:=by simpa using h_hard
 have n_load:(t == [108,111,97,100])=false:=by simpa using h_load
 have n_text:(t == [116,101,120,116])=false:=by simpa using h_text
 obtain ⟨-,ol,cl,bl,oo,rfl,hlc,hcm,-⟩:=hv
 by_cases h_region:t=[114,101,103,105,111,110]
 ·subst h_region
  go_wp2
  go_ret
  exact Q07.same (s:=⟨p,L.map (·.2)⟩) rfl HS6.out
 by_cases h_fill:t=[102,105,108,108]
 ·subst h_fill
  go_wp2
  go_ret
  exact Q07.same (s:=⟨p,L.map (·.2)⟩) rfl HS6.out
 by_cases h_ins:t=[105,110,115]
 ·subst h_ins
  go_wp2
  go_ret
  exact Q07.same (s:=⟨p,L.map (·.2)⟩) rfl HS6.out
 by_cases h_run:t=[114,117,110]
 ·subst h_run
  go_wp2
  go_ret
  exact Q07.same (s:=⟨p,L.map (·.2)⟩) rfl HS6.out
 by_cases h_ahead:t=[97,104,101,97,100]
 ·subst h_ahead
  go_wp2
  go_ret
  exact Q07.same (s:=⟨p,L.map (·.2)⟩) rfl HS6.out
 by_cases h_look:t=[108,111,111,107]
 ·subst h_look
  go_wp2
  go_ret
  exact Q07.same (s:=⟨p,L.map (·.2)⟩) rfl HS6.out
 have n_region:(t == [114,101,103,105,111,110])=false:=by simpa using h_region
 have n_fill:(t == [102,105,108,108])=false:=by simpa using h_fill
 have n_ins:(t == [105,110,115])=false:=by simpa using h_ins
 have n_run:(t == [114,117,110])=false:=by simpa using h_run
 have n_ahead:(t == [97,104,101,97,100])=false:=by simpa using h_ahead
 have n_look:(t == [108,111,111,107])=false:=by simpa using h_look
 go_wp2
 go_ret
 exact Q07.same (s:=⟨p,L.map (·.2)⟩) rfl HS6.out
theorem Q73 (h:PlSt w0 w B g 65 vR vC vM p L) (hg:Q0x ⟨p,L.map (·.2)⟩) (ht:Tab9 w0) (hT:t.length≤1000000000) (W0:List UInt8) (l:List Int) (hl0:l.length≠0) (hregion:W0=[114,101,103,105,111,110]→l.length≠2) (hins:W0=[105,110,115]→l.length≠5) (hrun:W0=[114,117,110]→l.length≠1) (hlook:W0=[108,111,111,107]→l.length≠1) (h_fill:¬ W0=[102,105,108,108]) (h_ahead:¬ W0=[97,104,101,97,100]) (hs:Q08 32 t=W0 :: ws) (hn:Q0m ws=some (l)) :
  Calls Tryz.prog 20 #[.pointer (some ⟨g,0,none⟩),str t] w (Q07 ([63],⟨p,L.map (·.2)⟩) w0 B g 65):=by
 have HS:=zh h
 have Hg:=zh hg
 have Ht:=zh ht
 have HT:=zh hT
 have Hn:=zh hn
 have HW:=zh (Q3g hs)
 obtain ⟨oR,cR,rfl⟩:=Q02 h.rg
 obtain ⟨oC,cC,rfl⟩:=Q02 h.cd
 obtain ⟨oM,cM,rfl⟩:=Q02 h.mo
 have HSp:=zh (Q4k 32 _ hT w (ht.ext h.ext))
 clear h hg ht hT hn hs
 go_enter Tryz.func20,Tryz.ntmps20
 go_wp2_with fail
 (with_reducible refine HSp.out.mono ?_)
 clear HSp
 rintro e w5 ⟨v5,rfl,hv,hx⟩
 have HS5:=zh (HS.out.extend hx)
 obtain ⟨kw,cw,ow,rfl,hcw,hwl,Hcw,hix,hsl,Hrow,Hwl⟩:=Q3e HW.out HT.out hv
 clear hx hv
 go_wp2_with fail
 (with_reducible refine (Q65 ws _ w5 Hrow.out Hwl.out (Ht.out.ext HS5.out.ext)).mono ?_)
 clear hsl Hrow Hwl
 rintro e w6 ⟨v6,b6,rfl,hx,hc⟩
 have HS6:=zh (HS5.out.extend hx)
 have cw0:=Hcw.out w6 hx
 clear hx Hcw
 rcases hc with ⟨rfl,l',hl',hown⟩ | ⟨rfl,hno⟩
 case inr=>exact absurd (Hn.out.symm.trans hno) (by simp)
 obtain rfl:=Option.some.inj (Hn.out.symm.trans hl')
 have hv:=Q32 hown (fun x hx=>(Q3a _ _ Hn.out x hx).r64)
 clear hown hl'
 have n_fill:(W0 == [102,105,108,108])=false:=by simpa using h_fill
 have n_ahead:(W0 == [97,104,101,97,100])=false:=by simpa using h_ahead
 obtain ⟨-,ol,cl,bl,oo,rfl,hlc,hcm,-⟩:=hv
 by_cases h_region:W0=[114,101,103,105,111,110]
 ·subst h_region
  have hl:=hregion rfl
  have e2:¬ (l.length:Int)=2:=by omega
  have f2:((l.length:Int) == 2)=false:=by simpa using e2
  have e0:¬ (l.length:Int)=0:=by omega
  have f0:((l.length:Int) == 0)=false:=by simpa using e0
  go_wp2
  go_ret
  exact Q07.same (s:=⟨p,L.map (·.2)⟩) rfl HS6.out
 by_cases h_ins:W0=[105,110,115]
 ·subst h_ins
  have hl:=hins rfl
  have e5:¬ (l.length:Int)=5:=by omega
  have f5:((l.length:Int) == 5)=false:=by simpa using e5
  have e0:¬ (l.length:Int)=0:=by omega
  have f0:((l.length:Int) == 0)=false:=by simpa using e0
  go_wp2
  go_ret
  exact Q07.same (s:=⟨p,L.map (·.2)⟩) rfl HS6.out
 by_cases h_run:W0=[114,117,110]
 ·subst h_run
  have hl:=hrun rfl
  have e1:¬ (l.length:Int)=1:=by omega
  have f1:((l.length:Int) == 1)=false:=by simpa using e1
  have e0:¬ (l.length:Int)=0:=by omega
  have f0:((l.length:Int) == 0)=false:=by simpa using e0
  go_wp2
  go_ret
  exact Q07.same (s:=⟨p,L.map (·.2)⟩) rfl HS6.out
 by_cases h_look:W0=[108,111,111,107]
 ·subst h_look
  have hl:=hlook rfl
  have e1:¬ (l.length:Int)=1:=by omega
  have f1:((l.length:Int) == 1)=false:=by simpa using e1
  have e0:¬ (l.length:Int)=0:=by omega
  have f0:((l.length:Int) == 0)=false:=by simpa using e0
  go_wp2
  go_ret
  exact Q07.same (s:=⟨p,L.map (·.2)⟩) rfl HS6.out
 have n_region:(W0 == [114,101,103,105,111,110])=false:=by simpa using h_region
 have n_ins:(W0 == [105,110,115])=false:=by simpa using h_ins
 have n_run:(W0 == [114,117,110])=false:=by simpa using h_run
 have n_look:(W0 == [108,111,111,107])=false:=by simpa using h_look
 have e0:¬ (l.length:Int)=0:=by omega
 have f0:((l.length:Int) == 0)=false:=by simpa using e0
 go_wp2
 go_ret
 exact Q07.same (s:=⟨p,L.map (·.2)⟩) rfl HS6.out
theorem Qcc (h:PlSt w0 w B g 65 vR vC vM p L) (hg:Q0x ⟨p,L.map (·.2)⟩) (ht:Tab9 w0) (hT:t.length≤1000000000) (W0:List UInt8) (hw:W0=[99,104,101,99,107]∨W0=[104,97,114,100]∨W0=[108,111,97,100]∨W0=[116,101,120,116]) (hs:Q08 32 t=W0 :: ws) (hn:Q0m ws=some ([])) :
  Calls Tryz.prog 20 #[.pointer (some ⟨g,0,none⟩),str t] w (Q07 (Q2o layD ⟨p,L.map (·.2)⟩ W0 []) w0 B g 65):=by
 have HS:=zh h
 have Hg:=zh hg
 have Ht:=zh ht
 have HT:=zh hT
 have Hn:=zh hn
 have HW:=zh (Q3g hs)
 obtain rfl:=Qcw (by rw [Qi8 hn] at hs;exact hs)
 obtain ⟨oR,cR,rfl⟩:=Q02 h.rg
 obtain ⟨oC,cC,rfl⟩:=Q02 h.cd
 obtain ⟨oM,cM,rfl⟩:=Q02 h.mo
 have HSp:=zh (Q4k 32 _ hT w (ht.ext h.ext))
 clear h hg ht hT hn hs
 go_enter Tryz.func20,Tryz.ntmps20
 go_wp2_with fail
 (with_reducible refine HSp.out.mono ?_)
 clear HSp
 rintro e w5 ⟨v5,rfl,hv,hx⟩
 have HS5:=zh (HS.out.extend hx)
 obtain ⟨kw,cw,ow,rfl,hcw,hwl,Hcw,hix,hsl,Hrow,Hwl⟩:=Q3e HW.out HT.out hv
 clear hx hv
 go_wp2_with fail
 (with_reducible refine (Q65 ws _ w5 Hrow.out Hwl.out (Ht.out.ext HS5.out.ext)).mono ?_)
 clear hsl Hrow Hwl
 rintro e w6 ⟨v6,b6,rfl,hx,hc⟩
 have HS6:=zh (HS5.out.extend hx)
 have cw0:=Hcw.out w6 hx
 clear hx Hcw
 rcases hc with ⟨rfl,l',hl',hown⟩ | ⟨rfl,hno⟩
 case inr=>exact absurd (Hn.out.symm.trans hno) (by simp)
 obtain rfl:=Option.some.inj (Hn.out.symm.trans hl')
 have hv:=Q32 hown (fun x hx=>(Q3a _ _ Hn.out x hx).r64)
 clear hown hl'
 obtain ⟨-,ol,cl,bl,oo,rfl,hlc,hcm,-⟩:=hv
 rcases hw with rfl | rfl | rfl | rfl
 ·go_wp2_with fail
  (with_reducible refine (Qv0 HS6.out Hg.out Ht.out.tabs).mono ?_)
  rintro e w7 ⟨rfl,h7⟩
  have H7:=zh h7
  clear h7
  go_wp2
  go_ret
  rw [Qa7,if_pos List.length_nil]
  exact ⟨rfl,H7.out⟩
 ·go_wp2_with fail
  (with_reducible refine (Quz HS6.out Hg.out Ht.out.tabs).mono ?_)
  rintro e w7 ⟨rfl,h7⟩
  have H7:=zh h7
  clear h7
  go_wp2
  go_ret
  rw [Qa6,if_pos List.length_nil]
  exact ⟨rfl,H7.out⟩
 ·go_wp2_with fail
  (with_reducible refine (Quy HS6.out Hg.out Ht.out.tabs).mono ?_)
  rintro e w7 ⟨rfl,h7⟩
  have H7:=zh h7
  clear h7
  go_wp2
  go_ret
  rw [Qa5,if_pos List.length_nil]
  exact ⟨rfl,H7.out⟩
 ·go_wp2_with fail
  (with_reducible refine (Qux HS6.out Hg.out Ht.out.tabs).mono ?_)
  rintro e w7 ⟨rfl,h7⟩
  have H7:=zh h7
  clear h7
  go_wp2
  go_ret
  rw [Qa4,if_pos List.length_nil]
  exact ⟨rfl,H7.out⟩
end
section
variable {w0 w : World} {B g : Nat} {vR vC vM : Value} {p : Q00} {L : List (Value × List Int)} {t : List UInt8} {ws : List (List UInt8)}
set_option maxRecDepth 100000
set_option maxHeartbeats 16000000
theorem Qul (h:PlSt w0 w B g 65 vR vC vM p L) (hg:Q0x ⟨p,L.map (·.2)⟩) (ht:Tab9 w0) (hT:t.length≤1000000000) (a:Int) (hs:Q08 32 t=[114,117,110] :: ws) (hn:Q0m ws=some ([a])) :
  Calls Tryz.prog 20 #[.pointer (some ⟨g,0,none⟩),str t] w (Q07 (runA p (L.map (·.2)) a,⟨p,L.map (·.2)⟩) w0 B g 65):=by
 have HS:=zh h
 have Hg:=zh hg
 have Ht:=zh ht
 have HT:=zh hT
 have Hn:=zh hn
 have HW:=zh (Q3g hs)
 obtain ⟨oR,cR,rfl⟩:=Q02 h.rg
 obtain ⟨oC,cC,rfl⟩:=Q02 h.cd
 obtain ⟨oM,cM,rfl⟩:=Q02 h.mo
 have HSp:=zh (Q4k 32 _ hT w (ht.ext h.ext))
 clear h hg ht hT hn hs
 go_enter Tryz.func20,Tryz.ntmps20
 go_wp2_with fail
 (with_reducible refine HSp.out.mono ?_)
 clear HSp
 rintro e w5 ⟨v5,rfl,hv,hx⟩
 have HS5:=zh (HS.out.extend hx)
 obtain ⟨kw,cw,ow,rfl,hcw,hwl,Hcw,hix,hsl,Hrow,Hwl⟩:=Q3e HW.out HT.out hv
 clear hx hv
 go_wp2_with fail
 (with_reducible refine (Q65 ws _ w5 Hrow.out Hwl.out (Ht.out.ext HS5.out.ext)).mono ?_)
 clear hsl Hrow Hwl
 rintro e w6 ⟨v6,b6,rfl,hx,hc⟩
 have HS6:=zh (HS5.out.extend hx)
 have cw0:=Hcw.out w6 hx
 clear hx Hcw
 rcases hc with ⟨rfl,l',hl',hown⟩ | ⟨rfl,hno⟩
 case inr=>exact absurd (Hn.out.symm.trans hno) (by simp)
 obtain rfl:=Option.some.inj (Hn.out.symm.trans hl')
 have hv:=Q32 hown (fun x hx=>(Q3a _ _ Hn.out x hx).r64)
 clear hown hl'
 obtain ⟨bl,ol,cl,rfl,c0⟩:=Qad hv
 have hil:=Q3o (oa:=some ⟨bl,ol,none⟩) (n:=1) (b:=bl) (o:=ol) (cap:=cl) (fun _=>rfl)
 have Ha:=zh (hv.1 a (by simp))
 clear hv
 obtain ⟨d0,d1,d2⟩:=HS6.out.cells
 have hgl:=HS6.out.box.lt
 go_upto_region 16 with fail
 have q0:∀ Wx,Ext w6 Wx→Wx.cell? ⟨bl,ol,none⟩=some (.int .i64 a):=fun _ h=>h.kept c0
 have k0:∀ Wx,Ext w6 Wx→Wx.cell? ⟨g,0,none⟩=some (.slice oR p.regs.length cR):=fun _ h=>h.kept d0.1
 have k1:∀ Wx,Ext w6 Wx→Wx.cell? ⟨g,1,none⟩=some (.slice oC p.code.length cC):=fun _ h=>h.kept d1.1
 have k2:∀ Wx,Ext w6 Wx→Wx.cell? ⟨g,2,none⟩=some (.slice oM L.length cM):=fun _ h=>h.kept d2.1
 have hG:∀ Wx,Ext w6 Wx→g < Wx.heap.size:=fun _ h=>Nat.lt_of_lt_of_le hgl h.size
 clear c0 cw0 hix d0 d1 d2 hgl
 refine Qbe [11,12,13,14,15] (by kernel_rfl) (by kernel_rfl) ?_
 repeat (first | (refine Q1x ?_ ?_;(decide)) | (refine Q1o ?_ ?_ ?_;(decide);(first | rfl | (focus (go_simp;done)));apply Exists.intro;refine ⟨fun wc hE=>?_,?_⟩;(go_simp;exact rfl);go_simp) | (refine Q1v ?_ ?_ ?_;(decide);(focus (go_simp;done));go_simp))
 refine Q1w ?_
 intro w7 hx
 have HS7:=zh (HS6.out.extend hx)
 have HX:=zh hx
 clear hx q0 k0 k1 k2 hG
 refine Q0h (i:=11) (by decide) (by kernel_rfl) ?_
 refine Q01 rfl ?_
 go_wp2_with fail
 (with_reducible refine (Q7d p (L.map (·.2)) a _ _ w7 HS7.out.prog HS7.out.mem Ha.out).mono ?_)
 rintro e w8 ⟨s1,s2,s3,s4,E,fin,value,steps,seen,mem,rfl,hx,hsh,hb,hA⟩
 have HX8:=zh (HX.out.trans hx)
 have HS8:=zh (HS7.out.extend hx)
 have Hsh:=zh hsh
 have Hb:=zh hb
 have HA:=zh hA
 clear hx hsh hb hA
 go_wp2
 refine ⟨HX8.out,Q05 ?_⟩
 refine Q38 (i:=12) (j:=13) (by decide) (by kernel_rfl) ?_ ?_
 ·refine Q01 rfl ?_
  go_wp2
  refine ⟨HX8.out,Q05 ?_⟩
  refine Q0h (i:=13) (by decide) (by kernel_rfl) ?_
  refine Q01 rfl ?_
  go_wp2
  refine ⟨HX8.out,Q05 ?_⟩
  refine Q0h (i:=14) (by decide) (by kernel_rfl) ?_
  refine Q01 rfl ?_
  go_wp2_with fail
  (with_reducible refine (Qca E fin value steps seen mem _ w8 Hsh.out Hb.out.1 Hb.out.2.1 Hb.out.2.2.1 Hb.out.2.2.2.1 Hb.out.2.2.2.2 (Ht.out.tabs.ext HS8.out.ext)).mono ?_)
  rintro e w9 ⟨rfl,hx⟩
  have HX9:=zh (HX8.out.trans hx)
  have HS9:=zh (HS8.out.extend hx)
  clear hx
  rw [HA.out]
  go_wp2
  refine ⟨HX9.out,Q05 ?_⟩
  refine Q0h (i:=15) (by decide) (by kernel_rfl) ?_
  refine Q01 rfl ?_
  go_wp2
  refine ⟨HX9.out,Q05 ?_⟩
  refine Q2d (by decide) ?_
  go_wp2
  go_ret
  exact Q07.same (s:=⟨p,L.map (·.2)⟩) rfl HS9.out
 ·refine Q01 rfl ?_
  go_wp2
  refine ⟨HX8.out,Q05 ?_⟩
  refine Q0h (i:=12) (by decide) (by kernel_rfl) ?_
  refine Q01 rfl ?_
  go_wp2
  refine ⟨HX8.out,Q05 ?_⟩
  refine Q0h (i:=14) (by decide) (by kernel_rfl) ?_
  refine Q01 rfl ?_
  go_wp2_with fail
  (with_reducible refine (Qca E fin value steps seen mem _ w8 Hsh.out Hb.out.1 Hb.out.2.1 Hb.out.2.2.1 Hb.out.2.2.2.1 Hb.out.2.2.2.2 (Ht.out.tabs.ext HS8.out.ext)).mono ?_)
  rintro e w9 ⟨rfl,hx⟩
  have HX9:=zh (HX8.out.trans hx)
  have HS9:=zh (HS8.out.extend hx)
  clear hx
  rw [HA.out]
  go_wp2
  refine ⟨HX9.out,Q05 ?_⟩
  refine Q0h (i:=15) (by decide) (by kernel_rfl) ?_
  refine Q01 rfl ?_
  go_wp2
  refine ⟨HX9.out,Q05 ?_⟩
  refine Q2d (by decide) ?_
  go_wp2
  go_ret
  exact Q07.same (s:=⟨p,L.map (·.2)⟩) rfl HS9.out
end
section
variable {w0 w : World} {B g : Nat} {vR vC vM : Value} {p : Q00} {L : List (Value × List Int)} {t : List UInt8} {ws : List (List UInt8)}
set_option maxRecDepth 100000
set_option maxHeartbeats 16000000
theorem Qus (h:PlSt w0 w B g 65 vR vC vM p L) (hg:Q0x ⟨p,L.map (·.2)⟩) (ht:Tab9 w0) (hT:t.length≤1000000000) (a:Int) (cs:List Int) (hs:Q08 32 t=[97,104,101,97,100] :: ws) (hn:Q0m ws=some (a :: cs)) :
  Calls Tryz.prog 20 #[.pointer (some ⟨g,0,none⟩),str t] w (Q07 (Q75 p (L.map (·.2)) cs a,⟨p,L.map (·.2)⟩) w0 B g 65):=by
 have HS:=zh h
 have Hg:=zh hg
 have Ht:=zh ht
 have HT:=zh hT
 have Hn:=zh hn
 have HW:=zh (Q3g hs)
 obtain ⟨oR,cR,rfl⟩:=Q02 h.rg
 obtain ⟨oC,cC,rfl⟩:=Q02 h.cd
 obtain ⟨oM,cM,rfl⟩:=Q02 h.mo
 have HSp:=zh (Q4k 32 _ hT w (ht.ext h.ext))
 clear h hg ht hT hn hs
 go_enter Tryz.func20,Tryz.ntmps20
 go_wp2_with fail
 (with_reducible refine HSp.out.mono ?_)
 clear HSp
 rintro e w5 ⟨v5,rfl,hv,hx⟩
 have HS5:=zh (HS.out.extend hx)
 obtain ⟨kw,cw,ow,rfl,hcw,hwl,Hcw,hix,hsl,Hrow,Hwl⟩:=Q3e HW.out HT.out hv
 clear hx hv
 go_wp2_with fail
 (with_reducible refine (Q65 ws _ w5 Hrow.out Hwl.out (Ht.out.ext HS5.out.ext)).mono ?_)
 clear hsl Hrow Hwl
 rintro e w6 ⟨v6,b6,rfl,hx,hc⟩
 have HS6:=zh (HS5.out.extend hx)
 have cw0:=Hcw.out w6 hx
 clear hx Hcw
 rcases hc with ⟨rfl,l',hl',hown⟩ | ⟨rfl,hno⟩
 case inr=>exact absurd (Hn.out.symm.trans hno) (by simp)
 obtain rfl:=Option.some.inj (Hn.out.symm.trans hl')
 have hv:=Q32 hown (fun x hx=>(Q3a _ _ Hn.out x hx).r64)
 clear hown hl'
 have Ha:=zh (hv.1 a (by simp))
 have H64:=zh (fun x (hx:x ∈ cs)=>hv.1 x (List.mem_cons_of_mem _ hx))
 obtain ⟨bl,ol,cl,rfl,hlc,c0,hcs⟩:=Q8l hv
 have hil:=Q3o (oa:=some ⟨bl,ol,none⟩) (n:=cs.length+1) (b:=bl) (o:=ol) (cap:=cl) (fun _=>rfl)
 have Hcs:=zh hcs
 obtain ⟨oq,hoq,hsl⟩:=Qn6 bl ol cs.length cl hlc
 have hiq:=Q3o (oa:=oq) (n:=cs.length) (b:=bl) (o:=ol+1) (cap:=cl - 1) hoq
 have hge:(1:Int)≤((cs.length+1:Nat):Int):=by omega
 have hge2:decide ((1:Int)≤(cs.length:Int)+1)=true:=decide_eq_true (by omega)
 have hcl:cs.length≤1000000001:=by have:=Q3s _ _ Hn.out;simp only [List.length_cons] at this;omega
 obtain ⟨j0,hj0,hy0,hy1,hy2⟩:=info_parts Q8n
 clear hv hcs hoq
 go_wp2_with fail
 go_loopw [9,165] (fun sv iv wr => ∃ k:Nat,k≤cs.length∧iv=.int .i64 (k:Int)∧wr.ownsRow w6.heap.size 3 1 sv (cs.take k).length ((cs.take k).map (Value.int .i64))∧Ext w6 wr) (fun _ iv _=>cs.length - (intOf iv).toNat)
 case atStart=>exact ⟨0,by omega,rfl,World.ownsRow_nil _ _ _ _,Ext.refl _⟩
 case round =>
  obtain ⟨k,hk,rfl,hown,hE⟩:=hrel
  rw [show (cs.take k).length=k by rw [List.length_take];omega] at hown
  obtain ⟨os,cs',rfl⟩:=Q02 hown
  have X:=zh hE
  have HO:=zh hown
  clear hE hown
  by_cases hlt:k < cs.length
  ·have c1:=X.out.kept (Hcs.out k cs[k] (by simp [hlt]))
   have hin:(k:Int) < (cs.length:Int):=by omega
   have HT2:=zh (List.take_succ_eq_append_getElem hlt)
   have hbs:=X.out.size
   generalize cs[k]=x at *
   generalize cs.take k=tk at *
   go_wp2_with (at_builtin;refine Q1b _ rfl _ _ 49 rfl w6.heap.size 3 j0 _ 1 8 Tryz.underlying49 hj0 hy0 hy1 hy2 rfl (by decide) _ _ _ rfl (Q1r HO.out) (some ⟨wr.heap.size,0,none⟩) 1 1 [.int .i64 x] rfl ?c1 ?c3 ?c4 ?c5 ?_)
   case c1=>exact Q1y (size:=1) (Blk.new wr 3 #[.int .i64 x]) rfl (by simp [Value.oneCell'])
   case c3=>unfold maxLen;omega
   case c4=>omega
   case c5=>simp;omega
   intro v4 w4 hown hgrow hat
   obtain ⟨o4,c4,rfl⟩:=Q02 hown
   have X4:=zh ((X.out.alloc (.cells #[.int .i64 x] 3)).grown hgrow (fun k hk=>Q17 HO.out k hk))
   have HO4:Hid (w4.ownsRow w6.heap.size 3 1 (.slice o4 (k+1) c4) (cs.take (k+1)).length ((cs.take (k+1)).map (Value.int .i64))):=zh (by rw [show (cs.take (k+1)).length=k+1 by rw [List.length_take];omega,HT2.out,List.map_append];exact hown)
   clear hown hgrow hat
   go_wp2
   go_roundw
   case rel=>exact ⟨k+1,by omega,by go_num,HO4.out,X4.out⟩
   case measure=>first | (simp [intOf];done) | (simp [intOf];omega)
  ·have hke:k=cs.length:=by omega
   subst hke
   have HI:Hid (Q2z wr (.slice os cs.length cs') cs):=zh (by
    have h:=HO.out
    rw [List.take_length] at h
    exact Q32 h H64.out)
   have HSr:=zh (HS6.out.extend X.out)
   obtain ⟨d0,d1,d2⟩:=HSr.out.cells
   have hgl:=HSr.out.box.lt
   have c1:=X.out.kept c0
   clear HO
   go_upto_region 24 with fail
   have q0:∀ Wx,Ext wr Wx→Wx.cell? ⟨bl,ol,none⟩=some (.int .i64 a):=fun _ h=>h.kept c1
   have k0:∀ Wx,Ext wr Wx→Wx.cell? ⟨g,0,none⟩=some (.slice oR p.regs.length cR):=fun _ h=>h.kept d0.1
   have k1:∀ Wx,Ext wr Wx→Wx.cell? ⟨g,1,none⟩=some (.slice oC p.code.length cC):=fun _ h=>h.kept d1.1
   have k2:∀ Wx,Ext wr Wx→Wx.cell? ⟨g,2,none⟩=some (.slice oM L.length cM):=fun _ h=>h.kept d2.1
   clear c0 c1 cw0 hix d0 d1 d2 hgl
   refine Qbe [12,13,14,15,16] (by kernel_rfl) (by kernel_rfl) ?_
   repeat (first | (refine Q1x ?_ ?_;(decide)) | (refine Q1o ?_ ?_ ?_;(decide);(first | rfl | (focus (go_simp;done)));apply Exists.intro;refine ⟨fun wc hE=>?_,?_⟩;(go_simp;exact rfl);go_simp) | (refine Q1v ?_ ?_ ?_;(decide);(focus (go_simp;done));go_simp))
   refine Q1w ?_
   intro w7 hx
   have HS7:=zh (HSr.out.extend hx)
   have HX:=zh hx
   have HI7:=zh (HI.out.ext hx)
   clear hx q0 k0 k1 k2
   refine Q0h (i:=12) (by decide) (by kernel_rfl) ?_
   refine Q01 rfl ?_
   go_wp2_with fail
   (with_reducible refine (Qcv p (L.map (·.2)) cs a _ _ _ w7 HS7.out.prog HS7.out.mem HI7.out Ha.out).mono ?_)
   rintro e w8 ⟨s1,s2,s3,s4,E,fin,value,steps,seen,mem,rfl,hx,hsh,hb,hA⟩
   have HX8:=zh (HX.out.trans hx)
   have HS8:=zh (HS7.out.extend hx)
   have Hsh:=zh hsh
   have Hb:=zh hb
   have HA:=zh hA
   clear hx hsh hb hA
   go_wp2
   refine ⟨HX8.out,Q05 ?_⟩
   refine Q38 (i:=13) (j:=14) (by decide) (by kernel_rfl) ?_ ?_
   ·refine Q01 rfl ?_
    go_wp2
    refine ⟨HX8.out,Q05 ?_⟩
    refine Q0h (i:=14) (by decide) (by kernel_rfl) ?_
    refine Q01 rfl ?_
    go_wp2
    refine ⟨HX8.out,Q05 ?_⟩
    refine Q0h (i:=15) (by decide) (by kernel_rfl) ?_
    refine Q01 rfl ?_
    go_wp2_with fail
    (with_reducible refine (Qca E fin value steps seen mem _ w8 Hsh.out Hb.out.1 Hb.out.2.1 Hb.out.2.2.1 Hb.out.2.2.2.1 Hb.out.2.2.2.2 (Ht.out.tabs.ext HS8.out.ext)).mono ?_)
    rintro e w9 ⟨rfl,hx⟩
    have HX9:=zh (HX8.out.trans hx)
    have HS9:=zh (HS8.out.extend hx)
    clear hx
    rw [HA.out]
    go_wp2
    refine ⟨HX9.out,Q05 ?_⟩
    refine Q0h (i:=16) (by decide) (by kernel_rfl) ?_
    refine Q01 rfl ?_
    go_wp2
    refine ⟨HX9.out,Q05 ?_⟩
    refine Q2d (by decide) ?_
    go_wp2
    go_ret
    exact Q07.same (s:=⟨p,L.map (·.2)⟩) rfl HS9.out
   ·refine Q01 rfl ?_
    go_wp2
    refine ⟨HX8.out,Q05 ?_⟩
    refine Q0h (i:=13) (by decide) (by kernel_rfl) ?_
    refine Q01 rfl ?_
    go_wp2
    refine ⟨HX8.out,Q05 ?_⟩
    refine Q0h (i:=15) (by decide) (by kernel_rfl) ?_
    refine Q01 rfl ?_
    go_wp2_with fail
    (with_reducible refine (Qca E fin value steps seen mem _ w8 Hsh.out Hb.out.1 Hb.out.2.1 Hb.out.2.2.1 Hb.out.2.2.2.1 Hb.out.2.2.2.2 (Ht.out.tabs.ext HS8.out.ext)).mono ?_)
    rintro e w9 ⟨rfl,hx⟩
    have HX9:=zh (HX8.out.trans hx)
    have HS9:=zh (HS8.out.extend hx)
    clear hx
    rw [HA.out]
    go_wp2
    refine ⟨HX9.out,Q05 ?_⟩
    refine Q0h (i:=16) (by decide) (by kernel_rfl) ?_
    refine Q01 rfl ?_
    go_wp2
    refine ⟨HX9.out,Q05 ?_⟩
    refine Q2d (by decide) ?_
    go_wp2
    go_ret
    exact Q07.same (s:=⟨p,L.map (·.2)⟩) rfl HS9.out
end
theorem Qkq {w0 w:World} {B g:Nat} {vR vC vM:Value} {p:Q00} {L:List (Value × List Int)} {t:List UInt8} (h:PlSt w0 w B g 65 vR vC vM p L) (hg:Q0x ⟨p,L.map (·.2)⟩) (ht:Tab9 w0) (hT:t.length≤1000000000) :
  Calls Tryz.prog 20 #[.pointer (some ⟨g,0,none⟩),str t] w (Q07 (Q20 layD ⟨p,L.map (·.2)⟩ t) w0 B g 65):=by
 obtain ⟨W0,ws,hs⟩:∃ W0 ws,Q08 32 t=W0 :: ws:=by
  cases hq:Q08 32 t with
  | nil=>exact absurd hq (Q86 32 t)
  | cons a b=>exact ⟨a,b,rfl⟩
 cases hn:Q0m ws with
 | none =>
  rw [Qj2 hs hn]
  exact Qun h hg ht hT W0 hs hn
 | some l =>
  rw [Qj1 hs hn]
  have hml:(L.map (·.2)).length=L.length:=List.length_map _
  by_cases h_region:W0=[114,101,103,105,111,110]
  ·subst h_region
   rw [Qie]
   by_cases hl:l.length=2
   case neg =>
    rw [if_neg hl]
    cases l with
    | nil=>exact Q8t h hg ht hT [114,101,103,105,111,110] (by decide) (by decide) (by decide) (by decide) hs hn
    | cons a cs=>exact Q73 h hg ht hT [114,101,103,105,111,110] (a :: cs) (by simp) (fun _=>by simpa using hl) (fun e=>absurd e (by decide)) (fun e=>absurd e (by decide)) (fun e=>absurd e (by decide)) (by decide) (by decide) hs hn
   obtain ⟨a,b,rfl⟩:=len2 hl
   rw [if_pos hl]
   exact Qum h hg ht hT a b hs hn
  by_cases h_fill:W0=[102,105,108,108]
  ·subst h_fill
   rw [Qii]
   cases l with
   | nil =>
    rw [if_neg (by simp)]
    exact Q8t h hg ht hT [102,105,108,108] (by decide) (by decide) (by decide) (by decide) hs hn
   | cons a cs =>
    rw [if_pos (by simp)]
    exact Qur h hg ht hT a cs hs hn
  by_cases h_look:W0=[108,111,111,107]
  ·subst h_look
   rw [Qig]
   by_cases hl:l.length=1
   case neg =>
    rw [if_neg (fun hh=>hl hh.1)]
    cases l with
    | nil=>exact Q8t h hg ht hT [108,111,111,107] (by decide) (by decide) (by decide) (by decide) hs hn
    | cons a cs=>exact Q73 h hg ht hT [108,111,111,107] (a :: cs) (by simp) (fun e=>absurd e (by decide)) (fun e=>absurd e (by decide)) (fun e=>absurd e (by decide)) (fun _=>by simpa using hl) (by decide) (by decide) hs hn
   obtain ⟨a,rfl⟩:=len1 hl
   by_cases ha:a < 0∨(L.length:Int)≤a
   ·rw [if_neg (by simp only [List.getD_cons_zero,hml];omega)]
    exact Quo h hg ht hT a ha hs hn
   ·obtain ⟨i,rfl⟩:∃ i:Nat,a=(i:Int):=⟨a.toNat,by omega⟩
    have hi:i < L.length:=by omega
    have hLi:L[i]? = some (L[i].1,L[i].2):=by simp [hi]
    rw [if_pos ⟨hl,by simp only [List.getD_cons_zero,hml];omega⟩]
    have e:(L.map (·.2)).getD (([(i:Int)].getD 0 0).toNat) []=L[i].2:=by simp [hi]
    show Calls _ _ _ _ (Q07 (sayT isW ((L.map (·.2)).getD (([(i:Int)].getD 0 0).toNat) []),_) _ _ _ _)
    rw [e]
    exact Qup h hg ht hT i _ _ hLi hs hn
  by_cases h_ins:W0=[105,110,115]
  ·subst h_ins
   rw [Qih]
   by_cases hl:l.length=5
   case neg =>
    rw [if_neg (fun hh=>hl hh.1)]
    cases l with
    | nil=>exact Q8t h hg ht hT [105,110,115] (by decide) (by decide) (by decide) (by decide) hs hn
    | cons a cs=>exact Q73 h hg ht hT [105,110,115] (a :: cs) (by simp) (fun e=>absurd e (by decide)) (fun _=>by simpa using hl) (fun e=>absurd e (by decide)) (fun e=>absurd e (by decide)) (by decide) (by decide) hs hn
   obtain ⟨a,b,c,d,n,rfl⟩:=len5 hl
   have hk:=Quq h hg ht hT a b c d n hs hn
   by_cases hc:p.code.length < 200
   ·rw [if_pos ⟨hl,hc⟩]
    rw [if_pos hc] at hk
    exact hk
   ·rw [if_neg (fun hh=>hc hh.2)]
    rw [if_neg hc] at hk
    exact hk
  by_cases h_run:W0=[114,117,110]
  ·subst h_run
   rw [Qid]
   by_cases hl:l.length=1
   case neg =>
    rw [if_neg hl]
    cases l with
    | nil=>exact Q8t h hg ht hT [114,117,110] (by decide) (by decide) (by decide) (by decide) hs hn
    | cons a cs=>exact Q73 h hg ht hT [114,117,110] (a :: cs) (by simp) (fun e=>absurd e (by decide)) (fun e=>absurd e (by decide)) (fun _=>by simpa using hl) (fun e=>absurd e (by decide)) (by decide) (by decide) hs hn
   obtain ⟨a,rfl⟩:=len1 hl
   rw [if_pos hl]
   exact Qul h hg ht hT a hs hn
  by_cases h_ahead:W0=[97,104,101,97,100]
  ·subst h_ahead
   rw [Qij]
   cases l with
   | nil =>
    rw [if_neg (by simp)]
    exact Q8t h hg ht hT [97,104,101,97,100] (by decide) (by decide) (by decide) (by decide) hs hn
   | cons a cs =>
    rw [if_pos (by simp)]
    exact Qus h hg ht hT a cs hs hn
  by_cases h_check:W0=[99,104,101,99,107]
  ·subst h_check
   cases l with
   | nil=>exact Qcc h hg ht hT [99,104,101,99,107] (.inl rfl) hs hn
   | cons a cs =>
    rw [Qa7,if_neg (by simp)]
    exact Q73 h hg ht hT [99,104,101,99,107] (a :: cs) (by simp) (fun e=>absurd e (by decide)) (fun e=>absurd e (by decide)) (fun e=>absurd e (by decide)) (fun e=>absurd e (by decide)) (by decide) (by decide) hs hn
  by_cases h_hard:W0=[104,97,114,100]
  ·subst h_hard
   cases l with
   | nil=>exact Qcc h hg ht hT [104,97,114,100] (.inr (.inl rfl)) hs hn
   | cons a cs =>
    rw [Qa6,if_neg (by simp)]
    exact Q73 h hg ht hT [104,97,114,100] (a :: cs) (by simp) (fun e=>absurd e (by decide)) (fun e=>absurd e (by decide)) (fun e=>absurd e (by decide)) (fun e=>absurd e (by decide)) (by decide) (by decide) hs hn
  by_cases h_text:W0=[116,101,120,116]
  ·subst h_text
   cases l with
   | nil=>exact Qcc h hg ht hT [116,101,120,116] (.inr (.inr (.inr rfl))) hs hn
   | cons a cs =>
    rw [Qa4,if_neg (by simp)]
    exact Q73 h hg ht hT [116,101,120,116] (a :: cs) (by simp) (fun e=>absurd e (by decide)) (fun e=>absurd e (by decide)) (fun e=>absurd e (by decide)) (fun e=>absurd e (by decide)) (by decide) (by decide) hs hn
  by_cases h_load:W0=[108,111,97,100]
  ·subst h_load
   cases l with
   | nil=>exact Qcc h hg ht hT [108,111,97,100] (.inr (.inr (.inl rfl))) hs hn
   | cons a cs =>
    rw [Qa5,if_neg (by simp)]
    exact Q73 h hg ht hT [108,111,97,100] (a :: cs) (by simp) (fun e=>absurd e (by decide)) (fun e=>absurd e (by decide)) (fun e=>absurd e (by decide)) (fun e=>absurd e (by decide)) (by decide) (by decide) hs hn
  rw [Qif h_region h_fill h_look h_ins h_run h_ahead h_check h_hard h_text h_load]
  cases l with
  | nil=>exact Q8t h hg ht hT W0 h_check h_hard h_load h_text hs hn
  | cons a cs=>exact Q73 h hg ht hT W0 (a :: cs) (by simp) (fun e=>absurd e h_region) (fun e=>absurd e h_ins) (fun e=>absurd e h_run) (fun e=>absurd e h_look) h_fill h_ahead hs hn
theorem Qgj (k n cap m:Nat) (h1:m≤n) (h2:n≤cap) (W:World) :
  (Instr.slice 22 (.slice (some ⟨k,0,none⟩) n cap) none (some (.int .i64 (m:Int))) none).run Tryz.prog W=.ok (.slice (some ⟨k,0,none⟩) m cap) W:=by
 have hu:Tryz.prog.underlying 22 = some (.slice (Tryz.prog.elem 22)):=by kernel_rfl
 have hz:(sizeOf (Tryz.prog.elem 22)).run Tryz.prog W=.ok 1 W:=by kernel_rfl
 rw [run_slice_h (P:=Tryz.prog) W 22 (some ⟨k,0,none⟩) n cap hu .i64 (m:Int) (by omega) (by omega),hz]
 simp only [Result.andThen,sliced,Int.toNat_natCast,Nat.sub_zero]
 by_cases h:cap=0
 ·rw [if_pos h]
 ·rw [if_neg h]
  rfl
theorem Qj7 {l:List (List UInt8)} (h:l≠[]):l.getLastD []=l.getD (l.length - 1) []:=by
 rw [List.getLastD_eq_getLast?,List.getLast?_eq_getElem?,List.getD_eq_getElem?_getD]
structure Q5o (w0 wr:World) (B g T:Nat) (LL:List (List UInt8)) (k:Nat) (O:List UInt8) (S:LPl):Prop where
 st:∃ vR vC vM L,L.map (·.2)=S.m∧PlSt w0 wr B g T vR vC vM S.p L
 good:Q0x S
 eq:O ++ goD layD S (LL.drop k)=goD layD Q2l LL
 len:O.length≤k * 4001
theorem Q5o.fits {w0 wr:World} {B g T:Nat} {LL:List (List UInt8)} {k:Nat} {O:List UInt8} {S:LPl} (h:Q5o w0 wr B g T LL k O S):∀ i ∈ S.p.code,i.fits:=by
 obtain ⟨vR,vC,vM,L,-,h⟩:=h.st
 exact h.fc
theorem Q5o.next {w0 wr w':World} {B g T:Nat} {LL:List (List UInt8)} {k:Nat} {O:List UInt8} {S:LPl} (h:Q5o w0 wr B g T LL k O S) (hk:k < LL.length) (h':∃ vR vC vM L,L.map (·.2)=(Q20 layD S (LL.getD k [])).2.m∧PlSt w0 w' B g T vR vC vM (Q20 layD S (LL.getD k [])).2.p L) :
  Q5o w0 w' B g T LL (k+1) (O ++ ((Q20 layD S (LL.getD k [])).1 ++ [10])) (Q20 layD S (LL.getD k [])).2:=by
 refine ⟨h',Qri h.good,?_,?_⟩
 ·have e:LL.drop k=LL.getD k [] :: LL.drop (k+1):=by
   rw [List.drop_eq_getElem_cons hk]
   simp [hk]
  rw [← h.eq,e,goD]
  simp
 ·have h1:=h.len
  have h2:=Qab (t:=LL.getD k []) h.good h.fits
  simp only [List.length_append,List.length_cons,List.length_nil]
  omega
theorem Qj0 (s:List UInt8):(Q08 10 s).length - 1≤(Q2q s).length∧(Q2q s).length≤(Q08 10 s).length∧∀ j,j < (Q2q s).length→(Q2q s).getD j []=(Q08 10 s).getD j []:=by
 unfold Q2q
 split
 ·refine ⟨by rw [List.length_dropLast];exact Nat.le_refl _,by rw [List.length_dropLast];omega,fun j hj=>?_⟩
  rw [List.length_dropLast] at hj
  rw [List.getD_eq_getElem?_getD,List.getD_eq_getElem?_getD,List.dropLast_eq_take,List.getElem?_take_of_lt hj]
 ·exact ⟨by omega,Nat.le_refl _,fun j hj=>rfl⟩
set_option maxRecDepth 100000 in
set_option maxHeartbeats 16000000 in
theorem Qko (s:List UInt8) (hs:s.length≤1000000000) (w:World) (ht:Tab9 w) :
  Calls Tryz.prog 7 #[str s] w fun e w'=>e=.returned (str (Q8g layD s))∧Ext w w':=by
 have Hs:=zh hs
 have Ht:=zh ht
 have C:=zh (Q4k 10 s hs w ht)
 have Hlen:=zh (Q8z 10 s)
 have Hpl:=zh (fun x (hx:x ∈ Q08 10 s)=>Q98 10 s x hx)
 have Hlp:=zh (Qj0 s)
 have Hne:=zh (Q86 10 s)
 have HPL:Hid (Q8g layD s=goD layD Q2l ((Q2q s).take 40)):=zh rfl
 have HLD:Hid (Q2q s=if (Q08 10 s).getLastD []=[] then (Q08 10 s).dropLast else Q08 10 s):=zh rfl
 have hadd:=Q85
 have hsl:=List.count_le_length (a:=(10:UInt8)) (l:=s)
 clear hs ht
 go_enter Tryz.func7,Tryz.ntmps7
 go_wp2_with fail
 (with_reducible refine C.out.mono ?_)
 clear C
 rintro e w1 ⟨v1,rfl,⟨kw,cw,rfl,hcw,hcmw,hkw,hcells⟩,hx⟩
 have X1:=zh hx
 have Hcells:=zh hcells
 have hn1:1≤(Q08 10 s).length:=by rw [Hlen.out];omega
 have hn9:(Q08 10 s).length≤1000000001:=by rw [Hlen.out];have:=Hs.out;omega
 have hl:=hcells ((Q08 10 s).length - 1) (by omega)
 have hlast:(Q08 10 s).getD ((Q08 10 s).length - 1) []=(Q08 10 s).getLastD []:=(Qj7 Hne.out).symm
 rw [hlast] at hl
 clear hcells hx hlast hsl
 obtain ⟨n,hn⟩:∃ n,(Q08 10 s).length=n:=⟨_,rfl⟩
 have Hn:=zh hn
 rw [hn] at hcw hn1 hn9 hl ⊢
 clear hn
 have hix:=Q5l (oa:=some ⟨kw,0,none⟩) (n:=n) (b:=kw) (o:=0) (cap:=cw) (fun _=>rfl)
 have hw1:wrap64 ((n:Int) - 1)=((n - 1:Nat):Int):=by unfold wrap64;omega
 have hw2:IntKind.i64.wrap ((n:Int) - 1)=((n - 1:Nat):Int):=(Q8o _).trans hw1
 have hb1:(0:Int)≤((n - 1:Nat):Int):=by omega
 have hb2:((n - 1:Nat):Int) < (n:Int):=by omega
 have hst:=Qgj kw n cw (n - 1) (by omega) hcw
 generalize (Q08 10 s).getLastD []=Z at hl HLD
 by_cases hq:Z=[]
 ·have Hld:Hid (Q2q s=(Q08 10 s).dropLast):=zh (HLD.out.trans (if_pos hq))
  have Hln:Hid ((Q2q s).length=n - 1):=zh (by rw [Hld.out,List.length_dropLast,Hn.out])
  rw [hq] at hl
  have hN:n - 1≤n:=by omega
  obtain ⟨N,hN'⟩:∃ N:Nat,N=min (n - 1) 40:=⟨_,rfl⟩
  have e1:(min (((n - 1):Nat):Int) 40).toNat=N:=by omega
  have e2:max (min (((n - 1):Nat):Int) 40) 0=(N:Int):=by omega
  have e3:min (((n - 1):Nat):Int) 40=(N:Int):=by omega
  have hLL:Hid (((Q2q s).take 40).length=N):=zh (by rw [List.length_take,Hln.out,hN',Nat.min_comm])
  have hN40:N≤40:=by omega
  have hNn:N≤n:=by omega
  have hix2:=Q5l (oa:=some ⟨kw,0,none⟩) (n:=N) (b:=kw) (o:=0) (cap:=cw) (fun _=>rfl)
  go_upto_region 7 with fail
  try rw [e2]
  try rw [e1]
  try rw [e3]
  have HL2:Hid (∀ j,j < N→((Q2q s).take 40).getD j []=(Q08 10 s).getD j []):=zh (fun j hj=>by
   rw [List.getD_eq_getElem?_getD,List.getElem?_take_of_lt (by omega),← List.getD_eq_getElem?_getD]
   exact Hlp.out.2.2 j (by rw [Hln.out];omega))
  generalize (Q2q s).take 40=LL at *
  obtain ⟨w2,g,hg,hW,hx2,bP⟩:=Q16 w1 #[.slice none 0 0,.slice none 0 0,.slice none 0 0] 65
  rw [hW,hg]
  have hPl:PlSt w1 w2 w1.heap.size g 65 (.slice none 0 0) (.slice none 0 0) (.slice none 0 0) Q2l.p [] :=
   ⟨bP,World.ownsRow_nil _ _ _ _,World.ownsRow_nil _ _ _ _,World.ownsRow_nil _ _ _ _,Fam.nil _ _,hx2,by omega,Nat.le_refl _,by decide,by decide,by decide,by decide,fun r hr=>by simp [Q2l] at hr,fun i hi=>by simp [Q2l] at hi,fun x hx=>by simp at hx⟩
  have HP0:Hid (Q5o w1 w2 w1.heap.size g 65 LL 0 [] Q2l):=zh ⟨⟨_,_,_,[],rfl,hPl⟩,Qc2,by rw [List.drop_zero];rfl,by simp⟩
  clear hPl hg hW hx2 bP e1 e2 e3 hl
  go_loopw [5,30] (fun ov iv wr => ∃ (k:Nat) (O:List UInt8) (S:LPl),k≤N∧iv=.int .i64 (k:Int)∧ov=str O∧Q5o w1 wr w1.heap.size g 65 LL k O S) (fun _ iv _=>N - (intOf iv).toNat)
  case atStart=>exact ⟨0,[],Q2l,by omega,rfl,rfl,HP0.out⟩
  case round =>
   obtain ⟨k,O,S,hk,rfl,rfl,hI⟩:=hrel
   have HI:=zh hI
   have HB:Hid (Ext w1 wr):=zh (by
    obtain ⟨vR,vC,vM,L,-,hP⟩:=hI.st
    exact hP.ext)
   clear hI
   by_cases hlt:k < N
   ·have hin:(k:Int) < (N:Int):=by omega
    have c0:=(HB.out.kept (Hcells.out k (by rw [Hn.out];omega)))
    rw [← HL2.out k hlt] at c0
    have hT:(LL.getD k []).length≤1000000000:=by
     rw [HL2.out k hlt]
     exact Nat.le_trans (Hpl.out _ (Qag (by rw [Hn.out];omega))) Hs.out
    have HT:=zh hT
    have hOl:=HI.out.len
    have hO4:O.length≤4000000:=by omega
    have hA:=Qab (t:=LL.getD k []) HI.out.good HI.out.fits
    have hNx:=zh (fun w' h'=>HI.out.next (w':=w') (by rw [hLL.out];exact hlt) h')
    obtain ⟨vR,vC,vM,L,hm,hP⟩:=HI.out.st
    have HPs:=zh hP
    have Hgood:Hid (Q0x ⟨S.p,L.map (·.2)⟩):=zh (by rw [hm];exact HI.out.good)
    have Hm:=zh hm
    clear hm hP hT hOl
    generalize LL.getD k []=t at *
    have hS:(⟨S.p,L.map (·.2)⟩:LPl)=S:=by rw [Hm.out]
    have CL:=Qkq HPs.out Hgood.out (Ht.out.ext X1.out) HT.out
    rw [hS] at CL
    have CL:=zh CL
    clear hS
    have hA2:((Q20 layD S t).1 ++ [10]).length≤4000000:=by rw [List.length_append];simp only [List.length_cons,List.length_nil];omega
    have hA3:(Q20 layD S t).1.length≤4000000:=by omega
    go_wp2_with fail
    (with_reducible refine CL.out.mono ?_)
    rintro e w3 ⟨rfl,h3⟩
    have HN:=zh (hNx.out w3 h3)
    obtain ⟨vR',vC',vM',L',hm',hP'⟩:=h3
    clear hm' hP' CL c0
    generalize (Q20 layD S t).1=Q at *
    go_wp2
    go_roundw
    case rel=>exact ⟨k+1,O ++ (Q ++ [10]),_,by omega,by go_num,by show Value.string (_ ++ _)=_;rw [Q2h],HN.out⟩
    case measure=>first | (simp [intOf];done) | (simp [intOf];omega)
   ·have hke:k=N:=by omega
    subst hke
    have HE:Hid (O=Q8g layD s):=zh (by
     have:=HI.out.eq
     rw [← hLL.out,List.drop_length,goD,List.append_nil] at this
     rw [this,HPL.out])
    obtain ⟨vR,vC,vM,L,hm,hP⟩:=HI.out.st
    have HX:=zh (X1.out.trans hP.ext)
    clear hm hP
    go_wp2
    go_ret
    exact ⟨by rw [HE.out];rfl,HX.out⟩
 ·have Hld:Hid (Q2q s=Q08 10 s):=zh (HLD.out.trans (if_neg hq))
  have Hln:Hid ((Q2q s).length=n):=zh (by rw [Hld.out,Hn.out])
  have hqf:(Z == [])=false:=by simpa using hq
  have hqe:Z.isEmpty=false:=by simpa using hq
  have hN:n≤n:=Nat.le_refl _
  obtain ⟨N,hN'⟩:∃ N:Nat,N=min n 40:=⟨_,rfl⟩
  have e1:(min ((n:Nat):Int) 40).toNat=N:=by omega
  have e2:max (min ((n:Nat):Int) 40) 0=(N:Int):=by omega
  have e3:min ((n:Nat):Int) 40=(N:Int):=by omega
  have hLL:Hid (((Q2q s).take 40).length=N):=zh (by rw [List.length_take,Hln.out,hN',Nat.min_comm])
  have hN40:N≤40:=by omega
  have hNn:N≤n:=by omega
  have hix2:=Q5l (oa:=some ⟨kw,0,none⟩) (n:=N) (b:=kw) (o:=0) (cap:=cw) (fun _=>rfl)
  go_upto_region 7 with fail
  try rw [e2]
  try rw [e1]
  try rw [e3]
  have HL2:Hid (∀ j,j < N→((Q2q s).take 40).getD j []=(Q08 10 s).getD j []):=zh (fun j hj=>by
   rw [List.getD_eq_getElem?_getD,List.getElem?_take_of_lt (by omega),← List.getD_eq_getElem?_getD]
   exact Hlp.out.2.2 j (by rw [Hln.out];omega))
  generalize (Q2q s).take 40=LL at *
  obtain ⟨w2,g,hg,hW,hx2,bP⟩:=Q16 w1 #[.slice none 0 0,.slice none 0 0,.slice none 0 0] 65
  rw [hW,hg]
  have hPl:PlSt w1 w2 w1.heap.size g 65 (.slice none 0 0) (.slice none 0 0) (.slice none 0 0) Q2l.p [] :=
   ⟨bP,World.ownsRow_nil _ _ _ _,World.ownsRow_nil _ _ _ _,World.ownsRow_nil _ _ _ _,Fam.nil _ _,hx2,by omega,Nat.le_refl _,by decide,by decide,by decide,by decide,fun r hr=>by simp [Q2l] at hr,fun i hi=>by simp [Q2l] at hi,fun x hx=>by simp at hx⟩
  have HP0:Hid (Q5o w1 w2 w1.heap.size g 65 LL 0 [] Q2l):=zh ⟨⟨_,_,_,[],rfl,hPl⟩,Qc2,by rw [List.drop_zero];rfl,by simp⟩
  clear hPl hg hW hx2 bP e1 e2 e3 hl
  go_loopw [5,30] (fun ov iv wr => ∃ (k:Nat) (O:List UInt8) (S:LPl),k≤N∧iv=.int .i64 (k:Int)∧ov=str O∧Q5o w1 wr w1.heap.size g 65 LL k O S) (fun _ iv _=>N - (intOf iv).toNat)
  case atStart=>exact ⟨0,[],Q2l,by omega,rfl,rfl,HP0.out⟩
  case round =>
   obtain ⟨k,O,S,hk,rfl,rfl,hI⟩:=hrel
   have HI:=zh hI
   have HB:Hid (Ext w1 wr):=zh (by
    obtain ⟨vR,vC,vM,L,-,hP⟩:=hI.st
    exact hP.ext)
   clear hI
   by_cases hlt:k < N
   ·have hin:(k:Int) < (N:Int):=by omega
    have c0:=(HB.out.kept (Hcells.out k (by rw [Hn.out];omega)))
    rw [← HL2.out k hlt] at c0
    have hT:(LL.getD k []).length≤1000000000:=by
     rw [HL2.out k hlt]
     exact Nat.le_trans (Hpl.out _ (Qag (by rw [Hn.out];omega))) Hs.out
    have HT:=zh hT
    have hOl:=HI.out.len
    have hO4:O.length≤4000000:=by omega
    have hA:=Qab (t:=LL.getD k []) HI.out.good HI.out.fits
    have hNx:=zh (fun w' h'=>HI.out.next (w':=w') (by rw [hLL.out];exact hlt) h')
    obtain ⟨vR,vC,vM,L,hm,hP⟩:=HI.out.st
    have HPs:=zh hP
    have Hgood:Hid (Q0x ⟨S.p,L.map (·.2)⟩):=zh (by rw [hm];exact HI.out.good)
    have Hm:=zh hm
    clear hm hP hT hOl
    generalize LL.getD k []=t at *
    have hS:(⟨S.p,L.map (·.2)⟩:LPl)=S:=by rw [Hm.out]
    have CL:=Qkq HPs.out Hgood.out (Ht.out.ext X1.out) HT.out
    rw [hS] at CL
    have CL:=zh CL
    clear hS
    have hA2:((Q20 layD S t).1 ++ [10]).length≤4000000:=by rw [List.length_append];simp only [List.length_cons,List.length_nil];omega
    have hA3:(Q20 layD S t).1.length≤4000000:=by omega
    go_wp2_with fail
    (with_reducible refine CL.out.mono ?_)
    rintro e w3 ⟨rfl,h3⟩
    have HN:=zh (hNx.out w3 h3)
    obtain ⟨vR',vC',vM',L',hm',hP'⟩:=h3
    clear hm' hP' CL c0
    generalize (Q20 layD S t).1=Q at *
    go_wp2
    go_roundw
    case rel=>exact ⟨k+1,O ++ (Q ++ [10]),_,by omega,by go_num,by show Value.string (_ ++ _)=_;rw [Q2h],HN.out⟩
    case measure=>first | (simp [intOf];done) | (simp [intOf];omega)
   ·have hke:k=N:=by omega
    subst hke
    have HE:Hid (O=Q8g layD s):=zh (by
     have:=HI.out.eq
     rw [← hLL.out,List.drop_length,goD,List.append_nil] at this
     rw [this,HPL.out])
    obtain ⟨vR,vC,vM,L,hm,hP⟩:=HI.out.st
    have HX:=zh (X1.out.trans hP.ext)
    clear hm hP
    go_wp2
    go_ret
    exact ⟨by rw [HE.out];rfl,HX.out⟩
section
variable {w0 w : World} {B g : Nat} {vR vC vM : Value} {p : Q00} {L : List (Value × List Int)} {t : List UInt8} {ws : List (List UInt8)}
set_option maxRecDepth 100000
set_option maxHeartbeats 16000000
theorem Qs4 (h:PlSt w0 w B g 31 vR vC vM p L) (hg:Q0x ⟨p,L.map (·.2)⟩) (hT:t.length≤1000000000) (i:Nat) (cs:List Int) (v:Value) (r:List Int) (hi:L[i]? = some (v,r)) (hs:Q08 32 t=[102,105,108,108] :: ws) (hn:Q0m ws=some ((i:Int) :: cs)) :
  Calls Tryz.prog 6 #[.pointer (some ⟨g,0,none⟩),str t] w (Q07 (Q36 ⟨p,L.map (·.2)⟩ ((i:Int) :: cs)) w0 B g 31):=by
 have HS:=zh h
 have Hg:=zh hg
 have HT:=zh hT
 have Hn:=zh hn
 have HW:=zh (Q3g hs)
 obtain ⟨oR,cR,rfl⟩:=Q02 h.rg
 obtain ⟨oC,cC,rfl⟩:=Q02 h.cd
 obtain ⟨oM,cM,rfl⟩:=Q02 h.mo
 obtain ⟨i0,hi0,hz0,hz1,hz2⟩:=info_parts Q5k
 have HSp:=zh (Q68 _ hT w)
 clear h hg hT hn hs
 go_enter Tryz.func6,Tryz.ntmps6
 go_wp2_with fail
 (with_reducible refine HSp.out.mono ?_)
 clear HSp
 rintro e w5 ⟨v5,rfl,hown,hx⟩
 have HS5:=zh (HS.out.extend hx)
 have hB5:=HS5.out.size
 obtain ⟨kw,cw,rfl,hwl,Hc,hix⟩:=Q67 HW.out HT.out hown
 clear hx hown
 go_wp2_with fail
 go_loopw [6,7] (fun lv iv wr => ∃ (j:Nat) (lp:List Int),1≤j∧j≤ws.length+1∧iv=.int .i64 (j:Int)∧Q0m (ws.take (j - 1))=some lp∧wr.ownsRow w5.heap.size 2 1 lv lp.length (lp.map (Value.int .i64))∧Ext w5 wr) (fun _ iv _=>ws.length+1 - (intOf iv).toNat)
 case atStart=>exact ⟨1,[],by omega,by omega,rfl,rfl,World.ownsRow_nil _ _ _ _,Ext.refl _⟩
 case round =>
  obtain ⟨j,lp,hj1,hj2,rfl,hn,hown,hE⟩:=hrel
  obtain ⟨ol,cl,rfl⟩:=Q02 hown
  have X:=zh hE
  have HO:=zh hown
  have HN:=zh hn
  have hl9:lp.length≤1000000001:=by
   have:=Q3s _ _ hn
   rw [List.length_take] at this
   omega
  clear hE hown hn
  by_cases hlt:j < ws.length+1
  ·have c0:=Hc.out wr X.out j hlt
   have hin:(j:Int) < ((ws.length+1:Nat):Int):=by omega
   rw [Q6d _ _ hj1] at c0
   have Hbad:=zh (Q5e ws (j - 1) (by omega))
   have Hgood:=zh (fun n=>Q5u (n:=n) (k:=j - 1) (by omega) HN.out)
   have hjj:j - 1+1=j:=by omega
   rw [hjj] at Hgood
   clear hjj
   generalize ws.getD (j - 1) []=W at *
   go_wp2_with fail
   (with_reducible refine (Q69 W _).mono ?_)
   rintro e w2 ⟨n,b,rfl,hc,hx⟩
   have X2:=zh (X.out.trans hx)
   have HO2:=zh (Q19 HO.out hx)
   clear hx c0
   rcases hc with ⟨rfl,hp⟩ | ⟨rfl,hp⟩
   ·have HF:=zh (Hgood.out n hp)
    have hBs:=X2.out.size
    clear hp
    go_wp2_with (at_builtin;refine Q1b _ rfl _ _ 35 rfl w5.heap.size 2 i0 _ 1 8 Tryz.underlying35 hi0 hz0 hz1 hz2 rfl (by decide) _ _ _ rfl (Q1r HO2.out) (some ⟨w2.heap.size,0,none⟩) 1 1 [.int .i64 n] rfl ?c1 ?c3 ?c4 ?c5 ?_)
    case c1=>exact Q1y (size:=1) (Blk.new w2 2 #[.int .i64 n]) rfl (by simp [Value.oneCell'])
    case c3=>unfold maxLen;omega
    case c4=>omega
    case c5=>simp;omega
    intro v4 w4 hown hgrow hat
    obtain ⟨o4,c4,rfl⟩:=Q02 hown
    have X4:=zh ((X2.out.alloc (.cells #[.int .i64 n] 2)).grown hgrow (fun k hk=>Q17 HO2.out k hk))
    have HO4:Hid (w4.ownsRow w5.heap.size 2 1 (.slice o4 (lp.length+1) c4) (lp ++ [n]).length ((lp ++ [n]).map (Value.int .i64))):=zh (by rw [List.length_append,List.map_append];exact hown)
    clear hown hgrow hat
    go_wp2
    go_roundw
    case rel=>exact ⟨j+1,lp ++ [n],by omega,by omega,by go_num,HF.out,HO4.out,X4.out⟩
    case measure=>first | (simp [intOf];done) | (simp [intOf];omega)
   ·exact absurd (Hn.out.symm.trans (Hbad.out hp)) (by simp)
  ·have hje:j=ws.length+1:=by omega
   subst hje
   have hl:(i:Int) :: cs=lp:=by
    have h:=HN.out
    rw [Nat.add_sub_cancel,List.take_length] at h
    exact Option.some.inj (Hn.out.symm.trans h)
   subst hl
   obtain ⟨w6,hw6⟩:∃ w6,w6=wr:=⟨_,rfl⟩
   subst hw6
   have HS6:=zh (HS5.out.extend X.out)
   have hv:=Q32 HO.out (fun x hx=>(Q3a _ _ Hn.out x hx).r64)
   have cw0:∀ Wx,Ext w6 Wx→Wx.cell? ⟨kw,0,none⟩=some (str [102,105,108,108]):=fun Wx h=>Hc.out Wx (X.out.trans h) 0 (by omega)
   have hBl:B≤w6.heap.size:=HS6.out.size
   clear HN Hc
   obtain ⟨d0,d1,d2⟩:=HS6.out.cells
   have k2:∀ Wx,Ext w6 Wx→Wx.cell? ⟨g,2,none⟩=some (.slice oM L.length cM):=fun _ h=>h.kept d2.1
   have hL6:L.length≤6:=by
    have h1:=Hg.out.len
    have h2:=Hg.out.regs6
    simp only [List.length_map] at h1 h2
    omega
   clear d0 d1 d2
   have Hcl:Hid (cs.length≤1000000001):=zh (by have:=Q3s _ _ Hn.out;simp only [List.length_cons] at this;omega)
   obtain ⟨bl,oo,c2,hve,hlc,c0,hcs⟩:=Q8l hv
   rw [hve] at hv
   simp only [Value.slice.injEq] at hve
   obtain ⟨rfl,-,rfl⟩:=hve
   have hil:=Q3o (oa:=some ⟨bl,oo,none⟩) (n:=cs.length+1) (b:=bl) (o:=oo) (cap:=cl) (fun _=>rfl)
   have Hv:=zh hv
   have hcl:=Hcl.out
   rw [List.length_cons]
   clear hv
   have q0:∀ Wx,Ext w6 Wx→Wx.cell? ⟨bl,oo,none⟩=some (.int .i64 (i:Int)):=fun _ h=>h.kept c0
   have hiL:=(List.getElem?_eq_some_iff.1 hi).1
   have Hi:=zh hi
   have hrow:=HS6.out.fam.at_ hi
   obtain ⟨kv,cv,rfl,hrl⟩:=Qda hrow (Hg.out.rows r (List.mem_map.2 ⟨_,List.mem_of_getElem? hi,rfl⟩))
   have Hr64:=zh (HS6.out.f64 _ (List.mem_of_getElem? hi))
   obtain ⟨ko,co,hMe,hko,hrk,-⟩:=HS6.out.at_ hi
   simp only [Value.slice.injEq] at hMe
   obtain ⟨rfl,-,rfl⟩:=hMe
   have him:=Qeo ko L.length cM
   have rk:∀ Wx,Ext w6 Wx→Wx.cell? ⟨ko,i,none⟩=some (.slice (some ⟨kv,0,none⟩) r.length cv):=fun _ h=>h.kept hrk
   have hin2:(i:Int) < (L.length:Int):=by omega
   have e1:decide (0≤(i:Int))=true:=decide_eq_true (by omega)
   have e2:decide ((i:Int) < (L.length:Int))=true:=decide_eq_true (by omega)
   clear hi hrk
   go_upto_region 10 with fail
   refine Q0j 21 (by kernel_rfl) (by kernel_rfl) ?_
   simp only [List.take_succ_cons,List.take_zero,List.drop_succ_cons,List.drop_zero]
   repeat (first | (refine Q0d ?_ ?_ ?_;(decide);(first | rfl | (focus (go_simp;done)));apply Exists.intro;refine ⟨fun wc hE=>?_,?_⟩;(go_simp;exact rfl);go_simp) | (refine Q0e ?_ ?_ ?_;(decide);(focus (go_simp;done));go_simp))
   refine Q0f ?_
   intro w7 hx
   have HS7:=zh (HS6.out.extend hx)
   have X7:=zh hx
   have cw0:=cw0 w7 hx
   have HrD:Hid ((⟨p,L.map (·.2)⟩:LPl).m.getD i []=r):=zh (Qk8 Hi.out)
   by_cases hlen:r.length < cs.length
   ·have e3:decide ((cs.length:Int)≤(r.length:Int))=false:=decide_eq_false (fun h=>absurd hlen (Nat.not_lt.2 (Int.ofNat_le.1 h)))
    have e4:decide (cs.length≤r.length)=false:=decide_eq_false (Nat.not_le.2 hlen)
    have e5:¬ (cs.length≤r.length):=Nat.not_le.2 hlen
    have q0:∀ Wx,Ext w7 Wx→Wx.cell? ⟨bl,oo,none⟩=some (.int .i64 (i:Int)):=fun _ h=>q0 _ (X7.out.trans h)
    have k2:∀ Wx,Ext w7 Wx→Wx.cell? ⟨g,2,none⟩=some (.slice (some ⟨ko,0,none⟩) L.length cM):=fun _ h=>k2 _ (X7.out.trans h)
    have rk:∀ Wx,Ext w7 Wx→Wx.cell? ⟨ko,i,none⟩=some (.slice (some ⟨kv,0,none⟩) r.length cv):=fun _ h=>rk _ (X7.out.trans h)
    have hwe:wrap64 (((cs.length+1:Nat):Int) - 1)=(cs.length:Int):=by unfold wrap64;omega
    have hwe2:wrap64 (cs.length:Int)=(cs.length:Int):=by unfold wrap64;omega
    have hww:IntKind.i64.wrap (cs.length:Int)=(cs.length:Int):=(Q8o _).trans hwe2
    clear hx c0
    go_upto_region 16 with fail
    refine Q0j 17 (by kernel_rfl) (by kernel_rfl) ?_
    simp only [List.take_succ_cons,List.take_zero,List.drop_succ_cons,List.drop_zero]
    repeat (first | (refine Q0d ?_ ?_ ?_;(decide);(first | rfl | (focus (go_simp;done)));apply Exists.intro;refine ⟨fun wc hE=>?_,?_⟩;(go_simp;exact rfl);go_simp) | (refine Q0e ?_ ?_ ?_;(decide);(focus (go_simp;done));go_simp))
    refine Q0f ?_
    intro w8 hx
    have HS8:=zh (HS7.out.extend hx)
    have X8:=zh (X7.out.trans hx)
    have cw0:=X8
    clear hx
    go_wp2
    go_ret
    rw [Qu4 (by rw [HrD.out];exact hlen)]
    exact Q07.same (s:=⟨p,L.map (·.2)⟩) rfl HS8.out
   ·have hlen:cs.length≤r.length:=Nat.not_lt.1 hlen
    have e3:decide ((cs.length:Int)≤(r.length:Int))=true:=decide_eq_true (Int.ofNat_le.2 hlen)
    have e4:decide (cs.length≤r.length)=true:=decide_eq_true hlen
    have q0:∀ Wx,Ext w7 Wx→Wx.cell? ⟨bl,oo,none⟩=some (.int .i64 (i:Int)):=fun _ h=>q0 _ (X7.out.trans h)
    have k2:∀ Wx,Ext w7 Wx→Wx.cell? ⟨g,2,none⟩=some (.slice (some ⟨ko,0,none⟩) L.length cM):=fun _ h=>k2 _ (X7.out.trans h)
    have rk:∀ Wx,Ext w7 Wx→Wx.cell? ⟨ko,i,none⟩=some (.slice (some ⟨kv,0,none⟩) r.length cv):=fun _ h=>rk _ (X7.out.trans h)
    have hwe:wrap64 (((cs.length+1:Nat):Int) - 1)=(cs.length:Int):=by unfold wrap64;omega
    have hwe2:wrap64 (cs.length:Int)=(cs.length:Int):=by unfold wrap64;omega
    have hww:IntKind.i64.wrap (cs.length:Int)=(cs.length:Int):=(Q8o _).trans hwe2
    clear hx
    go_upto_region 16 with fail
    refine Q0j 17 (by kernel_rfl) (by kernel_rfl) ?_
    simp only [List.take_succ_cons,List.take_zero,List.drop_succ_cons,List.drop_zero]
    repeat (first | (refine Q0d ?_ ?_ ?_;(decide);(first | rfl | (focus (go_simp;done)));apply Exists.intro;refine ⟨fun wc hE=>?_,?_⟩;(go_simp;exact rfl);go_simp) | (refine Q0e ?_ ?_ ?_;(decide);(focus (go_simp;done));go_simp))
    refine Q0f ?_
    intro w8 hx
    have HS8:=zh (HS7.out.extend hx)
    have X8:=zh (X7.out.trans hx)
    have cw0:=X8
    clear hx
    have hbv:w5.heap.size≤bl:=Q17 HO.out bl rfl
    have hkv:kv < w5.heap.size:=(HS5.out.fam.size (List.mem_of_getElem? Hi.out) kv rfl).2
    have hne:kv≠bl:=by omega
    have Hcs64:=zh (fun x (hx:x ∈ cs)=>Hv.out.1 x (List.mem_cons_of_mem _ hx))
    have hiv:=Q3o (oa:=some ⟨kv,0,none⟩) (n:=r.length) (b:=kv) (o:=0) (cap:=cv) (fun _=>rfl)
    have Q8:=zh (And.intro (X8.out.kept c0) (fun j x hx=>X8.out.kept (hcs j x hx)))
    clear hrow hcs c0 q0 k2 rk cw0 hwe hwe2 hww e1 e2 hin2 hlc
    go_wp2_with fail
    go_loopw [11] (fun iv wr => ∃ (j:Nat),1≤j∧j≤cs.length+1∧iv=.int .i64 (j:Int)∧Qw8 w0 wr B g 31 (.slice oR p.regs.length cR) (.slice oC p.code.length cC) (.slice (some ⟨ko,0,none⟩) L.length cM) p (L.set i (.slice (some ⟨kv,0,none⟩) r.length cv,cs.take (j - 1) ++ r.drop (j - 1))) bl oo (i:Int) cs) (fun iv _=>cs.length+1 - (intOf iv).toNat)
    case atStart=>exact ⟨1,by omega,by omega,rfl,by rw [show (1:Nat) - 1=0 from rfl,List.take_zero,List.drop_zero,List.nil_append,set_same' Hi.out];exact ⟨HS8.out,Q8.out.1,Q8.out.2⟩⟩
    case round =>
     obtain ⟨j,hj1,hj2,rfl,HSr,qa,qc⟩:=hrel
     have HSr:=zh HSr
     have Qr:=zh (And.intro qa qc)
     clear qa qc
     by_cases hlt:j < cs.length+1
     ·have hjl:j - 1 < cs.length:=by omega
      have hjr:j - 1 < r.length:=by omega
      have hin:(j:Int) < ((cs.length+1:Nat):Int):=by omega
      have hjz:(0:Int)≤((j - 1:Nat):Int):=by omega
      have hjrz:((j - 1:Nat):Int) < (r.length:Int):=by omega
      have hw:wrap64 ((j:Int) - 1)=((j - 1:Nat):Int):=by unfold wrap64;omega
      have hww:IntKind.i64.wrap ((j:Int) - 1)=((j - 1:Nat):Int):=(Q8o _).trans hw
      have hLi:(L.set i (Value.slice (some ⟨kv,0,none⟩) r.length cv,cs.take (j - 1) ++ r.drop (j - 1)))[i]? = some (.slice (some ⟨kv,0,none⟩) r.length cv,cs.take (j - 1) ++ r.drop (j - 1)):=by rw [List.getElem?_set_self hiL]
      have hlr:(cs.take (j - 1) ++ r.drop (j - 1)).length=r.length:=by rw [List.length_append,List.length_take,List.length_drop];omega
      have q0:∀ Wx,Ext wr Wx→Wx.cell? ⟨bl,oo,none⟩=some (.int .i64 (i:Int)):=fun _ h=>h.kept Qr.out.1
      have qj:∀ Wx,Ext wr Wx→Wx.cell? ⟨bl,oo+j,none⟩=some (.int .i64 cs[j - 1]):=fun _ h=>h.kept (by have:=Qr.out.2 (j - 1) cs[j - 1] (by simp [hjl]);rwa [show oo+1+(j - 1)=oo+j by omega] at this)
      obtain ⟨d0,d1,d2⟩:=HSr.out.cells
      have k2:∀ Wx,Ext wr Wx→Wx.cell? ⟨g,2,none⟩=some (.slice (some ⟨ko,0,none⟩) L.length cM):=fun _ h=>h.kept d2.1
      obtain ⟨ko',co',hMe',-,hrk,hrow⟩:=HSr.out.at_ hLi
      simp only [Value.slice.injEq,Option.some.injEq,Addr.mk.injEq,true_and,and_true] at hMe'
      obtain ⟨rfl,-,-⟩:=hMe'
      have rk:∀ Wx,Ext wr Wx→Wx.cell? ⟨ko,i,none⟩=some (.slice (some ⟨kv,0,none⟩) r.length cv):=fun _ h=>h.kept hrk
      have Hrow:=zh hrow
      have hx64:R64 cs[j - 1]:=Hcs64.out _ (List.getElem_mem hjl)
      have Hstep:=zh (Qu1 hjl hjr)
      have HLi:=zh hLi
      have Hx64:=zh hx64
      have hin2:(i:Int) < (L.length:Int):=by omega
      rw [hlr] at hrow
      obtain ⟨kv',cv',hve',-,hcell⟩:=own_at' hrow (by omega)
      simp only [Value.slice.injEq,Option.some.injEq,Addr.mk.injEq,true_and,and_true] at hve'
      obtain ⟨rfl,-⟩:=hve'
      obtain ⟨y,hy⟩:∃ y,((cs.take (j - 1) ++ r.drop (j - 1)).map (Value.int .i64))[j - 1]? = some y:=⟨_,List.getElem?_eq_getElem (by rw [List.length_map,hlr];exact hjr)⟩
      have hst:=hcell (j - 1) y hjr hy
      have Hst:=zh hst
      clear d0 d1 d2 hrk hrow hlr hLi hx64 hcell hy hst
      generalize cs[j - 1]=x at *
      go_upto_region 20 with fail
      refine Q23 [16] 0 (by kernel_rfl) (by kernel_rfl) ?_
      repeat (first | (refine Q1x ?_ ?_;(decide)) | (refine Q1o ?_ ?_ ?_;(decide);(first | rfl | (focus (go_simp;done)));apply Exists.intro;refine ⟨fun wc hE=>?_,?_⟩;(go_simp;exact rfl);go_simp) | (refine Q1v ?_ ?_ ?_;(decide);(focus (go_simp;done));go_simp))
      refine Q1w ?_
      intro w9 hx
      have HS9:=zh (HSr.out.extend hx)
      have hst:w9.cell? ⟨kv,j - 1,none⟩=some y∧w9.frozen? ⟨kv,j - 1,none⟩=false:=⟨hx.kept Hst.out.1,by rw [hx.frozen (Q0k Hst.out.1)];exact Hst.out.2⟩
      have Q9:=zh (And.intro (hx.kept Qr.out.1) (fun j x h=>hx.kept (Qr.out.2 j x h)))
      clear hx q0 qj k2 rk
      refine Q1q (Q0c rfl (Q22)) ?_
      go_wp2_with fail
      go_roundw
      case rel=>exact ⟨j+1,by omega,by omega,by go_num,by
       have:=HS9.out.put_ (x:=j - 1) HLi.out Hx64.out
       rw [List.set_set,Hstep.out,show j - 1+1=j by omega] at this
       exact ⟨this,by rw [World.cell?_setCell_other _ _ _ _ (fun e=>hne (congrArg Addr.block e))];exact Q9.out.1,fun m x h=>by rw [World.cell?_setCell_other _ _ _ _ (fun e=>hne (congrArg Addr.block e))];exact Q9.out.2 m x h⟩⟩
      case measure=>first | (simp [intOf];done) | (simp [intOf];omega)
     ·have hje:j=cs.length+1:=by omega
      subst hje
      have HSe:Hid (PlSt w0 wr B g 31 (.slice oR p.regs.length cR) (.slice oC p.code.length cC) (.slice (some ⟨ko,0,none⟩) L.length cM) p (L.set i (.slice (some ⟨kv,0,none⟩) r.length cv,cs ++ r.drop cs.length))):=zh (by
       have:=HSr.out
       rwa [Nat.add_sub_cancel,List.take_length] at this)
      clear HSr Qr
      go_wp2
      go_ret
      rw [Qu3 (by rw [List.length_map];exact hiL) (by rw [HrD.out];exact hlen),HrD.out]
      exact ⟨rfl,_,_,_,_,Qd2,HSe.out⟩
end
section
variable {w0 w : World} {B g : Nat} {vR vC vM : Value} {p : Q00} {L : List (Value × List Int)} {t : List UInt8} {ws : List (List UInt8)}
set_option maxRecDepth 100000
set_option maxHeartbeats 16000000
theorem Qbw (h:PlSt w0 w B g 31 vR vC vM p L) (hg:Q0x ⟨p,L.map (·.2)⟩) (hT:t.length≤1000000000) (ht:Tabs w0) (W0:List UInt8) (hw:W0=[99,104,101,99,107]∨W0=[104,97,114,100]∨W0=[116,101,120,116]∨W0=[108,111,97,100]) (hs:Q08 32 t=W0 :: ws) (hn:Q0m ws=some ([])) :
  Calls Tryz.prog 6 #[.pointer (some ⟨g,0,none⟩),str t] w (Q07 (Q2o layD ⟨p,L.map (·.2)⟩ W0 []) w0 B g 31):=by
 have HS:=zh h
 have Hg:=zh hg
 have HT:=zh hT
 have Hn:=zh hn
 have HW:=zh (Q3g hs)
 have Hl:=zh (Qhj p h.fc)
 have He:=zh (Qhk p)
 have Ht:=zh ht
 have HR:=zh (Qal p hg.code)
 have HLn:Hid (R64 ((Q1s p).code.length:Int)):=zh (by have:=Q7l p;have:=hg.code;simp only at this;unfold R64;omega)
 have Hhl:=zh (Q8p p)
 have Hpl:=zh hg.code
 obtain ⟨oR,cR,rfl⟩:=Q02 h.rg
 obtain ⟨oC,cC,rfl⟩:=Q02 h.cd
 obtain ⟨oM,cM,rfl⟩:=Q02 h.mo
 obtain ⟨i0,hi0,hz0,hz1,hz2⟩:=info_parts Q5k
 have HSp:=zh (Q68 _ hT w)
 clear h hg hT hn hs
 go_enter Tryz.func6,Tryz.ntmps6
 go_wp2_with fail
 (with_reducible refine HSp.out.mono ?_)
 clear HSp
 rintro e w5 ⟨v5,rfl,hown,hx⟩
 have HS5:=zh (HS.out.extend hx)
 have hB5:=HS5.out.size
 obtain ⟨kw,cw,rfl,hwl,Hc,hix⟩:=Q67 HW.out HT.out hown
 clear hx hown
 go_wp2_with fail
 go_loopw [6,7] (fun lv iv wr => ∃ (j:Nat) (lp:List Int),1≤j∧j≤ws.length+1∧iv=.int .i64 (j:Int)∧Q0m (ws.take (j - 1))=some lp∧wr.ownsRow w5.heap.size 2 1 lv lp.length (lp.map (Value.int .i64))∧Ext w5 wr) (fun _ iv _=>ws.length+1 - (intOf iv).toNat)
 case atStart=>exact ⟨1,[],by omega,by omega,rfl,rfl,World.ownsRow_nil _ _ _ _,Ext.refl _⟩
 case round =>
  obtain ⟨j,lp,hj1,hj2,rfl,hn,hown,hE⟩:=hrel
  obtain ⟨ol,cl,rfl⟩:=Q02 hown
  have X:=zh hE
  have HO:=zh hown
  have HN:=zh hn
  have hl9:lp.length≤1000000001:=by
   have:=Q3s _ _ hn
   rw [List.length_take] at this
   omega
  clear hE hown hn
  by_cases hlt:j < ws.length+1
  ·have c0:=Hc.out wr X.out j hlt
   have hin:(j:Int) < ((ws.length+1:Nat):Int):=by omega
   rw [Q6d _ _ hj1] at c0
   have Hbad:=zh (Q5e ws (j - 1) (by omega))
   have Hgood:=zh (fun n=>Q5u (n:=n) (k:=j - 1) (by omega) HN.out)
   have hjj:j - 1+1=j:=by omega
   rw [hjj] at Hgood
   clear hjj
   generalize ws.getD (j - 1) []=W at *
   go_wp2_with fail
   (with_reducible refine (Q69 W _).mono ?_)
   rintro e w2 ⟨n,b,rfl,hc,hx⟩
   have X2:=zh (X.out.trans hx)
   have HO2:=zh (Q19 HO.out hx)
   clear hx c0
   rcases hc with ⟨rfl,hp⟩ | ⟨rfl,hp⟩
   ·have HF:=zh (Hgood.out n hp)
    have hBs:=X2.out.size
    clear hp
    go_wp2_with (at_builtin;refine Q1b _ rfl _ _ 35 rfl w5.heap.size 2 i0 _ 1 8 Tryz.underlying35 hi0 hz0 hz1 hz2 rfl (by decide) _ _ _ rfl (Q1r HO2.out) (some ⟨w2.heap.size,0,none⟩) 1 1 [.int .i64 n] rfl ?c1 ?c3 ?c4 ?c5 ?_)
    case c1=>exact Q1y (size:=1) (Blk.new w2 2 #[.int .i64 n]) rfl (by simp [Value.oneCell'])
    case c3=>unfold maxLen;omega
    case c4=>omega
    case c5=>simp;omega
    intro v4 w4 hown hgrow hat
    obtain ⟨o4,c4,rfl⟩:=Q02 hown
    have X4:=zh ((X2.out.alloc (.cells #[.int .i64 n] 2)).grown hgrow (fun k hk=>Q17 HO2.out k hk))
    have HO4:Hid (w4.ownsRow w5.heap.size 2 1 (.slice o4 (lp.length+1) c4) (lp ++ [n]).length ((lp ++ [n]).map (Value.int .i64))):=zh (by rw [List.length_append,List.map_append];exact hown)
    clear hown hgrow hat
    go_wp2
    go_roundw
    case rel=>exact ⟨j+1,lp ++ [n],by omega,by omega,by go_num,HF.out,HO4.out,X4.out⟩
    case measure=>first | (simp [intOf];done) | (simp [intOf];omega)
   ·exact absurd (Hn.out.symm.trans (Hbad.out hp)) (by simp)
  ·have hje:j=ws.length+1:=by omega
   subst hje
   have hl:[]=lp:=by
    have h:=HN.out
    rw [Nat.add_sub_cancel,List.take_length] at h
    exact Option.some.inj (Hn.out.symm.trans h)
   subst hl
   obtain ⟨w6,hw6⟩:∃ w6,w6=wr:=⟨_,rfl⟩
   subst hw6
   have HS6:=zh (HS5.out.extend X.out)
   have hv:=Q32 HO.out (fun x hx=>(Q3a _ _ Hn.out x hx).r64)
   have cw0:∀ Wx,Ext w6 Wx→Wx.cell? ⟨kw,0,none⟩=some (str W0):=fun Wx h=>Hc.out Wx (X.out.trans h) 0 (by omega)
   have hBl:B≤w6.heap.size:=HS6.out.size
   clear HN Hc
   obtain ⟨d0,d1,d2⟩:=HS6.out.cells
   have k2:∀ Wx,Ext w6 Wx→Wx.cell? ⟨g,2,none⟩=some (.slice oM L.length cM):=fun _ h=>h.kept d2.1
   have hL6:L.length≤6:=by
    have h1:=Hg.out.len
    have h2:=Hg.out.regs6
    simp only [List.length_map] at h1 h2
    omega
   clear d0 d1 d2
   clear hv
   go_upto_region 10 with fail
   refine Q0j 21 (by kernel_rfl) (by kernel_rfl) ?_
   simp only [List.take_succ_cons,List.take_zero,List.drop_succ_cons,List.drop_zero]
   repeat (first | (refine Q0d ?_ ?_ ?_;(decide);(first | rfl | (focus (go_simp;done)));apply Exists.intro;refine ⟨fun wc hE=>?_,?_⟩;(go_simp;exact rfl);go_simp) | (refine Q0e ?_ ?_ ?_;(decide);(focus (go_simp;done));go_simp))
   refine Q0f ?_
   intro w7 hx
   have HS7:=zh (HS6.out.extend hx)
   have X7:=zh hx
   have cw0:=cw0 w7 hx
   clear hx
   rcases hw with rfl | rfl | rfl | rfl
   ·obtain ⟨d0,d1,d2⟩:=HS7.out.cells
    have hgl:=HS7.out.box.lt
    go_wp2_with fail
    (with_reducible refine (Qf9 p _ w7 HS7.out.prog).mono ?_)
    rintro e w8 ⟨F,rfl,hx,hm,hn⟩
    obtain rfl:=Q9m hm hn
    have HS8:=zh (HS7.out.extend hx)
    clear hm hn d0 d1 d2 hx
    go_upto_region 45 with fail
    obtain ⟨w9,gf,hg,hW,hx2,bF⟩:=Q16 w8 #[.int .i64 (faultD p).1,.int .i64 ((faultD p).2:Int)] 52
    rw [hW,hg]
    have HS9:=zh (HS8.out.extend hx2)
    have f0:w9.cell? ⟨gf,0,none⟩=some (.int .i64 (faultD p).1):=by rw [bF.cell];rfl
    have f1:w9.cell? ⟨gf,1,none⟩=some (.int .i64 ((faultD p).2:Int)):=by rw [bF.cell];rfl
    have hfl:=bF.lt
    clear hW hg hx2 bF
    by_cases hF:(faultD p).1=0
    ·have HA:Hid (checkA p=okW):=zh (by unfold checkA;rw [if_pos hF])
     have hq:((faultD p).1 != (0:Int))=false:=by simp [hF]
     clear hF
     go_wp2
     go_ret
     (rw [Qa7,if_pos List.length_nil];show Q07 (checkA p,⟨p,L.map (·.2)⟩) _ _ _ _ _ _;rw [HA.out])
     exact ⟨rfl,_,_,_,_,rfl,HS9.out⟩
    ·have HA:Hid (checkA p=sayT badW [(faultD p).1,((faultD p).2:Int)]):=zh (by unfold checkA;rw [if_neg hF])
     have hq:((faultD p).1 != (0:Int))=true:=by simp [hF]
     clear hF
     go_wp2_with fail
     (with_reducible refine (Qea _ _ HR.out.1 HR.out.2 w9).mono ?_)
     rintro e wX ⟨rfl,hx⟩
     have HSX:=zh (HS9.out.extend hx)
     clear hx f0 f1
     go_wp2
     go_ret
     (rw [Qa7,if_pos List.length_nil];show Q07 (checkA p,⟨p,L.map (·.2)⟩) _ _ _ _ _ _;rw [HA.out])
     exact ⟨rfl,_,_,_,_,rfl,HSX.out⟩
   ·obtain ⟨d0,d1,d2⟩:=HS7.out.cells
    have hgl:=HS7.out.box.lt
    go_wp2_with fail
    (with_reducible refine (Qet p _ w7 HS7.out.prog).mono ?_)
    rintro e w8 ⟨u,F,rfl,hx,hm,hn,hok,hbad⟩
    obtain rfl:=Q9m hm hn
    have X8:=zh hx
    have HS8:=zh (HS7.out.extend hx)
    by_cases hF:(faultD p).1=0
    ·obtain ⟨-,vR',vC',rfl,hr,hc,hf⟩:=hok hF
     obtain ⟨oR',cR',rfl⟩:=Q02 hr
     obtain ⟨oC',cC',rfl⟩:=Q02 hc
     have Hr:=zh hr
     have Hc:=zh hc
     have Hf:=zh hf
     have HA:Hid (hardA p=(sayT okW [((Q06 p).code.length:Int)],Q06 p)):=zh (by unfold hardA;rw [if_pos hF])
     have hq:((faultD p).1 != (0:Int))=false:=by simp [hF]
     clear hm hn hok hbad hr hc hf hF d0 d1 d2
     go_upto_region 51 with fail
     obtain ⟨w9,gh,hg,hW,hx2,bH,bF⟩:=Q14 w8 #[.slice oR' (Q06 p).regs.length cR',.slice oC' (Q06 p).code.length cC'] #[.int .i64 (faultD p).1,.int .i64 ((faultD p).2:Int)] 28 52
     rw [hW,hg]
     have HS9:=zh (HS8.out.extend hx2)
     obtain ⟨d0,d1,-⟩:=HS9.out.cells
     have hgh:g≠gh:=by have:=HS7.out.box.lt;have:=X8.out.size;omega
     have c0:w9.cell? ⟨gh,0,none⟩=some (.slice oR' (Q06 p).regs.length cR'):=by rw [bH.cell];rfl
     have c1:w9.cell? ⟨gh,1,none⟩=some (.slice oC' (Q06 p).code.length cC'):=by rw [bH.cell];rfl
     have f0:w9.cell? ⟨gh+1,0,none⟩=some (.int .i64 (faultD p).1):=by rw [bF.cell];rfl
     have BH:=zh bH
     have HSn:Hid (PlSt w0 ((w9.setCell ⟨g,0,none⟩ (.slice oR' (Q06 p).regs.length cR')).setCell ⟨g,1,none⟩ (.slice oC' (Q06 p).code.length cC')) B g 31 (.slice oR' (Q06 p).regs.length cR') (.slice oC' (Q06 p).code.length cC') (.slice oM L.length cM) (Q06 p) L):=zh (HS7.out.prog_ (X8.out.trans hx2) (own_mono' (Q19 Hr.out hx2) HS7.out.size) (own_mono' (Q19 Hc.out hx2) HS7.out.size) HS7.out.fr Hf.out)
     clear hW hg hx hx2 bH bF
     go_upto_region 54 with fail
     have bS:=(Blk.far BH.out (p:=⟨g,0,none⟩) (fun e=>hgh e.symm) (.slice oR' (Q06 p).regs.length cR')).far (p:=⟨g,1,none⟩) (fun e=>hgh e.symm) (.slice oC' (Q06 p).code.length cC')
     have XS:Ext w0 ((w9.setCell ⟨g,0,none⟩ (.slice oR' (Q06 p).regs.length cR')).setCell ⟨g,1,none⟩ (.slice oC' (Q06 p).code.length cC')):=HSn.out.ext
     clear d0 d1 c0 c1 f0
     generalize (w9.setCell ⟨g,0,none⟩ (.slice oR' (Q06 p).regs.length cR')).setCell ⟨g,1,none⟩ (.slice oC' (Q06 p).code.length cC')=wS at HSn bS XS ⊢
     have c1:wS.cell? ⟨gh,1,none⟩=some (.slice oC' (Q06 p).code.length cC'):=by rw [bS.cell];rfl
     have hghl:=bS.lt
     have XS:=zh XS
     have Hnl:Hid (R64 ((Q06 p).code.length:Int)):=zh (by have:=Hhl.out;have:=Hpl.out;unfold R64;omega)
     clear bS
     go_wp2_with fail
     (with_reducible refine (Q8a [111,107] _ Hnl.out _ _ _ (Blk.new wS 2 #[.int .i64 ((Q06 p).code.length:Int)]) (by decide)).mono ?_)
     rintro e wX ⟨rfl,hx⟩
     have HSX:=zh (HSn.out.extend (((Ext.refl wS).alloc (.cells #[.int .i64 ((Q06 p).code.length:Int)] 2)).trans hx))
     clear hx c1
     go_wp2
     go_ret
     (rw [Qa6,if_pos List.length_nil];show Q07 ((hardA p).1,⟨(hardA p).2,L.map (·.2)⟩) _ _ _ _ _ _;rw [HA.out])
     exact ⟨rfl,_,_,_,_,rfl,HSX.out⟩
    ·obtain rfl:=hbad hF
     have HA:Hid (hardA p=(sayT badW [(faultD p).1,((faultD p).2:Int)],p)):=zh (by unfold hardA;rw [if_neg hF])
     have hq:((faultD p).1 != (0:Int))=true:=by simp [hF]
     clear hm hn hok hbad hF d0 d1 d2
     go_upto_region 51 with fail
     obtain ⟨w9,gh,hg,hW,hx2,bH,bF⟩:=Q14 w8 #[.slice none 0 0,.slice none 0 0] #[.int .i64 (faultD p).1,.int .i64 ((faultD p).2:Int)] 28 52
     rw [hW,hg]
     have HS9:=zh (HS8.out.extend hx2)
     have f0:w9.cell? ⟨gh+1,0,none⟩=some (.int .i64 (faultD p).1):=by rw [bF.cell];rfl
     have f1:w9.cell? ⟨gh+1,1,none⟩=some (.int .i64 ((faultD p).2:Int)):=by rw [bF.cell];rfl
     have hghl:=bF.lt
     clear hW hg hx hx2 bH bF
     go_wp2_with fail
     (with_reducible refine (Qea _ _ HR.out.1 HR.out.2 w9).mono ?_)
     rintro e wX ⟨rfl,hx⟩
     have HSX:=zh (HS9.out.extend hx)
     clear hx f0 f1
     go_wp2
     go_ret
     (rw [Qa6,if_pos List.length_nil];show Q07 ((hardA p).1,⟨(hardA p).2,L.map (·.2)⟩) _ _ _ _ _ _;rw [HA.out])
     exact ⟨rfl,_,_,_,_,rfl,HSX.out⟩
   ·obtain ⟨d0,d1,d2⟩:=HS7.out.cells
    have hgl:=HS7.out.box.lt
    have HA:Hid (Q79 p=if Q3r p=0 then sayT okW [((Q46 p).length:Int)] else sayT badW [Q3r p]):=zh rfl
    go_wp2_with fail
    (with_reducible refine (Qhi p _ w7 HS7.out.prog (Ht.out.ext HS7.out.ext)).mono ?_)
    rintro e w8 ⟨rfl,hx⟩
    have HS8:=zh (HS7.out.extend hx)
    clear d0 d1 d2 hx
    generalize Q46 p=T at *
    generalize Q3r p=E at *
    by_cases hE:E=0
    ·subst hE
     have HA:=zh (HA.out.trans (if_pos rfl))
     go_wp2_with fail
     (with_reducible refine (Q8a [111,107] _ Hl.out _ _ _ (Blk.new w8 2 #[.int .i64 (T.length:Int)]) (by decide)).mono ?_)
     rintro e wX ⟨rfl,hx⟩
     have HSX:=zh (HS8.out.extend (((Ext.refl w8).alloc (.cells #[.int .i64 (T.length:Int)] 2)).trans hx))
     clear hx
     go_wp2
     go_ret
     (rw [Qa4,if_pos List.length_nil];show Q07 (Q79 p,⟨p,L.map (·.2)⟩) _ _ _ _ _ _;rw [HA.out])
     exact ⟨rfl,_,_,_,_,rfl,HSX.out⟩
    ·have hq:(E != (0:Int))=true:=by simp [hE]
     have HA:=zh (HA.out.trans (if_neg hE))
     clear hE
     go_wp2_with fail
     (with_reducible refine (Q8a [98,97,100] _ He.out _ _ _ (Blk.new w8 2 #[.int .i64 E]) (by decide)).mono ?_)
     rintro e wX ⟨rfl,hx⟩
     have HSX:=zh (HS8.out.extend (((Ext.refl w8).alloc (.cells #[.int .i64 E] 2)).trans hx))
     clear hx
     go_wp2
     go_ret
     (rw [Qa4,if_pos List.length_nil];show Q07 (Q79 p,⟨p,L.map (·.2)⟩) _ _ _ _ _ _;rw [HA.out])
     exact ⟨rfl,_,_,_,_,rfl,HSX.out⟩
   ·obtain ⟨d0,d1,d2⟩:=HS7.out.cells
    have hgl:=HS7.out.box.lt
    go_wp2_with fail
    (with_reducible refine (Qix p _ w7 HS7.out.prog).mono ?_)
    rintro e w8 ⟨u,F,rfl,hx,hm,hn,hok,hbad⟩
    obtain rfl:=Q9m hm hn
    have HS8:=zh (HS7.out.extend hx)
    clear hm hn d0 d1 d2 hx
    by_cases hF:(faultD p).1=0
    ·obtain ⟨-,-,oa,cap,b,o,rfl,-⟩:=hok hF
     have HA:Hid (loadA p=sayT okW [((Q1s p).code.length:Int)]):=zh (by unfold loadA;rw [if_pos hF])
     have hq:((faultD p).1 != (0:Int))=false:=by simp [hF]
     clear hF hok hbad
     rw [List.length_map]
     go_upto_region 64 with fail
     obtain ⟨w9,gf,hg,hW,hx2,bF⟩:=Q16 w8 #[.int .i64 (faultD p).1,.int .i64 ((faultD p).2:Int)] 52
     rw [hW,hg]
     have HS9:=zh (HS8.out.extend hx2)
     have f0:w9.cell? ⟨gf,0,none⟩=some (.int .i64 (faultD p).1):=by rw [bF.cell];rfl
     have f1:w9.cell? ⟨gf,1,none⟩=some (.int .i64 ((faultD p).2:Int)):=by rw [bF.cell];rfl
     have hfl:=bF.lt
     clear hW hg hx2 bF
     go_wp2_with fail
     (with_reducible refine (Q8a [111,107] _ HLn.out _ _ _ (Blk.new w9 2 #[.int .i64 ((Q1s p).code.length:Int)]) (by decide)).mono ?_)
     rintro e wX ⟨rfl,hx⟩
     have HSX:=zh (HS9.out.extend (((Ext.refl w9).alloc (.cells #[.int .i64 ((Q1s p).code.length:Int)] 2)).trans hx))
     clear hx f0 f1
     go_wp2
     go_ret
     (rw [Qa5,if_pos List.length_nil];show Q07 (loadA p,⟨p,L.map (·.2)⟩) _ _ _ _ _ _;rw [HA.out])
     exact ⟨rfl,_,_,_,_,rfl,HSX.out⟩
    ·obtain rfl:=hbad hF
     have HA:Hid (loadA p=sayT badW [(faultD p).1,((faultD p).2:Int)]):=zh (by unfold loadA;rw [if_neg hF])
     have hq:((faultD p).1 != (0:Int))=true:=by simp [hF]
     clear hF hok hbad
     go_upto_region 64 with fail
     obtain ⟨w9,gf,hg,hW,hx2,bF⟩:=Q16 w8 #[.int .i64 (faultD p).1,.int .i64 ((faultD p).2:Int)] 52
     rw [hW,hg]
     have HS9:=zh (HS8.out.extend hx2)
     have f0:w9.cell? ⟨gf,0,none⟩=some (.int .i64 (faultD p).1):=by rw [bF.cell];rfl
     have f1:w9.cell? ⟨gf,1,none⟩=some (.int .i64 ((faultD p).2:Int)):=by rw [bF.cell];rfl
     have hfl:=bF.lt
     clear hW hg hx2 bF
     go_wp2_with fail
     (with_reducible refine (Qea _ _ HR.out.1 HR.out.2 w9).mono ?_)
     rintro e wX ⟨rfl,hx⟩
     have HSX:=zh (HS9.out.extend hx)
     clear hx f0 f1
     go_wp2
     go_ret
     (rw [Qa5,if_pos List.length_nil];show Q07 (loadA p,⟨p,L.map (·.2)⟩) _ _ _ _ _ _;rw [HA.out])
     exact ⟨rfl,_,_,_,_,rfl,HSX.out⟩
end
section
variable {w0 w : World} {B g : Nat} {vR vC vM : Value} {p : Q00} {L : List (Value × List Int)} {t : List UInt8} {ws : List (List UInt8)}
set_option maxRecDepth 100000
set_option maxHeartbeats 16000000
theorem Qrz (h:PlSt w0 w B g 31 vR vC vM p L) (hg:Q0x ⟨p,L.map (·.2)⟩) (hT:t.length≤1000000000) (a:Int) (hs:Q08 32 t=[114,117,110] :: ws) (hn:Q0m ws=some ([a])) :
  Calls Tryz.prog 6 #[.pointer (some ⟨g,0,none⟩),str t] w (Q07 (runA p (L.map (·.2)) a,⟨p,L.map (·.2)⟩) w0 B g 31):=by
 have HS:=zh h
 have Hg:=zh hg
 have HT:=zh hT
 have Hn:=zh hn
 have HW:=zh (Q3g hs)
 obtain ⟨oR,cR,rfl⟩:=Q02 h.rg
 obtain ⟨oC,cC,rfl⟩:=Q02 h.cd
 obtain ⟨oM,cM,rfl⟩:=Q02 h.mo
 obtain ⟨i0,hi0,hz0,hz1,hz2⟩:=info_parts Q5k
 have HSp:=zh (Q68 _ hT w)
 clear h hg hT hn hs
 go_enter Tryz.func6,Tryz.ntmps6
 go_wp2_with fail
 (with_reducible refine HSp.out.mono ?_)
 clear HSp
 rintro e w5 ⟨v5,rfl,hown,hx⟩
 have HS5:=zh (HS.out.extend hx)
 have hB5:=HS5.out.size
 obtain ⟨kw,cw,rfl,hwl,Hc,hix⟩:=Q67 HW.out HT.out hown
 clear hx hown
 go_wp2_with fail
 go_loopw [6,7] (fun lv iv wr => ∃ (j:Nat) (lp:List Int),1≤j∧j≤ws.length+1∧iv=.int .i64 (j:Int)∧Q0m (ws.take (j - 1))=some lp∧wr.ownsRow w5.heap.size 2 1 lv lp.length (lp.map (Value.int .i64))∧Ext w5 wr) (fun _ iv _=>ws.length+1 - (intOf iv).toNat)
 case atStart=>exact ⟨1,[],by omega,by omega,rfl,rfl,World.ownsRow_nil _ _ _ _,Ext.refl _⟩
 case round =>
  obtain ⟨j,lp,hj1,hj2,rfl,hn,hown,hE⟩:=hrel
  obtain ⟨ol,cl,rfl⟩:=Q02 hown
  have X:=zh hE
  have HO:=zh hown
  have HN:=zh hn
  have hl9:lp.length≤1000000001:=by
   have:=Q3s _ _ hn
   rw [List.length_take] at this
   omega
  clear hE hown hn
  by_cases hlt:j < ws.length+1
  ·have c0:=Hc.out wr X.out j hlt
   have hin:(j:Int) < ((ws.length+1:Nat):Int):=by omega
   rw [Q6d _ _ hj1] at c0
   have Hbad:=zh (Q5e ws (j - 1) (by omega))
   have Hgood:=zh (fun n=>Q5u (n:=n) (k:=j - 1) (by omega) HN.out)
   have hjj:j - 1+1=j:=by omega
   rw [hjj] at Hgood
   clear hjj
   generalize ws.getD (j - 1) []=W at *
   go_wp2_with fail
   (with_reducible refine (Q69 W _).mono ?_)
   rintro e w2 ⟨n,b,rfl,hc,hx⟩
   have X2:=zh (X.out.trans hx)
   have HO2:=zh (Q19 HO.out hx)
   clear hx c0
   rcases hc with ⟨rfl,hp⟩ | ⟨rfl,hp⟩
   ·have HF:=zh (Hgood.out n hp)
    have hBs:=X2.out.size
    clear hp
    go_wp2_with (at_builtin;refine Q1b _ rfl _ _ 35 rfl w5.heap.size 2 i0 _ 1 8 Tryz.underlying35 hi0 hz0 hz1 hz2 rfl (by decide) _ _ _ rfl (Q1r HO2.out) (some ⟨w2.heap.size,0,none⟩) 1 1 [.int .i64 n] rfl ?c1 ?c3 ?c4 ?c5 ?_)
    case c1=>exact Q1y (size:=1) (Blk.new w2 2 #[.int .i64 n]) rfl (by simp [Value.oneCell'])
    case c3=>unfold maxLen;omega
    case c4=>omega
    case c5=>simp;omega
    intro v4 w4 hown hgrow hat
    obtain ⟨o4,c4,rfl⟩:=Q02 hown
    have X4:=zh ((X2.out.alloc (.cells #[.int .i64 n] 2)).grown hgrow (fun k hk=>Q17 HO2.out k hk))
    have HO4:Hid (w4.ownsRow w5.heap.size 2 1 (.slice o4 (lp.length+1) c4) (lp ++ [n]).length ((lp ++ [n]).map (Value.int .i64))):=zh (by rw [List.length_append,List.map_append];exact hown)
    clear hown hgrow hat
    go_wp2
    go_roundw
    case rel=>exact ⟨j+1,lp ++ [n],by omega,by omega,by go_num,HF.out,HO4.out,X4.out⟩
    case measure=>first | (simp [intOf];done) | (simp [intOf];omega)
   ·exact absurd (Hn.out.symm.trans (Hbad.out hp)) (by simp)
  ·have hje:j=ws.length+1:=by omega
   subst hje
   have hl:[a]=lp:=by
    have h:=HN.out
    rw [Nat.add_sub_cancel,List.take_length] at h
    exact Option.some.inj (Hn.out.symm.trans h)
   subst hl
   obtain ⟨w6,hw6⟩:∃ w6,w6=wr:=⟨_,rfl⟩
   subst hw6
   have HS6:=zh (HS5.out.extend X.out)
   have hv:=Q32 HO.out (fun x hx=>(Q3a _ _ Hn.out x hx).r64)
   have cw0:∀ Wx,Ext w6 Wx→Wx.cell? ⟨kw,0,none⟩=some (str [114,117,110]):=fun Wx h=>Hc.out Wx (X.out.trans h) 0 (by omega)
   have hBl:B≤w6.heap.size:=HS6.out.size
   clear HN Hc
   obtain ⟨d0,d1,d2⟩:=HS6.out.cells
   have k2:∀ Wx,Ext w6 Wx→Wx.cell? ⟨g,2,none⟩=some (.slice oM L.length cM):=fun _ h=>h.kept d2.1
   have hL6:L.length≤6:=by
    have h1:=Hg.out.len
    have h2:=Hg.out.regs6
    simp only [List.length_map] at h1 h2
    omega
   clear d0 d1 d2
   obtain ⟨bl,oo,c2,hve,c0⟩:=Qad hv
   rw [hve] at hv
   simp only [Value.slice.injEq] at hve
   obtain ⟨rfl,-,rfl⟩:=hve
   have hil:=Q3o (oa:=some ⟨bl,oo,none⟩) (n:=1) (b:=bl) (o:=oo) (cap:=cl) (fun _=>rfl)
   have Hv:=zh hv
   clear hv
   have Ha:=zh (Hv.out.1 a (by simp))
   have q0:∀ Wx,Ext w6 Wx→Wx.cell? ⟨bl,oo,none⟩=some (.int .i64 a):=fun _ h=>h.kept c0
   clear c0
   go_upto_region 10 with fail
   go_cut [10] from 47 to 66 (fun s10 wx=>Ext w6 wx)
   case first =>
    rcases (show a < 0∨(0≤a∧(L.length:Int)≤a)∨(0≤a∧a < (L.length:Int)) by omega) with hA | ⟨hA,hA2⟩ | ⟨hA,hA2⟩
    ·have e1:decide (0≤a)=false:=decide_eq_false (by omega)
     refine Q0j 21 (by kernel_rfl) (by kernel_rfl) ?_
     simp only [List.take_succ_cons,List.take_zero,List.drop_succ_cons,List.drop_zero]
     repeat (first | (refine Q0d ?_ ?_ ?_;(decide);(first | rfl | (focus (go_simp;done)));apply Exists.intro;refine ⟨fun wc hE=>?_,?_⟩;(go_simp;exact rfl);go_simp) | (refine Q0e ?_ ?_ ?_;(decide);(focus (go_simp;done));go_simp))
     refine Q0f ?_
     intro w7 hx
     go_wp2
     go_meet
     exact hx
    ·have e1:decide (0≤a)=true:=decide_eq_true hA
     have e2:decide (a < (L.length:Int))=false:=decide_eq_false (by omega)
     refine Q0j 21 (by kernel_rfl) (by kernel_rfl) ?_
     simp only [List.take_succ_cons,List.take_zero,List.drop_succ_cons,List.drop_zero]
     repeat (first | (refine Q0d ?_ ?_ ?_;(decide);(first | rfl | (focus (go_simp;done)));apply Exists.intro;refine ⟨fun wc hE=>?_,?_⟩;(go_simp;exact rfl);go_simp) | (refine Q0e ?_ ?_ ?_;(decide);(focus (go_simp;done));go_simp))
     refine Q0f ?_
     intro w7 hx
     go_wp2
     go_meet
     exact hx
    ·have e1:decide (0≤a)=true:=decide_eq_true hA
     have e2:decide (a < (L.length:Int))=true:=decide_eq_true hA2
     refine Q0j 21 (by kernel_rfl) (by kernel_rfl) ?_
     simp only [List.take_succ_cons,List.take_zero,List.drop_succ_cons,List.drop_zero]
     repeat (first | (refine Q0d ?_ ?_ ?_;(decide);(first | rfl | (focus (go_simp;done)));apply Exists.intro;refine ⟨fun wc hE=>?_,?_⟩;(go_simp;exact rfl);go_simp) | (refine Q0e ?_ ?_ ?_;(decide);(focus (go_simp;done));go_simp))
     refine Q0f ?_
     intro w7 hx
     go_wp2
     go_meet
     exact hx
   case rest =>
    obtain ⟨w7,hw7⟩:∃ w7,w7=wc:=⟨_,rfl⟩
    subst hw7
    have HS7:=zh (HS6.out.extend hcut)
    have X7:=zh hcut
    have cw0:=cw0 w7 hcut
    clear hcut
    obtain ⟨d0,d1,d2⟩:=HS7.out.cells
    have hgl:=HS7.out.box.lt
    have q0:∀ Wx,Ext w7 Wx→Wx.cell? ⟨bl,oo,none⟩=some (.int .i64 a):=fun _ h=>q0 _ (X7.out.trans h)
    have k0:∀ Wx,Ext w7 Wx→Wx.cell? ⟨g,0,none⟩=some (.slice oR p.regs.length cR):=fun _ h=>h.kept d0.1
    have k1:∀ Wx,Ext w7 Wx→Wx.cell? ⟨g,1,none⟩=some (.slice oC p.code.length cC):=fun _ h=>h.kept d1.1
    have k2:∀ Wx,Ext w7 Wx→Wx.cell? ⟨g,2,none⟩=some (.slice oM L.length cM):=fun _ h=>h.kept d2.1
    go_upto_region 31 with fail
    clear cw0 hix d0 d1 d2 hgl
    refine Qbe [11,12,13,14,15,16,17] (by kernel_rfl) (by kernel_rfl) ?_
    repeat (first | (refine Q1x ?_ ?_;(decide)) | (refine Q1o ?_ ?_ ?_;(decide);(first | rfl | (focus (go_simp;done)));apply Exists.intro;refine ⟨fun wc hE=>?_,?_⟩;(go_simp;exact rfl);go_simp) | (refine Q1v ?_ ?_ ?_;(decide);(focus (go_simp;done));go_simp))
    refine Q1w ?_
    intro w8 hx
    have HS_w8:=zh (HS7.out.extend hx)
    have HX:=zh hx
    have Y_w8:=zh (Ext.refl w8)
    clear hx q0 k0 k1 k2
    refine Q38 (i:=11) (j:=15) (by decide) (by kernel_rfl) ?_ ?_
    ·refine Q01 rfl ?_
     go_wp2_with fail
     (with_reducible refine (Q7d p (L.map (·.2)) a _ _ w8 (HS_w8.out.extend Y_w8.out).prog (HS_w8.out.extend Y_w8.out).mem Ha.out).mono ?_)
     rintro e w8c ⟨s1,s2,s3,s4,E,fin,value,steps,seen,mem,rfl,hx,hsh,hb,hA⟩
     have Y_w8c:=zh (Y_w8.out.trans hx)
     have Hln:=zh (Qb9 hsh)
     have Hb:=zh hb
     have HA:=zh hA
     clear hx hsh hb hA
     go_wp2
     refine ⟨HX.out.trans Y_w8c.out,Q05 ?_⟩
     refine Q38 (i:=12) (j:=15) (by decide) (by kernel_rfl) ?_ ?_
     ·refine Q01 rfl ?_
      go_wp2
      refine ⟨HX.out.trans Y_w8c.out,Q05 ?_⟩
      refine Qfs (i:=13) (j:=14) (m:=15) (by decide) (by kernel_rfl) ?_ ?_ ?_
      ·refine Q01 rfl ?_
       go_wp2
       refine ⟨HX.out.trans Y_w8c.out,Q05 ?_⟩
       refine Q38 (i:=14) (j:=15) (by decide) (by kernel_rfl) ?_ ?_
       ·refine Q01 rfl ?_
        go_wp2
        refine ⟨HX.out.trans Y_w8c.out,Q05 ?_⟩
        refine Q0h (i:=15) (by decide) (by kernel_rfl) ?_
        refine Q01 rfl ?_
        go_wp2
        obtain ⟨w8ca,ga,hga,hW,hx,bA⟩:=Q16 w8c #[.int .i64 0,.int .i64 0,.int .i64 0,.slice none 0 0,.slice none 0 0] 44
        rw [hW,hga]
        have hgb:w8.heap.size≤ga:=by rw [← hga];exact Y_w8c.out.size
        have Y_w8ca:=zh (Y_w8c.out.trans hx)
        have BK_w8ca:=zh bA
        clear hga hW hx bA
        refine ⟨HX.out.trans Y_w8ca.out,Q05 ?_⟩
        refine Q0h (i:=16) (by decide) (by kernel_rfl) ?_
        refine Q01 rfl ?_
        obtain ⟨z0,z1,z2,z3,z4,hgal⟩:=Q0u BK_w8ca.out
        go_wp2
        obtain ⟨w8cas,hn,yn,bn⟩:=Q2u BK_w8ca.out Y_w8ca.out hgb (.int .i64 fin) (.int .i64 value) (.int .i64 (steps:Int)) (.slice s1 seen.length s2) (.slice s3 mem.length s4)
        rw [← hn]
        have Y_w8cas:=zh yn
        have BK_w8cas:=zh bn
        clear yn bn hn z0 z1 z2 z3 z4 hgal
        refine ⟨HX.out.trans Y_w8cas.out,Q05 ?_⟩
        refine Q0h (i:=17) (by decide) (by kernel_rfl) ?_
        refine Q01 rfl ?_
        go_wp2
        refine ⟨HX.out.trans Y_w8cas.out,Q05 ?_⟩
        refine Q2d (by decide) ?_
        obtain ⟨z0,z1,z2,z3,z4,hgal⟩:=Q0u BK_w8cas.out
        go_wp2_with fail
        (with_reducible refine (Q2x E fin value steps seen.length s1 s2 _ w8cas Hln.out.1 Hln.out.2 Hb.out.1 Hb.out.2.1 Hb.out.2.2.1 Hb.out.2.2.2.1 Hb.out.2.2.2.2).mono ?_)
        rintro e wZ ⟨rfl,hx⟩
        have HSZ:=zh (HS_w8.out.extend (Y_w8cas.out.trans hx))
        clear hx z0 z1 z2 z3 z4
        rw [HA.out]
        go_wp2
        go_ret
        exact Q07.same (s:=⟨p,L.map (·.2)⟩) rfl HSZ.out
       ·refine Q01 rfl ?_
        go_wp2
        obtain ⟨w8ca,ga,hga,hW,hx,bA⟩:=Q16 w8c #[.int .i64 0,.int .i64 0,.int .i64 0,.slice none 0 0,.slice none 0 0] 44
        rw [hW,hga]
        have hgb:w8.heap.size≤ga:=by rw [← hga];exact Y_w8c.out.size
        have Y_w8ca:=zh (Y_w8c.out.trans hx)
        have BK_w8ca:=zh bA
        clear hga hW hx bA
        refine ⟨HX.out.trans Y_w8ca.out,Q05 ?_⟩
        refine Q38 (i:=14) (j:=16) (by decide) (by kernel_rfl) ?_ ?_
        ·refine Q01 rfl ?_
         go_wp2
         refine ⟨HX.out.trans Y_w8ca.out,Q05 ?_⟩
         refine Q0h (i:=16) (by decide) (by kernel_rfl) ?_
         refine Q01 rfl ?_
         obtain ⟨z0,z1,z2,z3,z4,hgal⟩:=Q0u BK_w8ca.out
         go_wp2
         obtain ⟨w8cas,hn,yn,bn⟩:=Q2u BK_w8ca.out Y_w8ca.out hgb (.int .i64 fin) (.int .i64 value) (.int .i64 (steps:Int)) (.slice s1 seen.length s2) (.slice s3 mem.length s4)
         rw [← hn]
         have Y_w8cas:=zh yn
         have BK_w8cas:=zh bn
         clear yn bn hn z0 z1 z2 z3 z4 hgal
         refine ⟨HX.out.trans Y_w8cas.out,Q05 ?_⟩
         refine Q0h (i:=17) (by decide) (by kernel_rfl) ?_
         refine Q01 rfl ?_
         go_wp2
         refine ⟨HX.out.trans Y_w8cas.out,Q05 ?_⟩
         refine Q2d (by decide) ?_
         obtain ⟨z0,z1,z2,z3,z4,hgal⟩:=Q0u BK_w8cas.out
         go_wp2_with fail
         (with_reducible refine (Q2x E fin value steps seen.length s1 s2 _ w8cas Hln.out.1 Hln.out.2 Hb.out.1 Hb.out.2.1 Hb.out.2.2.1 Hb.out.2.2.2.1 Hb.out.2.2.2.2).mono ?_)
         rintro e wZ ⟨rfl,hx⟩
         have HSZ:=zh (HS_w8.out.extend (Y_w8cas.out.trans hx))
         clear hx z0 z1 z2 z3 z4
         rw [HA.out]
         go_wp2
         go_ret
         exact Q07.same (s:=⟨p,L.map (·.2)⟩) rfl HSZ.out
        ·refine Q01 rfl ?_
         obtain ⟨z0,z1,z2,z3,z4,hgal⟩:=Q0u BK_w8ca.out
         go_wp2
         obtain ⟨w8cas,hn,yn,bn⟩:=Q2u BK_w8ca.out Y_w8ca.out hgb (.int .i64 fin) (.int .i64 value) (.int .i64 (steps:Int)) (.slice s1 seen.length s2) (.slice s3 mem.length s4)
         rw [← hn]
         have Y_w8cas:=zh yn
         have BK_w8cas:=zh bn
         clear yn bn hn z0 z1 z2 z3 z4 hgal
         refine ⟨HX.out.trans Y_w8cas.out,Q05 ?_⟩
         refine Q0h (i:=14) (by decide) (by kernel_rfl) ?_
         refine Q01 rfl ?_
         go_wp2
         refine ⟨HX.out.trans Y_w8cas.out,Q05 ?_⟩
         refine Q0h (i:=17) (by decide) (by kernel_rfl) ?_
         refine Q01 rfl ?_
         go_wp2
         refine ⟨HX.out.trans Y_w8cas.out,Q05 ?_⟩
         refine Q2d (by decide) ?_
         obtain ⟨z0,z1,z2,z3,z4,hgal⟩:=Q0u BK_w8cas.out
         go_wp2_with fail
         (with_reducible refine (Q2x E fin value steps seen.length s1 s2 _ w8cas Hln.out.1 Hln.out.2 Hb.out.1 Hb.out.2.1 Hb.out.2.2.1 Hb.out.2.2.2.1 Hb.out.2.2.2.2).mono ?_)
         rintro e wZ ⟨rfl,hx⟩
         have HSZ:=zh (HS_w8.out.extend (Y_w8cas.out.trans hx))
         clear hx z0 z1 z2 z3 z4
         rw [HA.out]
         go_wp2
         go_ret
         exact Q07.same (s:=⟨p,L.map (·.2)⟩) rfl HSZ.out
      ·refine Q01 rfl ?_
       go_wp2
       refine ⟨HX.out.trans Y_w8c.out,Q05 ?_⟩
       refine Q38 (i:=13) (j:=15) (by decide) (by kernel_rfl) ?_ ?_
       ·refine Q01 rfl ?_
        go_wp2
        refine ⟨HX.out.trans Y_w8c.out,Q05 ?_⟩
        refine Q0h (i:=15) (by decide) (by kernel_rfl) ?_
        refine Q01 rfl ?_
        go_wp2
        obtain ⟨w8ca,ga,hga,hW,hx,bA⟩:=Q16 w8c #[.int .i64 0,.int .i64 0,.int .i64 0,.slice none 0 0,.slice none 0 0] 44
        rw [hW,hga]
        have hgb:w8.heap.size≤ga:=by rw [← hga];exact Y_w8c.out.size
        have Y_w8ca:=zh (Y_w8c.out.trans hx)
        have BK_w8ca:=zh bA
        clear hga hW hx bA
        refine ⟨HX.out.trans Y_w8ca.out,Q05 ?_⟩
        refine Q0h (i:=16) (by decide) (by kernel_rfl) ?_
        refine Q01 rfl ?_
        obtain ⟨z0,z1,z2,z3,z4,hgal⟩:=Q0u BK_w8ca.out
        go_wp2
        obtain ⟨w8cas,hn,yn,bn⟩:=Q2u BK_w8ca.out Y_w8ca.out hgb (.int .i64 fin) (.int .i64 value) (.int .i64 (steps:Int)) (.slice s1 seen.length s2) (.slice s3 mem.length s4)
        rw [← hn]
        have Y_w8cas:=zh yn
        have BK_w8cas:=zh bn
        clear yn bn hn z0 z1 z2 z3 z4 hgal
        refine ⟨HX.out.trans Y_w8cas.out,Q05 ?_⟩
        refine Q0h (i:=17) (by decide) (by kernel_rfl) ?_
        refine Q01 rfl ?_
        go_wp2
        refine ⟨HX.out.trans Y_w8cas.out,Q05 ?_⟩
        refine Q2d (by decide) ?_
        obtain ⟨z0,z1,z2,z3,z4,hgal⟩:=Q0u BK_w8cas.out
        go_wp2_with fail
        (with_reducible refine (Q2x E fin value steps seen.length s1 s2 _ w8cas Hln.out.1 Hln.out.2 Hb.out.1 Hb.out.2.1 Hb.out.2.2.1 Hb.out.2.2.2.1 Hb.out.2.2.2.2).mono ?_)
        rintro e wZ ⟨rfl,hx⟩
        have HSZ:=zh (HS_w8.out.extend (Y_w8cas.out.trans hx))
        clear hx z0 z1 z2 z3 z4
        rw [HA.out]
        go_wp2
        go_ret
        exact Q07.same (s:=⟨p,L.map (·.2)⟩) rfl HSZ.out
       ·refine Q01 rfl ?_
        go_wp2
        obtain ⟨w8ca,ga,hga,hW,hx,bA⟩:=Q16 w8c #[.int .i64 0,.int .i64 0,.int .i64 0,.slice none 0 0,.slice none 0 0] 44
        rw [hW,hga]
        have hgb:w8.heap.size≤ga:=by rw [← hga];exact Y_w8c.out.size
        have Y_w8ca:=zh (Y_w8c.out.trans hx)
        have BK_w8ca:=zh bA
        clear hga hW hx bA
        refine ⟨HX.out.trans Y_w8ca.out,Q05 ?_⟩
        refine Q0h (i:=13) (by decide) (by kernel_rfl) ?_
        refine Q01 rfl ?_
        go_wp2
        refine ⟨HX.out.trans Y_w8ca.out,Q05 ?_⟩
        refine Q0h (i:=16) (by decide) (by kernel_rfl) ?_
        refine Q01 rfl ?_
        obtain ⟨z0,z1,z2,z3,z4,hgal⟩:=Q0u BK_w8ca.out
        go_wp2
        obtain ⟨w8cas,hn,yn,bn⟩:=Q2u BK_w8ca.out Y_w8ca.out hgb (.int .i64 fin) (.int .i64 value) (.int .i64 (steps:Int)) (.slice s1 seen.length s2) (.slice s3 mem.length s4)
        rw [← hn]
        have Y_w8cas:=zh yn
        have BK_w8cas:=zh bn
        clear yn bn hn z0 z1 z2 z3 z4 hgal
        refine ⟨HX.out.trans Y_w8cas.out,Q05 ?_⟩
        refine Q0h (i:=17) (by decide) (by kernel_rfl) ?_
        refine Q01 rfl ?_
        go_wp2
        refine ⟨HX.out.trans Y_w8cas.out,Q05 ?_⟩
        refine Q2d (by decide) ?_
        obtain ⟨z0,z1,z2,z3,z4,hgal⟩:=Q0u BK_w8cas.out
        go_wp2_with fail
        (with_reducible refine (Q2x E fin value steps seen.length s1 s2 _ w8cas Hln.out.1 Hln.out.2 Hb.out.1 Hb.out.2.1 Hb.out.2.2.1 Hb.out.2.2.2.1 Hb.out.2.2.2.2).mono ?_)
        rintro e wZ ⟨rfl,hx⟩
        have HSZ:=zh (HS_w8.out.extend (Y_w8cas.out.trans hx))
        clear hx z0 z1 z2 z3 z4
        rw [HA.out]
        go_wp2
        go_ret
        exact Q07.same (s:=⟨p,L.map (·.2)⟩) rfl HSZ.out
      ·refine Q01 rfl ?_
       go_wp2
       obtain ⟨w8ca,ga,hga,hW,hx,bA⟩:=Q16 w8c #[.int .i64 0,.int .i64 0,.int .i64 0,.slice none 0 0,.slice none 0 0] 44
       rw [hW,hga]
       have hgb:w8.heap.size≤ga:=by rw [← hga];exact Y_w8c.out.size
       have Y_w8ca:=zh (Y_w8c.out.trans hx)
       have BK_w8ca:=zh bA
       clear hga hW hx bA
       refine ⟨HX.out.trans Y_w8ca.out,Q05 ?_⟩
       refine Q38 (i:=13) (j:=14) (by decide) (by kernel_rfl) ?_ ?_
       ·refine Q01 rfl ?_
        go_wp2
        refine ⟨HX.out.trans Y_w8ca.out,Q05 ?_⟩
        refine Q38 (i:=14) (j:=16) (by decide) (by kernel_rfl) ?_ ?_
        ·refine Q01 rfl ?_
         go_wp2
         refine ⟨HX.out.trans Y_w8ca.out,Q05 ?_⟩
         refine Q0h (i:=16) (by decide) (by kernel_rfl) ?_
         refine Q01 rfl ?_
         obtain ⟨z0,z1,z2,z3,z4,hgal⟩:=Q0u BK_w8ca.out
         go_wp2
         obtain ⟨w8cas,hn,yn,bn⟩:=Q2u BK_w8ca.out Y_w8ca.out hgb (.int .i64 fin) (.int .i64 value) (.int .i64 (steps:Int)) (.slice s1 seen.length s2) (.slice s3 mem.length s4)
         rw [← hn]
         have Y_w8cas:=zh yn
         have BK_w8cas:=zh bn
         clear yn bn hn z0 z1 z2 z3 z4 hgal
         refine ⟨HX.out.trans Y_w8cas.out,Q05 ?_⟩
         refine Q0h (i:=17) (by decide) (by kernel_rfl) ?_
         refine Q01 rfl ?_
         go_wp2
         refine ⟨HX.out.trans Y_w8cas.out,Q05 ?_⟩
         refine Q2d (by decide) ?_
         obtain ⟨z0,z1,z2,z3,z4,hgal⟩:=Q0u BK_w8cas.out
         go_wp2_with fail
         (with_reducible refine (Q2x E fin value steps seen.length s1 s2 _ w8cas Hln.out.1 Hln.out.2 Hb.out.1 Hb.out.2.1 Hb.out.2.2.1 Hb.out.2.2.2.1 Hb.out.2.2.2.2).mono ?_)
         rintro e wZ ⟨rfl,hx⟩
         have HSZ:=zh (HS_w8.out.extend (Y_w8cas.out.trans hx))
         clear hx z0 z1 z2 z3 z4
         rw [HA.out]
         go_wp2
         go_ret
         exact Q07.same (s:=⟨p,L.map (·.2)⟩) rfl HSZ.out
        ·refine Q01 rfl ?_
         obtain ⟨z0,z1,z2,z3,z4,hgal⟩:=Q0u BK_w8ca.out
         go_wp2
         obtain ⟨w8cas,hn,yn,bn⟩:=Q2u BK_w8ca.out Y_w8ca.out hgb (.int .i64 fin) (.int .i64 value) (.int .i64 (steps:Int)) (.slice s1 seen.length s2) (.slice s3 mem.length s4)
         rw [← hn]
         have Y_w8cas:=zh yn
         have BK_w8cas:=zh bn
         clear yn bn hn z0 z1 z2 z3 z4 hgal
         refine ⟨HX.out.trans Y_w8cas.out,Q05 ?_⟩
         refine Q0h (i:=14) (by decide) (by kernel_rfl) ?_
         refine Q01 rfl ?_
         go_wp2
         refine ⟨HX.out.trans Y_w8cas.out,Q05 ?_⟩
         refine Q0h (i:=17) (by decide) (by kernel_rfl) ?_
         refine Q01 rfl ?_
         go_wp2
         refine ⟨HX.out.trans Y_w8cas.out,Q05 ?_⟩
         refine Q2d (by decide) ?_
         obtain ⟨z0,z1,z2,z3,z4,hgal⟩:=Q0u BK_w8cas.out
         go_wp2_with fail
         (with_reducible refine (Q2x E fin value steps seen.length s1 s2 _ w8cas Hln.out.1 Hln.out.2 Hb.out.1 Hb.out.2.1 Hb.out.2.2.1 Hb.out.2.2.2.1 Hb.out.2.2.2.2).mono ?_)
         rintro e wZ ⟨rfl,hx⟩
         have HSZ:=zh (HS_w8.out.extend (Y_w8cas.out.trans hx))
         clear hx z0 z1 z2 z3 z4
         rw [HA.out]
         go_wp2
         go_ret
         exact Q07.same (s:=⟨p,L.map (·.2)⟩) rfl HSZ.out
       ·refine Q01 rfl ?_
        go_wp2
        refine ⟨HX.out.trans Y_w8ca.out,Q05 ?_⟩
        refine Q0h (i:=13) (by decide) (by kernel_rfl) ?_
        refine Q01 rfl ?_
        go_wp2
        refine ⟨HX.out.trans Y_w8ca.out,Q05 ?_⟩
        refine Q0h (i:=16) (by decide) (by kernel_rfl) ?_
        refine Q01 rfl ?_
        obtain ⟨z0,z1,z2,z3,z4,hgal⟩:=Q0u BK_w8ca.out
        go_wp2
        obtain ⟨w8cas,hn,yn,bn⟩:=Q2u BK_w8ca.out Y_w8ca.out hgb (.int .i64 fin) (.int .i64 value) (.int .i64 (steps:Int)) (.slice s1 seen.length s2) (.slice s3 mem.length s4)
        rw [← hn]
        have Y_w8cas:=zh yn
        have BK_w8cas:=zh bn
        clear yn bn hn z0 z1 z2 z3 z4 hgal
        refine ⟨HX.out.trans Y_w8cas.out,Q05 ?_⟩
        refine Q0h (i:=17) (by decide) (by kernel_rfl) ?_
        refine Q01 rfl ?_
        go_wp2
        refine ⟨HX.out.trans Y_w8cas.out,Q05 ?_⟩
        refine Q2d (by decide) ?_
        obtain ⟨z0,z1,z2,z3,z4,hgal⟩:=Q0u BK_w8cas.out
        go_wp2_with fail
        (with_reducible refine (Q2x E fin value steps seen.length s1 s2 _ w8cas Hln.out.1 Hln.out.2 Hb.out.1 Hb.out.2.1 Hb.out.2.2.1 Hb.out.2.2.2.1 Hb.out.2.2.2.2).mono ?_)
        rintro e wZ ⟨rfl,hx⟩
        have HSZ:=zh (HS_w8.out.extend (Y_w8cas.out.trans hx))
        clear hx z0 z1 z2 z3 z4
        rw [HA.out]
        go_wp2
        go_ret
        exact Q07.same (s:=⟨p,L.map (·.2)⟩) rfl HSZ.out
     ·refine Q01 rfl ?_
      go_wp2
      obtain ⟨w8ca,ga,hga,hW,hx,bA⟩:=Q16 w8c #[.int .i64 0,.int .i64 0,.int .i64 0,.slice none 0 0,.slice none 0 0] 44
      rw [hW,hga]
      have hgb:w8.heap.size≤ga:=by rw [← hga];exact Y_w8c.out.size
      have Y_w8ca:=zh (Y_w8c.out.trans hx)
      have BK_w8ca:=zh bA
      clear hga hW hx bA
      refine ⟨HX.out.trans Y_w8ca.out,Q05 ?_⟩
      refine Q0h (i:=12) (by decide) (by kernel_rfl) ?_
      refine Q01 rfl ?_
      go_wp2
      refine ⟨HX.out.trans Y_w8ca.out,Q05 ?_⟩
      refine Q38 (i:=13) (j:=14) (by decide) (by kernel_rfl) ?_ ?_
      ·refine Q01 rfl ?_
       go_wp2
       refine ⟨HX.out.trans Y_w8ca.out,Q05 ?_⟩
       refine Q38 (i:=14) (j:=16) (by decide) (by kernel_rfl) ?_ ?_
       ·refine Q01 rfl ?_
        go_wp2
        refine ⟨HX.out.trans Y_w8ca.out,Q05 ?_⟩
        refine Q0h (i:=16) (by decide) (by kernel_rfl) ?_
        refine Q01 rfl ?_
        obtain ⟨z0,z1,z2,z3,z4,hgal⟩:=Q0u BK_w8ca.out
        go_wp2
        obtain ⟨w8cas,hn,yn,bn⟩:=Q2u BK_w8ca.out Y_w8ca.out hgb (.int .i64 fin) (.int .i64 value) (.int .i64 (steps:Int)) (.slice s1 seen.length s2) (.slice s3 mem.length s4)
        rw [← hn]
        have Y_w8cas:=zh yn
        have BK_w8cas:=zh bn
        clear yn bn hn z0 z1 z2 z3 z4 hgal
        refine ⟨HX.out.trans Y_w8cas.out,Q05 ?_⟩
        refine Q0h (i:=17) (by decide) (by kernel_rfl) ?_
        refine Q01 rfl ?_
        go_wp2
        refine ⟨HX.out.trans Y_w8cas.out,Q05 ?_⟩
        refine Q2d (by decide) ?_
        obtain ⟨z0,z1,z2,z3,z4,hgal⟩:=Q0u BK_w8cas.out
        go_wp2_with fail
        (with_reducible refine (Q2x E fin value steps seen.length s1 s2 _ w8cas Hln.out.1 Hln.out.2 Hb.out.1 Hb.out.2.1 Hb.out.2.2.1 Hb.out.2.2.2.1 Hb.out.2.2.2.2).mono ?_)
        rintro e wZ ⟨rfl,hx⟩
        have HSZ:=zh (HS_w8.out.extend (Y_w8cas.out.trans hx))
        clear hx z0 z1 z2 z3 z4
        rw [HA.out]
        go_wp2
        go_ret
        exact Q07.same (s:=⟨p,L.map (·.2)⟩) rfl HSZ.out
       ·refine Q01 rfl ?_
        obtain ⟨z0,z1,z2,z3,z4,hgal⟩:=Q0u BK_w8ca.out
        go_wp2
        obtain ⟨w8cas,hn,yn,bn⟩:=Q2u BK_w8ca.out Y_w8ca.out hgb (.int .i64 fin) (.int .i64 value) (.int .i64 (steps:Int)) (.slice s1 seen.length s2) (.slice s3 mem.length s4)
        rw [← hn]
        have Y_w8cas:=zh yn
        have BK_w8cas:=zh bn
        clear yn bn hn z0 z1 z2 z3 z4 hgal
        refine ⟨HX.out.trans Y_w8cas.out,Q05 ?_⟩
        refine Q0h (i:=14) (by decide) (by kernel_rfl) ?_
        refine Q01 rfl ?_
        go_wp2
        refine ⟨HX.out.trans Y_w8cas.out,Q05 ?_⟩
        refine Q0h (i:=17) (by decide) (by kernel_rfl) ?_
        refine Q01 rfl ?_
        go_wp2
        refine ⟨HX.out.trans Y_w8cas.out,Q05 ?_⟩
        refine Q2d (by decide) ?_
        obtain ⟨z0,z1,z2,z3,z4,hgal⟩:=Q0u BK_w8cas.out
        go_wp2_with fail
        (with_reducible refine (Q2x E fin value steps seen.length s1 s2 _ w8cas Hln.out.1 Hln.out.2 Hb.out.1 Hb.out.2.1 Hb.out.2.2.1 Hb.out.2.2.2.1 Hb.out.2.2.2.2).mono ?_)
        rintro e wZ ⟨rfl,hx⟩
        have HSZ:=zh (HS_w8.out.extend (Y_w8cas.out.trans hx))
        clear hx z0 z1 z2 z3 z4
        rw [HA.out]
        go_wp2
        go_ret
        exact Q07.same (s:=⟨p,L.map (·.2)⟩) rfl HSZ.out
      ·refine Q01 rfl ?_
       go_wp2
       refine ⟨HX.out.trans Y_w8ca.out,Q05 ?_⟩
       refine Q0h (i:=13) (by decide) (by kernel_rfl) ?_
       refine Q01 rfl ?_
       go_wp2
       refine ⟨HX.out.trans Y_w8ca.out,Q05 ?_⟩
       refine Q0h (i:=16) (by decide) (by kernel_rfl) ?_
       refine Q01 rfl ?_
       obtain ⟨z0,z1,z2,z3,z4,hgal⟩:=Q0u BK_w8ca.out
       go_wp2
       obtain ⟨w8cas,hn,yn,bn⟩:=Q2u BK_w8ca.out Y_w8ca.out hgb (.int .i64 fin) (.int .i64 value) (.int .i64 (steps:Int)) (.slice s1 seen.length s2) (.slice s3 mem.length s4)
       rw [← hn]
       have Y_w8cas:=zh yn
       have BK_w8cas:=zh bn
       clear yn bn hn z0 z1 z2 z3 z4 hgal
       refine ⟨HX.out.trans Y_w8cas.out,Q05 ?_⟩
       refine Q0h (i:=17) (by decide) (by kernel_rfl) ?_
       refine Q01 rfl ?_
       go_wp2
       refine ⟨HX.out.trans Y_w8cas.out,Q05 ?_⟩
       refine Q2d (by decide) ?_
       obtain ⟨z0,z1,z2,z3,z4,hgal⟩:=Q0u BK_w8cas.out
       go_wp2_with fail
       (with_reducible refine (Q2x E fin value steps seen.length s1 s2 _ w8cas Hln.out.1 Hln.out.2 Hb.out.1 Hb.out.2.1 Hb.out.2.2.1 Hb.out.2.2.2.1 Hb.out.2.2.2.2).mono ?_)
       rintro e wZ ⟨rfl,hx⟩
       have HSZ:=zh (HS_w8.out.extend (Y_w8cas.out.trans hx))
       clear hx z0 z1 z2 z3 z4
       rw [HA.out]
       go_wp2
       go_ret
       exact Q07.same (s:=⟨p,L.map (·.2)⟩) rfl HSZ.out
    ·refine Q01 rfl ?_
     go_wp2
     obtain ⟨w8a,ga,hga,hW,hx,bA⟩:=Q16 w8 #[.int .i64 0,.int .i64 0,.int .i64 0,.slice none 0 0,.slice none 0 0] 44
     rw [hW,hga]
     have hgb:w8.heap.size≤ga:=by rw [← hga];exact Y_w8.out.size
     have Y_w8a:=zh (Y_w8.out.trans hx)
     have BK_w8a:=zh bA
     clear hga hW hx bA
     refine ⟨HX.out.trans Y_w8a.out,Q05 ?_⟩
     refine Q0h (i:=11) (by decide) (by kernel_rfl) ?_
     refine Q01 rfl ?_
     go_wp2_with fail
     (with_reducible refine (Q7d p (L.map (·.2)) a _ _ w8a (HS_w8.out.extend Y_w8a.out).prog (HS_w8.out.extend Y_w8a.out).mem Ha.out).mono ?_)
     rintro e w8ac ⟨s1,s2,s3,s4,E,fin,value,steps,seen,mem,rfl,hx,hsh,hb,hA⟩
     have Y_w8ac:=zh (Y_w8a.out.trans hx)
     have Hln:=zh (Qb9 hsh)
     have Hb:=zh hb
     have HA:=zh hA
     have BK_w8ac:=zh (BK_w8a.out.ext hx)
     clear hx hsh hb hA
     go_wp2
     refine ⟨HX.out.trans Y_w8ac.out,Q05 ?_⟩
     refine Q0h (i:=12) (by decide) (by kernel_rfl) ?_
     refine Q01 rfl ?_
     go_wp2
     refine ⟨HX.out.trans Y_w8ac.out,Q05 ?_⟩
     refine Q38 (i:=13) (j:=14) (by decide) (by kernel_rfl) ?_ ?_
     ·refine Q01 rfl ?_
      go_wp2
      refine ⟨HX.out.trans Y_w8ac.out,Q05 ?_⟩
      refine Q38 (i:=14) (j:=16) (by decide) (by kernel_rfl) ?_ ?_
      ·refine Q01 rfl ?_
       go_wp2
       refine ⟨HX.out.trans Y_w8ac.out,Q05 ?_⟩
       refine Q0h (i:=16) (by decide) (by kernel_rfl) ?_
       refine Q01 rfl ?_
       obtain ⟨z0,z1,z2,z3,z4,hgal⟩:=Q0u BK_w8ac.out
       go_wp2
       obtain ⟨w8acs,hn,yn,bn⟩:=Q2u BK_w8ac.out Y_w8ac.out hgb (.int .i64 fin) (.int .i64 value) (.int .i64 (steps:Int)) (.slice s1 seen.length s2) (.slice s3 mem.length s4)
       rw [← hn]
       have Y_w8acs:=zh yn
       have BK_w8acs:=zh bn
       clear yn bn hn z0 z1 z2 z3 z4 hgal
       refine ⟨HX.out.trans Y_w8acs.out,Q05 ?_⟩
       refine Q0h (i:=17) (by decide) (by kernel_rfl) ?_
       refine Q01 rfl ?_
       go_wp2
       refine ⟨HX.out.trans Y_w8acs.out,Q05 ?_⟩
       refine Q2d (by decide) ?_
       obtain ⟨z0,z1,z2,z3,z4,hgal⟩:=Q0u BK_w8acs.out
       go_wp2_with fail
       (with_reducible refine (Q2x E fin value steps seen.length s1 s2 _ w8acs Hln.out.1 Hln.out.2 Hb.out.1 Hb.out.2.1 Hb.out.2.2.1 Hb.out.2.2.2.1 Hb.out.2.2.2.2).mono ?_)
       rintro e wZ ⟨rfl,hx⟩
       have HSZ:=zh (HS_w8.out.extend (Y_w8acs.out.trans hx))
       clear hx z0 z1 z2 z3 z4
       rw [HA.out]
       go_wp2
       go_ret
       exact Q07.same (s:=⟨p,L.map (·.2)⟩) rfl HSZ.out
      ·refine Q01 rfl ?_
       obtain ⟨z0,z1,z2,z3,z4,hgal⟩:=Q0u BK_w8ac.out
       go_wp2
       obtain ⟨w8acs,hn,yn,bn⟩:=Q2u BK_w8ac.out Y_w8ac.out hgb (.int .i64 fin) (.int .i64 value) (.int .i64 (steps:Int)) (.slice s1 seen.length s2) (.slice s3 mem.length s4)
       rw [← hn]
       have Y_w8acs:=zh yn
       have BK_w8acs:=zh bn
       clear yn bn hn z0 z1 z2 z3 z4 hgal
       refine ⟨HX.out.trans Y_w8acs.out,Q05 ?_⟩
       refine Q0h (i:=14) (by decide) (by kernel_rfl) ?_
       refine Q01 rfl ?_
       go_wp2
       refine ⟨HX.out.trans Y_w8acs.out,Q05 ?_⟩
       refine Q0h (i:=17) (by decide) (by kernel_rfl) ?_
       refine Q01 rfl ?_
       go_wp2
       refine ⟨HX.out.trans Y_w8acs.out,Q05 ?_⟩
       refine Q2d (by decide) ?_
       obtain ⟨z0,z1,z2,z3,z4,hgal⟩:=Q0u BK_w8acs.out
       go_wp2_with fail
       (with_reducible refine (Q2x E fin value steps seen.length s1 s2 _ w8acs Hln.out.1 Hln.out.2 Hb.out.1 Hb.out.2.1 Hb.out.2.2.1 Hb.out.2.2.2.1 Hb.out.2.2.2.2).mono ?_)
       rintro e wZ ⟨rfl,hx⟩
       have HSZ:=zh (HS_w8.out.extend (Y_w8acs.out.trans hx))
       clear hx z0 z1 z2 z3 z4
       rw [HA.out]
       go_wp2
       go_ret
       exact Q07.same (s:=⟨p,L.map (·.2)⟩) rfl HSZ.out
     ·refine Q01 rfl ?_
      go_wp2
      refine ⟨HX.out.trans Y_w8ac.out,Q05 ?_⟩
      refine Q0h (i:=13) (by decide) (by kernel_rfl) ?_
      refine Q01 rfl ?_
      go_wp2
      refine ⟨HX.out.trans Y_w8ac.out,Q05 ?_⟩
      refine Q0h (i:=16) (by decide) (by kernel_rfl) ?_
      refine Q01 rfl ?_
      obtain ⟨z0,z1,z2,z3,z4,hgal⟩:=Q0u BK_w8ac.out
      go_wp2
      obtain ⟨w8acs,hn,yn,bn⟩:=Q2u BK_w8ac.out Y_w8ac.out hgb (.int .i64 fin) (.int .i64 value) (.int .i64 (steps:Int)) (.slice s1 seen.length s2) (.slice s3 mem.length s4)
      rw [← hn]
      have Y_w8acs:=zh yn
      have BK_w8acs:=zh bn
      clear yn bn hn z0 z1 z2 z3 z4 hgal
      refine ⟨HX.out.trans Y_w8acs.out,Q05 ?_⟩
      refine Q0h (i:=17) (by decide) (by kernel_rfl) ?_
      refine Q01 rfl ?_
      go_wp2
      refine ⟨HX.out.trans Y_w8acs.out,Q05 ?_⟩
      refine Q2d (by decide) ?_
      obtain ⟨z0,z1,z2,z3,z4,hgal⟩:=Q0u BK_w8acs.out
      go_wp2_with fail
      (with_reducible refine (Q2x E fin value steps seen.length s1 s2 _ w8acs Hln.out.1 Hln.out.2 Hb.out.1 Hb.out.2.1 Hb.out.2.2.1 Hb.out.2.2.2.1 Hb.out.2.2.2.2).mono ?_)
      rintro e wZ ⟨rfl,hx⟩
      have HSZ:=zh (HS_w8.out.extend (Y_w8acs.out.trans hx))
      clear hx z0 z1 z2 z3 z4
      rw [HA.out]
      go_wp2
      go_ret
      exact Q07.same (s:=⟨p,L.map (·.2)⟩) rfl HSZ.out
end
section
variable {w0 w : World} {B g : Nat} {vR vC vM : Value} {p : Q00} {L : List (Value × List Int)} {t : List UInt8} {ws : List (List UInt8)}
set_option maxRecDepth 100000
set_option maxHeartbeats 16000000
theorem Qs5 (h:PlSt w0 w B g 31 vR vC vM p L) (hg:Q0x ⟨p,L.map (·.2)⟩) (hT:t.length≤1000000000) (a:Int) (cs:List Int) (hs:Q08 32 t=[97,104,101,97,100] :: ws) (hn:Q0m ws=some (a :: cs)) :
  Calls Tryz.prog 6 #[.pointer (some ⟨g,0,none⟩),str t] w (Q07 (Q75 p (L.map (·.2)) cs a,⟨p,L.map (·.2)⟩) w0 B g 31):=by
 have HS:=zh h
 have Hg:=zh hg
 have HT:=zh hT
 have Hn:=zh hn
 have HW:=zh (Q3g hs)
 obtain ⟨oR,cR,rfl⟩:=Q02 h.rg
 obtain ⟨oC,cC,rfl⟩:=Q02 h.cd
 obtain ⟨oM,cM,rfl⟩:=Q02 h.mo
 obtain ⟨i0,hi0,hz0,hz1,hz2⟩:=info_parts Q5k
 have HSp:=zh (Q68 _ hT w)
 clear h hg hT hn hs
 go_enter Tryz.func6,Tryz.ntmps6
 go_wp2_with fail
 (with_reducible refine HSp.out.mono ?_)
 clear HSp
 rintro e w5 ⟨v5,rfl,hown,hx⟩
 have HS5:=zh (HS.out.extend hx)
 have hB5:=HS5.out.size
 obtain ⟨kw,cw,rfl,hwl,Hc,hix⟩:=Q67 HW.out HT.out hown
 clear hx hown
 go_wp2_with fail
 go_loopw [6,7] (fun lv iv wr => ∃ (j:Nat) (lp:List Int),1≤j∧j≤ws.length+1∧iv=.int .i64 (j:Int)∧Q0m (ws.take (j - 1))=some lp∧wr.ownsRow w5.heap.size 2 1 lv lp.length (lp.map (Value.int .i64))∧Ext w5 wr) (fun _ iv _=>ws.length+1 - (intOf iv).toNat)
 case atStart=>exact ⟨1,[],by omega,by omega,rfl,rfl,World.ownsRow_nil _ _ _ _,Ext.refl _⟩
 case round =>
  obtain ⟨j,lp,hj1,hj2,rfl,hn,hown,hE⟩:=hrel
  obtain ⟨ol,cl,rfl⟩:=Q02 hown
  have X:=zh hE
  have HO:=zh hown
  have HN:=zh hn
  have hl9:lp.length≤1000000001:=by
   have:=Q3s _ _ hn
   rw [List.length_take] at this
   omega
  clear hE hown hn
  by_cases hlt:j < ws.length+1
  ·have c0:=Hc.out wr X.out j hlt
   have hin:(j:Int) < ((ws.length+1:Nat):Int):=by omega
   rw [Q6d _ _ hj1] at c0
   have Hbad:=zh (Q5e ws (j - 1) (by omega))
   have Hgood:=zh (fun n=>Q5u (n:=n) (k:=j - 1) (by omega) HN.out)
   have hjj:j - 1+1=j:=by omega
   rw [hjj] at Hgood
   clear hjj
   generalize ws.getD (j - 1) []=W at *
   go_wp2_with fail
   (with_reducible refine (Q69 W _).mono ?_)
   rintro e w2 ⟨n,b,rfl,hc,hx⟩
   have X2:=zh (X.out.trans hx)
   have HO2:=zh (Q19 HO.out hx)
   clear hx c0
   rcases hc with ⟨rfl,hp⟩ | ⟨rfl,hp⟩
   ·have HF:=zh (Hgood.out n hp)
    have hBs:=X2.out.size
    clear hp
    go_wp2_with (at_builtin;refine Q1b _ rfl _ _ 35 rfl w5.heap.size 2 i0 _ 1 8 Tryz.underlying35 hi0 hz0 hz1 hz2 rfl (by decide) _ _ _ rfl (Q1r HO2.out) (some ⟨w2.heap.size,0,none⟩) 1 1 [.int .i64 n] rfl ?c1 ?c3 ?c4 ?c5 ?_)
    case c1=>exact Q1y (size:=1) (Blk.new w2 2 #[.int .i64 n]) rfl (by simp [Value.oneCell'])
    case c3=>unfold maxLen;omega
    case c4=>omega
    case c5=>simp;omega
    intro v4 w4 hown hgrow hat
    obtain ⟨o4,c4,rfl⟩:=Q02 hown
    have X4:=zh ((X2.out.alloc (.cells #[.int .i64 n] 2)).grown hgrow (fun k hk=>Q17 HO2.out k hk))
    have HO4:Hid (w4.ownsRow w5.heap.size 2 1 (.slice o4 (lp.length+1) c4) (lp ++ [n]).length ((lp ++ [n]).map (Value.int .i64))):=zh (by rw [List.length_append,List.map_append];exact hown)
    clear hown hgrow hat
    go_wp2
    go_roundw
    case rel=>exact ⟨j+1,lp ++ [n],by omega,by omega,by go_num,HF.out,HO4.out,X4.out⟩
    case measure=>first | (simp [intOf];done) | (simp [intOf];omega)
   ·exact absurd (Hn.out.symm.trans (Hbad.out hp)) (by simp)
  ·have hje:j=ws.length+1:=by omega
   subst hje
   have hl:a :: cs=lp:=by
    have h:=HN.out
    rw [Nat.add_sub_cancel,List.take_length] at h
    exact Option.some.inj (Hn.out.symm.trans h)
   subst hl
   obtain ⟨w6,hw6⟩:∃ w6,w6=wr:=⟨_,rfl⟩
   subst hw6
   have HS6:=zh (HS5.out.extend X.out)
   have hv:=Q32 HO.out (fun x hx=>(Q3a _ _ Hn.out x hx).r64)
   have cw0:∀ Wx,Ext w6 Wx→Wx.cell? ⟨kw,0,none⟩=some (str [97,104,101,97,100]):=fun Wx h=>Hc.out Wx (X.out.trans h) 0 (by omega)
   have hBl:B≤w6.heap.size:=HS6.out.size
   clear HN Hc
   obtain ⟨d0,d1,d2⟩:=HS6.out.cells
   have k2:∀ Wx,Ext w6 Wx→Wx.cell? ⟨g,2,none⟩=some (.slice oM L.length cM):=fun _ h=>h.kept d2.1
   have hL6:L.length≤6:=by
    have h1:=Hg.out.len
    have h2:=Hg.out.regs6
    simp only [List.length_map] at h1 h2
    omega
   clear d0 d1 d2
   have Hcl:Hid (cs.length≤1000000001):=zh (by have:=Q3s _ _ Hn.out;simp only [List.length_cons] at this;omega)
   obtain ⟨bl,oo,c2,hve,hlc,c0,hcs⟩:=Q8l hv
   rw [hve] at hv
   simp only [Value.slice.injEq] at hve
   obtain ⟨rfl,-,rfl⟩:=hve
   have hil:=Q3o (oa:=some ⟨bl,oo,none⟩) (n:=cs.length+1) (b:=bl) (o:=oo) (cap:=cl) (fun _=>rfl)
   have Hv:=zh hv
   have hcl:=Hcl.out
   rw [List.length_cons]
   clear hv
   have Ha:=zh (Hv.out.1 a (by simp))
   have q0:∀ Wx,Ext w6 Wx→Wx.cell? ⟨bl,oo,none⟩=some (.int .i64 a):=fun _ h=>h.kept c0
   clear c0
   go_upto_region 10 with fail
   go_cut [10] from 47 to 66 (fun s10 wx=>Ext w6 wx)
   case first =>
    rcases (show a < 0∨(0≤a∧(L.length:Int)≤a)∨(0≤a∧a < (L.length:Int)) by omega) with hA | ⟨hA,hA2⟩ | ⟨hA,hA2⟩
    ·have e1:decide (0≤a)=false:=decide_eq_false (by omega)
     refine Q0j 21 (by kernel_rfl) (by kernel_rfl) ?_
     simp only [List.take_succ_cons,List.take_zero,List.drop_succ_cons,List.drop_zero]
     repeat (first | (refine Q0d ?_ ?_ ?_;(decide);(first | rfl | (focus (go_simp;done)));apply Exists.intro;refine ⟨fun wc hE=>?_,?_⟩;(go_simp;exact rfl);go_simp) | (refine Q0e ?_ ?_ ?_;(decide);(focus (go_simp;done));go_simp))
     refine Q0f ?_
     intro w7 hx
     go_wp2
     go_meet
     exact hx
    ·have e1:decide (0≤a)=true:=decide_eq_true hA
     have e2:decide (a < (L.length:Int))=false:=decide_eq_false (by omega)
     refine Q0j 21 (by kernel_rfl) (by kernel_rfl) ?_
     simp only [List.take_succ_cons,List.take_zero,List.drop_succ_cons,List.drop_zero]
     repeat (first | (refine Q0d ?_ ?_ ?_;(decide);(first | rfl | (focus (go_simp;done)));apply Exists.intro;refine ⟨fun wc hE=>?_,?_⟩;(go_simp;exact rfl);go_simp) | (refine Q0e ?_ ?_ ?_;(decide);(focus (go_simp;done));go_simp))
     refine Q0f ?_
     intro w7 hx
     go_wp2
     go_meet
     exact hx
    ·have e1:decide (0≤a)=true:=decide_eq_true hA
     have e2:decide (a < (L.length:Int))=true:=decide_eq_true hA2
     refine Q0j 21 (by kernel_rfl) (by kernel_rfl) ?_
     simp only [List.take_succ_cons,List.take_zero,List.drop_succ_cons,List.drop_zero]
     repeat (first | (refine Q0d ?_ ?_ ?_;(decide);(first | rfl | (focus (go_simp;done)));apply Exists.intro;refine ⟨fun wc hE=>?_,?_⟩;(go_simp;exact rfl);go_simp) | (refine Q0e ?_ ?_ ?_;(decide);(focus (go_simp;done));go_simp))
     refine Q0f ?_
     intro w7 hx
     go_wp2
     go_meet
     exact hx
   case rest =>
    obtain ⟨w7,hw7⟩:∃ w7,w7=wc:=⟨_,rfl⟩
    subst hw7
    have HS7:=zh (HS6.out.extend hcut)
    have X7:=zh hcut
    have cw0:=cw0 w7 hcut
    clear hcut
    have hge2:decide ((1:Int)≤(cs.length:Int)+1)=true:=decide_eq_true (by omega)
    have H64:=zh (fun x (hx:x ∈ cs)=>Hv.out.1 x (List.mem_cons_of_mem _ hx))
    have Hcc:=zh (fun j x hx=>X7.out.kept (hcs j x hx))
    obtain ⟨i1,hj0,hy0,hy1,hy2⟩:=info_parts Q8n
    clear hcs k2
    have q0:=q0 w7 X7.out
    go_wp2_with fail
    generalize ((ws.length+1:Nat):Int)=z7
    go_loopw [14,15] (fun sv iv wr => ∃ j:Nat,1≤j∧j≤cs.length+1∧iv=.int .i64 (j:Int)∧wr.ownsRow w7.heap.size 3 1 sv (j - 1) ((cs.take (j - 1)).map (Value.int .i64))∧Ext w7 wr) (fun _ iv _=>cs.length+1 - (intOf iv).toNat)
    case atStart=>exact ⟨1,by omega,by omega,rfl,World.ownsRow_nil _ _ _ _,Ext.refl _⟩
    case round =>
     obtain ⟨j,hj1,hj2,rfl,hown,hE⟩:=hrel
     obtain ⟨os,cs',rfl⟩:=Q02 hown
     have XL:=zh hE
     have HOs:=zh hown
     clear hE hown
     by_cases hlt:j < cs.length+1
     ·have hjl:j - 1 < cs.length:=by omega
      have c1:wr.cell? ⟨bl,oo+j,none⟩=some (.int .i64 cs[j - 1]):=XL.out.kept (by have:=Hcc.out (j - 1) cs[j - 1] (by simp [hjl]);rwa [show oo+1+(j - 1)=oo+j by omega] at this)
      have hin:(j:Int) < ((cs.length+1:Nat):Int):=by omega
      have HT2:=zh (List.take_succ_eq_append_getElem hjl)
      have hbs:=XL.out.size
      have hjj:j - 1+1=j:=by omega
      generalize cs[j - 1]=x at *
      generalize cs.take (j - 1)=tk at *
      go_wp2_with (at_builtin;refine Q1b _ rfl _ _ 49 rfl w7.heap.size 3 i1 _ 1 8 Tryz.underlying49 hj0 hy0 hy1 hy2 rfl (by decide) _ _ _ rfl (Q1r HOs.out) (some ⟨wr.heap.size,0,none⟩) 1 1 [.int .i64 x] rfl ?c1 ?c3 ?c4 ?c5 ?_)
      case c1=>exact Q1y (size:=1) (Blk.new wr 3 #[.int .i64 x]) rfl (by simp [Value.oneCell'])
      case c3=>unfold maxLen;omega
      case c4=>omega
      case c5=>simp;omega
      intro v4 w4 hown hgrow hat
      obtain ⟨o4,c4,rfl⟩:=Q02 hown
      have X4:=zh ((XL.out.alloc (.cells #[.int .i64 x] 3)).grown hgrow (fun k hk=>Q17 HOs.out k hk))
      have HO4:Hid (w4.ownsRow w7.heap.size 3 1 (.slice o4 j c4) (j+1 - 1) ((cs.take (j+1 - 1)).map (Value.int .i64))):=zh (by
       have e:cs.take (j+1 - 1)=tk ++ [x]:=by rw [Nat.add_sub_cancel,← hjj];exact HT2.out
       rw [e,List.map_append,show j+1 - 1=j by omega]
       exact hown)
      clear hown hgrow hat hjj
      go_wp2
      go_roundw
      case rel=>exact ⟨j+1,by omega,by omega,by go_num,HO4.out,X4.out⟩
      case measure=>first | (simp [intOf];done) | (simp [intOf];omega)
     ·have hje:j=cs.length+1:=by omega
      subst hje
      have HI:Hid (Q2z wr (.slice os cs.length cs') cs):=zh (by
       have h:=HOs.out
       rw [show cs.length+1 - 1=cs.length by omega,List.take_length] at h
       exact Q32 h H64.out)
      have HSr:=zh (HS7.out.extend XL.out)
      obtain ⟨d0,d1,d2⟩:=HSr.out.cells
      have hgl:=HSr.out.box.lt
      have c1:=XL.out.kept q0
      clear HOs
      go_upto_region 40 with fail
      have q0:∀ Wx,Ext wr Wx→Wx.cell? ⟨bl,oo,none⟩=some (.int .i64 a):=fun _ h=>h.kept c1
      have k0:∀ Wx,Ext wr Wx→Wx.cell? ⟨g,0,none⟩=some (.slice oR p.regs.length cR):=fun _ h=>h.kept d0.1
      have k1:∀ Wx,Ext wr Wx→Wx.cell? ⟨g,1,none⟩=some (.slice oC p.code.length cC):=fun _ h=>h.kept d1.1
      have k2:∀ Wx,Ext wr Wx→Wx.cell? ⟨g,2,none⟩=some (.slice oM L.length cM):=fun _ h=>h.kept d2.1
      clear c1 cw0 hix d0 d1 d2 hgl
      refine Qbe [12,13,14,15,16,17,18] (by kernel_rfl) (by kernel_rfl) ?_
      repeat (first | (refine Q1x ?_ ?_;(decide)) | (refine Q1o ?_ ?_ ?_;(decide);(first | rfl | (focus (go_simp;done)));apply Exists.intro;refine ⟨fun wc hE=>?_,?_⟩;(go_simp;exact rfl);go_simp) | (refine Q1v ?_ ?_ ?_;(decide);(focus (go_simp;done));go_simp))
      refine Q1w ?_
      intro w8 hx
      have HS_w8:=zh (HSr.out.extend hx)
      have HI8:=zh (HI.out.ext hx)
      have HX:=zh hx
      have Y_w8:=zh (Ext.refl w8)
      clear hx q0 k0 k1 k2
      refine Q38 (i:=12) (j:=16) (by decide) (by kernel_rfl) ?_ ?_
      ·refine Q01 rfl ?_
       go_wp2_with fail
       (with_reducible refine (Qcv p (L.map (·.2)) cs a _ _ _ w8 (HS_w8.out.extend Y_w8.out).prog (HS_w8.out.extend Y_w8.out).mem (HI8.out.ext Y_w8.out) Ha.out).mono ?_)
       rintro e w8c ⟨s1,s2,s3,s4,E,fin,value,steps,seen,mem,rfl,hx,hsh,hb,hA⟩
       have Y_w8c:=zh (Y_w8.out.trans hx)
       have Hln:=zh (Qb9 hsh)
       have Hb:=zh hb
       have HA:=zh hA
       clear hx hsh hb hA
       go_wp2
       refine ⟨HX.out.trans Y_w8c.out,Q05 ?_⟩
       refine Q38 (i:=13) (j:=16) (by decide) (by kernel_rfl) ?_ ?_
       ·refine Q01 rfl ?_
        go_wp2
        refine ⟨HX.out.trans Y_w8c.out,Q05 ?_⟩
        refine Qfs (i:=14) (j:=15) (m:=16) (by decide) (by kernel_rfl) ?_ ?_ ?_
        ·refine Q01 rfl ?_
         go_wp2
         refine ⟨HX.out.trans Y_w8c.out,Q05 ?_⟩
         refine Q38 (i:=15) (j:=16) (by decide) (by kernel_rfl) ?_ ?_
         ·refine Q01 rfl ?_
          go_wp2
          refine ⟨HX.out.trans Y_w8c.out,Q05 ?_⟩
          refine Q0h (i:=16) (by decide) (by kernel_rfl) ?_
          refine Q01 rfl ?_
          go_wp2
          obtain ⟨w8ca,ga,hga,hW,hx,bA⟩:=Q16 w8c #[.int .i64 0,.int .i64 0,.int .i64 0,.slice none 0 0,.slice none 0 0] 44
          rw [hW,hga]
          have hgb:w8.heap.size≤ga:=by rw [← hga];exact Y_w8c.out.size
          have Y_w8ca:=zh (Y_w8c.out.trans hx)
          have BK_w8ca:=zh bA
          clear hga hW hx bA
          refine ⟨HX.out.trans Y_w8ca.out,Q05 ?_⟩
          refine Q0h (i:=17) (by decide) (by kernel_rfl) ?_
          refine Q01 rfl ?_
          obtain ⟨z0,z1,z2,z3,z4,hgal⟩:=Q0u BK_w8ca.out
          go_wp2
          obtain ⟨w8cas,hn,yn,bn⟩:=Q2u BK_w8ca.out Y_w8ca.out hgb (.int .i64 fin) (.int .i64 value) (.int .i64 (steps:Int)) (.slice s1 seen.length s2) (.slice s3 mem.length s4)
          rw [← hn]
          have Y_w8cas:=zh yn
          have BK_w8cas:=zh bn
          clear yn bn hn z0 z1 z2 z3 z4 hgal
          refine ⟨HX.out.trans Y_w8cas.out,Q05 ?_⟩
          refine Q0h (i:=18) (by decide) (by kernel_rfl) ?_
          refine Q01 rfl ?_
          go_wp2
          refine ⟨HX.out.trans Y_w8cas.out,Q05 ?_⟩
          refine Q2d (by decide) ?_
          obtain ⟨z0,z1,z2,z3,z4,hgal⟩:=Q0u BK_w8cas.out
          go_wp2_with fail
          (with_reducible refine (Q2x E fin value steps seen.length s1 s2 _ w8cas Hln.out.1 Hln.out.2 Hb.out.1 Hb.out.2.1 Hb.out.2.2.1 Hb.out.2.2.2.1 Hb.out.2.2.2.2).mono ?_)
          rintro e wZ ⟨rfl,hx⟩
          have HSZ:=zh (HS_w8.out.extend (Y_w8cas.out.trans hx))
          clear hx z0 z1 z2 z3 z4
          rw [HA.out]
          go_wp2
          go_ret
          exact Q07.same (s:=⟨p,L.map (·.2)⟩) rfl HSZ.out
         ·refine Q01 rfl ?_
          go_wp2
          obtain ⟨w8ca,ga,hga,hW,hx,bA⟩:=Q16 w8c #[.int .i64 0,.int .i64 0,.int .i64 0,.slice none 0 0,.slice none 0 0] 44
          rw [hW,hga]
          have hgb:w8.heap.size≤ga:=by rw [← hga];exact Y_w8c.out.size
          have Y_w8ca:=zh (Y_w8c.out.trans hx)
          have BK_w8ca:=zh bA
          clear hga hW hx bA
          refine ⟨HX.out.trans Y_w8ca.out,Q05 ?_⟩
          refine Q38 (i:=15) (j:=17) (by decide) (by kernel_rfl) ?_ ?_
          ·refine Q01 rfl ?_
           go_wp2
           refine ⟨HX.out.trans Y_w8ca.out,Q05 ?_⟩
           refine Q0h (i:=17) (by decide) (by kernel_rfl) ?_
           refine Q01 rfl ?_
           obtain ⟨z0,z1,z2,z3,z4,hgal⟩:=Q0u BK_w8ca.out
           go_wp2
           obtain ⟨w8cas,hn,yn,bn⟩:=Q2u BK_w8ca.out Y_w8ca.out hgb (.int .i64 fin) (.int .i64 value) (.int .i64 (steps:Int)) (.slice s1 seen.length s2) (.slice s3 mem.length s4)
           rw [← hn]
           have Y_w8cas:=zh yn
           have BK_w8cas:=zh bn
           clear yn bn hn z0 z1 z2 z3 z4 hgal
           refine ⟨HX.out.trans Y_w8cas.out,Q05 ?_⟩
           refine Q0h (i:=18) (by decide) (by kernel_rfl) ?_
           refine Q01 rfl ?_
           go_wp2
           refine ⟨HX.out.trans Y_w8cas.out,Q05 ?_⟩
           refine Q2d (by decide) ?_
           obtain ⟨z0,z1,z2,z3,z4,hgal⟩:=Q0u BK_w8cas.out
           go_wp2_with fail
           (with_reducible refine (Q2x E fin value steps seen.length s1 s2 _ w8cas Hln.out.1 Hln.out.2 Hb.out.1 Hb.out.2.1 Hb.out.2.2.1 Hb.out.2.2.2.1 Hb.out.2.2.2.2).mono ?_)
           rintro e wZ ⟨rfl,hx⟩
           have HSZ:=zh (HS_w8.out.extend (Y_w8cas.out.trans hx))
           clear hx z0 z1 z2 z3 z4
           rw [HA.out]
           go_wp2
           go_ret
           exact Q07.same (s:=⟨p,L.map (·.2)⟩) rfl HSZ.out
          ·refine Q01 rfl ?_
           obtain ⟨z0,z1,z2,z3,z4,hgal⟩:=Q0u BK_w8ca.out
           go_wp2
           obtain ⟨w8cas,hn,yn,bn⟩:=Q2u BK_w8ca.out Y_w8ca.out hgb (.int .i64 fin) (.int .i64 value) (.int .i64 (steps:Int)) (.slice s1 seen.length s2) (.slice s3 mem.length s4)
           rw [← hn]
           have Y_w8cas:=zh yn
           have BK_w8cas:=zh bn
           clear yn bn hn z0 z1 z2 z3 z4 hgal
           refine ⟨HX.out.trans Y_w8cas.out,Q05 ?_⟩
           refine Q0h (i:=15) (by decide) (by kernel_rfl) ?_
           refine Q01 rfl ?_
           go_wp2
           refine ⟨HX.out.trans Y_w8cas.out,Q05 ?_⟩
           refine Q0h (i:=18) (by decide) (by kernel_rfl) ?_
           refine Q01 rfl ?_
           go_wp2
           refine ⟨HX.out.trans Y_w8cas.out,Q05 ?_⟩
           refine Q2d (by decide) ?_
           obtain ⟨z0,z1,z2,z3,z4,hgal⟩:=Q0u BK_w8cas.out
           go_wp2_with fail
           (with_reducible refine (Q2x E fin value steps seen.length s1 s2 _ w8cas Hln.out.1 Hln.out.2 Hb.out.1 Hb.out.2.1 Hb.out.2.2.1 Hb.out.2.2.2.1 Hb.out.2.2.2.2).mono ?_)
           rintro e wZ ⟨rfl,hx⟩
           have HSZ:=zh (HS_w8.out.extend (Y_w8cas.out.trans hx))
           clear hx z0 z1 z2 z3 z4
           rw [HA.out]
           go_wp2
           go_ret
           exact Q07.same (s:=⟨p,L.map (·.2)⟩) rfl HSZ.out
        ·refine Q01 rfl ?_
         go_wp2
         refine ⟨HX.out.trans Y_w8c.out,Q05 ?_⟩
         refine Q38 (i:=14) (j:=16) (by decide) (by kernel_rfl) ?_ ?_
         ·refine Q01 rfl ?_
          go_wp2
          refine ⟨HX.out.trans Y_w8c.out,Q05 ?_⟩
          refine Q0h (i:=16) (by decide) (by kernel_rfl) ?_
          refine Q01 rfl ?_
          go_wp2
          obtain ⟨w8ca,ga,hga,hW,hx,bA⟩:=Q16 w8c #[.int .i64 0,.int .i64 0,.int .i64 0,.slice none 0 0,.slice none 0 0] 44
          rw [hW,hga]
          have hgb:w8.heap.size≤ga:=by rw [← hga];exact Y_w8c.out.size
          have Y_w8ca:=zh (Y_w8c.out.trans hx)
          have BK_w8ca:=zh bA
          clear hga hW hx bA
          refine ⟨HX.out.trans Y_w8ca.out,Q05 ?_⟩
          refine Q0h (i:=17) (by decide) (by kernel_rfl) ?_
          refine Q01 rfl ?_
          obtain ⟨z0,z1,z2,z3,z4,hgal⟩:=Q0u BK_w8ca.out
          go_wp2
          obtain ⟨w8cas,hn,yn,bn⟩:=Q2u BK_w8ca.out Y_w8ca.out hgb (.int .i64 fin) (.int .i64 value) (.int .i64 (steps:Int)) (.slice s1 seen.length s2) (.slice s3 mem.length s4)
          rw [← hn]
          have Y_w8cas:=zh yn
          have BK_w8cas:=zh bn
          clear yn bn hn z0 z1 z2 z3 z4 hgal
          refine ⟨HX.out.trans Y_w8cas.out,Q05 ?_⟩
          refine Q0h (i:=18) (by decide) (by kernel_rfl) ?_
          refine Q01 rfl ?_
          go_wp2
          refine ⟨HX.out.trans Y_w8cas.out,Q05 ?_⟩
          refine Q2d (by decide) ?_
          obtain ⟨z0,z1,z2,z3,z4,hgal⟩:=Q0u BK_w8cas.out
          go_wp2_with fail
          (with_reducible refine (Q2x E fin value steps seen.length s1 s2 _ w8cas Hln.out.1 Hln.out.2 Hb.out.1 Hb.out.2.1 Hb.out.2.2.1 Hb.out.2.2.2.1 Hb.out.2.2.2.2).mono ?_)
          rintro e wZ ⟨rfl,hx⟩
          have HSZ:=zh (HS_w8.out.extend (Y_w8cas.out.trans hx))
          clear hx z0 z1 z2 z3 z4
          rw [HA.out]
          go_wp2
          go_ret
          exact Q07.same (s:=⟨p,L.map (·.2)⟩) rfl HSZ.out
         ·refine Q01 rfl ?_
          go_wp2
          obtain ⟨w8ca,ga,hga,hW,hx,bA⟩:=Q16 w8c #[.int .i64 0,.int .i64 0,.int .i64 0,.slice none 0 0,.slice none 0 0] 44
          rw [hW,hga]
          have hgb:w8.heap.size≤ga:=by rw [← hga];exact Y_w8c.out.size
          have Y_w8ca:=zh (Y_w8c.out.trans hx)
          have BK_w8ca:=zh bA
          clear hga hW hx bA
          refine ⟨HX.out.trans Y_w8ca.out,Q05 ?_⟩
          refine Q0h (i:=14) (by decide) (by kernel_rfl) ?_
          refine Q01 rfl ?_
          go_wp2
          refine ⟨HX.out.trans Y_w8ca.out,Q05 ?_⟩
          refine Q0h (i:=17) (by decide) (by kernel_rfl) ?_
          refine Q01 rfl ?_
          obtain ⟨z0,z1,z2,z3,z4,hgal⟩:=Q0u BK_w8ca.out
          go_wp2
          obtain ⟨w8cas,hn,yn,bn⟩:=Q2u BK_w8ca.out Y_w8ca.out hgb (.int .i64 fin) (.int .i64 value) (.int .i64 (steps:Int)) (.slice s1 seen.length s2) (.slice s3 mem.length s4)
          rw [← hn]
          have Y_w8cas:=zh yn
          have BK_w8cas:=zh bn
          clear yn bn hn z0 z1 z2 z3 z4 hgal
          refine ⟨HX.out.trans Y_w8cas.out,Q05 ?_⟩
          refine Q0h (i:=18) (by decide) (by kernel_rfl) ?_
          refine Q01 rfl ?_
          go_wp2
          refine ⟨HX.out.trans Y_w8cas.out,Q05 ?_⟩
          refine Q2d (by decide) ?_
          obtain ⟨z0,z1,z2,z3,z4,hgal⟩:=Q0u BK_w8cas.out
          go_wp2_with fail
          (with_reducible refine (Q2x E fin value steps seen.length s1 s2 _ w8cas Hln.out.1 Hln.out.2 Hb.out.1 Hb.out.2.1 Hb.out.2.2.1 Hb.out.2.2.2.1 Hb.out.2.2.2.2).mono ?_)
          rintro e wZ ⟨rfl,hx⟩
          have HSZ:=zh (HS_w8.out.extend (Y_w8cas.out.trans hx))
          clear hx z0 z1 z2 z3 z4
          rw [HA.out]
          go_wp2
          go_ret
          exact Q07.same (s:=⟨p,L.map (·.2)⟩) rfl HSZ.out
        ·refine Q01 rfl ?_
         go_wp2
         obtain ⟨w8ca,ga,hga,hW,hx,bA⟩:=Q16 w8c #[.int .i64 0,.int .i64 0,.int .i64 0,.slice none 0 0,.slice none 0 0] 44
         rw [hW,hga]
         have hgb:w8.heap.size≤ga:=by rw [← hga];exact Y_w8c.out.size
         have Y_w8ca:=zh (Y_w8c.out.trans hx)
         have BK_w8ca:=zh bA
         clear hga hW hx bA
         refine ⟨HX.out.trans Y_w8ca.out,Q05 ?_⟩
         refine Q38 (i:=14) (j:=15) (by decide) (by kernel_rfl) ?_ ?_
         ·refine Q01 rfl ?_
          go_wp2
          refine ⟨HX.out.trans Y_w8ca.out,Q05 ?_⟩
          refine Q38 (i:=15) (j:=17) (by decide) (by kernel_rfl) ?_ ?_
          ·refine Q01 rfl ?_
           go_wp2
           refine ⟨HX.out.trans Y_w8ca.out,Q05 ?_⟩
           refine Q0h (i:=17) (by decide) (by kernel_rfl) ?_
           refine Q01 rfl ?_
           obtain ⟨z0,z1,z2,z3,z4,hgal⟩:=Q0u BK_w8ca.out
           go_wp2
           obtain ⟨w8cas,hn,yn,bn⟩:=Q2u BK_w8ca.out Y_w8ca.out hgb (.int .i64 fin) (.int .i64 value) (.int .i64 (steps:Int)) (.slice s1 seen.length s2) (.slice s3 mem.length s4)
           rw [← hn]
           have Y_w8cas:=zh yn
           have BK_w8cas:=zh bn
           clear yn bn hn z0 z1 z2 z3 z4 hgal
           refine ⟨HX.out.trans Y_w8cas.out,Q05 ?_⟩
           refine Q0h (i:=18) (by decide) (by kernel_rfl) ?_
           refine Q01 rfl ?_
           go_wp2
           refine ⟨HX.out.trans Y_w8cas.out,Q05 ?_⟩
           refine Q2d (by decide) ?_
           obtain ⟨z0,z1,z2,z3,z4,hgal⟩:=Q0u BK_w8cas.out
           go_wp2_with fail
           (with_reducible refine (Q2x E fin value steps seen.length s1 s2 _ w8cas Hln.out.1 Hln.out.2 Hb.out.1 Hb.out.2.1 Hb.out.2.2.1 Hb.out.2.2.2.1 Hb.out.2.2.2.2).mono ?_)
           rintro e wZ ⟨rfl,hx⟩
           have HSZ:=zh (HS_w8.out.extend (Y_w8cas.out.trans hx))
           clear hx z0 z1 z2 z3 z4
           rw [HA.out]
           go_wp2
           go_ret
           exact Q07.same (s:=⟨p,L.map (·.2)⟩) rfl HSZ.out
          ·refine Q01 rfl ?_
           obtain ⟨z0,z1,z2,z3,z4,hgal⟩:=Q0u BK_w8ca.out
           go_wp2
           obtain ⟨w8cas,hn,yn,bn⟩:=Q2u BK_w8ca.out Y_w8ca.out hgb (.int .i64 fin) (.int .i64 value) (.int .i64 (steps:Int)) (.slice s1 seen.length s2) (.slice s3 mem.length s4)
           rw [← hn]
           have Y_w8cas:=zh yn
           have BK_w8cas:=zh bn
           clear yn bn hn z0 z1 z2 z3 z4 hgal
           refine ⟨HX.out.trans Y_w8cas.out,Q05 ?_⟩
           refine Q0h (i:=15) (by decide) (by kernel_rfl) ?_
           refine Q01 rfl ?_
           go_wp2
           refine ⟨HX.out.trans Y_w8cas.out,Q05 ?_⟩
           refine Q0h (i:=18) (by decide) (by kernel_rfl) ?_
           refine Q01 rfl ?_
           go_wp2
           refine ⟨HX.out.trans Y_w8cas.out,Q05 ?_⟩
           refine Q2d (by decide) ?_
           obtain ⟨z0,z1,z2,z3,z4,hgal⟩:=Q0u BK_w8cas.out
           go_wp2_with fail
           (with_reducible refine (Q2x E fin value steps seen.length s1 s2 _ w8cas Hln.out.1 Hln.out.2 Hb.out.1 Hb.out.2.1 Hb.out.2.2.1 Hb.out.2.2.2.1 Hb.out.2.2.2.2).mono ?_)
           rintro e wZ ⟨rfl,hx⟩
           have HSZ:=zh (HS_w8.out.extend (Y_w8cas.out.trans hx))
           clear hx z0 z1 z2 z3 z4
           rw [HA.out]
           go_wp2
           go_ret
           exact Q07.same (s:=⟨p,L.map (·.2)⟩) rfl HSZ.out
         ·refine Q01 rfl ?_
          go_wp2
          refine ⟨HX.out.trans Y_w8ca.out,Q05 ?_⟩
          refine Q0h (i:=14) (by decide) (by kernel_rfl) ?_
          refine Q01 rfl ?_
          go_wp2
          refine ⟨HX.out.trans Y_w8ca.out,Q05 ?_⟩
          refine Q0h (i:=17) (by decide) (by kernel_rfl) ?_
          refine Q01 rfl ?_
          obtain ⟨z0,z1,z2,z3,z4,hgal⟩:=Q0u BK_w8ca.out
          go_wp2
          obtain ⟨w8cas,hn,yn,bn⟩:=Q2u BK_w8ca.out Y_w8ca.out hgb (.int .i64 fin) (.int .i64 value) (.int .i64 (steps:Int)) (.slice s1 seen.length s2) (.slice s3 mem.length s4)
          rw [← hn]
          have Y_w8cas:=zh yn
          have BK_w8cas:=zh bn
          clear yn bn hn z0 z1 z2 z3 z4 hgal
          refine ⟨HX.out.trans Y_w8cas.out,Q05 ?_⟩
          refine Q0h (i:=18) (by decide) (by kernel_rfl) ?_
          refine Q01 rfl ?_
          go_wp2
          refine ⟨HX.out.trans Y_w8cas.out,Q05 ?_⟩
          refine Q2d (by decide) ?_
          obtain ⟨z0,z1,z2,z3,z4,hgal⟩:=Q0u BK_w8cas.out
          go_wp2_with fail
          (with_reducible refine (Q2x E fin value steps seen.length s1 s2 _ w8cas Hln.out.1 Hln.out.2 Hb.out.1 Hb.out.2.1 Hb.out.2.2.1 Hb.out.2.2.2.1 Hb.out.2.2.2.2).mono ?_)
          rintro e wZ ⟨rfl,hx⟩
          have HSZ:=zh (HS_w8.out.extend (Y_w8cas.out.trans hx))
          clear hx z0 z1 z2 z3 z4
          rw [HA.out]
          go_wp2
          go_ret
          exact Q07.same (s:=⟨p,L.map (·.2)⟩) rfl HSZ.out
       ·refine Q01 rfl ?_
        go_wp2
        obtain ⟨w8ca,ga,hga,hW,hx,bA⟩:=Q16 w8c #[.int .i64 0,.int .i64 0,.int .i64 0,.slice none 0 0,.slice none 0 0] 44
        rw [hW,hga]
        have hgb:w8.heap.size≤ga:=by rw [← hga];exact Y_w8c.out.size
        have Y_w8ca:=zh (Y_w8c.out.trans hx)
        have BK_w8ca:=zh bA
        clear hga hW hx bA
        refine ⟨HX.out.trans Y_w8ca.out,Q05 ?_⟩
        refine Q0h (i:=13) (by decide) (by kernel_rfl) ?_
        refine Q01 rfl ?_
        go_wp2
        refine ⟨HX.out.trans Y_w8ca.out,Q05 ?_⟩
        refine Q38 (i:=14) (j:=15) (by decide) (by kernel_rfl) ?_ ?_
        ·refine Q01 rfl ?_
         go_wp2
         refine ⟨HX.out.trans Y_w8ca.out,Q05 ?_⟩
         refine Q38 (i:=15) (j:=17) (by decide) (by kernel_rfl) ?_ ?_
         ·refine Q01 rfl ?_
          go_wp2
          refine ⟨HX.out.trans Y_w8ca.out,Q05 ?_⟩
          refine Q0h (i:=17) (by decide) (by kernel_rfl) ?_
          refine Q01 rfl ?_
          obtain ⟨z0,z1,z2,z3,z4,hgal⟩:=Q0u BK_w8ca.out
          go_wp2
          obtain ⟨w8cas,hn,yn,bn⟩:=Q2u BK_w8ca.out Y_w8ca.out hgb (.int .i64 fin) (.int .i64 value) (.int .i64 (steps:Int)) (.slice s1 seen.length s2) (.slice s3 mem.length s4)
          rw [← hn]
          have Y_w8cas:=zh yn
          have BK_w8cas:=zh bn
          clear yn bn hn z0 z1 z2 z3 z4 hgal
          refine ⟨HX.out.trans Y_w8cas.out,Q05 ?_⟩
          refine Q0h (i:=18) (by decide) (by kernel_rfl) ?_
          refine Q01 rfl ?_
          go_wp2
          refine ⟨HX.out.trans Y_w8cas.out,Q05 ?_⟩
          refine Q2d (by decide) ?_
          obtain ⟨z0,z1,z2,z3,z4,hgal⟩:=Q0u BK_w8cas.out
          go_wp2_with fail
          (with_reducible refine (Q2x E fin value steps seen.length s1 s2 _ w8cas Hln.out.1 Hln.out.2 Hb.out.1 Hb.out.2.1 Hb.out.2.2.1 Hb.out.2.2.2.1 Hb.out.2.2.2.2).mono ?_)
          rintro e wZ ⟨rfl,hx⟩
          have HSZ:=zh (HS_w8.out.extend (Y_w8cas.out.trans hx))
          clear hx z0 z1 z2 z3 z4
          rw [HA.out]
          go_wp2
          go_ret
          exact Q07.same (s:=⟨p,L.map (·.2)⟩) rfl HSZ.out
         ·refine Q01 rfl ?_
          obtain ⟨z0,z1,z2,z3,z4,hgal⟩:=Q0u BK_w8ca.out
          go_wp2
          obtain ⟨w8cas,hn,yn,bn⟩:=Q2u BK_w8ca.out Y_w8ca.out hgb (.int .i64 fin) (.int .i64 value) (.int .i64 (steps:Int)) (.slice s1 seen.length s2) (.slice s3 mem.length s4)
          rw [← hn]
          have Y_w8cas:=zh yn
          have BK_w8cas:=zh bn
          clear yn bn hn z0 z1 z2 z3 z4 hgal
          refine ⟨HX.out.trans Y_w8cas.out,Q05 ?_⟩
          refine Q0h (i:=15) (by decide) (by kernel_rfl) ?_
          refine Q01 rfl ?_
          go_wp2
          refine ⟨HX.out.trans Y_w8cas.out,Q05 ?_⟩
          refine Q0h (i:=18) (by decide) (by kernel_rfl) ?_
          refine Q01 rfl ?_
          go_wp2
          refine ⟨HX.out.trans Y_w8cas.out,Q05 ?_⟩
          refine Q2d (by decide) ?_
          obtain ⟨z0,z1,z2,z3,z4,hgal⟩:=Q0u BK_w8cas.out
          go_wp2_with fail
          (with_reducible refine (Q2x E fin value steps seen.length s1 s2 _ w8cas Hln.out.1 Hln.out.2 Hb.out.1 Hb.out.2.1 Hb.out.2.2.1 Hb.out.2.2.2.1 Hb.out.2.2.2.2).mono ?_)
          rintro e wZ ⟨rfl,hx⟩
          have HSZ:=zh (HS_w8.out.extend (Y_w8cas.out.trans hx))
          clear hx z0 z1 z2 z3 z4
          rw [HA.out]
          go_wp2
          go_ret
          exact Q07.same (s:=⟨p,L.map (·.2)⟩) rfl HSZ.out
        ·refine Q01 rfl ?_
         go_wp2
         refine ⟨HX.out.trans Y_w8ca.out,Q05 ?_⟩
         refine Q0h (i:=14) (by decide) (by kernel_rfl) ?_
         refine Q01 rfl ?_
         go_wp2
         refine ⟨HX.out.trans Y_w8ca.out,Q05 ?_⟩
         refine Q0h (i:=17) (by decide) (by kernel_rfl) ?_
         refine Q01 rfl ?_
         obtain ⟨z0,z1,z2,z3,z4,hgal⟩:=Q0u BK_w8ca.out
         go_wp2
         obtain ⟨w8cas,hn,yn,bn⟩:=Q2u BK_w8ca.out Y_w8ca.out hgb (.int .i64 fin) (.int .i64 value) (.int .i64 (steps:Int)) (.slice s1 seen.length s2) (.slice s3 mem.length s4)
         rw [← hn]
         have Y_w8cas:=zh yn
         have BK_w8cas:=zh bn
         clear yn bn hn z0 z1 z2 z3 z4 hgal
         refine ⟨HX.out.trans Y_w8cas.out,Q05 ?_⟩
         refine Q0h (i:=18) (by decide) (by kernel_rfl) ?_
         refine Q01 rfl ?_
         go_wp2
         refine ⟨HX.out.trans Y_w8cas.out,Q05 ?_⟩
         refine Q2d (by decide) ?_
         obtain ⟨z0,z1,z2,z3,z4,hgal⟩:=Q0u BK_w8cas.out
         go_wp2_with fail
         (with_reducible refine (Q2x E fin value steps seen.length s1 s2 _ w8cas Hln.out.1 Hln.out.2 Hb.out.1 Hb.out.2.1 Hb.out.2.2.1 Hb.out.2.2.2.1 Hb.out.2.2.2.2).mono ?_)
         rintro e wZ ⟨rfl,hx⟩
         have HSZ:=zh (HS_w8.out.extend (Y_w8cas.out.trans hx))
         clear hx z0 z1 z2 z3 z4
         rw [HA.out]
         go_wp2
         go_ret
         exact Q07.same (s:=⟨p,L.map (·.2)⟩) rfl HSZ.out
      ·refine Q01 rfl ?_
       go_wp2
       obtain ⟨w8a,ga,hga,hW,hx,bA⟩:=Q16 w8 #[.int .i64 0,.int .i64 0,.int .i64 0,.slice none 0 0,.slice none 0 0] 44
       rw [hW,hga]
       have hgb:w8.heap.size≤ga:=by rw [← hga];exact Y_w8.out.size
       have Y_w8a:=zh (Y_w8.out.trans hx)
       have BK_w8a:=zh bA
       clear hga hW hx bA
       refine ⟨HX.out.trans Y_w8a.out,Q05 ?_⟩
       refine Q0h (i:=12) (by decide) (by kernel_rfl) ?_
       refine Q01 rfl ?_
       go_wp2_with fail
       (with_reducible refine (Qcv p (L.map (·.2)) cs a _ _ _ w8a (HS_w8.out.extend Y_w8a.out).prog (HS_w8.out.extend Y_w8a.out).mem (HI8.out.ext Y_w8a.out) Ha.out).mono ?_)
       rintro e w8ac ⟨s1,s2,s3,s4,E,fin,value,steps,seen,mem,rfl,hx,hsh,hb,hA⟩
       have Y_w8ac:=zh (Y_w8a.out.trans hx)
       have Hln:=zh (Qb9 hsh)
       have Hb:=zh hb
       have HA:=zh hA
       have BK_w8ac:=zh (BK_w8a.out.ext hx)
       clear hx hsh hb hA
       go_wp2
       refine ⟨HX.out.trans Y_w8ac.out,Q05 ?_⟩
       refine Q0h (i:=13) (by decide) (by kernel_rfl) ?_
       refine Q01 rfl ?_
       go_wp2
       refine ⟨HX.out.trans Y_w8ac.out,Q05 ?_⟩
       refine Q38 (i:=14) (j:=15) (by decide) (by kernel_rfl) ?_ ?_
       ·refine Q01 rfl ?_
        go_wp2
        refine ⟨HX.out.trans Y_w8ac.out,Q05 ?_⟩
        refine Q38 (i:=15) (j:=17) (by decide) (by kernel_rfl) ?_ ?_
        ·refine Q01 rfl ?_
         go_wp2
         refine ⟨HX.out.trans Y_w8ac.out,Q05 ?_⟩
         refine Q0h (i:=17) (by decide) (by kernel_rfl) ?_
         refine Q01 rfl ?_
         obtain ⟨z0,z1,z2,z3,z4,hgal⟩:=Q0u BK_w8ac.out
         go_wp2
         obtain ⟨w8acs,hn,yn,bn⟩:=Q2u BK_w8ac.out Y_w8ac.out hgb (.int .i64 fin) (.int .i64 value) (.int .i64 (steps:Int)) (.slice s1 seen.length s2) (.slice s3 mem.length s4)
         rw [← hn]
         have Y_w8acs:=zh yn
         have BK_w8acs:=zh bn
         clear yn bn hn z0 z1 z2 z3 z4 hgal
         refine ⟨HX.out.trans Y_w8acs.out,Q05 ?_⟩
         refine Q0h (i:=18) (by decide) (by kernel_rfl) ?_
         refine Q01 rfl ?_
         go_wp2
         refine ⟨HX.out.trans Y_w8acs.out,Q05 ?_⟩
         refine Q2d (by decide) ?_
         obtain ⟨z0,z1,z2,z3,z4,hgal⟩:=Q0u BK_w8acs.out
         go_wp2_with fail
         (with_reducible refine (Q2x E fin value steps seen.length s1 s2 _ w8acs Hln.out.1 Hln.out.2 Hb.out.1 Hb.out.2.1 Hb.out.2.2.1 Hb.out.2.2.2.1 Hb.out.2.2.2.2).mono ?_)
         rintro e wZ ⟨rfl,hx⟩
         have HSZ:=zh (HS_w8.out.extend (Y_w8acs.out.trans hx))
         clear hx z0 z1 z2 z3 z4
         rw [HA.out]
         go_wp2
         go_ret
         exact Q07.same (s:=⟨p,L.map (·.2)⟩) rfl HSZ.out
        ·refine Q01 rfl ?_
         obtain ⟨z0,z1,z2,z3,z4,hgal⟩:=Q0u BK_w8ac.out
         go_wp2
         obtain ⟨w8acs,hn,yn,bn⟩:=Q2u BK_w8ac.out Y_w8ac.out hgb (.int .i64 fin) (.int .i64 value) (.int .i64 (steps:Int)) (.slice s1 seen.length s2) (.slice s3 mem.length s4)
         rw [← hn]
         have Y_w8acs:=zh yn
         have BK_w8acs:=zh bn
         clear yn bn hn z0 z1 z2 z3 z4 hgal
         refine ⟨HX.out.trans Y_w8acs.out,Q05 ?_⟩
         refine Q0h (i:=15) (by decide) (by kernel_rfl) ?_
         refine Q01 rfl ?_
         go_wp2
         refine ⟨HX.out.trans Y_w8acs.out,Q05 ?_⟩
         refine Q0h (i:=18) (by decide) (by kernel_rfl) ?_
         refine Q01 rfl ?_
         go_wp2
         refine ⟨HX.out.trans Y_w8acs.out,Q05 ?_⟩
         refine Q2d (by decide) ?_
         obtain ⟨z0,z1,z2,z3,z4,hgal⟩:=Q0u BK_w8acs.out
         go_wp2_with fail
         (with_reducible refine (Q2x E fin value steps seen.length s1 s2 _ w8acs Hln.out.1 Hln.out.2 Hb.out.1 Hb.out.2.1 Hb.out.2.2.1 Hb.out.2.2.2.1 Hb.out.2.2.2.2).mono ?_)
         rintro e wZ ⟨rfl,hx⟩
         have HSZ:=zh (HS_w8.out.extend (Y_w8acs.out.trans hx))
         clear hx z0 z1 z2 z3 z4
         rw [HA.out]
         go_wp2
         go_ret
         exact Q07.same (s:=⟨p,L.map (·.2)⟩) rfl HSZ.out
       ·refine Q01 rfl ?_
        go_wp2
        refine ⟨HX.out.trans Y_w8ac.out,Q05 ?_⟩
        refine Q0h (i:=14) (by decide) (by kernel_rfl) ?_
        refine Q01 rfl ?_
        go_wp2
        refine ⟨HX.out.trans Y_w8ac.out,Q05 ?_⟩
        refine Q0h (i:=17) (by decide) (by kernel_rfl) ?_
        refine Q01 rfl ?_
        obtain ⟨z0,z1,z2,z3,z4,hgal⟩:=Q0u BK_w8ac.out
        go_wp2
        obtain ⟨w8acs,hn,yn,bn⟩:=Q2u BK_w8ac.out Y_w8ac.out hgb (.int .i64 fin) (.int .i64 value) (.int .i64 (steps:Int)) (.slice s1 seen.length s2) (.slice s3 mem.length s4)
        rw [← hn]
        have Y_w8acs:=zh yn
        have BK_w8acs:=zh bn
        clear yn bn hn z0 z1 z2 z3 z4 hgal
        refine ⟨HX.out.trans Y_w8acs.out,Q05 ?_⟩
        refine Q0h (i:=18) (by decide) (by kernel_rfl) ?_
        refine Q01 rfl ?_
        go_wp2
        refine ⟨HX.out.trans Y_w8acs.out,Q05 ?_⟩
        refine Q2d (by decide) ?_
        obtain ⟨z0,z1,z2,z3,z4,hgal⟩:=Q0u BK_w8acs.out
        go_wp2_with fail
        (with_reducible refine (Q2x E fin value steps seen.length s1 s2 _ w8acs Hln.out.1 Hln.out.2 Hb.out.1 Hb.out.2.1 Hb.out.2.2.1 Hb.out.2.2.2.1 Hb.out.2.2.2.2).mono ?_)
        rintro e wZ ⟨rfl,hx⟩
        have HSZ:=zh (HS_w8.out.extend (Y_w8acs.out.trans hx))
        clear hx z0 z1 z2 z3 z4
        rw [HA.out]
        go_wp2
        go_ret
        exact Q07.same (s:=⟨p,L.map (·.2)⟩) rfl HSZ.out
end
theorem Qjf {w0 w:World} {B g:Nat} {vR vC vM:Value} {p:Q00} {L:List (Value × List Int)} {t:List UInt8} (h:PlSt w0 w B g 31 vR vC vM p L) (hg:Q0x ⟨p,L.map (·.2)⟩) (ht:Tab9 w0) (hT:t.length≤1000000000) :
  Calls Tryz.prog 6 #[.pointer (some ⟨g,0,none⟩),str t] w (Q07 (Q20 layD ⟨p,L.map (·.2)⟩ t) w0 B g 31):=by
 obtain ⟨W0,ws,hs⟩:∃ W0 ws,Q08 32 t=W0 :: ws:=by
  cases hq:Q08 32 t with
  | nil=>exact absurd hq (Q86 32 t)
  | cons a b=>exact ⟨a,b,rfl⟩
 cases hn:Q0m ws with
 | none =>
  rw [Qj2 hs hn]
  exact Qs1 h hg hT W0 hs hn
 | some l =>
  rw [Qj1 hs hn]
  have hml:(L.map (·.2)).length=L.length:=List.length_map _
  by_cases h_region:W0=[114,101,103,105,111,110]
  ·subst h_region
   rw [Qie]
   by_cases hl:l.length=2
   case neg =>
    rw [if_neg hl]
    cases l with
    | nil=>exact Q8k h hg hT [114,101,103,105,111,110] (by decide) (by decide) (by decide) (by decide) hs hn
    | cons a cs=>exact Q70 h hg hT [114,101,103,105,111,110] a cs (fun _=>by simpa using hl) (fun e=>absurd e (by decide)) (fun e=>absurd e (by decide)) (fun e=>absurd e (by decide)) (by decide) (by decide) hs hn
   obtain ⟨a,b,rfl⟩:=len2 hl
   rw [if_pos hl]
   exact Qs0 h hg hT a b hs hn
  by_cases h_fill:W0=[102,105,108,108]
  ·subst h_fill
   rw [Qii]
   cases l with
   | nil =>
    rw [if_neg (by simp)]
    exact Q8k h hg hT [102,105,108,108] (by decide) (by decide) (by decide) (by decide) hs hn
   | cons a cs =>
    rw [if_pos (by simp)]
    by_cases ha:a < 0∨(L.length:Int)≤a
    ·rw [Qu2 (by simpa only [hml] using ha)]
     exact Qjg h hg hT [102,105,108,108] a cs (.inl rfl) ha hs hn
    ·obtain ⟨i,rfl⟩:∃ i:Nat,a=(i:Int):=⟨a.toNat,by omega⟩
     have hi:i < L.length:=by omega
     have hLi:L[i]? = some (L[i].1,L[i].2):=by simp [hi]
     exact Qs4 h hg hT i cs _ _ hLi hs hn
  by_cases h_look:W0=[108,111,111,107]
  ·subst h_look
   rw [Qig]
   by_cases hl:l.length=1
   case neg =>
    rw [if_neg (fun hh=>hl hh.1)]
    cases l with
    | nil=>exact Q8k h hg hT [108,111,111,107] (by decide) (by decide) (by decide) (by decide) hs hn
    | cons a cs=>exact Q70 h hg hT [108,111,111,107] a cs (fun e=>absurd e (by decide)) (fun e=>absurd e (by decide)) (fun e=>absurd e (by decide)) (fun _=>by simpa using hl) (by decide) (by decide) hs hn
   obtain ⟨a,rfl⟩:=len1 hl
   by_cases ha:a < 0∨(L.length:Int)≤a
   ·rw [if_neg (by simp only [List.getD_cons_zero,hml];omega)]
    exact Qjg h hg hT [108,111,111,107] a [] (.inr rfl) ha hs hn
   ·obtain ⟨i,rfl⟩:∃ i:Nat,a=(i:Int):=⟨a.toNat,by omega⟩
    have hi:i < L.length:=by omega
    have hLi:L[i]? = some (L[i].1,L[i].2):=by simp [hi]
    rw [if_pos ⟨hl,by simp only [List.getD_cons_zero,hml];omega⟩]
    have e:(L.map (·.2)).getD (([(i:Int)].getD 0 0).toNat) []=L[i].2:=by simp [hi]
    show Calls _ _ _ _ (Q07 (sayT isW ((L.map (·.2)).getD (([(i:Int)].getD 0 0).toNat) []),_) _ _ _ _)
    rw [e]
    exact Qs2 h hg hT i _ _ hLi hs hn
  by_cases h_ins:W0=[105,110,115]
  ·subst h_ins
   rw [Qih]
   by_cases hl:l.length=5
   case neg =>
    rw [if_neg (fun hh=>hl hh.1)]
    cases l with
    | nil=>exact Q8k h hg hT [105,110,115] (by decide) (by decide) (by decide) (by decide) hs hn
    | cons a cs=>exact Q70 h hg hT [105,110,115] a cs (fun e=>absurd e (by decide)) (fun _=>by simpa using hl) (fun e=>absurd e (by decide)) (fun e=>absurd e (by decide)) (by decide) (by decide) hs hn
   obtain ⟨a,b,c,d,n,rfl⟩:=len5 hl
   have hk:=Qs3 h hg hT a b c d n hs hn
   by_cases hc:p.code.length < 200
   ·rw [if_pos ⟨hl,hc⟩]
    rw [if_pos hc] at hk
    exact hk
   ·rw [if_neg (fun hh=>hc hh.2)]
    rw [if_neg hc] at hk
    exact hk
  by_cases h_run:W0=[114,117,110]
  ·subst h_run
   rw [Qid]
   by_cases hl:l.length=1
   case neg =>
    rw [if_neg hl]
    cases l with
    | nil=>exact Q8k h hg hT [114,117,110] (by decide) (by decide) (by decide) (by decide) hs hn
    | cons a cs=>exact Q70 h hg hT [114,117,110] a cs (fun e=>absurd e (by decide)) (fun e=>absurd e (by decide)) (fun _=>by simpa using hl) (fun e=>absurd e (by decide)) (by decide) (by decide) hs hn
   obtain ⟨a,rfl⟩:=len1 hl
   rw [if_pos hl]
   exact Qrz h hg hT a hs hn
  by_cases h_ahead:W0=[97,104,101,97,100]
  ·subst h_ahead
   rw [Qij]
   cases l with
   | nil =>
    rw [if_neg (by simp)]
    exact Q8k h hg hT [97,104,101,97,100] (by decide) (by decide) (by decide) (by decide) hs hn
   | cons a cs =>
    rw [if_pos (by simp)]
    exact Qs5 h hg hT a cs hs hn
  by_cases h_check:W0=[99,104,101,99,107]
  ·subst h_check
   cases l with
   | nil=>exact Qbw h hg hT ht.tabs [99,104,101,99,107] (.inl rfl) hs hn
   | cons a cs =>
    rw [Qa7,if_neg (by simp)]
    exact Q70 h hg hT [99,104,101,99,107] a cs (fun e=>absurd e (by decide)) (fun e=>absurd e (by decide)) (fun e=>absurd e (by decide)) (fun e=>absurd e (by decide)) (by decide) (by decide) hs hn
  by_cases h_hard:W0=[104,97,114,100]
  ·subst h_hard
   cases l with
   | nil=>exact Qbw h hg hT ht.tabs [104,97,114,100] (.inr (.inl rfl)) hs hn
   | cons a cs =>
    rw [Qa6,if_neg (by simp)]
    exact Q70 h hg hT [104,97,114,100] a cs (fun e=>absurd e (by decide)) (fun e=>absurd e (by decide)) (fun e=>absurd e (by decide)) (fun e=>absurd e (by decide)) (by decide) (by decide) hs hn
  by_cases h_text:W0=[116,101,120,116]
  ·subst h_text
   cases l with
   | nil=>exact Qbw h hg hT ht.tabs [116,101,120,116] (.inr (.inr (.inl rfl))) hs hn
   | cons a cs =>
    rw [Qa4,if_neg (by simp)]
    exact Q70 h hg hT [116,101,120,116] a cs (fun e=>absurd e (by decide)) (fun e=>absurd e (by decide)) (fun e=>absurd e (by decide)) (fun e=>absurd e (by decide)) (by decide) (by decide) hs hn
  by_cases h_load:W0=[108,111,97,100]
  ·subst h_load
   cases l with
   | nil=>exact Qbw h hg hT ht.tabs [108,111,97,100] (.inr (.inr (.inr rfl))) hs hn
   | cons a cs =>
    rw [Qa5,if_neg (by simp)]
    exact Q70 h hg hT [108,111,97,100] a cs (fun e=>absurd e (by decide)) (fun e=>absurd e (by decide)) (fun e=>absurd e (by decide)) (fun e=>absurd e (by decide)) (by decide) (by decide) hs hn
  rw [Qif h_region h_fill h_look h_ins h_run h_ahead h_check h_hard h_text h_load]
  cases l with
  | nil=>exact Q8k h hg hT W0 h_check h_hard h_text h_load hs hn
  | cons a cs=>exact Q70 h hg hT W0 a cs (fun e=>absurd e h_region) (fun e=>absurd e h_ins) (fun e=>absurd e h_run) (fun e=>absurd e h_look) h_fill h_ahead hs hn
set_option maxRecDepth 100000 in
set_option maxHeartbeats 16000000 in
theorem Qug (s:List UInt8) (hs:s.length≤1048576) (w:World) (ht:Tab9 w) :
  Calls Tryz.prog 3 #[str s] w fun e w'=>e=.returned (.bool true)∧Ext w w':=by
 have Hs:=zh hs
 have Ht:=zh ht
 have C:=zh (Qrt s (by omega) w)
 have Hlen:=zh (Q8z 10 s)
 have Hpl:=zh (fun x (hx:x ∈ Q08 10 s)=>Q98 10 s x hx)
 have Hlp:=zh (Qj0 s)
 have Hne:=zh (Q86 10 s)
 have HPL:Hid (Q8g layD s=goD layD Q2l ((Q2q s).take 40)):=zh rfl
 have HLD:Hid (Q2q s=if (Q08 10 s).getLastD []=[] then (Q08 10 s).dropLast else Q08 10 s):=zh rfl
 have hsl:=List.count_le_length (a:=(10:UInt8)) (l:=s)
 clear ht
 go_enter Tryz.func3,Tryz.ntmps3
 go_wp2_with fail
 (with_reducible refine C.out.mono ?_)
 clear C
 rintro e w1 ⟨v1,rfl,hown,hx⟩
 have X1:=zh hx
 have hn1:1≤(Q08 10 s).length:=by rw [Hlen.out];omega
 have hn9:(Q08 10 s).length≤1000000001:=by rw [Hlen.out];have:=Hs.out;omega
 obtain ⟨oa,ca,ba,rfl,hcw,-,-⟩:=Qhz hown (by simp)
 obtain ⟨kw,cw,hve,-,hc⟩:=own_at' hown (by omega)
 simp only [Value.slice.injEq,true_and] at hve
 obtain ⟨rfl,rfl⟩:=hve
 have hcells:∀ j,j < (Q08 10 s).length→w1.cell? ⟨kw,j,none⟩=some (str ((Q08 10 s).getD j [])):=fun j hj=>(hc j (str ((Q08 10 s).getD j [])) hj (by
  rw [List.getElem?_map,List.getD_eq_getElem?_getD,List.getElem?_eq_getElem hj]
  rfl)).1
 have Hcells:=zh hcells
 have hl:=hcells ((Q08 10 s).length - 1) (by omega)
 have hlast:(Q08 10 s).getD ((Q08 10 s).length - 1) []=(Q08 10 s).getLastD []:=(Qj7 Hne.out).symm
 rw [hlast] at hl
 clear hcells hx hlast hsl hown hc hs
 obtain ⟨n,hn⟩:∃ n,(Q08 10 s).length=n:=⟨_,rfl⟩
 have Hn:=zh hn
 rw [hn] at hcw hn1 hn9 hl ⊢
 clear hn
 have hix:=Q5l (oa:=some ⟨kw,0,none⟩) (n:=n) (b:=kw) (o:=0) (cap:=ca) (fun _=>rfl)
 have hw1:wrap64 ((n:Int) - 1)=((n - 1:Nat):Int):=by unfold wrap64;omega
 have hw2:IntKind.i64.wrap ((n:Int) - 1)=((n - 1:Nat):Int):=(Q8o _).trans hw1
 have hb1:(0:Int)≤((n - 1:Nat):Int):=by omega
 have hb2:((n - 1:Nat):Int) < (n:Int):=by omega
 have hst:=Qgj kw n ca (n - 1) (by omega) hcw
 generalize (Q08 10 s).getLastD []=Z at hl HLD
 by_cases hq:Z=[]
 ·have Hld:Hid (Q2q s=(Q08 10 s).dropLast):=zh (HLD.out.trans (if_pos hq))
  have Hln:Hid ((Q2q s).length=n - 1):=zh (by rw [Hld.out,List.length_dropLast,Hn.out])
  rw [hq] at hl
  obtain ⟨N,hN'⟩:∃ N:Nat,N=min (n - 1) 40:=⟨_,rfl⟩
  obtain ⟨m,hm⟩:∃ m:Nat,m=(n - 1):=⟨_,rfl⟩
  rw [← hm] at hN'
  have hLL:Hid (((Q2q s).take 40).length=N):=zh (by rw [List.length_take,Hln.out,hN',Nat.min_comm,hm])
  have hN40:N≤40:=by omega
  have hNn:N≤n:=by omega
  have hmn:m≤n:=by omega
  have hix2:=Q5l (oa:=some ⟨kw,0,none⟩) (n:=m) (b:=kw) (o:=0) (cap:=ca) (fun _=>rfl)
  go_upto_region 7 with fail
  have HL2:Hid (∀ j,j < N→((Q2q s).take 40).getD j []=(Q08 10 s).getD j []):=zh (fun j hj=>by
   rw [List.getD_eq_getElem?_getD,List.getElem?_take_of_lt (by omega),← List.getD_eq_getElem?_getD]
   exact Hlp.out.2.2 j (by rw [Hln.out];omega))
  generalize (Q2q s).take 40=LL at *
  rw [← hm]
  obtain ⟨w2,g,hg,hW,hx2,bP⟩:=Q16 w1 #[.slice none 0 0,.slice none 0 0,.slice none 0 0] 31
  rw [hW,hg]
  have hPl:PlSt w1 w2 w1.heap.size g 31 (.slice none 0 0) (.slice none 0 0) (.slice none 0 0) Q2l.p [] :=
   ⟨bP,World.ownsRow_nil _ _ _ _,World.ownsRow_nil _ _ _ _,World.ownsRow_nil _ _ _ _,Fam.nil _ _,hx2,by omega,Nat.le_refl _,by decide,by decide,by decide,by decide,fun r hr=>by simp [Q2l] at hr,fun i hi=>by simp [Q2l] at hi,fun x hx=>by simp at hx⟩
  have HP0:Hid (Q5o w1 w2 w1.heap.size g 31 LL 0 [] Q2l):=zh ⟨⟨_,_,_,[],rfl,hPl⟩,Qc2,by rw [List.drop_zero];rfl,by simp⟩
  have Hm:=zh hm
  have HN':=zh hN'
  clear hPl hg hW hx2 bP hl hm hN' hq
  go_loopw [5,6] (fun ov iv wr => ∃ (k:Nat) (O:List UInt8) (S:LPl),k≤N∧iv=.int .i64 (k:Int)∧ov=str O∧Q5o w1 wr w1.heap.size g 31 LL k O S) (fun _ iv _=>N - (intOf iv).toNat)
  case atStart=>exact ⟨0,[],Q2l,by omega,rfl,rfl,HP0.out⟩
  case round =>
   obtain ⟨k,O,S,hk,rfl,rfl,hI⟩:=hrel
   have HI:=zh hI
   have HB:Hid (Ext w1 wr):=zh (by
    obtain ⟨vR,vC,vM,L,-,hP⟩:=hI.st
    exact hP.ext)
   clear hI
   by_cases hlt:k < N
   ·have hin:(k:Int) < (m:Int):=by have:=HN'.out;omega
    have hin4:(k:Int) < 40:=by omega
    have c0:=(HB.out.kept (Hcells.out k (by rw [Hn.out];omega)))
    rw [← HL2.out k hlt] at c0
    have hT:(LL.getD k []).length≤1000000000:=by
     rw [HL2.out k hlt]
     exact Nat.le_trans (Hpl.out _ (Qag (by rw [Hn.out];omega))) (by have:=Hs.out;omega)
    have HT:=zh hT
    have hOl:=HI.out.len
    have hO4:O.length≤3000000:=by omega
    have hA:=Qab (t:=LL.getD k []) HI.out.good HI.out.fits
    have hNx:=zh (fun w' h'=>HI.out.next (w':=w') (by rw [hLL.out];exact hlt) h')
    obtain ⟨vR,vC,vM,L,hm,hP⟩:=HI.out.st
    have HPs:=zh hP
    have Hgood:Hid (Q0x ⟨S.p,L.map (·.2)⟩):=zh (by rw [hm];exact HI.out.good)
    have Hm2:=zh hm
    clear hm hP hT hOl
    generalize LL.getD k []=t at *
    have hS:(⟨S.p,L.map (·.2)⟩:LPl)=S:=by rw [Hm2.out]
    have CL:=Qjf HPs.out Hgood.out (Ht.out.ext X1.out) HT.out
    rw [hS] at CL
    have CL:=zh CL
    clear hS
    have hA3:(Q20 layD S t).1.length≤4000:=by omega
    have hO5:O.length≤4000000:=by omega
    have hA4:(Q20 layD S t).1.length≤4000000:=by omega
    have hA5:(O ++ (Q20 layD S t).1).length≤4000000:=by rw [List.length_append];omega
    have hadd:=Q85
    go_wp2_with fail
    (with_reducible refine CL.out.mono ?_)
    rintro e w3 ⟨rfl,h3⟩
    have HN:=zh (hNx.out w3 h3)
    clear CL c0 h3
    generalize (Q20 layD S t).1=Q at *
    go_wp2
    go_roundw
    case rel=>exact ⟨k+1,O ++ (Q ++ [10]),_,by omega,by go_num,by show Value.string (_ ++ _)=_;rw [Q2h,List.append_assoc],HN.out⟩
    case measure=>first | (simp [intOf];done) | (simp [intOf];omega)
   ·have hke:k=N:=by omega
    subst hke
    have HE:Hid (O=Q8g layD s):=zh (by
     have:=HI.out.eq
     rw [← hLL.out,List.drop_length,goD,List.append_nil] at this
     rw [this,HPL.out])
    have hfin:decide ((k:Int) < (m:Int))=false∨decide ((k:Int) < 40)=false:=by
     have:=HN'.out
     rcases (show m≤k∨40≤k by omega) with h | h
     ·exact .inl (decide_eq_false (by omega))
     ·exact .inr (decide_eq_false (by omega))
    have HC:=zh (Qko s (by have:=Hs.out;omega) wr (Ht.out.ext (X1.out.trans HB.out)))
    have HXr:=zh (X1.out.trans HB.out)
    rw [← HE.out] at HC
    have hself:(O == O)=true:=by simp
    rcases hfin with hf | hf
    ·have hf3:¬ (k < m):=fun h=>by
      have:=of_decide_eq_false hf
      omega
     have hf4:decide (k < m)=false:=decide_eq_false hf3
     have hf5:¬ ((k:Int) < (m:Int)):=of_decide_eq_false hf
     go_wp2_with fail
     (with_reducible refine HC.out.mono ?_)
     rintro e w4 ⟨rfl,hx⟩
     have HX4:=zh (HXr.out.trans hx)
     clear hx
     go_wp2
     go_ret
     exact ⟨rfl,HX4.out⟩
    ·by_cases hkm:(k:Int) < (m:Int)
     ·go_wp2_with fail
      (with_reducible refine HC.out.mono ?_)
      rintro e w4 ⟨rfl,hx⟩
      have HX4:=zh (HXr.out.trans hx)
      clear hx
      go_wp2
      go_ret
      exact ⟨rfl,HX4.out⟩
     ·have hf2:decide ((k:Int) < (m:Int))=false:=decide_eq_false hkm
      go_wp2_with fail
      (with_reducible refine HC.out.mono ?_)
      rintro e w4 ⟨rfl,hx⟩
      have HX4:=zh (HXr.out.trans hx)
      clear hx
      go_wp2
      go_ret
      exact ⟨rfl,HX4.out⟩
 ·have Hld:Hid (Q2q s=Q08 10 s):=zh (HLD.out.trans (if_neg hq))
  have Hln:Hid ((Q2q s).length=n):=zh (by rw [Hld.out,Hn.out])
  have hqf:(Z == [])=false:=by simpa using hq
  have hqe:Z.isEmpty=false:=by simpa using hq
  obtain ⟨N,hN'⟩:∃ N:Nat,N=min n 40:=⟨_,rfl⟩
  obtain ⟨m,hm⟩:∃ m:Nat,m=n:=⟨_,rfl⟩
  rw [← hm] at hN'
  have hLL:Hid (((Q2q s).take 40).length=N):=zh (by rw [List.length_take,Hln.out,hN',Nat.min_comm,hm])
  have hN40:N≤40:=by omega
  have hNn:N≤n:=by omega
  have hmn:m≤n:=by omega
  have hix2:=Q5l (oa:=some ⟨kw,0,none⟩) (n:=m) (b:=kw) (o:=0) (cap:=ca) (fun _=>rfl)
  go_upto_region 7 with fail
  have HL2:Hid (∀ j,j < N→((Q2q s).take 40).getD j []=(Q08 10 s).getD j []):=zh (fun j hj=>by
   rw [List.getD_eq_getElem?_getD,List.getElem?_take_of_lt (by omega),← List.getD_eq_getElem?_getD]
   exact Hlp.out.2.2 j (by rw [Hln.out];omega))
  generalize (Q2q s).take 40=LL at *
  try rw [← hm]
  obtain ⟨w2,g,hg,hW,hx2,bP⟩:=Q16 w1 #[.slice none 0 0,.slice none 0 0,.slice none 0 0] 31
  rw [hW,hg]
  have hPl:PlSt w1 w2 w1.heap.size g 31 (.slice none 0 0) (.slice none 0 0) (.slice none 0 0) Q2l.p [] :=
   ⟨bP,World.ownsRow_nil _ _ _ _,World.ownsRow_nil _ _ _ _,World.ownsRow_nil _ _ _ _,Fam.nil _ _,hx2,by omega,Nat.le_refl _,by decide,by decide,by decide,by decide,fun r hr=>by simp [Q2l] at hr,fun i hi=>by simp [Q2l] at hi,fun x hx=>by simp at hx⟩
  have HP0:Hid (Q5o w1 w2 w1.heap.size g 31 LL 0 [] Q2l):=zh ⟨⟨_,_,_,[],rfl,hPl⟩,Qc2,by rw [List.drop_zero];rfl,by simp⟩
  have Hm:=zh hm
  have HN':=zh hN'
  clear hPl hg hW hx2 bP hl hm hN' hq
  go_loopw [5,6] (fun ov iv wr => ∃ (k:Nat) (O:List UInt8) (S:LPl),k≤N∧iv=.int .i64 (k:Int)∧ov=str O∧Q5o w1 wr w1.heap.size g 31 LL k O S) (fun _ iv _=>N - (intOf iv).toNat)
  case atStart=>exact ⟨0,[],Q2l,by omega,rfl,rfl,HP0.out⟩
  case round =>
   obtain ⟨k,O,S,hk,rfl,rfl,hI⟩:=hrel
   have HI:=zh hI
   have HB:Hid (Ext w1 wr):=zh (by
    obtain ⟨vR,vC,vM,L,-,hP⟩:=hI.st
    exact hP.ext)
   clear hI
   by_cases hlt:k < N
   ·have hin:(k:Int) < (m:Int):=by have:=HN'.out;omega
    have hin4:(k:Int) < 40:=by omega
    have c0:=(HB.out.kept (Hcells.out k (by rw [Hn.out];omega)))
    rw [← HL2.out k hlt] at c0
    have hT:(LL.getD k []).length≤1000000000:=by
     rw [HL2.out k hlt]
     exact Nat.le_trans (Hpl.out _ (Qag (by rw [Hn.out];omega))) (by have:=Hs.out;omega)
    have HT:=zh hT
    have hOl:=HI.out.len
    have hO4:O.length≤3000000:=by omega
    have hA:=Qab (t:=LL.getD k []) HI.out.good HI.out.fits
    have hNx:=zh (fun w' h'=>HI.out.next (w':=w') (by rw [hLL.out];exact hlt) h')
    obtain ⟨vR,vC,vM,L,hm,hP⟩:=HI.out.st
    have HPs:=zh hP
    have Hgood:Hid (Q0x ⟨S.p,L.map (·.2)⟩):=zh (by rw [hm];exact HI.out.good)
    have Hm2:=zh hm
    clear hm hP hT hOl
    generalize LL.getD k []=t at *
    have hS:(⟨S.p,L.map (·.2)⟩:LPl)=S:=by rw [Hm2.out]
    have CL:=Qjf HPs.out Hgood.out (Ht.out.ext X1.out) HT.out
    rw [hS] at CL
    have CL:=zh CL
    clear hS
    have hA3:(Q20 layD S t).1.length≤4000:=by omega
    have hO5:O.length≤4000000:=by omega
    have hA4:(Q20 layD S t).1.length≤4000000:=by omega
    have hA5:(O ++ (Q20 layD S t).1).length≤4000000:=by rw [List.length_append];omega
    have hadd:=Q85
    go_wp2_with fail
    (with_reducible refine CL.out.mono ?_)
    rintro e w3 ⟨rfl,h3⟩
    have HN:=zh (hNx.out w3 h3)
    clear CL c0 h3
    generalize (Q20 layD S t).1=Q at *
    go_wp2
    go_roundw
    case rel=>exact ⟨k+1,O ++ (Q ++ [10]),_,by omega,by go_num,by show Value.string (_ ++ _)=_;rw [Q2h,List.append_assoc],HN.out⟩
    case measure=>first | (simp [intOf];done) | (simp [intOf];omega)
   ·have hke:k=N:=by omega
    subst hke
    have HE:Hid (O=Q8g layD s):=zh (by
     have:=HI.out.eq
     rw [← hLL.out,List.drop_length,goD,List.append_nil] at this
     rw [this,HPL.out])
    have hfin:decide ((k:Int) < (m:Int))=false∨decide ((k:Int) < 40)=false:=by
     have:=HN'.out
     rcases (show m≤k∨40≤k by omega) with h | h
     ·exact .inl (decide_eq_false (by omega))
     ·exact .inr (decide_eq_false (by omega))
    have HC:=zh (Qko s (by have:=Hs.out;omega) wr (Ht.out.ext (X1.out.trans HB.out)))
    have HXr:=zh (X1.out.trans HB.out)
    rw [← HE.out] at HC
    have hself:(O == O)=true:=by simp
    rcases hfin with hf | hf
    ·have hf3:¬ (k < m):=fun h=>by
      have:=of_decide_eq_false hf
      omega
     have hf4:decide (k < m)=false:=decide_eq_false hf3
     have hf5:¬ ((k:Int) < (m:Int)):=of_decide_eq_false hf
     go_wp2_with fail
     (with_reducible refine HC.out.mono ?_)
     rintro e w4 ⟨rfl,hx⟩
     have HX4:=zh (HXr.out.trans hx)
     clear hx
     go_wp2
     go_ret
     exact ⟨rfl,HX4.out⟩
    ·by_cases hkm:(k:Int) < (m:Int)
     ·go_wp2_with fail
      (with_reducible refine HC.out.mono ?_)
      rintro e w4 ⟨rfl,hx⟩
      have HX4:=zh (HXr.out.trans hx)
      clear hx
      go_wp2
      go_ret
      exact ⟨rfl,HX4.out⟩
     ·have hf2:decide ((k:Int) < (m:Int))=false:=decide_eq_false hkm
      go_wp2_with fail
      (with_reducible refine HC.out.mono ?_)
      rintro e w4 ⟨rfl,hx⟩
      have HX4:=zh (HXr.out.trans hx)
      clear hx
      go_wp2
      go_ret
      exact ⟨rfl,HX4.out⟩
end Go.Proofs.YtiafchefbehfbaaGreatDoor
