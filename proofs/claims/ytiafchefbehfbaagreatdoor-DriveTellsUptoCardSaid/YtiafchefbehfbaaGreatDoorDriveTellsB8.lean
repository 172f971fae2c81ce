/- Laid together from: TxN. -/
import Derived.Test.YtiafchefbehfbaaGreatDoorDriveTellsB1
import Derived.Lib.ItoaNum
import Derived.Lib.ParseIntB
import Derived.Lib.ParseIntBTie
import Derived.Lib.Strings

namespace Go.Proofs.YtiafchefbehfbaaGreatDoor
set_option linter.unusedVariables false
set_option linter.unusedSimpArgs false
def isD (c:UInt8):Bool:=decide (48≤c.toNat) && decide (c.toNat≤57)
def valA (a:Nat) (l:List UInt8):Nat:=l.foldl (fun a c=>10 * a+(c.toNat - 48)) a
theorem Q8x (a:Nat):valA a []=a:=rfl
theorem Q5z (a:Nat) (c:UInt8) (l:List UInt8):valA a (c :: l)=valA (10 * a+(c.toNat - 48)) l:=by
 unfold valA
 rw [List.foldl_cons]
theorem Qfz (a:Nat) (l r:List UInt8):valA a (l ++ r)=valA (valA a l) r:=List.foldl_append
theorem Qcp (l:List UInt8):∀ a:Nat,a≤valA a l:=by
 induction l with
 | nil=>exact fun a=>Nat.le_refl _
 | cons c l ih =>
  intro a
  rw [Q5z]
  have:=ih (10 * a+(c.toNat - 48))
  generalize c.toNat - 48=d at *
  omega
theorem Qk4 {l r:List UInt8} (h:l≠[]):(l ++ r).head? = l.head? := by
 cases l with
 | nil=>exact absurd rfl h
 | cons _ _=>rfl
theorem Q9h {c:UInt8} (h:isD c=true):48≤c.toNat∧c.toNat≤57:=by simpa [isD] using h
theorem Qb0 (d:Nat) (h:d < 10):(UInt8.ofNat (48+d)).toNat=48+d:=by
 rw [UInt8.toNat_ofNat']
 exact Nat.mod_eq_of_lt (by omega)
theorem Qjm (d:Nat) (h:d < 10):isD (UInt8.ofNat (48+d))=true:=by
 unfold isD
 rw [Qb0 d h]
 simp;omega
theorem Q7s:∀ (n u:Nat),u≤n→(Lib.decDigits u).all isD=true∧valA 0 (Lib.decDigits u)=u∧Lib.decDigits u≠[]∧((Lib.decDigits u).head? = some 48→u=0)
 | n,u,hn=>by
  by_cases h:u < 10
  ·rw [Lib.decDigits,dif_pos h]
   refine ⟨by simp only [List.all_cons,List.all_nil,Bool.and_true,Qjm u h],by simp only [Q5z,Q8x,Qb0 u h];omega,by simp,fun e=>?_⟩
   simp only [List.head?_cons,Option.some.injEq] at e
   have:=congrArg UInt8.toNat e
   rw [Qb0 u h] at this
   simpa using this
  ·obtain ⟨m,rfl⟩:∃ m,n=m+1:=⟨n - 1,by omega⟩
   obtain ⟨h1,h2,h3,h4⟩:=Q7s m (u / 10) (by omega)
   rw [Lib.decDigits,dif_neg h]
   have hm:u % 10 < 10:=Nat.mod_lt _ (by omega)
   refine ⟨by simp only [List.all_append,List.all_cons,List.all_nil,Bool.and_true,Qjm _ hm,h1],by rw [Qfz,h2,Q5z,Q8x,Qb0 _ hm];omega,by simp,fun e=>?_⟩
   rw [Qk4 h3] at e
   have:=h4 e
   omega
theorem Qf5:∀ (n:Nat) (l:List UInt8),l.length≤n→l≠[]→l.all isD=true→(l.length=1∨l.head? ≠ some 48)→Lib.decDigits (valA 0 l)=l
 | 0,l,hn,h0,_,_=>absurd (List.length_eq_zero_iff.1 (by omega)) h0
 | n+1,l,hn,h0,ha,hh=>by
  obtain ⟨r,d,rfl⟩:∃ r d,l=r ++ [d]:=⟨l.dropLast,l.getLast h0,(List.dropLast_concat_getLast h0).symm⟩
  have hd:isD d=true:=by simp at ha;exact ha.2
  obtain ⟨d1,d2⟩:=Q9h hd
  have hdd:UInt8.ofNat (48+(d.toNat - 48))=d:=by
   rw [show 48+(d.toNat - 48)=d.toNat by omega]
   exact UInt8.ofNat_toNat
  by_cases hr:r=[]
  ·subst hr
   simp only [List.nil_append,Q5z,Q8x]
   rw [Lib.decDigits,dif_pos (by omega)]
   simp only [Nat.mul_zero,Nat.zero_add,hdd]
  ·have hra:r.all isD=true:=by rw [List.all_append,Bool.and_eq_true] at ha;exact ha.1
   have hhd:r.head? ≠ some 48:=by
    rcases hh with hh | hh
    ·simp only [List.length_append,List.length_cons,List.length_nil] at hh
     exact absurd (List.length_eq_zero_iff.1 (by omega)) hr
    ·rwa [Qk4 hr] at hh
   have ih:=Qf5 n r (by simp at hn;omega) hr hra (.inr hhd)
   have hpos:1≤valA 0 r:=by
    cases r with
    | nil=>exact absurd rfl hr
    | cons c r' =>
     rw [Q5z]
     have:=Qcp r' (10 * 0+(c.toNat - 48))
     have hc:isD c=true:=by simp at hra;exact hra.1
     obtain ⟨c1,c2⟩:=Q9h hc
     have hne:c.toNat≠48:=fun e=>hhd (by rw [List.head?_cons,show c=48 from UInt8.toNat_inj.1 e])
     omega
   rw [Qfz,Q5z,Q8x,Lib.decDigits,dif_neg (by omega),show (10 * valA 0 r+(d.toNat - 48)) / 10=valA 0 r by omega,show (10 * valA 0 r+(d.toNat - 48)) % 10=d.toNat - 48 by omega,ih,hdd]
theorem Qds (M:Nat) (hM:M≤18446744073709551615):∀ (l:List UInt8) (a:Nat),l.all isD=true→valA a l≤M→Lib.parseUintM M a l=.ok (valA a l)
 | [],a,_,_=>rfl
 | c :: l,a,ha,hv=>by
  simp only [List.all_cons,Bool.and_eq_true] at ha
  obtain ⟨c1,c2⟩:=Q9h ha.1
  rw [Q5z] at hv ⊢
  have:=Qcp l (10 * a+(c.toNat - 48))
  unfold Lib.parseUintM
  rw [if_pos ⟨c1,c2⟩,if_neg (by omega),if_neg (by omega),Nat.mul_comm]
  exact Qds M hM l _ ha.2 hv
theorem Qpj {v:Int} (h:R64 v):Lib.parseIntB 64 (Lib.itoa v)=.ok v:=by
 obtain ⟨h0,h1⟩:=h
 unfold Lib.itoa
 by_cases hn:v < 0
 ·rw [if_pos hn]
  obtain ⟨k1,k2,k3,-⟩:=Q7s _ v.natAbs (Nat.le_refl _)
  have hp:Lib.parseUintB 64 (Lib.decDigits v.natAbs)=.ok v.natAbs:=by
   unfold Lib.parseUintB
   rw [if_neg k3,Qds _ (by decide) _ 0 k1 (by rw [k2];omega),k2]
  unfold Lib.parseIntB
  simp only [show (45:UInt8).toNat=45 from rfl,or_true,if_true,hp,not_true_eq_false,false_and,if_false,true_and]
  rw [if_neg (by omega)]
  congr 1
  omega
 ·rw [if_neg hn]
  obtain ⟨k1,k2,k3,-⟩:=Q7s _ v.toNat (Nat.le_refl _)
  have hp:Lib.parseUintB 64 (Lib.decDigits v.toNat)=.ok v.toNat:=by
   unfold Lib.parseUintB
   rw [if_neg k3,Qds _ (by decide) _ 0 k1 (by rw [k2];omega),k2]
  generalize Lib.decDigits v.toNat=l at *
  cases l with
  | nil=>exact absurd rfl k3
  | cons c r =>
   simp only [List.all_cons,Bool.and_eq_true] at k1
   obtain ⟨c1,c2⟩:=Q9h k1.1
   unfold Lib.parseIntB
   simp only
   rw [if_neg (show ¬ (c.toNat=43∨c.toNat=45) by omega),hp]
   simp only
   rw [if_neg (by omega),if_neg (by omega),if_neg (by omega)]
   congr 1
   omega
def numT (s:List UInt8) (most:Nat):Option Int :=
 match Lib.parseIntB 64 s with
 | .ok v=>if Lib.itoa v=s∧(Lib.trimPrefix s [45]).length≤most then some v else none
 | _=>none
theorem Qia {s:List UInt8} {most:Nat} {v:Int}:numT s most=some v ↔ R64 v∧Lib.itoa v=s∧(Lib.trimPrefix s [45]).length≤most:=by
 constructor
 ·intro h
  unfold numT at h
  split at h
  ·rename_i u hu
   split at h
   ·rename_i hc
    obtain rfl:=Option.some.inj h
    have:=Lib.parseIntB_bounds hu
    exact ⟨⟨by simpa using this.1,by have:=this.2;simp at this;omega⟩,hc⟩
   ·cases h
  ·cases h
 ·rintro ⟨hr,rfl,hl⟩
  unfold numT
  rw [Qpj hr]
  exact if_pos ⟨rfl,hl⟩
def Q64 (below:Bool):Int→List UInt8→Option Int
 | n,[]=>some n
 | n,c :: r =>
  if isD c=false then none
  else if n < Int.tdiv (-9223372036854775807+(c.toNat - 48:Nat)) 10∧(below=false∨n ≠ -922337203685477580∨c.toNat - 48≠8) then none
  else Q64 below (10 * n - (c.toNat - 48:Nat)) r
def bnd (below:Bool):Nat:=if below then 9223372036854775808 else 9223372036854775807
theorem Qm7 (d:Nat) (h:d≤9):Int.tdiv (-9223372036854775807+(d:Int)) 10=if d≤7 then -922337203685477580 else -922337203685477579:=by
 have:d=0∨d=1∨d=2∨d=3∨d=4∨d=5∨d=6∨d=7∨d=8∨d=9:=by omega
 rcases this with rfl | rfl | rfl | rfl | rfl | rfl | rfl | rfl | rfl | rfl <;> rfl
theorem Qi3 (below:Bool) (a d:Nat) (h:d≤9) (ha:a≤bnd below):(-(a:Int) < Int.tdiv (-9223372036854775807+(d:Int)) 10∧(below=false ∨ -(a:Int) ≠ -922337203685477580∨d≠8)) ↔ bnd below < 10 * a+d:=by
 rw [Qm7 d h]
 cases below
 ·simp only [bnd,Bool.false_eq_true,if_false,true_or,and_true]
  split <;> omega
 ·simp only [bnd,if_true,Bool.true_eq_false,false_or]
  split <;> omega
theorem Qbf (below:Bool):∀ (l:List UInt8) (a:Nat),a≤bnd below→Q64 below (-(a:Int)) l=if l.all isD=true∧valA a l≤bnd below then some (-(valA a l:Int)) else none
 | [],a,ha=>by simp [Q64,Q8x,ha]
 | c :: l,a,ha=>by
  unfold Q64
  by_cases hc:isD c=true
  ·obtain ⟨c1,c2⟩:=Q9h hc
   rw [if_neg (by simp [hc])]
   by_cases ho:bnd below < 10 * a+(c.toNat - 48)
   ·rw [if_pos ((Qi3 below a _ (by omega) ha).2 ho),if_neg]
    rintro ⟨-,h⟩
    rw [Q5z] at h
    have:=Qcp l (10 * a+(c.toNat - 48))
    omega
   ·rw [if_neg (fun h=>ho ((Qi3 below a _ (by omega) ha).1 h)),show 10 * -(a:Int) - ((c.toNat - 48:Nat):Int) = -((10 * a+(c.toNat - 48):Nat):Int) by omega,Qbf below l _ (by omega)]
    simp [hc,Q5z]
  ·rw [if_pos (by simpa using hc),if_neg (by simp [hc])]
def refN (s:List UInt8) (most:Nat):Option Int :=
 let below:=decide (s.head? = some 45)
 let t:=if s.head? = some 45 then s.drop 1 else s
 if t.length < 1∨most < t.length∨(t.head? = some 48∧(1 < t.length∨below=true)) then none
 else match Q64 below 0 t with
 | none=>none
 | some n=>some (if below then n else 0 - n)
theorem Qcq (s:List UInt8):Lib.trimPrefix s [45]=if s.head? = some 45 then s.drop 1 else s:=by
 unfold Lib.trimPrefix Lib.hasPrefix
 cases s with
 | nil=>rfl
 | cons c r =>
  by_cases h:c=45
  ·subst h;rfl
  ·have:¬ (45:UInt8)=c:=fun e=>h e.symm
   simp [List.isPrefixOf,h,this]
theorem Qh9 (s:List UInt8) (most:Nat):refN s most=numT s most:=by
 apply Option.ext
 intro v
 rw [Qia,Qcq]
 unfold refN
 by_cases hb:s.head? = some 45
 ·cases s with
  | nil=>cases hb
  | cons c r =>
   obtain rfl:c=45:=by simpa using hb
   simp only [List.head?_cons,decide_true,if_true,List.drop_succ_cons,List.drop_zero,or_true,and_true]
   rw [show (0:Int) = -((0:Nat):Int) from rfl,Qbf true r 0 (by simp [bnd])]
   constructor
   ·intro h
    split at h
    ·cases h
    ·rename_i hn
     rw [not_or,not_or] at hn
     split at h
     ·cases h
     ·rename_i n hl
      split at hl
      ·rename_i hd
       obtain rfl:=Option.some.inj hl
       obtain rfl:=Option.some.inj h
       simp only [bnd,if_true] at hd
       have hr0:r≠[]:=fun e=>hn.1 (by rw [e];simp)
       have hdv:=Qf5 _ r (Nat.le_refl _) hr0 hd.1 (.inr hn.2.2)
       have hpos:1≤valA 0 r:=by
        rcases Nat.eq_zero_or_pos (valA 0 r) with h0 | h0
        ·rw [h0,Lib.decDigits,dif_pos (by omega)] at hdv
         exact absurd (by rw [← hdv];rfl) hn.2.2
        ·exact h0
       refine ⟨⟨by omega,by omega⟩,?_,by omega⟩
       unfold Lib.itoa
       rw [if_pos (by omega),show (-(valA 0 r:Int)).natAbs=valA 0 r by omega,hdv]
      ·cases hl
   ·rintro ⟨⟨r0,r1⟩,he,hl⟩
    unfold Lib.itoa at he
    split at he
    ·rename_i hneg
     obtain rfl:=(List.cons.inj he).2
     obtain ⟨k1,k2,k3,k4⟩:=Q7s _ v.natAbs (Nat.le_refl _)
     have hlen:1≤(Lib.decDigits v.natAbs).length:=by
      rcases Nat.eq_zero_or_pos (Lib.decDigits v.natAbs).length with h0 | h0
      ·exact absurd (List.length_eq_zero_iff.1 h0) k3
      ·exact h0
     rw [if_neg (by rintro (h | h | h);omega;omega;have:=k4 h;omega),k2,if_pos ⟨k1,by simp [bnd];omega⟩]
     simp only [Option.some.injEq]
     omega
    ·rename_i hneg
     obtain ⟨k1,k2,k3,k4⟩:=Q7s _ v.toNat (Nat.le_refl _)
     rw [he] at k1
     simp [isD] at k1
 ·simp only [hb,decide_false,if_false,Bool.false_eq_true,or_false]
  rw [show (0:Int) = -((0:Nat):Int) from rfl,Qbf false s 0 (by simp [bnd])]
  constructor
  ·intro h
   split at h
   ·cases h
   ·rename_i hn
    rw [not_or,not_or] at hn
    split at h
    ·cases h
    ·rename_i n hl
     split at hl
     ·rename_i hd
      obtain rfl:=Option.some.inj hl
      obtain rfl:=Option.some.inj h
      simp only [bnd,Bool.false_eq_true,if_false] at hd
      have hs0:s≠[]:=fun e=>hn.1 (by rw [e];simp)
      have hh:s.length=1∨s.head? ≠ some 48:=by
       by_cases e:s.head? = some 48
       ·left
        have:¬ 1 < s.length:=fun e1=>hn.2.2 ⟨e,e1⟩
        omega
       ·exact .inr e
      have hdv:=Qf5 _ s (Nat.le_refl _) hs0 hd.1 hh
      refine ⟨⟨by omega,by omega⟩,?_,by omega⟩
      unfold Lib.itoa
      rw [if_neg (by omega),show (-((0:Nat):Int) - -(valA 0 s:Int)).toNat=valA 0 s by omega,hdv]
     ·cases hl
  ·rintro ⟨⟨r0,r1⟩,he,hl⟩
   unfold Lib.itoa at he
   split at he
   ·subst he
    simp at hb
   ·rename_i hneg
    subst he
    obtain ⟨k1,k2,k3,k4⟩:=Q7s _ v.toNat (Nat.le_refl _)
    have hlen:1≤(Lib.decDigits v.toNat).length:=by
     rcases Nat.eq_zero_or_pos (Lib.decDigits v.toNat).length with h0 | h0
     ·exact absurd (List.length_eq_zero_iff.1 h0) k3
     ·exact h0
    rw [if_neg (by
     rintro (h | h | ⟨h,h'⟩)
     ·omega
     ·omega
     ·have:=k4 h
      rw [this] at h'
      rw [Lib.decDigits,dif_pos (by omega)] at h'
      simp at h'),k2,if_pos ⟨k1,by simp [bnd];omega⟩]
    simp only [Option.some.injEq]
    omega
end Go.Proofs.YtiafchefbehfbaaGreatDoor
