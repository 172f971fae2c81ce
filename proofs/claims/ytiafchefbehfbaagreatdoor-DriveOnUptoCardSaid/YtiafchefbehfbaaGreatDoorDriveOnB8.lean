/- Laid together from: TxN. -/
import Derived.Test.YtiafchefbehfbaaGreatDoorDriveOnB1
import Derived.Lib.ItoaNum
import Derived.Lib.ParseIntB
import Derived.Lib.ParseIntBTie
import Derived.Lib.Strings

namespace Go.Proofs.YtiafchefbehfbaaGreatDoor
set_option linter.unusedVariables false
set_option linter.unusedSimpArgs false
def isD (c:UInt8):Bool:=decide (48≤c.toNat) && decide (c.toNat≤57)
def valA (a:Nat) (l:List UInt8):Nat:=l.foldl (fun a c=>10 * a+(c.toNat - 48)) a
theorem Qev (a:Nat):valA a []=a:=rfl
theorem Qa3 (a:Nat) (c:UInt8) (l:List UInt8):valA a (c :: l)=valA (10 * a+(c.toNat - 48)) l:=by
 unfold valA
 rw [List.foldl_cons]
theorem Qk0 (a:Nat) (l r:List UInt8):valA a (l ++ r)=valA (valA a l) r:=List.foldl_append
theorem Qjz (l:List UInt8):∀ a:Nat,a≤valA a l:=by
 induction l with
 | nil=>exact fun a=>Nat.le_refl _
 | cons c l ih =>
  intro a
  rw [Qa3]
  have:=ih (10 * a+(c.toNat - 48))
  generalize c.toNat - 48=d at *
  omega
theorem Qs6 {l r:List UInt8} (h:l≠[]):(l ++ r).head? = l.head? := by
 cases l with
 | nil=>exact absurd rfl h
 | cons _ _=>rfl
theorem Qhv {c:UInt8} (h:isD c=true):48≤c.toNat∧c.toNat≤57:=by simpa [isD] using h
theorem Qa4 (d:Nat) (h:d < 10):(UInt8.ofNat (48+d)).toNat=48+d:=by
 rw [UInt8.toNat_ofNat']
 exact Nat.mod_eq_of_lt (by omega)
theorem Qhw (d:Nat) (h:d < 10):isD (UInt8.ofNat (48+d))=true:=by
 unfold isD
 rw [Qa4 d h]
 simp;omega
theorem Q9s:∀ (n u:Nat),u≤n→(Lib.decDigits u).all isD=true∧valA 0 (Lib.decDigits u)=u∧Lib.decDigits u≠[]∧((Lib.decDigits u).head? = some 48→u=0)
 | n,u,hn=>by
  by_cases h:u < 10
  ·rw [Lib.decDigits,dif_pos h]
   refine ⟨by simp only [List.all_cons,List.all_nil,Bool.and_true,Qhw u h],by simp only [Qa3,Qev,Qa4 u h];omega,by simp,fun e=>?_⟩
   simp only [List.head?_cons,Option.some.injEq] at e
   have:=congrArg UInt8.toNat e
   rw [Qa4 u h] at this
   simpa using this
  ·obtain ⟨m,rfl⟩:∃ m,n=m+1:=⟨n - 1,by omega⟩
   obtain ⟨h1,h2,h3,h4⟩:=Q9s m (u / 10) (by omega)
   rw [Lib.decDigits,dif_neg h]
   have hm:u % 10 < 10:=Nat.mod_lt _ (by omega)
   refine ⟨by simp only [List.all_append,List.all_cons,List.all_nil,Bool.and_true,Qhw _ hm,h1],by rw [Qk0,h2,Qa3,Qev,Qa4 _ hm];omega,by simp,fun e=>?_⟩
   rw [Qs6 h3] at e
   have:=h4 e
   omega
theorem Qcq (M:Nat) (hM:M≤18446744073709551615):∀ (l:List UInt8) (a:Nat),l.all isD=true→valA a l≤M→Lib.parseUintM M a l=.ok (valA a l)
 | [],a,_,_=>rfl
 | c :: l,a,ha,hv=>by
  simp only [List.all_cons,Bool.and_eq_true] at ha
  obtain ⟨c1,c2⟩:=Qhv ha.1
  rw [Qa3] at hv ⊢
  have:=Qjz l (10 * a+(c.toNat - 48))
  unfold Lib.parseUintM
  rw [if_pos ⟨c1,c2⟩,if_neg (by omega),if_neg (by omega),Nat.mul_comm]
  exact Qcq M hM l _ ha.2 hv
theorem Qnq {v:Int} (h:R64 v):Lib.parseIntB 64 (Lib.itoa v)=.ok v:=by
 obtain ⟨h0,h1⟩:=h
 unfold Lib.itoa
 by_cases hn:v < 0
 ·rw [if_pos hn]
  obtain ⟨k1,k2,k3,-⟩:=Q9s _ v.natAbs (Nat.le_refl _)
  have hp:Lib.parseUintB 64 (Lib.decDigits v.natAbs)=.ok v.natAbs:=by
   unfold Lib.parseUintB
   rw [if_neg k3,Qcq _ (by decide) _ 0 k1 (by rw [k2];omega),k2]
  unfold Lib.parseIntB
  simp only [show (45:UInt8).toNat=45 from rfl,or_true,if_true,hp,not_true_eq_false,false_and,if_false,true_and]
  rw [if_neg (by omega)]
  congr 1
  omega
 ·rw [if_neg hn]
  obtain ⟨k1,k2,k3,-⟩:=Q9s _ v.toNat (Nat.le_refl _)
  have hp:Lib.parseUintB 64 (Lib.decDigits v.toNat)=.ok v.toNat:=by
   unfold Lib.parseUintB
   rw [if_neg k3,Qcq _ (by decide) _ 0 k1 (by rw [k2];omega),k2]
  generalize Lib.decDigits v.toNat=l at *
  cases l with
  | nil=>exact absurd rfl k3
  | cons c r =>
   simp only [List.all_cons,Bool.and_eq_true] at k1
   obtain ⟨c1,c2⟩:=Qhv k1.1
   unfold Lib.parseIntB
   simp only
   rw [if_neg (show ¬ (c.toNat=43∨c.toNat=45) by omega),hp]
   simp only
   rw [if_neg (by omega),if_neg (by omega),if_neg (by omega)]
   congr 1
   omega
def numT (s:List UInt8) (most:Nat):Option Int :=
 match Lib.parseIntB 64 s with
 | .ok v=>if Lib.itoa v=s∧(Lib.trimPrefix s [45]).length≤most then some v else none
 | _=>none
theorem Qoe {s:List UInt8} {most:Nat} {v:Int}:numT s most=some v ↔ R64 v∧Lib.itoa v=s∧(Lib.trimPrefix s [45]).length≤most:=by
 constructor
 ·intro h
  unfold numT at h
  split at h
  ·rename_i u hu
   split at h
   ·rename_i hc
    obtain rfl:=Option.some.inj h
    have:=Lib.parseIntB_bounds hu
    exact ⟨⟨by simpa using this.1,by have:=this.2;simp at this;omega⟩,hc⟩
   ·cases h
  ·cases h
 ·rintro ⟨hr,rfl,hl⟩
  unfold numT
  rw [Qnq hr]
  exact if_pos ⟨rfl,hl⟩
theorem Qez (s:List UInt8):Lib.trimPrefix s [45]=if s.head? = some 45 then s.drop 1 else s:=by
 unfold Lib.trimPrefix Lib.hasPrefix
 cases s with
 | nil=>rfl
 | cons c r =>
  by_cases h:c=45
  ·subst h;rfl
  ·have:¬ (45:UInt8)=c:=fun e=>h e.symm
   simp [List.isPrefixOf,h,this]
end Go.Proofs.YtiafchefbehfbaaGreatDoor
