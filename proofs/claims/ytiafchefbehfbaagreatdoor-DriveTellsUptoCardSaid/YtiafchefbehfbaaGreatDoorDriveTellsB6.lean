/- Laid together from: CheckP, Rk. -/
import Derived.Test.YtiafchefbehfbaaGreatDoorDriveTellsB5
import Derived.Test.YtiafchefbehfbaaGreatDoorDriveTellsB2

namespace Go.Proofs.YtiafchefbehfbaaGreatDoor
open Go.RowKit
set_option linter.unusedSimpArgs false
set_option linter.unusedVariables false
structure LKn where
 bits:Int
 sec:Bool
 deriving DecidableEq,Inhabited
abbrev KSt:=List LKn
def kg (s:KSt) (r:Int):LKn:=s.getD r.toNat default
def kset (s:KSt) (r:Int) (k:LKn):KSt:=s.set r.toNat k
def kopK (op:Int) (a b:LKn):LKn:=⟨kop op (nrm a.bits) (nrm b.bits),a.sec || b.sec⟩
def Q2y (a b:LKn):LKn:=⟨max (nrm a.bits) (nrm b.bits),a.sec || b.sec⟩
def Q0w (a b:LKn):LKn:=⟨min (nrm a.bits) (nrm b.bits),a.sec⟩
def kofK (n:Int):LKn:=⟨kof n,false⟩
def ksum (k:LKn) (n:Int):LKn:=if n < 0 then ⟨17,k.sec⟩ else kopK 1 k (kofK n)
def Q49:KSt:=List.replicate 8 ⟨0,false⟩
def Q60 (c:Int) (holds:Bool):Bool:=(decide (c=3) && holds) || (decide (c=4) && !holds) || ((decide (c=1) && holds) || (decide (c=2) && !holds))
def Q6j (c:Int) (holds:Bool):Bool:=(decide (c=3) && !holds) || (decide (c=4) && holds) || ((decide (c=1) && holds) || (decide (c=2) && !holds))
def Q1k (s:KSt) (i:LIns) (holds:Bool):KSt :=
 let a:=kg s i.a
 let b:=kg s i.b
 let s1:=if Q60 i.c holds then kset s i.a (Q0w a b) else s
 if Q6j i.c holds then kset s1 i.b (Q0w b a) else s1
def oneK (p:Q00) (s:KSt) (i:LIns):KSt :=
 if i.op=1 then kset s i.a (kofK i.n)
 else if i.op=2 then kset s i.a (kg s i.b)
 else if i.op=10 then kset s i.a (ksum (kg s i.b) i.n)
 else if i.op=3∨i.op=5 then kset s i.a ⟨17,(Q11 p i).secret⟩
 else if i.op=11 then kset s i.a (Q0w (kg s i.a) (kofK (i.n - 1)))
 else if i.op=4∨i.op=6∨i.op=12 then s
 else kset s i.a (kopK (i.op - 20) (kg s i.b) (kg s i.c))
def Q0o (p:Q00) (at_:Nat) (s:KSt) (i:LIns):List (Nat × KSt) :=
 if i.op=7 then [(i.n.toNat,s)]
 else if i.op=9 then []
 else if i.op=8 then [(at_+1,Q1k s i false),(i.n.toNat,Q1k s i true)]
 else [(at_+1,oneK p s i)]
def Kok (k:LKn):Prop:=0≤k.bits∧k.bits≤17
def Kle (a b:LKn):Prop:=a.bits≤b.bits∧(a.sec=true→b.sec=true)
structure Sok (s:KSt):Prop where
 len:s.length=8
 ok:∀ r:Nat,Kok (s.getD r default)
def Sle (s t:KSt):Prop := ∀ r:Nat,Kle (s.getD r default) (t.getD r default)
theorem Kle.refl (a:LKn):Kle a a:=⟨by omega,id⟩
theorem Kle.trans {a b c:LKn} (h:Kle a b) (k:Kle b c):Kle a c:=⟨by have:=h.1;have:=k.1;omega,fun x=>k.2 (h.2 x)⟩
theorem Kle.antisymm {a b:LKn} (h:Kle a b) (k:Kle b a):a=b:=by
 obtain ⟨x,y⟩:=a
 obtain ⟨u,v⟩:=b
 obtain ⟨h1,h2⟩:=h
 obtain ⟨k1,k2⟩:=k
 simp only at h1 h2 k1 k2
 have e:x=u:=by omega
 subst e
 cases y <;> cases v <;> simp_all
theorem Sle.refl (s:KSt):Sle s s:=fun _=>Kle.refl _
theorem Sle.trans {s t u:KSt} (h:Sle s t) (k:Sle t u):Sle s u:=fun r=>(h r).trans (k r)
theorem Sle.antisymm {s t:KSt} (hs:s.length=8) (ht:t.length=8) (h:Sle s t) (k:Sle t s):s=t:=by
 apply List.ext_getElem (by rw [hs,ht])
 intro r h1 h2
 have:=Kle.antisymm (h r) (k r)
 simpa [h1,h2] using this
theorem Q4v {k:LKn} (h:Kok k):nrm k.bits=k.bits:=Qqa h.1 h.2
theorem Qjc:Kok (default:LKn):=⟨by decide,by decide⟩
theorem kop_bd' (op a b:Int) (a0:0≤a) (a1:a≤17) (b0:0≤b) (b1:b≤17):0≤kop op a b∧kop op a b≤17:=by
 unfold kop kopN
 split
 ·split <;> omega
 repeat' (split <;> try omega)
theorem Qe6 (op:Int) (a b:LKn):Kok (kopK op a b):=kop_bd' op _ _ (Q66 _).1 (Q66 _).2 (Q66 _).1 (Q66 _).2
theorem Qs6 (a b:LKn):Kok (Q2y a b):=by
 have:=Q66 a.bits;have:=Q66 b.bits
 simp only [Kok,Q2y];omega
theorem Qbv (a b:LKn):Kok (Q0w a b):=by
 have:=Q66 a.bits;have:=Q66 b.bits
 simp only [Kok,Q0w];omega
theorem Q9g (n:Int):Kok (kofK n):=Qrx n
theorem Qj8 (k:LKn) (n:Int):Kok (ksum k n):=by
 unfold ksum
 split
 ·simp [Kok]
 ·exact Qe6 _ _ _
theorem Qs9 {a b:LKn} (ha:Kok a):Kle a (Q2y a b):=by
 simp only [Kle,Q2y,Q4v ha]
 refine ⟨by omega,fun h=>by simp [h]⟩
theorem Qs8 {a b:LKn} (hb:Kok b):Kle b (Q2y a b):=by
 simp only [Kle,Q2y,Q4v hb]
 refine ⟨by omega,fun h=>by simp [h]⟩
theorem Qs7 {a b c:LKn} (ha:Kok a) (hb:Kok b) (h:Kle a c) (k:Kle b c):Kle (Q2y a b) c:=by
 obtain ⟨h1,h2⟩:=h
 obtain ⟨k1,k2⟩:=k
 simp only [Kle,Q2y,Q4v ha,Q4v hb]
 refine ⟨by omega,fun e=>?_⟩
 simp only [Bool.or_eq_true] at e
 rcases e with e | e
 ·exact h2 e
 ·exact k2 e
theorem Qrv (op a b c d:Int) (a0:0≤a) (b0:0≤b) (h:a≤c) (k:b≤d):kop op a b≤kop op c d:=by
 have hn:kopN op a b≤kopN op c d:=by
  unfold kopN
  by_cases h1:op=1
  ·rw [if_pos h1,if_pos h1];split <;> split <;> omega
  rw [if_neg h1,if_neg h1]
  by_cases h3:op=3
  ·rw [if_pos h3,if_pos h3];split <;> split <;> omega
  rw [if_neg h3,if_neg h3]
  by_cases h4:op=4
  ·rw [if_pos h4,if_pos h4];omega
  rw [if_neg h4,if_neg h4]
  by_cases h5:op=5∨op=6
  ·rw [if_pos h5,if_pos h5];omega
  rw [if_neg h5,if_neg h5]
  by_cases h8:op=8∨op=9∨op=10
  ·rw [if_pos h8,if_pos h8];omega
  rw [if_neg h8,if_neg h8]
  omega
 unfold kop
 omega
theorem Qjb {op:Int} {a b c d:LKn} (ha:Kok a) (hb:Kok b) (hc:Kok c) (hd:Kok d) (h:Kle a c) (k:Kle b d):Kle (kopK op a b) (kopK op c d):=by
 simp only [Kle,kopK,Q4v ha,Q4v hb,Q4v hc,Q4v hd]
 refine ⟨Qrv op _ _ _ _ ha.1 hb.1 h.1 k.1,fun e=>?_⟩
 simp only [Bool.or_eq_true] at e ⊢
 rcases e with e | e
 ·exact .inl (h.2 e)
 ·exact .inr (k.2 e)
theorem Qe7 {a b c d:LKn} (ha:Kok a) (hb:Kok b) (hc:Kok c) (hd:Kok d) (h:Kle a c) (k:Kle b d):Kle (Q0w a b) (Q0w c d):=by
 simp only [Kle,Q0w,Q4v ha,Q4v hb,Q4v hc,Q4v hd]
 have:=h.1;have:=k.1
 exact ⟨by omega,h.2⟩
theorem Qrs {a b:LKn} (n:Int) (ha:Kok a) (hb:Kok b) (h:Kle a b):Kle (ksum a n) (ksum b n):=by
 unfold ksum
 split
 ·exact ⟨by simp,h.2⟩
 ·exact Qjb ha (Q9g n) hb (Q9g n) h (Kle.refl _)
theorem Sok.kg {s:KSt} (h:Sok s) (r:Int):Kok (kg s r):=h.ok _
theorem Q9f (s:KSt) (r:Int) (k:LKn) (j:Nat):(kset s r k).getD j default=if j=r.toNat∧j < s.length then k else s.getD j default:=by
 unfold kset
 rw [List.getD_eq_getElem?_getD,List.getD_eq_getElem?_getD,List.getElem?_set]
 by_cases h:r.toNat=j
 ·subst h
  by_cases h2:r.toNat < s.length
  ·simp [h2]
  ·simp [h2]
 ·rw [if_neg h,if_neg (by omega)]
theorem Sok.set {s:KSt} (h:Sok s) (r:Int) {k:LKn} (hk:Kok k):Sok (kset s r k):=by
 refine ⟨by simp [kset,h.len],fun j=>?_⟩
 rw [Q9f]
 split
 ·exact hk
 ·exact h.ok j
theorem Sle.set {s t:KSt} (hs:s.length=8) (ht:t.length=8) (h:Sle s t) (r:Int) {a b:LKn} (k:Kle a b):Sle (kset s r a) (kset t r b):=fun j=>by
 rw [Q9f,Q9f,hs,ht]
 split
 ·exact k
 ·exact h j
theorem Qfe {s:KSt} (h:Sok s) (i:LIns) (b:Bool):Sok (Q1k s i b):=by
 simp only [Q1k]
 have h1:Sok (if Q60 i.c b then kset s i.a (Q0w (kg s i.a) (kg s i.b)) else s):=by
  split
  ·exact h.set _ (Qbv _ _)
  ·exact h
 split
 ·exact h1.set _ (Qbv _ _)
 ·exact h1
theorem Qky {s t:KSt} (hs:Sok s) (ht:Sok t) (h:Sle s t) (i:LIns) (b:Bool):Sle (Q1k s i b) (Q1k t i b):=by
 simp only [Q1k]
 have ka:Kle (kg s i.a) (kg t i.a):=h _
 have kb:Kle (kg s i.b) (kg t i.b):=h _
 have l1:=Qe7 (hs.kg i.a) (hs.kg i.b) (ht.kg i.a) (ht.kg i.b) ka kb
 have l2:=Qe7 (hs.kg i.b) (hs.kg i.a) (ht.kg i.b) (ht.kg i.a) kb ka
 cases Q60 i.c b <;> cases Q6j i.c b <;> simp only [if_true,if_false,Bool.false_eq_true]
 ·exact h
 ·exact Sle.set hs.len ht.len h _ l2
 ·exact Sle.set hs.len ht.len h _ l1
 ·exact Sle.set (by simp [kset,hs.len]) (by simp [kset,ht.len]) (Sle.set hs.len ht.len h _ l1) _ l2
theorem Qq1 (p:Q00) {s:KSt} (h:Sok s) (i:LIns):Sok (oneK p s i):=by
 unfold oneK
 repeat' split
 ·exact h.set _ (Q9g _)
 ·exact h.set _ (h.kg _)
 ·exact h.set _ (Qj8 _ _)
 ·exact h.set _ ⟨by simp,by simp⟩
 ·exact h.set _ (Qbv _ _)
 ·exact h
 ·exact h.set _ (Qe6 _ _ _)
theorem Qq2 (p:Q00) {s t:KSt} (hs:Sok s) (ht:Sok t) (h:Sle s t) (i:LIns):Sle (oneK p s i) (oneK p t i):=by
 unfold oneK
 repeat' split
 ·exact Sle.set hs.len ht.len h _ (Kle.refl _)
 ·exact Sle.set hs.len ht.len h _ (h _)
 ·exact Sle.set hs.len ht.len h _ (Qrs _ (hs.kg _) (ht.kg _) (h _))
 ·exact Sle.set hs.len ht.len h _ (Kle.refl _)
 ·exact Sle.set hs.len ht.len h _ (Qe7 (hs.kg _) (Q9g _) (ht.kg _) (Q9g _) (h _) (Kle.refl _))
 ·exact h
 ·exact Sle.set hs.len ht.len h _ (Qjb (hs.kg _) (hs.kg _) (ht.kg _) (ht.kg _) (h _) (h _))
theorem Qe5 (p:Q00) (k:Nat) {s:KSt} (h:Sok s) (i:LIns):∀ x ∈ Q0o p k s i,Sok x.2:=by
 intro x hx
 unfold Q0o at hx
 repeat' split at hx
 ·simp at hx;subst hx;exact h
 ·simp at hx
 ·simp at hx;rcases hx with rfl | rfl <;> exact Qfe h i _
 ·simp at hx;subst hx;exact Qq1 p h i
theorem Qrn (p:Q00) (k:Nat) {s t:KSt} (hs:Sok s) (ht:Sok t) (h:Sle s t) (i:LIns):∀ x ∈ Q0o p k s i,∃ y ∈ Q0o p k t i,x.1=y.1∧Sle x.2 y.2:=by
 intro x hx
 unfold Q0o at hx ⊢
 split at hx
 ·rename_i h7
  rw [if_pos h7]
  simp at hx;subst hx
  exact ⟨(i.n.toNat,t),by simp,rfl,h⟩
 rename_i h7
 rw [if_neg h7]
 split at hx
 ·simp at hx
 rename_i h9
 rw [if_neg h9]
 split at hx
 ·rename_i h8
  rw [if_pos h8]
  simp at hx
  rcases hx with rfl | rfl
  ·exact ⟨(k+1,Q1k t i false),by simp,rfl,Qky hs ht h i _⟩
  ·exact ⟨(i.n.toNat,Q1k t i true),by simp,rfl,Qky hs ht h i _⟩
 ·rename_i h8
  rw [if_neg h8]
  simp at hx;subst hx
  exact ⟨(k+1,oneK p t i),by simp,rfl,Qq2 p hs ht h i⟩
abbrev Tab:=List (Option KSt)
def tg (T:Tab) (k:Nat):Option KSt:=T.getD k none
structure Tok (p:Q00) (T:Tab):Prop where
 len:T.length=p.code.length
 ok:∀ k s,tg T k=some s→Sok s
def Q1t (p:Q00) (k:Nat):LIns:=p.code.getD k default
def Led (p:Q00) (T:Tab) (x:Nat × KSt):Prop:=x.1 < p.code.length→∃ t,tg T x.1=some t∧Sle x.2 t
structure Post (p:Q00) (T:Tab):Prop where
 tok:Tok p T
 first:∃ s,tg T 0=some s∧Sle Q49 s
 leads:∀ k s,tg T k=some s→∀ x ∈ Q0o p k s (Q1t p k),Led p T x
def Tle (T U:Tab):Prop := ∀ k s,tg T k=some s→∃ t,tg U k=some t∧Sle s t
def Q8u (p:Q00) (T:Tab):Prop := ∀ U,Post p U→Tle T U
structure Q6q (p:Q00) (T:Tab):Prop where
 post:Post p T
 under:Q8u p T
theorem Qrl {p:Q00} {T U:Tab} (h:Q6q p T) (k:Q6q p U):T=U:=by
 have h1:=h.under U k.post
 have h2:=k.under T h.post
 apply List.ext_getElem (by rw [h.post.tok.len,k.post.tok.len])
 intro j hj hj'
 have ea:tg T j=T[j]:=by simp [tg,hj]
 have eb:tg U j=U[j]:=by simp [tg,hj']
 rw [← ea,← eb]
 cases ht:tg T j with
 | none =>
  cases hu:tg U j with
  | none=>rfl
  | some s =>
   obtain ⟨t,e,_⟩:=h2 j s hu
   rw [ht] at e;cases e
 | some s =>
  obtain ⟨t,e,l1⟩:=h1 j s ht
  obtain ⟨s',e',l2⟩:=h2 j t e
  rw [ht] at e'
  obtain rfl:=Option.some.inj e'
  rw [e,Sle.antisymm (h.post.tok.ok j s ht).len (k.post.tok.ok j t e).len l1 l2]
def Q18 (a b:KSt):KSt:=(List.range 8).map fun r=>Q2y (a.getD r default) (b.getD r default)
def Q1d (T:Tab) (x:Nat × KSt):Tab :=
 match tg T x.1 with
 | none=>T.set x.1 (some x.2)
 | some t=>T.set x.1 (some (Q18 x.2 t))
theorem Qb6 (a b:KSt) (r:Nat) (hr:r < 8):(Q18 a b).getD r default=Q2y (a.getD r default) (b.getD r default):=by
 simp [Q18,hr]
theorem Q90 (a b:KSt):Sok (Q18 a b):=by
 refine ⟨by simp [Q18],fun r=>?_⟩
 by_cases hr:r < 8
 ·rw [Qb6 a b r hr];exact Qs6 _ _
 ·have:(Q18 a b).length≤r:=by simp [Q18];omega
  simp only [List.getD_eq_getElem?_getD,List.getElem?_eq_none this]
  exact Qjc
theorem Q8q {s:KSt} (hs:s.length=8) {r:Nat} (hr:¬ r < 8):s.getD r default=default:=by
 simp only [List.getD_eq_getElem?_getD,List.getElem?_eq_none (show s.length≤r by omega)]
 rfl
theorem Qn8 {a b:KSt} (ha:Sok a):Sle a (Q18 a b):=fun r=>by
 by_cases hr:r < 8
 ·rw [Qb6 a b r hr];exact Qs9 (ha.ok r)
 ·rw [Q8q ha.len hr,Q8q (Q90 a b).len hr];exact Kle.refl _
theorem Qgl {a b:KSt} (hb:Sok b):Sle b (Q18 a b):=fun r=>by
 by_cases hr:r < 8
 ·rw [Qb6 a b r hr];exact Qs8 (hb.ok r)
 ·rw [Q8q hb.len hr,Q8q (Q90 a b).len hr];exact Kle.refl _
theorem Qn7 {a b c:KSt} (ha:Sok a) (hb:Sok b) (hc:Sok c) (h:Sle a c) (k:Sle b c):Sle (Q18 a b) c:=fun r=>by
 by_cases hr:r < 8
 ·rw [Qb6 a b r hr];exact Qs7 (ha.ok r) (hb.ok r) (h r) (k r)
 ·rw [Q8q hc.len hr,Q8q (Q90 a b).len hr];exact Kle.refl _
theorem Q9x (T:Tab) (k j:Nat) (o:Option KSt):tg (T.set k o) j=if k=j∧j < T.length then o else tg T j:=by
 unfold tg
 rw [List.getD_eq_getElem?_getD,List.getD_eq_getElem?_getD,List.getElem?_set]
 by_cases h:k=j
 ·subst h
  by_cases h2:k < T.length <;> simp [h2]
 ·rw [if_neg h,if_neg (by omega)]
theorem Qac {T:Tab} {x:Nat × KSt} (j:Nat) (hx:x.1 < T.length):tg (Q1d T x) j=if j=x.1 then some (match tg T x.1 with | none=>x.2 | some t=>Q18 x.2 t) else tg T j:=by
 unfold Q1d
 cases h:tg T x.1 with
 | none =>
  rw [Q9x]
  by_cases e:j=x.1
  ·rw [if_pos ⟨e.symm,by omega⟩,if_pos e]
  ·rw [if_neg (by omega),if_neg e]
 | some t =>
  rw [Q9x]
  by_cases e:j=x.1
  ·rw [if_pos ⟨e.symm,by omega⟩,if_pos e]
  ·rw [if_neg (by omega),if_neg e]
theorem Qsj (T:Tab) (x:Nat × KSt):(Q1d T x).length=T.length:=by
 unfold Q1d
 split <;> simp
theorem Qsi {p:Q00} {T:Tab} (h:Tok p T) {x:Nat × KSt} (hs:Sok x.2) (hx:x.1 < p.code.length):Tok p (Q1d T x):=by
 refine ⟨by rw [Qsj,h.len],fun k s hk=>?_⟩
 rw [Qac k (by rw [h.len];exact hx)] at hk
 split at hk
 ·cases ht:tg T x.1 with
  | none=>rw [ht] at hk;simp only [Option.some.injEq] at hk;subst hk;exact hs
  | some t=>rw [ht] at hk;simp only [Option.some.injEq] at hk;subst hk;exact Q90 _ _
 ·exact h.ok k s hk
theorem Qsl {p:Q00} {T:Tab} (h:Tok p T) {x:Nat × KSt} (hs:Sok x.2) (hx:x.1 < p.code.length):Tle T (Q1d T x):=by
 intro k s hk
 rw [Qac k (by rw [h.len];exact hx)]
 split
 ·rename_i e
  subst e
  rw [hk]
  exact ⟨_,rfl,Qgl (h.ok _ _ hk)⟩
 ·exact ⟨s,hk,Sle.refl s⟩
theorem Qsk {p:Q00} {T:Tab} (h:Tok p T) {x:Nat × KSt} (hs:Sok x.2):Led p (Q1d T x) x:=fun hx=>by
 rw [Qac x.1 (by rw [h.len];exact hx),if_pos rfl]
 refine ⟨_,rfl,?_⟩
 cases ht:tg T x.1 with
 | none=>exact Sle.refl _
 | some t=>exact Qn8 hs
theorem Tle.trans {T U V:Tab} (h:Tle T U) (k:Tle U V):Tle T V:=fun j s hj=>by
 obtain ⟨t,h1,h2⟩:=h j s hj
 obtain ⟨u,k1,k2⟩:=k j t h1
 exact ⟨u,k1,h2.trans k2⟩
theorem Tle.refl (T:Tab):Tle T T:=fun j s hj=>⟨s,hj,Sle.refl s⟩
theorem Led.mono {p:Q00} {T U:Tab} {x:Nat × KSt} (h:Led p T x) (k:Tle T U):Led p U x:=fun hx=>by
 obtain ⟨t,h1,h2⟩:=h hx
 obtain ⟨u,k1,k2⟩:=k _ t h1
 exact ⟨u,k1,h2.trans k2⟩
theorem Qsh {p:Q00} {T:Tab} (h:Tok p T) (hu:Q8u p T) {k:Nat} {s:KSt} (hk:∃ s',tg T k=some s'∧Sle s s') (hs:Sok s) {x:Nat × KSt} (hx:x ∈ Q0o p k s (Q1t p k)) (hn:x.1 < p.code.length):Q8u p (Q1d T x):=by
 intro U hU j t hj
 rw [Qac j (by rw [h.len];exact hn)] at hj
 split at hj
 ·rename_i e
  subst e
  obtain ⟨s',hk',l0⟩:=hk
  obtain ⟨u,hu1,hu2⟩:=hu U hU k s' hk'
  have hsu:=l0.trans hu2
  obtain ⟨y,hy,e1,l1⟩:=Qrn p k hs (hU.tok.ok k u hu1) hsu (Q1t p k) x hx
  obtain ⟨v,hv1,hv2⟩:=hU.leads k u hu1 y hy (by rw [← e1];exact hn)
  rw [← e1] at hv1
  refine ⟨v,hv1,?_⟩
  cases ht:tg T x.1 with
  | none=>rw [ht] at hj;simp only [Option.some.injEq] at hj;subst hj;exact l1.trans hv2
  | some t' =>
   rw [ht] at hj
   simp only [Option.some.injEq] at hj
   subst hj
   obtain ⟨w,hw1,hw2⟩:=hu U hU x.1 t' ht
   rw [hv1] at hw1
   obtain rfl:=Option.some.inj hw1
   exact Qn7 (Qe5 p k hs _ x hx) (h.ok _ _ ht) (hU.tok.ok _ _ hv1) (l1.trans hv2) hw2
 ·exact hu U hU j t hj
def Q3p (p:Q00):Tab:=(List.replicate p.code.length none).set 0 (some Q49)
theorem Qj9:Sok Q49:=by
 refine ⟨rfl,fun r=>?_⟩
 by_cases hr:r < 8
 ·have:Q49.getD r default=⟨0,false⟩:=by
   match r,hr with
   | 0,_ | 1,_ | 2,_ | 3,_ | 4,_ | 5,_ | 6,_ | 7,_=>rfl
  rw [this];exact ⟨by simp,by simp⟩
 ·rw [Q8q (s:=Q49) rfl hr];exact Qjc
theorem Qaj (p:Q00) (hp:0 < p.code.length) (k:Nat):tg (Q3p p) k=if k=0 then some Q49 else none:=by
 unfold Q3p
 rw [Q9x]
 by_cases h:k=0
 ·subst h;rw [if_pos ⟨rfl,by simpa using hp⟩,if_pos rfl]
 ·rw [if_neg (by omega),if_neg h]
  unfold tg
  rw [List.getD_eq_getElem?_getD]
  by_cases h2:k < p.code.length <;> simp [h2]
theorem Qtz (p:Q00) (hp:0 < p.code.length):Tok p (Q3p p):=by
 refine ⟨by simp [Q3p],fun k s hk=>?_⟩
 rw [Qaj p hp] at hk
 split at hk
 ·simp only [Option.some.injEq] at hk;subst hk;exact Qj9
 ·cases hk
theorem Qty (p:Q00) (hp:0 < p.code.length):Q8u p (Q3p p):=by
 intro U hU k s hk
 rw [Qaj p hp] at hk
 split at hk
 ·rename_i h
  simp only [Option.some.injEq] at hk;subst hk;subst h
  exact hU.first
 ·cases hk
def Q35 (p:Q00) (k:Nat):Bool:=decide (k+1=p.code.length)
def Q37 (p:Q00) (k:Nat) (s:KSt) (i:LIns):Bool :=
 if i.op=7∨i.op=9 then true
 else if i.op=3∨i.op=4 then !Q35 p k && decide (0≤i.n) && decide ((ksum (kg s i.b) i.n).bits≤(Q11 p i).log)
 else !Q35 p k
def Q31 (p:Q00) (s:KSt) (i:LIns):Bool :=
 if i.op=3 then !(kg s i.b).sec
 else if i.op=4 then !(kg s i.b).sec && (!(kg s i.a).sec || (Q11 p i).secret)
 else if i.op=6 then !(kg s i.a).sec || (Q11 p i).secret
 else if i.op=8 then !(kg s i.a).sec && !(kg s i.b).sec
 else if i.op=29∨i.op=30 then !(kg s i.b).sec && !(kg s i.c).sec
 else if i.op=9 then !(kg s i.a).sec
 else true
def Q28 (p:Q00) (T:Tab):Nat→Nat→Int × Nat
 | 0,_=>(0,0)
 | n+1,k=>match tg T k with
  | none=>Q28 p T n (k+1)
  | some s=>if !Q37 p k s (Q1t p k) then (4,k) else if !Q31 p s (Q1t p k) then (5,k) else Q28 p T n (k+1)
def Q3x (p:Q00) (T:Tab):Int × Nat:=Q28 p T p.code.length 0
theorem Qkh {p:Q00} {T:Tab}:∀ (n k:Nat),(Q28 p T n k).1=0→∀ j s,k≤j→j < k+n→tg T j=some s→Q37 p j s (Q1t p j)=true∧Q31 p s (Q1t p j)=true
 | 0,k,h,j,s,h1,h2,hj=>by omega
 | n+1,k,h,j,s,h1,h2,hj=>by
  rw [Q28] at h
  by_cases e:j=k
  ·subst e
   rw [hj] at h
   simp only at h
   split at h
   ·simp at h
   ·split at h
    ·simp at h
    ·rename_i b q
     exact ⟨by simpa using b,by simpa using q⟩
  ·refine Qkh n (k+1) ?_ j s (by omega) (by omega) hj
   cases ht:tg T k with
   | none=>rw [ht] at h;exact h
   | some t =>
    rw [ht] at h
    simp only at h
    split at h
    ·simp at h
    ·split at h
     ·simp at h
     ·exact h
theorem Qu6 {p:Q00} {T:Tab} (hl:T.length=p.code.length) (h:(Q3x p T).1=0):∀ j s,tg T j=some s→Q37 p j s (Q1t p j)=true∧Q31 p s (Q1t p j)=true:=fun j s hj=>by
 refine Qkh _ 0 h j s (by omega) ?_ hj
 rcases Nat.lt_or_ge j p.code.length with h1 | h1
 ·omega
 ·unfold tg at hj
  rw [List.getD_eq_getElem?_getD,List.getElem?_eq_none (by omega)] at hj
  simp at hj
end Go.Proofs.YtiafchefbehfbaaGreatDoor

namespace Go.Proofs.YtiafchefbehfbaaGreatDoor
open Go
set_option linter.unusedVariables false
set_option linter.unusedSimpArgs false
def rk (k:LKn):Nat:=k.bits.toNat+(if k.sec=true then 1 else 0)
def rank (s:KSt):Nat:=(s.map rk).sum
def ph (o:Option KSt):Nat:=match o with | none=>145 | some s=>144 - rank s
def phi (T:Tab):Nat:=(T.map ph).sum
def meas (T:Tab) (wk:List Int):Nat:=3 * phi T+wk.length
theorem Qdb {k:LKn} (h:Kok k):rk k≤18:=by
 unfold rk
 have h1:=h.1
 have h2:=h.2
 split <;> omega
theorem Qo4 {a b:LKn} (ha:Kok a) (hb:Kok b) (h:Kle a b):rk a≤rk b∧(rk a=rk b→a=b):=by
 have a0:=ha.1
 have b0:=hb.1
 obtain ⟨h1,h2⟩:=h
 obtain ⟨ab,sa⟩:=a
 obtain ⟨bb,sb⟩:=b
 simp only at a0 b0 h1 h2
 unfold rk
 cases sa <;> cases sb <;> simp at h2 ⊢ <;> omega
theorem Qhb:∀ (s t:KSt),s.length=t.length→(∀ r:Nat,Kok (s.getD r default))→(∀ r:Nat,Kok (t.getD r default))→Sle s t→rank s≤rank t∧(rank s=rank t→s=t)
 | [],[],_,_,_,_=>⟨Nat.le_refl _,fun _=>rfl⟩
 | [],_ :: _,h,_,_,_=>by simp at h
 | _ :: _,[],h,_,_,_=>by simp at h
 | a :: s,b :: t,h,ha,hb,hl=>by
  have i:=Qhb s t (by simpa using h) (fun r=>by simpa using ha (r+1)) (fun r=>by simpa using hb (r+1)) (fun r=>by simpa using hl (r+1))
  have j:=Qo4 (a:=a) (b:=b) (by simpa using ha 0) (by simpa using hb 0) (by simpa using hl 0)
  unfold rank at *
  simp only [List.map_cons,List.sum_cons]
  refine ⟨by omega,fun e=>?_⟩
  rw [j.2 (by omega),i.2 (by omega)]
theorem Qhc:∀ (s:KSt),(∀ r:Nat,Kok (s.getD r default))→rank s≤18 * s.length
 | [],_=>by simp [rank]
 | a :: s,h=>by
  have i:=Qhc s (fun r=>by simpa using h (r+1))
  have j:=Qdb (k:=a) (by simpa using h 0)
  unfold rank at *
  simp only [List.map_cons,List.sum_cons,List.length_cons]
  omega
theorem Qog {s:KSt} (h:Sok s):rank s≤144:=by
 have:=Qhc s h.ok
 rw [h.len] at this
 omega
theorem Qdp:∀ (T:Tab) (k:Nat) (o:Option KSt),k < T.length→phi (T.set k o)+ph (tg T k)=phi T+ph o
 | [],k,o,h=>by simp at h
 | a :: T,0,o,h=>by
  simp only [phi,tg,List.set_cons_zero,List.map_cons,List.sum_cons,List.getD_cons_zero]
  omega
 | a :: T,k+1,o,h=>by
  have:=Qdp T k o (by simpa using h)
  simp only [phi,tg,List.set_cons_succ,List.map_cons,List.sum_cons,List.getD_cons_succ] at *
  omega
theorem Qhr:∀ (T:Tab),phi T≤145 * T.length
 | []=>by simp [phi]
 | a :: T=>by
  have i:=Qhr T
  have:ph a≤145:=by
   cases a with
   | none=>simp [ph]
   | some s=>simp only [ph];omega
  simp only [phi,List.map_cons,List.sum_cons,List.length_cons] at *
  omega
theorem Qm3 {T:Tab} {k:Nat} {o:Option KSt} (h:tg T k=o) (hk:k < T.length):T.set k o=T:=by
 subst h
 apply List.ext_getElem (by simp)
 intro j h1 h2
 rw [List.getElem_set]
 split
 ·rename_i e;subst e;simp [tg,hk]
 ·rfl
end Go.Proofs.YtiafchefbehfbaaGreatDoor
