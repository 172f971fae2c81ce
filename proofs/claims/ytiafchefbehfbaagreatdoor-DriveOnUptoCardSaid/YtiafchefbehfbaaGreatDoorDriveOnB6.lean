/- Laid together from: CheckP, Rk. -/
import Derived.Test.YtiafchefbehfbaaGreatDoorDriveOnB5
import Derived.Test.YtiafchefbehfbaaGreatDoorDriveOnB2

namespace Go.Proofs.YtiafchefbehfbaaGreatDoor
open Go.RowKit
set_option linter.unusedSimpArgs false
set_option linter.unusedVariables false
structure LKn where
 bits:Int
 sec:Bool
 deriving DecidableEq,Inhabited
abbrev KSt:=List LKn
def kg (s:KSt) (r:Int):LKn:=s.getD r.toNat default
def kset (s:KSt) (r:Int) (k:LKn):KSt:=s.set r.toNat k
def kopK (op:Int) (a b:LKn):LKn:=⟨kop op (nrm a.bits) (nrm b.bits),a.sec || b.sec⟩
def Q2l (a b:LKn):LKn:=⟨max (nrm a.bits) (nrm b.bits),a.sec || b.sec⟩
def Q0x (a b:LKn):LKn:=⟨min (nrm a.bits) (nrm b.bits),a.sec⟩
def kofK (n:Int):LKn:=⟨kof n,false⟩
def ksum (k:LKn) (n:Int):LKn:=if n < 0 then ⟨17,k.sec⟩ else kopK 1 k (kofK n)
def Q41:KSt:=List.replicate 8 ⟨0,false⟩
def Q5p (c:Int) (holds:Bool):Bool:=(decide (c=3) && holds) || (decide (c=4) && !holds) || ((decide (c=1) && holds) || (decide (c=2) && !holds))
def Q63 (c:Int) (holds:Bool):Bool:=(decide (c=3) && !holds) || (decide (c=4) && holds) || ((decide (c=1) && holds) || (decide (c=2) && !holds))
def Q1j (s:KSt) (i:LIns) (holds:Bool):KSt :=
 let a:=kg s i.a
 let b:=kg s i.b
 let s1:=if Q5p i.c holds then kset s i.a (Q0x a b) else s
 if Q63 i.c holds then kset s1 i.b (Q0x b a) else s1
def oneK (p:Q00) (s:KSt) (i:LIns):KSt :=
 if i.op=1 then kset s i.a (kofK i.n)
 else if i.op=2 then kset s i.a (kg s i.b)
 else if i.op=10 then kset s i.a (ksum (kg s i.b) i.n)
 else if i.op=3∨i.op=5 then kset s i.a ⟨17,(Q12 p i).secret⟩
 else if i.op=11 then kset s i.a (Q0x (kg s i.a) (kofK (i.n - 1)))
 else if i.op=4∨i.op=6∨i.op=12 then s
 else kset s i.a (kopK (i.op - 20) (kg s i.b) (kg s i.c))
def Q0n (p:Q00) (at_:Nat) (s:KSt) (i:LIns):List (Nat × KSt) :=
 if i.op=7 then [(i.n.toNat,s)]
 else if i.op=9 then []
 else if i.op=8 then [(at_+1,Q1j s i false),(i.n.toNat,Q1j s i true)]
 else [(at_+1,oneK p s i)]
def Kok (k:LKn):Prop:=0≤k.bits∧k.bits≤17
def Kle (a b:LKn):Prop:=a.bits≤b.bits∧(a.sec=true→b.sec=true)
structure Sok (s:KSt):Prop where
 len:s.length=8
 ok:∀ r:Nat,Kok (s.getD r default)
def Sle (s t:KSt):Prop := ∀ r:Nat,Kle (s.getD r default) (t.getD r default)
theorem Kle.refl (a:LKn):Kle a a:=⟨by omega,id⟩
theorem Kle.trans {a b c:LKn} (h:Kle a b) (k:Kle b c):Kle a c:=⟨by have:=h.1;have:=k.1;omega,fun x=>k.2 (h.2 x)⟩
theorem Kle.antisymm {a b:LKn} (h:Kle a b) (k:Kle b a):a=b:=by
 obtain ⟨x,y⟩:=a
 obtain ⟨u,v⟩:=b
 obtain ⟨h1,h2⟩:=h
 obtain ⟨k1,k2⟩:=k
 simp only at h1 h2 k1 k2
 have e:x=u:=by omega
 subst e
 cases y <;> cases v <;> simp_all
theorem Sle.refl (s:KSt):Sle s s:=fun _=>Kle.refl _
theorem Sle.trans {s t u:KSt} (h:Sle s t) (k:Sle t u):Sle s u:=fun r=>(h r).trans (k r)
theorem Sle.antisymm {s t:KSt} (hs:s.length=8) (ht:t.length=8) (h:Sle s t) (k:Sle t s):s=t:=by
 apply List.ext_getElem (by rw [hs,ht])
 intro r h1 h2
 have:=Kle.antisymm (h r) (k r)
 simpa [h1,h2] using this
theorem Q4n {k:LKn} (h:Kok k):nrm k.bits=k.bits:=Qok h.1 h.2
theorem Qhn:Kok (default:LKn):=⟨by decide,by decide⟩
theorem kop_bd' (op a b:Int) (a0:0≤a) (a1:a≤17) (b0:0≤b) (b1:b≤17):0≤kop op a b∧kop op a b≤17:=by
 unfold kop kopN
 split
 ·split <;> omega
 repeat' (split <;> try omega)
theorem Qd5 (op:Int) (a b:LKn):Kok (kopK op a b):=kop_bd' op _ _ (Q5v _).1 (Q5v _).2 (Q5v _).1 (Q5v _).2
theorem Qqp (a b:LKn):Kok (Q2l a b):=by
 have:=Q5v a.bits;have:=Q5v b.bits
 simp only [Kok,Q2l];omega
theorem Qb0 (a b:LKn):Kok (Q0x a b):=by
 have:=Q5v a.bits;have:=Q5v b.bits
 simp only [Kok,Q0x];omega
theorem Q8o (n:Int):Kok (kofK n):=Qqn n
theorem Qhk (k:LKn) (n:Int):Kok (ksum k n):=by
 unfold ksum
 split
 ·simp [Kok]
 ·exact Qd5 _ _ _
theorem Qqs {a b:LKn} (ha:Kok a):Kle a (Q2l a b):=by
 simp only [Kle,Q2l,Q4n ha]
 refine ⟨by omega,fun h=>by simp [h]⟩
theorem Qqr {a b:LKn} (hb:Kok b):Kle b (Q2l a b):=by
 simp only [Kle,Q2l,Q4n hb]
 refine ⟨by omega,fun h=>by simp [h]⟩
theorem Qqq {a b c:LKn} (ha:Kok a) (hb:Kok b) (h:Kle a c) (k:Kle b c):Kle (Q2l a b) c:=by
 obtain ⟨h1,h2⟩:=h
 obtain ⟨k1,k2⟩:=k
 simp only [Kle,Q2l,Q4n ha,Q4n hb]
 refine ⟨by omega,fun e=>?_⟩
 simp only [Bool.or_eq_true] at e
 rcases e with e | e
 ·exact h2 e
 ·exact k2 e
theorem Qql (op a b c d:Int) (a0:0≤a) (b0:0≤b) (h:a≤c) (k:b≤d):kop op a b≤kop op c d:=by
 have hn:kopN op a b≤kopN op c d:=by
  unfold kopN
  by_cases h1:op=1
  ·rw [if_pos h1,if_pos h1];split <;> split <;> omega
  rw [if_neg h1,if_neg h1]
  by_cases h3:op=3
  ·rw [if_pos h3,if_pos h3];split <;> split <;> omega
  rw [if_neg h3,if_neg h3]
  by_cases h4:op=4
  ·rw [if_pos h4,if_pos h4];omega
  rw [if_neg h4,if_neg h4]
  by_cases h5:op=5∨op=6
  ·rw [if_pos h5,if_pos h5];omega
  rw [if_neg h5,if_neg h5]
  by_cases h8:op=8∨op=9∨op=10
  ·rw [if_pos h8,if_pos h8];omega
  rw [if_neg h8,if_neg h8]
  omega
 unfold kop
 omega
theorem Qhm {op:Int} {a b c d:LKn} (ha:Kok a) (hb:Kok b) (hc:Kok c) (hd:Kok d) (h:Kle a c) (k:Kle b d):Kle (kopK op a b) (kopK op c d):=by
 simp only [Kle,kopK,Q4n ha,Q4n hb,Q4n hc,Q4n hd]
 refine ⟨Qql op _ _ _ _ ha.1 hb.1 h.1 k.1,fun e=>?_⟩
 simp only [Bool.or_eq_true] at e ⊢
 rcases e with e | e
 ·exact .inl (h.2 e)
 ·exact .inr (k.2 e)
theorem Qd6 {a b c d:LKn} (ha:Kok a) (hb:Kok b) (hc:Kok c) (hd:Kok d) (h:Kle a c) (k:Kle b d):Kle (Q0x a b) (Q0x c d):=by
 simp only [Kle,Q0x,Q4n ha,Q4n hb,Q4n hc,Q4n hd]
 have:=h.1;have:=k.1
 exact ⟨by omega,h.2⟩
theorem Qqk {a b:LKn} (n:Int) (ha:Kok a) (hb:Kok b) (h:Kle a b):Kle (ksum a n) (ksum b n):=by
 unfold ksum
 split
 ·exact ⟨by simp,h.2⟩
 ·exact Qhm ha (Q8o n) hb (Q8o n) h (Kle.refl _)
theorem Sok.kg {s:KSt} (h:Sok s) (r:Int):Kok (kg s r):=h.ok _
theorem Q8n (s:KSt) (r:Int) (k:LKn) (j:Nat):(kset s r k).getD j default=if j=r.toNat∧j < s.length then k else s.getD j default:=by
 unfold kset
 rw [List.getD_eq_getElem?_getD,List.getD_eq_getElem?_getD,List.getElem?_set]
 by_cases h:r.toNat=j
 ·subst h
  by_cases h2:r.toNat < s.length
  ·simp [h2]
  ·simp [h2]
 ·rw [if_neg h,if_neg (by omega)]
theorem Sok.set {s:KSt} (h:Sok s) (r:Int) {k:LKn} (hk:Kok k):Sok (kset s r k):=by
 refine ⟨by simp [kset,h.len],fun j=>?_⟩
 rw [Q8n]
 split
 ·exact hk
 ·exact h.ok j
theorem Sle.set {s t:KSt} (hs:s.length=8) (ht:t.length=8) (h:Sle s t) (r:Int) {a b:LKn} (k:Kle a b):Sle (kset s r a) (kset t r b):=fun j=>by
 rw [Q8n,Q8n,hs,ht]
 split
 ·exact k
 ·exact h j
theorem Qeb {s:KSt} (h:Sok s) (i:LIns) (b:Bool):Sok (Q1j s i b):=by
 simp only [Q1j]
 have h1:Sok (if Q5p i.c b then kset s i.a (Q0x (kg s i.a) (kg s i.b)) else s):=by
  split
  ·exact h.set _ (Qb0 _ _)
  ·exact h
 split
 ·exact h1.set _ (Qb0 _ _)
 ·exact h1
theorem Qj4 {s t:KSt} (hs:Sok s) (ht:Sok t) (h:Sle s t) (i:LIns) (b:Bool):Sle (Q1j s i b) (Q1j t i b):=by
 simp only [Q1j]
 have ka:Kle (kg s i.a) (kg t i.a):=h _
 have kb:Kle (kg s i.b) (kg t i.b):=h _
 have l1:=Qd6 (hs.kg i.a) (hs.kg i.b) (ht.kg i.a) (ht.kg i.b) ka kb
 have l2:=Qd6 (hs.kg i.b) (hs.kg i.a) (ht.kg i.b) (ht.kg i.a) kb ka
 cases Q5p i.c b <;> cases Q63 i.c b <;> simp only [if_true,if_false,Bool.false_eq_true]
 ·exact h
 ·exact Sle.set hs.len ht.len h _ l2
 ·exact Sle.set hs.len ht.len h _ l1
 ·exact Sle.set (by simp [kset,hs.len]) (by simp [kset,ht.len]) (Sle.set hs.len ht.len h _ l1) _ l2
theorem Qo9 (p:Q00) {s:KSt} (h:Sok s) (i:LIns):Sok (oneK p s i):=by
 unfold oneK
 repeat' split
 ·exact h.set _ (Q8o _)
 ·exact h.set _ (h.kg _)
 ·exact h.set _ (Qhk _ _)
 ·exact h.set _ ⟨by simp,by simp⟩
 ·exact h.set _ (Qb0 _ _)
 ·exact h
 ·exact h.set _ (Qd5 _ _ _)
theorem Qoa (p:Q00) {s t:KSt} (hs:Sok s) (ht:Sok t) (h:Sle s t) (i:LIns):Sle (oneK p s i) (oneK p t i):=by
 unfold oneK
 repeat' split
 ·exact Sle.set hs.len ht.len h _ (Kle.refl _)
 ·exact Sle.set hs.len ht.len h _ (h _)
 ·exact Sle.set hs.len ht.len h _ (Qqk _ (hs.kg _) (ht.kg _) (h _))
 ·exact Sle.set hs.len ht.len h _ (Kle.refl _)
 ·exact Sle.set hs.len ht.len h _ (Qd6 (hs.kg _) (Q8o _) (ht.kg _) (Q8o _) (h _) (Kle.refl _))
 ·exact h
 ·exact Sle.set hs.len ht.len h _ (Qhm (hs.kg _) (hs.kg _) (ht.kg _) (ht.kg _) (h _) (h _))
theorem Qd4 (p:Q00) (k:Nat) {s:KSt} (h:Sok s) (i:LIns):∀ x ∈ Q0n p k s i,Sok x.2:=by
 intro x hx
 unfold Q0n at hx
 repeat' split at hx
 ·simp at hx;subst hx;exact h
 ·simp at hx
 ·simp at hx;rcases hx with rfl | rfl <;> exact Qeb h i _
 ·simp at hx;subst hx;exact Qo9 p h i
theorem Qqe (p:Q00) (k:Nat) {s t:KSt} (hs:Sok s) (ht:Sok t) (h:Sle s t) (i:LIns):∀ x ∈ Q0n p k s i,∃ y ∈ Q0n p k t i,x.1=y.1∧Sle x.2 y.2:=by
 intro x hx
 unfold Q0n at hx ⊢
 split at hx
 ·rename_i h7
  rw [if_pos h7]
  simp at hx;subst hx
  exact ⟨(i.n.toNat,t),by simp,rfl,h⟩
 rename_i h7
 rw [if_neg h7]
 split at hx
 ·simp at hx
 rename_i h9
 rw [if_neg h9]
 split at hx
 ·rename_i h8
  rw [if_pos h8]
  simp at hx
  rcases hx with rfl | rfl
  ·exact ⟨(k+1,Q1j t i false),by simp,rfl,Qj4 hs ht h i _⟩
  ·exact ⟨(i.n.toNat,Q1j t i true),by simp,rfl,Qj4 hs ht h i _⟩
 ·rename_i h8
  rw [if_neg h8]
  simp at hx;subst hx
  exact ⟨(k+1,oneK p t i),by simp,rfl,Qoa p hs ht h i⟩
abbrev Tab:=List (Option KSt)
def tg (T:Tab) (k:Nat):Option KSt:=T.getD k none
structure Tok (p:Q00) (T:Tab):Prop where
 len:T.length=p.code.length
 ok:∀ k s,tg T k=some s→Sok s
def Q0q (p:Q00) (k:Nat):LIns:=p.code.getD k default
def Led (p:Q00) (T:Tab) (x:Nat × KSt):Prop:=x.1 < p.code.length→∃ t,tg T x.1=some t∧Sle x.2 t
structure Post (p:Q00) (T:Tab):Prop where
 tok:Tok p T
 first:∃ s,tg T 0=some s∧Sle Q41 s
 leads:∀ k s,tg T k=some s→∀ x ∈ Q0n p k s (Q0q p k),Led p T x
def Tle (T U:Tab):Prop := ∀ k s,tg T k=some s→∃ t,tg U k=some t∧Sle s t
def Q85 (p:Q00) (T:Tab):Prop := ∀ U,Post p U→Tle T U
structure Q6b (p:Q00) (T:Tab):Prop where
 post:Post p T
 under:Q85 p T
theorem Qqc {p:Q00} {T U:Tab} (h:Q6b p T) (k:Q6b p U):T=U:=by
 have h1:=h.under U k.post
 have h2:=k.under T h.post
 apply List.ext_getElem (by rw [h.post.tok.len,k.post.tok.len])
 intro j hj hj'
 have ea:tg T j=T[j]:=by simp [tg,hj]
 have eb:tg U j=U[j]:=by simp [tg,hj']
 rw [← ea,← eb]
 cases ht:tg T j with
 | none =>
  cases hu:tg U j with
  | none=>rfl
  | some s =>
   obtain ⟨t,e,_⟩:=h2 j s hu
   rw [ht] at e;cases e
 | some s =>
  obtain ⟨t,e,l1⟩:=h1 j s ht
  obtain ⟨s',e',l2⟩:=h2 j t e
  rw [ht] at e'
  obtain rfl:=Option.some.inj e'
  rw [e,Sle.antisymm (h.post.tok.ok j s ht).len (k.post.tok.ok j t e).len l1 l2]
def Q16 (a b:KSt):KSt:=(List.range 8).map fun r=>Q2l (a.getD r default) (b.getD r default)
def Q1b (T:Tab) (x:Nat × KSt):Tab :=
 match tg T x.1 with
 | none=>T.set x.1 (some x.2)
 | some t=>T.set x.1 (some (Q16 x.2 t))
theorem Qad (a b:KSt) (r:Nat) (hr:r < 8):(Q16 a b).getD r default=Q2l (a.getD r default) (b.getD r default):=by
 simp [Q16,hr]
theorem Q8a (a b:KSt):Sok (Q16 a b):=by
 refine ⟨by simp [Q16],fun r=>?_⟩
 by_cases hr:r < 8
 ·rw [Qad a b r hr];exact Qqp _ _
 ·have:(Q16 a b).length≤r:=by simp [Q16];omega
  simp only [List.getD_eq_getElem?_getD,List.getElem?_eq_none this]
  exact Qhn
theorem Q81 {s:KSt} (hs:s.length=8) {r:Nat} (hr:¬ r < 8):s.getD r default=default:=by
 simp only [List.getD_eq_getElem?_getD,List.getElem?_eq_none (show s.length≤r by omega)]
 rfl
theorem Qle {a b:KSt} (ha:Sok a):Sle a (Q16 a b):=fun r=>by
 by_cases hr:r < 8
 ·rw [Qad a b r hr];exact Qqs (ha.ok r)
 ·rw [Q81 ha.len hr,Q81 (Q8a a b).len hr];exact Kle.refl _
theorem Qfj {a b:KSt} (hb:Sok b):Sle b (Q16 a b):=fun r=>by
 by_cases hr:r < 8
 ·rw [Qad a b r hr];exact Qqr (hb.ok r)
 ·rw [Q81 hb.len hr,Q81 (Q8a a b).len hr];exact Kle.refl _
theorem Qld {a b c:KSt} (ha:Sok a) (hb:Sok b) (hc:Sok c) (h:Sle a c) (k:Sle b c):Sle (Q16 a b) c:=fun r=>by
 by_cases hr:r < 8
 ·rw [Qad a b r hr];exact Qqq (ha.ok r) (hb.ok r) (h r) (k r)
 ·rw [Q81 hc.len hr,Q81 (Q8a a b).len hr];exact Kle.refl _
theorem Q93 (T:Tab) (k j:Nat) (o:Option KSt):tg (T.set k o) j=if k=j∧j < T.length then o else tg T j:=by
 unfold tg
 rw [List.getD_eq_getElem?_getD,List.getD_eq_getElem?_getD,List.getElem?_set]
 by_cases h:k=j
 ·subst h
  by_cases h2:k < T.length <;> simp [h2]
 ·rw [if_neg h,if_neg (by omega)]
theorem Q9h {T:Tab} {x:Nat × KSt} (j:Nat) (hx:x.1 < T.length):tg (Q1b T x) j=if j=x.1 then some (match tg T x.1 with | none=>x.2 | some t=>Q16 x.2 t) else tg T j:=by
 unfold Q1b
 cases h:tg T x.1 with
 | none =>
  rw [Q93]
  by_cases e:j=x.1
  ·rw [if_pos ⟨e.symm,by omega⟩,if_pos e]
  ·rw [if_neg (by omega),if_neg e]
 | some t =>
  rw [Q93]
  by_cases e:j=x.1
  ·rw [if_pos ⟨e.symm,by omega⟩,if_pos e]
  ·rw [if_neg (by omega),if_neg e]
theorem Qr1 (T:Tab) (x:Nat × KSt):(Q1b T x).length=T.length:=by
 unfold Q1b
 split <;> simp
theorem Qr0 {p:Q00} {T:Tab} (h:Tok p T) {x:Nat × KSt} (hs:Sok x.2) (hx:x.1 < p.code.length):Tok p (Q1b T x):=by
 refine ⟨by rw [Qr1,h.len],fun k s hk=>?_⟩
 rw [Q9h k (by rw [h.len];exact hx)] at hk
 split at hk
 ·cases ht:tg T x.1 with
  | none=>rw [ht] at hk;simp only [Option.some.injEq] at hk;subst hk;exact hs
  | some t=>rw [ht] at hk;simp only [Option.some.injEq] at hk;subst hk;exact Q8a _ _
 ·exact h.ok k s hk
theorem Qr3 {p:Q00} {T:Tab} (h:Tok p T) {x:Nat × KSt} (hs:Sok x.2) (hx:x.1 < p.code.length):Tle T (Q1b T x):=by
 intro k s hk
 rw [Q9h k (by rw [h.len];exact hx)]
 split
 ·rename_i e
  subst e
  rw [hk]
  exact ⟨_,rfl,Qfj (h.ok _ _ hk)⟩
 ·exact ⟨s,hk,Sle.refl s⟩
theorem Qr2 {p:Q00} {T:Tab} (h:Tok p T) {x:Nat × KSt} (hs:Sok x.2):Led p (Q1b T x) x:=fun hx=>by
 rw [Q9h x.1 (by rw [h.len];exact hx),if_pos rfl]
 refine ⟨_,rfl,?_⟩
 cases ht:tg T x.1 with
 | none=>exact Sle.refl _
 | some t=>exact Qle hs
theorem Tle.trans {T U V:Tab} (h:Tle T U) (k:Tle U V):Tle T V:=fun j s hj=>by
 obtain ⟨t,h1,h2⟩:=h j s hj
 obtain ⟨u,k1,k2⟩:=k j t h1
 exact ⟨u,k1,h2.trans k2⟩
theorem Tle.refl (T:Tab):Tle T T:=fun j s hj=>⟨s,hj,Sle.refl s⟩
theorem Led.mono {p:Q00} {T U:Tab} {x:Nat × KSt} (h:Led p T x) (k:Tle T U):Led p U x:=fun hx=>by
 obtain ⟨t,h1,h2⟩:=h hx
 obtain ⟨u,k1,k2⟩:=k _ t h1
 exact ⟨u,k1,h2.trans k2⟩
theorem Qqz {p:Q00} {T:Tab} (h:Tok p T) (hu:Q85 p T) {k:Nat} {s:KSt} (hk:∃ s',tg T k=some s'∧Sle s s') (hs:Sok s) {x:Nat × KSt} (hx:x ∈ Q0n p k s (Q0q p k)) (hn:x.1 < p.code.length):Q85 p (Q1b T x):=by
 intro U hU j t hj
 rw [Q9h j (by rw [h.len];exact hn)] at hj
 split at hj
 ·rename_i e
  subst e
  obtain ⟨s',hk',l0⟩:=hk
  obtain ⟨u,hu1,hu2⟩:=hu U hU k s' hk'
  have hsu:=l0.trans hu2
  obtain ⟨y,hy,e1,l1⟩:=Qqe p k hs (hU.tok.ok k u hu1) hsu (Q0q p k) x hx
  obtain ⟨v,hv1,hv2⟩:=hU.leads k u hu1 y hy (by rw [← e1];exact hn)
  rw [← e1] at hv1
  refine ⟨v,hv1,?_⟩
  cases ht:tg T x.1 with
  | none=>rw [ht] at hj;simp only [Option.some.injEq] at hj;subst hj;exact l1.trans hv2
  | some t' =>
   rw [ht] at hj
   simp only [Option.some.injEq] at hj
   subst hj
   obtain ⟨w,hw1,hw2⟩:=hu U hU x.1 t' ht
   rw [hv1] at hw1
   obtain rfl:=Option.some.inj hw1
   exact Qld (Qd4 p k hs _ x hx) (h.ok _ _ ht) (hU.tok.ok _ _ hv1) (l1.trans hv2) hw2
 ·exact hu U hU j t hj
def Q3g (p:Q00):Tab:=(List.replicate p.code.length none).set 0 (some Q41)
theorem Qhl:Sok Q41:=by
 refine ⟨rfl,fun r=>?_⟩
 by_cases hr:r < 8
 ·have:Q41.getD r default=⟨0,false⟩:=by
   match r,hr with
   | 0,_ | 1,_ | 2,_ | 3,_ | 4,_ | 5,_ | 6,_ | 7,_=>rfl
  rw [this];exact ⟨by simp,by simp⟩
 ·rw [Q81 (s:=Q41) rfl hr];exact Qhn
theorem Q9m (p:Q00) (hp:0 < p.code.length) (k:Nat):tg (Q3g p) k=if k=0 then some Q41 else none:=by
 unfold Q3g
 rw [Q93]
 by_cases h:k=0
 ·subst h;rw [if_pos ⟨rfl,by simpa using hp⟩,if_pos rfl]
 ·rw [if_neg (by omega),if_neg h]
  unfold tg
  rw [List.getD_eq_getElem?_getD]
  by_cases h2:k < p.code.length <;> simp [h2]
theorem Qso (p:Q00) (hp:0 < p.code.length):Tok p (Q3g p):=by
 refine ⟨by simp [Q3g],fun k s hk=>?_⟩
 rw [Q9m p hp] at hk
 split at hk
 ·simp only [Option.some.injEq] at hk;subst hk;exact Qhl
 ·cases hk
theorem Qsn (p:Q00) (hp:0 < p.code.length):Q85 p (Q3g p):=by
 intro U hU k s hk
 rw [Q9m p hp] at hk
 split at hk
 ·rename_i h
  simp only [Option.some.injEq] at hk;subst hk;subst h
  exact hU.first
 ·cases hk
def Q2x (p:Q00) (k:Nat):Bool:=decide (k+1=p.code.length)
def Q2y (p:Q00) (k:Nat) (s:KSt) (i:LIns):Bool :=
 if i.op=7∨i.op=9 then true
 else if i.op=3∨i.op=4 then !Q2x p k && decide (0≤i.n) && decide ((ksum (kg s i.b) i.n).bits≤(Q12 p i).log)
 else !Q2x p k
def Q2r (p:Q00) (s:KSt) (i:LIns):Bool :=
 if i.op=3 then !(kg s i.b).sec
 else if i.op=4 then !(kg s i.b).sec && (!(kg s i.a).sec || (Q12 p i).secret)
 else if i.op=6 then !(kg s i.a).sec || (Q12 p i).secret
 else if i.op=8 then !(kg s i.a).sec && !(kg s i.b).sec
 else if i.op=29∨i.op=30 then !(kg s i.b).sec && !(kg s i.c).sec
 else if i.op=9 then !(kg s i.a).sec
 else true
def Q1t (p:Q00) (T:Tab):Nat→Nat→Int × Nat
 | 0,_=>(0,0)
 | n+1,k=>match tg T k with
  | none=>Q1t p T n (k+1)
  | some s=>if !Q2y p k s (Q0q p k) then (4,k) else if !Q2r p s (Q0q p k) then (5,k) else Q1t p T n (k+1)
def Q3q (p:Q00) (T:Tab):Int × Nat:=Q1t p T p.code.length 0
theorem Qio {p:Q00} {T:Tab}:∀ (n k:Nat),(Q1t p T n k).1=0→∀ j s,k≤j→j < k+n→tg T j=some s→Q2y p j s (Q0q p j)=true∧Q2r p s (Q0q p j)=true
 | 0,k,h,j,s,h1,h2,hj=>by omega
 | n+1,k,h,j,s,h1,h2,hj=>by
  rw [Q1t] at h
  by_cases e:j=k
  ·subst e
   rw [hj] at h
   simp only at h
   split at h
   ·simp at h
   ·split at h
    ·simp at h
    ·rename_i b q
     exact ⟨by simpa using b,by simpa using q⟩
  ·refine Qio n (k+1) ?_ j s (by omega) (by omega) hj
   cases ht:tg T k with
   | none=>rw [ht] at h;exact h
   | some t =>
    rw [ht] at h
    simp only at h
    split at h
    ·simp at h
    ·split at h
     ·simp at h
     ·exact h
theorem Qsr {p:Q00} {T:Tab} (hl:T.length=p.code.length) (h:(Q3q p T).1=0):∀ j s,tg T j=some s→Q2y p j s (Q0q p j)=true∧Q2r p s (Q0q p j)=true:=fun j s hj=>by
 refine Qio _ 0 h j s (by omega) ?_ hj
 rcases Nat.lt_or_ge j p.code.length with h1 | h1
 ·omega
 ·unfold tg at hj
  rw [List.getD_eq_getElem?_getD,List.getElem?_eq_none (by omega)] at hj
  simp at hj
end Go.Proofs.YtiafchefbehfbaaGreatDoor

namespace Go.Proofs.YtiafchefbehfbaaGreatDoor
open Go
set_option linter.unusedVariables false
set_option linter.unusedSimpArgs false
def rk (k:LKn):Nat:=k.bits.toNat+(if k.sec=true then 1 else 0)
def rank (s:KSt):Nat:=(s.map rk).sum
def ph (o:Option KSt):Nat:=match o with | none=>145 | some s=>144 - rank s
def phi (T:Tab):Nat:=(T.map ph).sum
def meas (T:Tab) (wk:List Int):Nat:=3 * phi T+wk.length
theorem Qc8 {k:LKn} (h:Kok k):rk k≤18:=by
 unfold rk
 have h1:=h.1
 have h2:=h.2
 split <;> omega
theorem Qm9 {a b:LKn} (ha:Kok a) (hb:Kok b) (h:Kle a b):rk a≤rk b∧(rk a=rk b→a=b):=by
 have a0:=ha.1
 have b0:=hb.1
 obtain ⟨h1,h2⟩:=h
 obtain ⟨ab,sa⟩:=a
 obtain ⟨bb,sb⟩:=b
 simp only at a0 b0 h1 h2
 unfold rk
 cases sa <;> cases sb <;> simp at h2 ⊢ <;> omega
theorem Qg8:∀ (s t:KSt),s.length=t.length→(∀ r:Nat,Kok (s.getD r default))→(∀ r:Nat,Kok (t.getD r default))→Sle s t→rank s≤rank t∧(rank s=rank t→s=t)
 | [],[],_,_,_,_=>⟨Nat.le_refl _,fun _=>rfl⟩
 | [],_ :: _,h,_,_,_=>by simp at h
 | _ :: _,[],h,_,_,_=>by simp at h
 | a :: s,b :: t,h,ha,hb,hl=>by
  have i:=Qg8 s t (by simpa using h) (fun r=>by simpa using ha (r+1)) (fun r=>by simpa using hb (r+1)) (fun r=>by simpa using hl (r+1))
  have j:=Qm9 (a:=a) (b:=b) (by simpa using ha 0) (by simpa using hb 0) (by simpa using hl 0)
  unfold rank at *
  simp only [List.map_cons,List.sum_cons]
  refine ⟨by omega,fun e=>?_⟩
  rw [j.2 (by omega),i.2 (by omega)]
theorem Qg9:∀ (s:KSt),(∀ r:Nat,Kok (s.getD r default))→rank s≤18 * s.length
 | [],_=>by simp [rank]
 | a :: s,h=>by
  have i:=Qg9 s (fun r=>by simpa using h (r+1))
  have j:=Qc8 (k:=a) (by simpa using h 0)
  unfold rank at *
  simp only [List.map_cons,List.sum_cons,List.length_cons]
  omega
theorem Qmj {s:KSt} (h:Sok s):rank s≤144:=by
 have:=Qg9 s h.ok
 rw [h.len] at this
 omega
theorem Qcn:∀ (T:Tab) (k:Nat) (o:Option KSt),k < T.length→phi (T.set k o)+ph (tg T k)=phi T+ph o
 | [],k,o,h=>by simp at h
 | a :: T,0,o,h=>by
  simp only [phi,tg,List.set_cons_zero,List.map_cons,List.sum_cons,List.getD_cons_zero]
  omega
 | a :: T,k+1,o,h=>by
  have:=Qcn T k o (by simpa using h)
  simp only [phi,tg,List.set_cons_succ,List.map_cons,List.sum_cons,List.getD_cons_succ] at *
  omega
theorem Qgm:∀ (T:Tab),phi T≤145 * T.length
 | []=>by simp [phi]
 | a :: T=>by
  have i:=Qgm T
  have:ph a≤145:=by
   cases a with
   | none=>simp [ph]
   | some s=>simp only [ph];omega
  simp only [phi,List.map_cons,List.sum_cons,List.length_cons] at *
  omega
theorem Qka {T:Tab} {k:Nat} {o:Option KSt} (h:tg T k=o) (hk:k < T.length):T.set k o=T:=by
 subst h
 apply List.ext_getElem (by simp)
 intro j h1 h2
 rw [List.getElem_set]
 split
 ·rename_i e;subst e;simp [tg,hk]
 ·rfl
end Go.Proofs.YtiafchefbehfbaaGreatDoor
