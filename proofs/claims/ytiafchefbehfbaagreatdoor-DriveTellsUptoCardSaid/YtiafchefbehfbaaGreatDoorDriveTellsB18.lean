/- Laid together from: KnownL, CheckL, CheckQ, CheckS, Typed, HardP, Sim, FenceP, LoadP, WordP. -/
import Derived.Test.YtiafchefbehfbaaGreatDoorDriveTellsB2
import Derived.Test.YtiafchefbehfbaaGreatDoorDriveTellsB15
import Derived.Test.YtiafchefbehfbaaGreatDoorDriveTellsB6
import Derived.Test.YtiafchefbehfbaaGreatDoorDriveTellsB5

namespace Go.Proofs.YtiafchefbehfbaaGreatDoor
open Go.RowKit
theorem Qsc {b n:Int} (h:nrm b=17):khas b n=true:=by unfold khas kfit;rw [h];rfl
theorem Qjh {b:Int} {m:Nat} (h:nrm b=m) (hm:m≤16) (n:Int):khas b n=true ↔ 0≤n∧n < 2 ^ m:=by
 unfold khas kfit
 rw [h,Int.toNat_natCast]
 simp
 omega
theorem Ql0 (b:Int):nrm b=17∨∃ m:Nat,nrm b=m∧m≤16:=by
 obtain ⟨h0,h1⟩:=Q66 b
 by_cases h:nrm b=17
 ·exact .inl h
 ·exact .inr ⟨(nrm b).toNat,by omega,by omega⟩
theorem Qsb {b c n:Int} (h:nrm b≤nrm c) (hb:khas b n=true):khas c n=true:=by
 rcases Ql0 c with hc | ⟨k,hc,hk⟩
 ·exact Qsc hc
 ·rcases Ql0 b with hb' | ⟨m,hb',hm⟩
  ·omega
  ·rw [Qjh hb' hm] at hb
   rw [Qjh hc hk]
   have:=Q4t m k (by omega)
   omega
end Go.Proofs.YtiafchefbehfbaaGreatDoor

namespace Go.Proofs.YtiafchefbehfbaaGreatDoor
open Go.RowKit
set_option linter.unusedSimpArgs false
set_option linter.unusedVariables false
def Qgo:List LReg→Nat→Bool
 | [],_=>false
 | r :: l,n=>if n < Q0t r then r.secret else Qgo l (n - Q0t r)
def secW (p:Q00) (n:Nat):Bool:=Qgo p.regs n
def Pub (p:Q00) (a b:List Int):Prop := ∀ n,secW p n=false→a.getD n 0=b.getD n 0
def Q1p (l:List Int):Prop := ∀ n:Nat,R64 (l.getD n 0)
theorem Q4l:R64 0:=⟨by omega,by omega⟩
theorem Qdi (x:Int):R64 (wrap64 x):=by unfold R64 wrap64;omega
theorem Qvk (a b:Int):R64 (bits .and .i64 a b)∧R64 (bits .or .i64 a b)∧R64 (bits .xor .i64 a b):=by
 have e:∀ x:Int,R64 (IntKind.i64.wrap x):=fun x=>by rw [Q8o];exact Qdi x
 exact ⟨e _,e _,e _⟩
theorem Qoj {op a b:Int} (ha:R64 a):R64 (nop op a b):=by
 have hb:=Qvk a b
 unfold nop
 repeat' split
 all_goals first | exact Qdi _ | exact hb.1 | exact hb.2.1 | exact hb.2.2 | exact ha | exact Q4l
theorem Q1p.set {l:List Int} (h:Q1p l) (k:Nat) {x:Int} (hx:R64 x):Q1p (l.set k x):=fun n=>by
 rw [List.getD_eq_getElem?_getD,List.getElem?_set]
 by_cases e:k=n
 ·subst e
  by_cases h2:k < l.length
  ·simpa [h2] using hx
  ·simpa [h2] using Q4l
 ·rw [if_neg e,← List.getD_eq_getElem?_getD];exact h n
theorem Q6k (l:List Int) (k:Nat) (x:Int) (n:Nat):(l.set k x).getD n 0=if n=k∧n < l.length then x else l.getD n 0:=by
 rw [List.getD_eq_getElem?_getD,List.getElem?_set]
 by_cases e:k=n
 ·subst e
  by_cases h2:k < l.length <;> simp [h2]
 ·rw [if_neg e,if_neg (by omega),← List.getD_eq_getElem?_getD]
def Sat (s:KSt) (r:List Int):Prop := ∀ j,j < 8→khas (s.getD j default).bits (r.getD j 0)=true
theorem Sat.mono {s t:KSt} {r:List Int} (hs:Sok s) (ht:Sok t) (h:Sat s r) (k:Sle s t):Sat t r:=fun j hj=>by
 refine Qsb ?_ (h j hj)
 rw [Q4v (hs.ok j),Q4v (ht.ok j)]
 exact (k j).1
theorem Sat.set {s:KSt} {r:List Int} (h:Sat s r) (hl:s.length=8) (hr:r.length=10) (a:Int) {k:LKn} {v:Int} (hv:khas k.bits v=true):Sat (kset s a k) (rset r a v):=fun j hj=>by
 rw [Q9f,hl]
 unfold rset
 rw [Q6k,hr]
 by_cases e:j=a.toNat
 ·rw [if_pos ⟨e,hj⟩,if_pos ⟨e,by omega⟩];exact hv
 ·rw [if_neg (by omega),if_neg (by omega)];exact h j hj
theorem Q0l {b n:Int}:okIn b n=true ↔ 0≤n∧n < b:=by simp [okIn]
theorem Sat.at_ {s:KSt} {r:List Int} (h:Sat s r) {a:Int} (ha:okIn 8 a=true):khas (kg s a).bits (rg r a)=true:=by
 rw [Q0l] at ha
 exact h a.toNat (by omega)
structure Good (p:Q00) (s:KSt) (a:Plc):Prop where
 regs:a.regs.length=10
 r64:Q1p a.regs
 sat:Sat s a.regs
 words:a.words.length=Q2a p
 w64:Q1p a.words
 past:a.past.length=Q2a p
 p64:∀ n,Q1p (a.past.getD n [])
theorem Good.mono {p:Q00} {s t:KSt} {a:Plc} (hs:Sok s) (ht:Sok t) (h:Good p s a) (k:Sle s t):Good p t a:=⟨h.1,h.2,h.3.mono hs ht k,h.4,h.5,h.6,h.7⟩
theorem Good.goTo {p:Q00} {s:KSt} {a:Plc} (h:Good p s a) (k:Nat):Good p s { a with at_:=k }:=⟨h.1,h.2,h.3,h.4,h.5,h.6,h.7⟩
theorem Qhq (r:List Int) (i:LIns) (P:List Int→Prop) (h1:i.op=1→P (rset r i.a i.n)) (h2:i.op=2→P (rset r i.a (rg r i.b))) (h10:i.op=10→P (rset r i.a (wrap64 (rg r i.b+i.n))))
  (h11:i.op=11→(rg r i.a < 0∨i.n≤rg r i.a→P (rset r i.a 0))∧(0≤rg r i.a∧rg r i.a < i.n→P r)) (h12:i.op=12→P r)
  (ho:i.op≠1→i.op≠2→i.op≠10→i.op≠11→i.op≠12→P (rset r i.a (nop (i.op - 20) (rg r i.b) (rg r i.c)))):P (Q2w r i):=by
 unfold Q2w
 by_cases e1:i.op=1
 ·rw [if_pos e1];exact h1 e1
 rw [if_neg e1]
 by_cases e2:i.op=2
 ·rw [if_pos e2];exact h2 e2
 rw [if_neg e2]
 by_cases e10:i.op=10
 ·rw [if_pos e10];exact h10 e10
 rw [if_neg e10]
 by_cases e11:i.op=11
 ·rw [if_pos e11]
  split
  ·rename_i h;exact (h11 e11).1 h
  ·rename_i h;exact (h11 e11).2 (by omega)
 rw [if_neg e11]
 by_cases e12:i.op=12
 ·rw [if_pos e12];exact h12 e12
 rw [if_neg e12]
 exact ho e1 e2 e10 e11 e12
theorem Q7e (r:List Int) (a v:Int):(rset r a v).length=r.length:=by simp [rset]
theorem Q1p.rset {r:List Int} (h:Q1p r) (a:Int) {v:Int} (hv:R64 v):Q1p (rset r a v):=h.set _ hv
theorem Ql4 {r:List Int} {i:LIns} (h:Q1p r) (hn:R64 i.n):Q1p (Q2w r i) :=
 Qhq r i Q1p (fun _=>h.rset _ hn) (fun _=>h.rset _ (h _)) (fun _=>h.rset _ (Qdi _)) (fun _=>⟨fun _=>h.rset _ Q4l,fun _=>h⟩) (fun _=>h) (fun _ _ _ _ _=>h.rset _ (Qoj (h _)))
theorem Qho (r:List Int) (i:LIns):(Q2w r i).length=r.length :=
 Qhq r i (fun r'=>r'.length=r.length) (fun _=>Q7e _ _ _) (fun _=>Q7e _ _ _) (fun _=>Q7e _ _ _) (fun _=>⟨fun _=>Q7e _ _ _,fun _=>rfl⟩) (fun _=>rfl) (fun _ _ _ _ _=>Q7e _ _ _)
theorem Q4p {p:Q00} {R:Int} {i:LIns} (h:Q04 p R i=true) :
  (i.op=1→okIn R i.a=true)∧(i.op=2→okIn R i.a=true∧okIn R i.b=true)∧(i.op=10→okIn R i.a=true∧okIn R i.b=true)∧(i.op=3∨i.op=4→okIn R i.a=true∧okIn R i.b=true) ∧
   (i.op=5∨i.op=6→okIn R i.a=true)∧(i.op=8→okIn R i.a=true∧okIn R i.b=true∧1≤i.c∧i.c≤4)∧(i.op=9→okIn R i.a=true)∧(i.op=11→okIn R i.a=true∧1≤i.n∧i.n≤64) ∧
   (i.op≠1→i.op≠2→i.op≠10→i.op≠3→i.op≠4→i.op≠5→i.op≠6→i.op≠7→i.op≠8→i.op≠9→i.op≠11→i.op≠12→okIn R i.a=true∧okIn R i.b=true∧okIn R i.c=true∧21≤i.op∧i.op≤30) ∧
   (i.op=7∨i.op=8→0≤i.n∧i.n.toNat < p.code.length)∧(1≤i.op∧i.op≤12∨21≤i.op∧i.op≤30):=by
 simp only [Q04] at h
 by_cases e1:i.op=1
 ·simp [e1,okIn] at h ⊢;omega
 by_cases e2:i.op=2
 ·simp [e2,okIn] at h ⊢;omega
 by_cases e10:i.op=10
 ·simp [e10,okIn] at h ⊢;omega
 by_cases e3:i.op=3∨i.op=4
 ·rcases e3 with e3 | e3 <;> simp [e3,okIn] at h ⊢ <;> omega
 by_cases e5:i.op=5∨i.op=6
 ·rcases e5 with e5 | e5 <;> simp [e5,okIn] at h ⊢ <;> omega
 by_cases e7:i.op=7
 ·simp [e7,okIn] at h ⊢;omega
 by_cases e8:i.op=8
 ·simp [e8,okIn] at h ⊢;omega
 by_cases e9:i.op=9
 ·simp [e9,okIn] at h ⊢;omega
 by_cases e11:i.op=11
 ·simp [e11,okIn] at h ⊢;omega
 by_cases e12:i.op=12
 ·simp [e12,okIn] at h ⊢
 rw [if_neg e1,if_neg e2,if_neg e10,if_neg e3,if_neg e5,if_neg e7,if_neg e8,if_neg e9,if_neg e11,if_neg e12] at h
 simp [okIn] at h
 simp [okIn]
 omega
theorem Qn4 (l:List Int) (x:Int) (n:Nat):(l ++ [x]).getD n 0=if n=l.length then x else l.getD n 0:=by
 simp only [List.getD_eq_getElem?_getD,List.getElem?_append]
 by_cases h:n < l.length
 ·rw [if_pos h,if_neg (by omega)]
 ·rw [if_neg h]
  by_cases e:n=l.length
  ·subst e;simp
  ·rw [if_neg e,List.getElem?_eq_none (by simp;omega),List.getElem?_eq_none (by omega)]
theorem Q1p.snoc {l:List Int} (h:Q1p l) {x:Int} (hx:R64 x):Q1p (l ++ [x]):=fun n=>by
 rw [Qn4]
 split
 ·exact hx
 ·exact h n
def EqP (s:KSt) (r t:List Int):Prop := ∀ j,j < 8→(s.getD j default).sec=false→r.getD j 0=t.getD j 0
structure MemR (p:Q00) (a b:Plc):Prop where
 pub:Pub p a.words b.words
 plen:∀ n,(a.past.getD n []).length=(b.past.getD n []).length
 ppub:∀ n,secW p n=false→a.past.getD n []=b.past.getD n []
structure Pair (p:Q00) (s:KSt) (a b:Plc):Prop where
 ga:Good p s a
 gb:Good p s b
 eq:EqP s a.regs b.regs
 mem:MemR p a b
theorem EqP.mono {s t:KSt} {r u:List Int} (h:EqP s r u) (k:Sle s t):EqP t r u:=fun j hj e=>h j hj (by
 cases hs:(s.getD j default).sec
 ·rfl
 ·rw [(k j).2 hs] at e;cases e)
theorem EqP.set {s:KSt} {r u:List Int} (h:EqP s r u) (hl:s.length=8) (hr:r.length=10) (hu:u.length=10) (a:Int) {k:LKn} {v w:Int} (hv:k.sec=false→v=w):EqP (kset s a k) (rset r a v) (rset u a w):=fun j hj=>by
 rw [Q9f,hl]
 unfold rset
 rw [Q6k,Q6k,hr,hu]
 by_cases e:j=a.toNat
 ·rw [if_pos ⟨e,hj⟩,if_pos ⟨e,by omega⟩,if_pos ⟨e,by omega⟩];exact hv
 ·rw [if_neg (by omega),if_neg (by omega),if_neg (by omega)];exact h j hj
theorem EqP.at_ {s:KSt} {r u:List Int} (h:EqP s r u) {a:Int} (ha:okIn 8 a=true) (hs:(kg s a).sec=false):rg r a=rg u a:=by
 rw [Q0l] at ha
 exact h a.toNat (by omega) hs
theorem Pair.mono {p:Q00} {s t:KSt} {a b:Plc} (hs:Sok s) (ht:Sok t) (h:Pair p s a b) (k:Sle s t):Pair p t a b:=⟨h.ga.mono hs ht k,h.gb.mono hs ht k,h.eq.mono k,h.mem⟩
theorem Pair.goTo {p:Q00} {s:KSt} {a b:Plc} (h:Pair p s a b) (k l:Nat):Pair p s { a with at_:=k } { b with at_:=l }:=⟨h.ga.goTo k,h.gb.goTo l,h.eq,⟨h.mem.1,h.mem.2,h.mem.3⟩⟩
structure Q76 (p:Q00) (T:Tab):Prop where
 may:Q2p p=true
 n64:∀ i ∈ p.code,R64 i.n
 post:Post p T
 none_:(Q3x p T).1=0
theorem Qjv {p:Q00} {k:Nat} {i:LIns} (h:p.code[k]? = some i):Q1t p k=i:=by
 unfold Q1t
 rw [List.getD_eq_getElem?_getD,h];rfl
theorem Qm4 {p:Q00} {T:Tab} (h:Tok p T) {k:Nat} {s:KSt} (hk:tg T k=some s):k < p.code.length:=by
 rcases Nat.lt_or_ge k p.code.length with h1 | h1
 ·exact h1
 ·unfold tg at hk
  rw [List.getD_eq_getElem?_getD,List.getElem?_eq_none (by rw [h.len];omega)] at hk
  simp at hk
section
variable {p : Q00} {T : Tab} {k : Nat} {s : KSt} {i : LIns}
theorem Q76.ins (h:Q76 p T) (hi:p.code[k]? = some i):Q04 p 8 i=true∧R64 i.n:=by
 have hm:=List.mem_of_getElem? hi
 exact ⟨(Q5g h.may).2.2.2 i hm,h.n64 i hm⟩
theorem Q76.faults (h:Q76 p T) (hk:tg T k=some s) (hi:p.code[k]? = some i):Q37 p k s i=true∧Q31 p s i=true:=by
 have:=Qu6 h.post.tok.len h.none_ k s hk
 rw [Qjv hi] at this
 exact this
theorem Q76.led (h:Q76 p T) (hk:tg T k=some s) (hi:p.code[k]? = some i) {x:Nat × KSt} (hx:x ∈ Q0o p k s i):x.1 < p.code.length→∃ t,tg T x.1=some t∧Sle x.2 t:=by
 have:=h.post.leads k s hk
 rw [Qjv hi] at this
 exact this x hx
theorem Q76.next (h:Q76 p T) (hk:tg T k=some s) (hi:p.code[k]? = some i) (h7:i.op≠7) (h9:i.op≠9):k+1 < p.code.length:=by
 obtain ⟨hb,hq⟩:=h.faults hk hi
 have hlt:=Qm4 h.post.tok hk
 have:Q35 p k=false:=by
  unfold Q37 at hb
  rw [if_neg (by omega)] at hb
  split at hb
  ·simp only [Bool.and_eq_true] at hb;simpa using hb.1.1
  ·simpa using hb
 simp only [Q35,decide_eq_false_iff_not] at this
 omega
end
def PP (p:Q00) (T:Tab) (a b:Plc):Prop:=a.at_=b.at_∧∃ s,tg T a.at_=some s∧Pair p s a b
theorem PP.to {p:Q00} {T:Tab} (h:Q76 p T) {k:Nat} {s s':KSt} {i:LIns} (hk:tg T k=some s) (hi:p.code[k]? = some i) {a b:Plc} {n:Nat} (hx:(n,s') ∈ Q0o p k s i) (hn:n < p.code.length) (hP:Pair p s' a b) (ha:a.at_=n) (hb:b.at_=n):PP p T a b:=by
 obtain ⟨t,ht,hl⟩:=h.led hk hi hx hn
 refine ⟨by rw [ha,hb],t,by rw [ha];exact ht,hP.mono ?_ (h.post.tok.ok _ _ ht) hl⟩
 exact Qe5 p k (h.post.tok.ok k s hk) i _ hx
abbrev Lab:=Nat→Bool
def lb (L:Lab) (r:Int):Bool:=L r.toNat
section
variable {p : Q00} {Ann : Nat → Lab → Option (Int × Int) → Prop}
end
section
variable {α β : Type}
def plc (f:α→List β) (l:List α) (k:Nat):Nat:=((l.take k).flatMap f).length
theorem Qbl (f:α→List β) (l:List α) {k:Nat} {x:α} (h:l[k]? = some x):plc f l (k+1)=plc f l k+(f x).length:=by
 obtain ⟨hk,rfl⟩:=List.getElem?_eq_some_iff.1 h
 unfold plc
 rw [List.take_succ_eq_append_getElem hk,List.flatMap_append]
 simp
theorem Qp3 (f:α→List β) (l:List α) {k:Nat} (h:l.length≤k):plc f l k=(l.flatMap f).length:=by
 unfold plc
 rw [List.take_of_length_le h]
theorem Qp2 (f:α→List β) (l:List α) {j k:Nat} (h:j≤k):plc f l j≤plc f l k:=by
 obtain ⟨d,rfl⟩:∃ d,k=j+d:=⟨k - j,by omega⟩
 unfold plc
 rw [List.take_add,List.flatMap_append,List.length_append]
 omega
theorem Qex (f:α→List β) (l:List α) {k:Nat} {x:α} (h:l[k]? = some x) (j:Nat) (hj:j < (f x).length):(l.flatMap f)[plc f l k+j]? = (f x)[j]? := by
 obtain ⟨hk,rfl⟩:=List.getElem?_eq_some_iff.1 h
 have e:l=l.take k ++ l[k] :: l.drop (k+1):=by
  rw [← List.drop_eq_getElem_cons hk,List.take_append_drop]
 have e2:l.flatMap f=(l.take k).flatMap f ++ (f l[k] ++ (l.drop (k+1)).flatMap f):=by
  conv=>lhs;rw [e]
  rw [List.flatMap_append,List.flatMap_cons]
 rw [e2]
 unfold plc
 rw [List.getElem?_append_right (by omega),Nat.add_sub_cancel_left,List.getElem?_append_left hj]
theorem Qhm (f:α→List β) (hf:∀ x,f x≠[]) (l:List α) {k:Nat} (h:k < l.length):plc f l k < (l.flatMap f).length:=by
 have h1:=Qbl f l (List.getElem?_eq_getElem h)
 have h2:=Qp2 f l (show k+1≤l.length by omega)
 rw [Qp3 f l (Nat.le_refl _)] at h2
 have:=List.length_pos_iff.2 (hf l[k])
 omega
theorem Q7q (f:α→List β) (c:Nat):∀ (l:List α),(∀ x ∈ l,(f x).length≤c)→(l.flatMap f).length≤c * l.length
 | [],_=>by simp
 | x :: l,h=>by
  have h1:=h x (by simp)
  have h2:=Q7q f c l fun y hy=>h y (by simp [hy])
  rw [List.flatMap_cons,List.length_append,List.length_cons,Nat.mul_succ]
  omega
theorem Qah (f:α→List β):∀ (l:List α) (q:Nat),q < (l.flatMap f).length→∃ k x j,l[k]? = some x∧j < (f x).length∧q=plc f l k+j
 | [],q,h=>by simp at h
 | x :: l,q,h=>by
  rcases Nat.lt_or_ge q (f x).length with h1 | h1
  ·exact ⟨0,x,q,by simp,h1,by simp [plc]⟩
  ·rw [List.flatMap_cons,List.length_append] at h
   obtain ⟨k,y,j,e1,e2,e3⟩:=Qah f l (q - (f x).length) (by omega)
   refine ⟨k+1,y,j,by simpa using e1,e2,?_⟩
   unfold plc at e3 ⊢
   rw [List.take_succ_cons,List.flatMap_cons,List.length_append]
   omega
end
def Q10 (p:Q00) (i:LIns):List LIns :=
 if i.op=3∨i.op=4 then [⟨10,8,i.b,0,i.n⟩,⟨11,8,0,0,((Q0t (Q11 p i):Nat):Int)⟩,⟨i.op,i.a,8,i.c,0⟩] else [i]
def Q1j (f:Nat→Nat) (i:LIns):LIns:=if i.op=7∨i.op=8 then { i with n:=(f i.n.toNat:Nat) } else i
def rawH (p:Q00):List LIns:=p.code.flatMap (Q10 p)
def Q0s (p:Q00) (k:Nat):Nat:=plc (Q10 p) p.code k
def Q06 (p:Q00):Q00:=⟨p.regs,(rawH p).map (Q1j (Q0s p))⟩
theorem Qvj (p:Q00) (i:LIns):Q10 p i≠[]:=by unfold Q10;split <;> simp
theorem Q7y (p:Q00) (i:LIns):(Q10 p i).length=if i.op=3∨i.op=4 then 3 else 1:=by unfold Q10;split <;> rfl
theorem Q8p (p:Q00):(Q06 p).code.length≤3 * p.code.length:=by
 simp only [Q06,rawH,List.length_map]
 refine Q7q (Q10 p) 3 p.code fun x _=>?_
 rw [Q7y]
 split <;> omega
theorem Q94 {f:Nat→Nat} {i:LIns} (h:¬ (i.op=7∨i.op=8)):Q1j f i=i:=by unfold Q1j;rw [if_neg h]
theorem Q96 {p:Q00} {k:Nat} (h:k < p.code.length):Q0s p k < (Q06 p).code.length:=by
 simp only [Q06,rawH,List.length_map]
 exact Qhm _ (Qvj p) _ h
theorem Qes {p:Q00} {k:Nat} {i:LIns} (h:p.code[k]? = some i) (h3:¬ (i.op=3∨i.op=4)):(Q06 p).code[Q0s p k]? = some (Q1j (Q0s p) i)∧Q0s p (k+1)=Q0s p k+1:=by
 have e:Q10 p i=[i]:=by unfold Q10;rw [if_neg h3]
 have h1:=Qex (Q10 p) p.code h 0 (by rw [e];simp)
 have h2:=Qbl (Q10 p) p.code h
 rw [e] at h1 h2
 refine ⟨?_,h2⟩
 simp only [Q06,rawH,List.getElem?_map]
 have h1':(p.code.flatMap (Q10 p))[Q0s p k]? = some i:=by simpa [Q0s] using h1
 rw [h1'];rfl
theorem Qer {p:Q00} {k:Nat} {i:LIns} (h:p.code[k]? = some i) (h3:i.op=3∨i.op=4) :
  (Q06 p).code[Q0s p k]? = some ⟨10,8,i.b,0,i.n⟩∧(Q06 p).code[Q0s p k+1]? = some ⟨11,8,0,0,((Q0t (Q11 p i):Nat):Int)⟩∧(Q06 p).code[Q0s p k+2]? = some ⟨i.op,i.a,8,i.c,0⟩∧Q0s p (k+1)=Q0s p k+3:=by
 have e:Q10 p i=[⟨10,8,i.b,0,i.n⟩,⟨11,8,0,0,((Q0t (Q11 p i):Nat):Int)⟩,⟨i.op,i.a,8,i.c,0⟩]:=by unfold Q10;rw [if_pos h3]
 have g:=fun j hj=>Qex (Q10 p) p.code h j (by rw [e];exact hj)
 have h2:=Qbl (Q10 p) p.code h
 rw [e] at h2
 simp only [e] at g
 have m:∀ (q:Nat) (x:LIns),(p.code.flatMap (Q10 p))[q]? = some x→¬ (x.op=7∨x.op=8)→(Q06 p).code[q]? = some x:=by
  intro q x hq hx
  simp only [Q06,rawH,List.getElem?_map,hq,Option.map_some,Q94 hx]
 refine ⟨m _ _ (by simpa [Q0s] using g 0 (by simp)) (by simp),m _ _ (by simpa [Q0s] using g 1 (by simp)) (by simp),m _ _ (by simpa [Q0s] using g 2 (by simp)) ?_,h2⟩
 show ¬ (i.op=7∨i.op=8)
 omega
theorem Qjq {p q:Q00} (hr:p.regs=q.regs) {R:Int} {i:LIns} (h:Q04 p R i=true) (h7:¬ (i.op=7∨i.op=8)):Q04 q R i=true:=by
 simp only [Q04] at *
 rw [← hr]
 by_cases e7:i.op=7
 ·omega
 by_cases e8:i.op=8
 ·omega
 simp only [e7,e8,if_false] at *
 exact h
theorem Qk5 {p:Q00} (hm:Q2p p=true):Q3f (Q06 p)=true:=by
 obtain ⟨m1,m2,m3,m4⟩:=Q5g hm
 have hl:=Q8p p
 have hpos:=Q96 (p:=p) (k:=0) (by omega)
 simp only [Q3f,Q6p,Bool.and_eq_true,decide_eq_true_eq,List.all_eq_true]
 refine ⟨⟨⟨m1,by omega⟩,by omega⟩,fun x hx=>?_⟩
 obtain ⟨q,hq,rfl⟩:=List.getElem_of_mem hx
 have hq':q < (p.code.flatMap (Q10 p)).length:=by simpa [Q06,rawH] using hq
 obtain ⟨k,i,j,h1,h2,h3⟩:=Qah (Q10 p) p.code q hq'
 have hi:=m4 i (List.mem_of_getElem? h1)
 have hi10:=Qt0 (S:=10) (by omega) hi
 obtain ⟨g1,g2,g10,g3,g5,g8,g9,g11,go,g7,gop⟩:=Q4p hi
 suffices h:∀ y,(Q06 p).code[q]? = some y→Q04 (Q06 p) 10 y=true from h _ (List.getElem?_eq_getElem hq)
 intro y hy
 by_cases e3:i.op=3∨i.op=4
 ·obtain ⟨a1,a2,a3,a4⟩:=Qer h1 e3
  rw [Q7y,if_pos e3] at h2
  have hb:=g3 e3
  have hc:=(Q5s hi (by simp only [Q0q,Q1m,Bool.or_eq_true,decide_eq_true_eq];omega))
  have hw:=Q6s (Q11 p i) (Q6o m1 (Q11 p i) (by unfold Q11;simp [hc.2])).2
  have hw0:=Qfv (Q11 p i)
  simp only [Q0l] at hb
  have hj:j=0∨j=1∨j=2:=by omega
  have hcr:i.c < p.regs.length:=by omega
  unfold Q0s at a1 a2 a3
  rcases hj with rfl | rfl | rfl
  ·rw [h3,Nat.add_zero,a1] at hy
   obtain rfl:=Option.some.inj hy
   simp [Q04,okIn];omega
  ·rw [h3,a2] at hy
   obtain rfl:=Option.some.inj hy
   simp [Q04,okIn];omega
  ·rw [h3,a3] at hy
   obtain rfl:=Option.some.inj hy
   have hrl:(Q06 p).regs.length=p.regs.length:=rfl
   rcases e3 with e | e <;> simp [Q04,okIn,e] <;> omega
 ·obtain ⟨a1,a2⟩:=Qes h1 e3
  rw [Q7y,if_neg e3] at h2
  obtain rfl:j=0:=by omega
  unfold Q0s at a1
  rw [h3,Nat.add_zero,a1] at hy
  obtain rfl:=Option.some.inj hy
  by_cases e7:i.op=7∨i.op=8
  ·have ht:=Q96 (g7 e7).2
   unfold Q0s at ht
   unfold Q1j
   rw [if_pos e7]
   simp only [Q04] at hi10 ⊢
   rcases e7 with e | e
   ·simp [e,okIn] at hi10 ⊢;refine ⟨?_,?_⟩ <;> omega
   ·simp [e,okIn] at hi10 ⊢;omega
  ·rw [Q94 e7]
   exact Qjq (p:=p) (q:=Q06 p) rfl hi10 e7
def Q5w (to_ c:Int):List LIns:=[⟨1,9,0,0,13⟩,⟨27,to_,to_,9,0⟩,⟨1,9,0,0,c⟩,⟨25,to_,to_,9,0⟩]
def Q33 (n:Int) (k:Nat):Int:=n / 2 ^ (13 * k) % 8192
def numC (to_ n:Int):List LIns :=
 if Q1f n then [⟨1,to_,0,0,n⟩]
 else ⟨1,to_,0,0,n / 2 ^ 52⟩ :: (Q5w to_ (Q33 n 3) ++ Q5w to_ (Q33 n 2) ++ Q5w to_ (Q33 n 1) ++ Q5w to_ (Q33 n 0))
def insC (i:LIns):List LIns :=
 if i.op=1 then numC i.a i.n
 else if i.op=10∧Q1f i.n=false then numC 8 i.n ++ [⟨21,i.a,i.b,8,0⟩]
 else [i]
def Q1c (p:Q00) (q:Nat):Nat:=plc insC (Q06 p).code q
def Q1s (p:Q00):Q00:=⟨p.regs,((Q06 p).code.flatMap insC).map (Q1j (Q1c p))⟩
theorem Qa3 (to_ n:Int):(numC to_ n).length=if Q1f n then 1 else 17:=by unfold numC;split <;> rfl
theorem Q8m (i:LIns):(insC i).length=if i.op=1 then (if Q1f i.n then 1 else 17) else if i.op=10∧Q1f i.n=false then 18 else 1:=by
 unfold insC
 split
 ·exact Qa3 _ _
 ·split
  ·rename_i h
   rw [List.length_append,Qa3,if_neg (by simp [h.2])];rfl
  ·rfl
theorem Qt4 (i:LIns):insC i≠[]:=by
 intro h
 have:=Q8m i
 rw [h] at this
 simp only [List.length_nil] at this
 split at this
 ·split at this <;> omega
 ·split at this <;> omega
theorem Q6b (i:LIns):(insC i).length≤18:=by
 rw [Q8m]
 split
 ·split <;> omega
 ·split <;> omega
theorem Qdd (f:Nat→Nat) (i:LIns):(Q1j f i).op=i.op∧(Q1j f i).a=i.a∧(Q1j f i).b=i.b∧(Q1j f i).c=i.c:=by unfold Q1j;split <;> simp
theorem Qjt (f:Nat→Nat) (i:LIns):(insC (Q1j f i)).length=(insC i).length:=by
 by_cases h:i.op=7∨i.op=8
 ·rw [Q8m,Q8m,(Qdd f i).1,if_neg (by omega),if_neg (by omega),if_neg (by omega),if_neg (by omega)]
 ·rw [Q94 h]
theorem Qvi (p:Q00) (f:Nat→Nat) (i:LIns):(((Q10 p i).map (Q1j f)).flatMap insC).length≤20:=by
 unfold Q10
 split
 ·rename_i h
  simp only [List.map_cons,List.map_nil,List.flatMap_cons,List.flatMap_nil,List.length_append,List.length_nil,Qjt]
  have h1:=Q6b ⟨10,8,i.b,0,i.n⟩
  have h2:(insC ⟨11,8,0,0,((Q0t (Q11 p i):Nat):Int)⟩).length=1:=by simp [Q8m]
  have h3:(insC ⟨i.op,i.a,8,i.c,0⟩).length=1:=by
   rw [Q8m];simp only;rw [if_neg (by omega),if_neg (by omega)]
  omega
 ·simp only [List.map_cons,List.map_nil,List.flatMap_cons,List.flatMap_nil,List.append_nil,Qjt]
  have:=Q6b i
  omega
theorem Qiv (p:Q00) (f:Nat→Nat):∀ l:List LIns,(((l.flatMap (Q10 p)).map (Q1j f)).flatMap insC).length≤20 * l.length
 | []=>by simp
 | i :: l=>by
  have h1:=Qvi p f i
  have h2:=Qiv p f l
  rw [List.flatMap_cons,List.map_append,List.flatMap_append,List.length_append,List.length_cons,Nat.mul_succ]
  omega
theorem Q7l (p:Q00):(Q1s p).code.length≤20 * p.code.length:=by
 simp only [Q1s,List.length_map]
 exact Qiv p (Q0s p) p.code
theorem Qdo {p:Q00} {q:Nat} (h:q < (Q06 p).code.length):Q1c p q < (Q1s p).code.length:=by
 simp only [Q1s,List.length_map]
 exact Qhm _ Qt4 _ h
theorem Qiw {p:Q00} {q:Nat} {x:LIns} (h:(Q06 p).code[q]? = some x) (t:Nat) (ht:t < (insC x).length):(Q1s p).code[Q1c p q+t]? = ((insC x)[t]?).map (Q1j (Q1c p)):=by
 simp only [Q1s,List.getElem?_map]
 rw [show ((Q06 p).code.flatMap insC)[Q1c p q+t]? = (insC x)[t]? from Qex insC (Q06 p).code h t ht]
theorem Qpe {p:Q00} {q:Nat} {x:LIns} (h:(Q06 p).code[q]? = some x):Q1c p (q+1)=Q1c p q+(insC x).length:=Qbl insC _ h
theorem Qcf (n:Int) (k:Nat):0≤Q33 n k∧Q33 n k < 8192:=by unfold Q33;omega
theorem Qq8 {to_ n:Int} (h:Q1f n=false) (t:Nat) (h1:1≤t) (h2:t < 17) :
  (∃ c,0≤c∧c < 8192∧(numC to_ n)[t]? = some ⟨1,9,0,0,c⟩∧t≠16)∨(2≤t∧t≠16∧(numC to_ n)[t]? = some ⟨27,to_,to_,9,0⟩)∨(2≤t∧(numC to_ n)[t]? = some ⟨25,to_,to_,9,0⟩):=by
 have b3:=Qcf n 3
 have b2:=Qcf n 2
 have b1:=Qcf n 1
 have b0:=Qcf n 0
 unfold numC
 rw [if_neg (by simp [h])]
 have ht:t=1∨t=2∨t=3∨t=4∨t=5∨t=6∨t=7∨t=8∨t=9∨t=10∨t=11∨t=12∨t=13∨t=14∨t=15∨t=16:=by omega
 rcases ht with rfl | rfl | rfl | rfl | rfl | rfl | rfl | rfl | rfl | rfl | rfl | rfl | rfl | rfl | rfl | rfl
 ·exact .inl ⟨13,by omega,by omega,rfl,by omega⟩
 ·exact .inr (.inl ⟨by omega,by omega,rfl⟩)
 ·exact .inl ⟨_,b3.1,b3.2,rfl,by omega⟩
 ·exact .inr (.inr ⟨by omega,rfl⟩)
 ·exact .inl ⟨13,by omega,by omega,rfl,by omega⟩
 ·exact .inr (.inl ⟨by omega,by omega,rfl⟩)
 ·exact .inl ⟨_,b2.1,b2.2,rfl,by omega⟩
 ·exact .inr (.inr ⟨by omega,rfl⟩)
 ·exact .inl ⟨13,by omega,by omega,rfl,by omega⟩
 ·exact .inr (.inl ⟨by omega,by omega,rfl⟩)
 ·exact .inl ⟨_,b1.1,b1.2,rfl,by omega⟩
 ·exact .inr (.inr ⟨by omega,rfl⟩)
 ·exact .inl ⟨13,by omega,by omega,rfl,by omega⟩
 ·exact .inr (.inl ⟨by omega,by omega,rfl⟩)
 ·exact .inl ⟨_,b0.1,b0.2,rfl,by omega⟩
 ·exact .inr (.inr ⟨by omega,rfl⟩)
theorem Qq9 {to_ n:Int} (h:Q1f n=false):(numC to_ n)[0]? = some ⟨1,to_,0,0,n / 2 ^ 52⟩:=by
 unfold numC
 rw [if_neg (by simp [h])];rfl
def bigI (i:LIns):Prop:=(i.op=1∨i.op=10)∧Q1f i.n=false
def toI (i:LIns):Int:=if i.op=1 then i.a else 8
theorem Qni {p:Q00} {R:Int} {i:LIns} (h:Q04 p R i=true) (h1:i.op=1):i.b=0∧i.c=0:=by
 simp only [Q04] at h
 simp [h1,okIn] at h
 omega
theorem Qjs {p:Q00} {R:Int} {i:LIns} (hi:Q04 p R i=true) (h:¬ bigI i):insC i=[i]:=by
 unfold bigI at h
 unfold insC
 split
 ·rename_i h1
  have hf:Q1f i.n=true:=by
   cases hf:Q1f i.n
   ·exact absurd ⟨.inl h1,hf⟩ h
   ·rfl
  obtain ⟨hb,hc⟩:=Qni hi h1
  unfold numC
  rw [if_pos hf]
  cases i
  simp only at h1 hb hc
  subst h1 hb hc
  rfl
 ·rw [if_neg (by rintro ⟨a,b⟩;exact h ⟨.inr a,b⟩)]
theorem Qju {i:LIns} (h:bigI i):insC i=numC (toI i) i.n ++ (if i.op=1 then [] else [⟨21,i.a,i.b,8,0⟩])∧(insC i).length=if i.op=1 then 17 else 18:=by
 obtain ⟨h1,h2⟩:=h
 have hl:=Q8m i
 unfold insC toI at *
 by_cases e:i.op=1
 ·rw [if_pos e] at hl
  simp only [if_pos e] at hl ⊢
  rw [if_neg (by simp [h2])] at hl
  exact ⟨by simp,hl⟩
 ·have e10:i.op=10:=by omega
  simp only [if_neg e,if_pos (show i.op=10∧Q1f i.n=false from ⟨e10,h2⟩)] at hl ⊢
  exact ⟨trivial,hl⟩
theorem Qt5 {i:LIns} (h:bigI i) (t:Nat) (h1:1≤t) (h2:t < (insC i).length) :
  (∃ c,0≤c∧c < 8192∧(insC i)[t]? = some ⟨1,9,0,0,c⟩∧t+1 < (insC i).length)∨(2≤t∧t+1 < (insC i).length∧(insC i)[t]? = some ⟨27,toI i,toI i,9,0⟩)∨(2≤t∧(insC i)[t]? = some ⟨25,toI i,toI i,9,0⟩) ∨
   (2≤t∧t+1=(insC i).length∧i.op=10∧(insC i)[t]? = some ⟨21,i.a,i.b,8,0⟩):=by
 obtain ⟨e1,e2⟩:=Qju h
 rw [e2] at h2 ⊢
 have hnl:(numC (toI i) i.n).length=17:=by rw [Qa3,if_neg (by simp [h.2])]
 rcases Nat.lt_or_ge t 17 with ht | ht
 ·rw [e1,List.getElem?_append_left (by omega)]
  rcases Qq8 (to_:=toI i) h.2 t h1 ht with ⟨c,c0,c1,c2,c3⟩ | ⟨c1,c2,c3⟩ | ⟨c1,c2⟩
  ·exact .inl ⟨c,c0,c1,c2,by split <;> omega⟩
  ·exact .inr (.inl ⟨c1,by split <;> omega,c3⟩)
  ·exact .inr (.inr (.inl ⟨c1,c2⟩))
 ·have e10:i.op≠1:=by
   intro e
   rw [if_pos e] at h2;omega
  rw [if_neg e10] at h2 ⊢
  obtain rfl:t=17:=by omega
  refine .inr (.inr (.inr ⟨by omega,by omega,by have:=h.1;omega,?_⟩))
  rw [e1,if_neg e10,List.getElem?_append_right (by omega),hnl]
  rfl
theorem Qt6 {i:LIns} (h:bigI i):(insC i)[0]? = some ⟨1,toI i,0,0,i.n / 2 ^ 52⟩:=by
 obtain ⟨e1,e2⟩:=Qju h
 rw [e1,List.getElem?_append_left (by rw [Qa3,if_neg (by simp [h.2])];omega)]
 exact Qq9 h.2
structure InsH (p:Q00) (i:LIns):Prop where
 ok:Q04 (Q06 p) 10 i=true
 b8:i.op=10→okIn 8 i.b=true
 a9:i.op=1∨i.op=10→okIn 9 i.a=true
 n64:R64 i.n
theorem Qtk {p:Q00} (hm:Q2p p=true) (hn:∀ i ∈ p.code,R64 i.n):∀ i ∈ (Q06 p).code,InsH p i:=by
 intro x hx
 have h1:=(Q5m (Qk5 hm)).2.2.2 x hx
 obtain ⟨q,hq,rfl⟩:=List.getElem_of_mem hx
 have hlen:(Q06 p).code.length≤600:=by
  have:=Q8p p
  have:=(Q5g hm).2.2.1
  omega
 have hq':q < (p.code.flatMap (Q10 p)).length:=by simpa [Q06,rawH] using hq
 obtain ⟨k,i,j,e1,e2,e3⟩:=Qah (Q10 p) p.code q hq'
 have hmi:=List.mem_of_getElem? e1
 have hi:=(Q5g hm).2.2.2 i hmi
 obtain ⟨g1,g2,g10,g3,g5,g8,g9,g11,go,g7,gop⟩:=Q4p hi
 have key:∀ y,(Q06 p).code[q]? = some y→(y.op=10→okIn 8 y.b=true)∧(y.op=1∨y.op=10→okIn 9 y.a=true)∧R64 y.n:=by
  intro y hy
  by_cases h3:i.op=3∨i.op=4
  ·obtain ⟨a1,a2,a3,a4⟩:=Qer e1 h3
   rw [Q7y,if_pos h3] at e2
   have hj:j=0∨j=1∨j=2:=by omega
   unfold Q0s at a1 a2 a3
   rcases hj with rfl | rfl | rfl
   ·rw [e3,Nat.add_zero,a1] at hy
    obtain rfl:=Option.some.inj hy
    exact ⟨fun _=>(g3 h3).2,fun _=>by simp [okIn],hn i hmi⟩
   ·rw [e3,a2] at hy
    obtain rfl:=Option.some.inj hy
    have hc:=(Q5s hi (by simp only [Q0q,Q1m,Bool.or_eq_true,decide_eq_true_eq];omega))
    have hw:=Q6s (Q11 p i) (Q6o (Q5g hm).1 (Q11 p i) (by unfold Q11;simp [hc.2])).2
    exact ⟨fun e=>by simp at e,fun e=>by simp at e,by simp only [R64];omega⟩
   ·rw [e3,a3] at hy
    obtain rfl:=Option.some.inj hy
    exact ⟨fun e=>by simp only at e;omega,fun e=>by simp only at e;omega,by simp only [R64];omega⟩
  ·obtain ⟨a1,a2⟩:=Qes e1 h3
   rw [Q7y,if_neg h3] at e2
   obtain rfl:j=0:=by omega
   unfold Q0s at a1
   rw [e3,Nat.add_zero,a1] at hy
   obtain rfl:=Option.some.inj hy
   obtain ⟨r1,r2,r3,r4⟩:=Qdd (plc (Q10 p) p.code) i
   rw [r1,r2,r3]
   refine ⟨fun e=>(g10 e).2,fun e=>?_,?_⟩
   ·rcases e with e | e
    ·exact okIn_mono (by omega) (g1 e)
    ·exact okIn_mono (by omega) (g10 e).1
   ·unfold Q1j
    split
    ·rename_i h78
     have h1:=Q96 (g7 h78).2
     unfold Q0s at h1
     simp only [R64]
     omega
    ·exact hn i hmi
 obtain ⟨k1,k2,k3⟩:=key _ (List.getElem?_eq_getElem hq)
 exact ⟨h1,k1,k2,k3⟩
theorem Qrb {p:Q00} {q:Nat} {x:LIns} (hx:InsH p x) (h:(Q06 p).code[q]? = some x) (hb:¬ bigI x):(Q1s p).code[Q1c p q]? = some (Q1j (Q1c p) x)∧Q1c p (q+1)=Q1c p q+1:=by
 have e:=Qjs hx.ok hb
 have h1:=Qiw h 0 (by rw [e];simp)
 have h2:=Qpe h
 rw [e] at h1 h2
 exact ⟨by simpa using h1,h2⟩
theorem Qaa {p:Q00} {q:Nat} {x:LIns} (h:(Q06 p).code[q]? = some x) {t:Nat} {y:LIns} (hy:(insC x)[t]? = some y) (h7:¬ (y.op=7∨y.op=8)):(Q1s p).code[Q1c p q+t]? = some y:=by
 rw [Qiw h t (List.getElem?_eq_some_iff.1 hy).1,hy]
 simp [Q94 h7]
theorem Qe2 {p:Q00} (hm:Q2p p=true) (hn:∀ i ∈ p.code,R64 i.n):∀ y ∈ (Q1s p).code,Q04 (Q1s p) 10 y=true∧Q1f y.n=true:=by
 intro y hy
 have hll:=Q7l p
 have hm2:=(Q5g hm).2.2.1
 obtain ⟨q',hq',rfl⟩:=List.getElem_of_mem hy
 have hq2:q' < ((Q06 p).code.flatMap insC).length:=by simpa [Q1s] using hq'
 obtain ⟨q,x,t,e1,e2,e3⟩:=Qah insC (Q06 p).code q' hq2
 have hx:=Qtk hm hn x (List.mem_of_getElem? e1)
 suffices h:∀ z,(Q1s p).code[q']? = some z→Q04 (Q1s p) 10 z=true∧Q1f z.n=true from h _ (List.getElem?_eq_getElem hq')
 intro z hz
 have e3':q'=Q1c p q+t:=e3
 rw [e3'] at hz
 by_cases hb:bigI x
 ·have hto:okIn 9 (toI x)=true:=by
   unfold toI
   split
   ·rename_i h;exact hx.a9 (.inl h)
   ·simp [okIn]
  rw [Q0l] at hto
  by_cases h0:t=0
  ·subst h0
   rw [Qaa e1 (Qt6 hb) (by simp)] at hz
   obtain rfl:=Option.some.inj hz
   have:=hx.n64
   unfold R64 at this
   refine ⟨by simp [Q04,okIn];omega,?_⟩
   simp [Q1f]
   omega
  ·rcases Qt5 hb t (by omega) e2 with ⟨c,c0,c1,c2,c3⟩ | ⟨c1,c2,c3⟩ | ⟨c1,c2⟩ | ⟨c1,c2,c3,c4⟩
   ·rw [Qaa e1 c2 (by simp)] at hz
    obtain rfl:=Option.some.inj hz
    refine ⟨by simp [Q04,okIn],?_⟩
    simp [Q1f]
    omega
   ·rw [Qaa e1 c3 (by simp)] at hz
    obtain rfl:=Option.some.inj hz
    refine ⟨by simp [Q04,okIn];omega,by simp [Q1f]⟩
   ·rw [Qaa e1 c2 (by simp)] at hz
    obtain rfl:=Option.some.inj hz
    refine ⟨by simp [Q04,okIn];omega,by simp [Q1f]⟩
   ·rw [Qaa e1 c4 (by simp)] at hz
    obtain rfl:=Option.some.inj hz
    have h1:=hx.b8 c3
    have h2:=hx.a9 (.inr c3)
    rw [Q0l] at h1 h2
    refine ⟨by simp [Q04,okIn];omega,by simp [Q1f]⟩
 ·obtain ⟨a1,a2⟩:=Qrb hx e1 hb
  have e:=Qjs hx.ok hb
  rw [e] at e2
  simp at e2
  subst e2
  rw [Nat.add_zero,a1] at hz
  obtain rfl:=Option.some.inj hz
  obtain ⟨g1,g2,g10,g3,g5,g8,g9,g11,go,g7,gop⟩:=Q4p hx.ok
  by_cases e78:x.op=7∨x.op=8
  ·have ht:=Qdo (g7 e78).2
   have hok:=hx.ok
   unfold Q1j
   rw [if_pos e78]
   simp only [Q04] at hok ⊢
   rcases e78 with e | e
   ·simp [e,okIn,Q1f] at hok ⊢;omega
   ·simp [e,okIn,Q1f] at hok ⊢;omega
  ·rw [Q94 e78]
   refine ⟨Qjq (p:=Q06 p) (q:=Q1s p) rfl hx.ok e78,?_⟩
   have hok:=hx.ok
   simp only [Q1f,Bool.and_eq_true,decide_eq_true_eq]
   by_cases h1:x.op=1∨x.op=10
   ·have:Q1f x.n=true:=by
     cases hf:Q1f x.n
     ·exact absurd ⟨h1,hf⟩ hb
     ·rfl
    simpa [Q1f] using this
   by_cases h3:x.op=3∨x.op=4
   ·-- a word's number is 0
    obtain ⟨k,i,j,f1,f2,f3⟩:=Qah (Q10 p) p.code q (by simpa [Q06,rawH] using (List.getElem?_eq_some_iff.1 e1).1)
    by_cases hi3:i.op=3∨i.op=4
    ·obtain ⟨b1,b2,b3,b4⟩:=Qer f1 hi3
     rw [Q7y,if_pos hi3] at f2
     have hj:j=0∨j=1∨j=2:=by omega
     unfold Q0s at b1 b2 b3
     rcases hj with rfl | rfl | rfl
     ·rw [f3,Nat.add_zero,b1] at e1
      obtain rfl:=Option.some.inj e1
      simp at h3
     ·rw [f3,b2] at e1
      obtain rfl:=Option.some.inj e1
      simp at h3
     ·rw [f3,b3] at e1
      obtain rfl:=Option.some.inj e1
      simp
    ·obtain ⟨b1,b2⟩:=Qes f1 hi3
     rw [Q7y,if_neg hi3] at f2
     obtain rfl:j=0:=by omega
     unfold Q0s at b1
     rw [f3,Nat.add_zero,b1] at e1
     obtain rfl:=Option.some.inj e1
     rw [(Qdd _ i).1] at h3
     exact absurd h3 hi3
   by_cases h11:x.op=11
   ·have:=g11 h11;omega
   simp only [Q04] at hok
   by_cases h5:x.op=5∨x.op=6
   ·rw [if_neg (by omega),if_neg (by omega),if_neg (by omega),if_neg h3,if_pos h5] at hok
    simp only [okIn,Bool.and_eq_true,decide_eq_true_eq] at hok
    have hc:=Q5s hx.ok (by simp only [Q0q,Q1m,Bool.or_eq_true,decide_eq_true_eq];omega)
    have hw:=Q6s ((Q06 p).regs.getD x.c.toNat default) (Q6o (Q5g hm).1 _ (by
     have:x.c.toNat < p.regs.length:=hc.2
     show p.regs.getD x.c.toNat default ∈ p.regs
     simp [this])).2
    omega
   ·have h0:x.n=0:=by
     by_cases h2:x.op=2
     ·simp [h2,okIn] at hok;omega
     by_cases h9:x.op=9
     ·simp [h9,okIn] at hok;omega
     by_cases h12:x.op=12
     ·simp [h12,okIn] at hok;omega
     rw [if_neg (by omega),if_neg h2,if_neg (by omega),if_neg h3,if_neg h5,if_neg (by omega),if_neg (by omega),if_neg h9,if_neg h11,if_neg h12] at hok
     simp [okIn] at hok;omega
    omega
theorem Qrd {p:Q00} (hm:Q2p p=true) (hn:∀ i ∈ p.code,R64 i.n):Q3f (Q1s p)=true:=by
 obtain ⟨m1,m2,m3,m4⟩:=Q5g hm
 have hl:=Q7l p
 have h0:=Q96 (p:=p) (k:=0) (by omega)
 have h1:=Qdo (p:=p) (q:=0) (by omega)
 simp only [Q3f,Q6p,Bool.and_eq_true,decide_eq_true_eq,List.all_eq_true]
 exact ⟨⟨⟨m1,by omega⟩,by omega⟩,fun x hx=>(Qe2 hm hn x hx).1⟩
def Q58 (i:LIns):Int:=(((i.op * 16+i.a) * 16+i.b) * 16+i.c) * 16384+(if i.n < 0 then i.n+16384 else i.n)
def Q7r (i:LIns):Bool:=Q1f i.n
def Q5f:List LIns→Nat→Option Nat
 | [],_=>none
 | i :: l,k=>if Q7r i then Q5f l (k+1) else some k
def putW (p:Q00):List Int × Int × Nat :=
 if !Q3f p then ([],2,0)
 else match Q5f p.code 0 with
  | some k=>([],3,k)
  | none=>(p.code.map Q58,0,0)
structure Qfn (i:LIns):Prop where
 op:0≤i.op∧i.op < 64
 a:0≤i.a∧i.a < 16
 b:0≤i.b∧i.b < 16
 c:0≤i.c∧i.c < 16
theorem Qef {p:Q00} (hr:p.regs.length≤6) {i:LIns} (h:Q04 p 10 i=true):Qfn i:=by
 obtain ⟨g1,g2,g10,g3,g5,g8,g9,g11,go,g7,gop⟩:=Q4p h
 have hop:0≤i.op∧i.op < 64:=by omega
 have hl:(p.regs.length:Int)≤6:=by omega
 have key:(0≤i.a∧i.a < 16)∧(0≤i.b∧i.b < 16)∧(0≤i.c∧i.c < 16):=by
  simp only [Q04] at h
  generalize (p.regs.length:Int)=l at *
  generalize (p.code.length:Int)=m at *
  generalize ((Q0t (p.regs.getD i.c.toNat default):Nat):Int)=w at *
  repeat' split at h
  all_goals (simp only [okIn,Bool.and_eq_true,decide_eq_true_eq] at h;omega)
 exact ⟨hop,key.1,key.2.1,key.2.2⟩
theorem Qln {i:LIns} (h:Qfn i) (hf:Q7r i=true):0≤Q58 i∧Q58 i < 4294967296:=by
 obtain ⟨⟨h1,h2⟩,⟨h3,h4⟩,⟨h5,h6⟩,h7,h8⟩:=h
 simp only [Q7r,Q1f,Bool.and_eq_true,decide_eq_true_eq] at hf
 unfold Q58
 split <;> omega
theorem Qim {l:List LIns}:∀ k,(∀ i ∈ l,Q7r i=true)→Q5f l k=none:=by
 induction l with
 | nil=>intro k _;rfl
 | cons i l ih =>
  intro k h
  rw [Q5f,if_pos (h i (by simp))]
  exact ih _ fun j hj=>h j (by simp [hj])
end Go.Proofs.YtiafchefbehfbaaGreatDoor
