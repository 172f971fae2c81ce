/- Laid together from: TxM, TxW, DrP, TxV. -/
import Derived.Test.YtiafchefbehfbaaGreatDoorDriveTellsB8
import Derived.Lib.Split
import Derived.Lib.SplitLaws
import Derived.Lib.IndexBytes
import Derived.Test.YtiafchefbehfbaaGreatDoorDriveTellsB3

namespace Go.Proofs.YtiafchefbehfbaaGreatDoor
set_option linter.unusedVariables false
set_option linter.unusedSimpArgs false
def Q08 (c:UInt8):List UInt8→List (List UInt8)
 | []=>[[]]
 | b :: l=>if b=c then [] :: Q08 c l else (b :: (Q08 c l).headD []) :: (Q08 c l).tail
theorem Q86 (c:UInt8) (l:List UInt8):Q08 c l≠[]:=by
 cases l with
 | nil=>simp [Q08]
 | cons b l=>unfold Q08;split <;> simp
theorem Q8z (c:UInt8):∀ l:List UInt8,(Q08 c l).length=l.count c+1
 | []=>rfl
 | b :: l=>by
  have ih:=Q8z c l
  have hn:=Q86 c l
  unfold Q08
  by_cases h:b=c
  ·subst h
   rw [if_pos rfl,List.length_cons,ih,List.count_cons_self]
  ·rw [if_neg h,List.length_cons,List.length_tail,ih,List.count_cons_of_ne h]
   omega
theorem Qcy {c:UInt8}:∀ {a:List UInt8},c ∉ a→Q08 c a=[a]
 | [],_=>rfl
 | b :: a,h=>by
  simp only [List.mem_cons,not_or] at h
  unfold Q08
  rw [if_neg (fun e=>h.1 e.symm),Qcy h.2]
  rfl
theorem Qcz {c:UInt8}:∀ {a:List UInt8} (b:List UInt8),c ∉ a→Q08 c (a ++ c :: b)=a :: Q08 c b
 | [],b,_=>by simp [Q08]
 | x :: a,b,h=>by
  simp only [List.mem_cons,not_or] at h
  rw [List.cons_append]
  conv=>lhs;unfold Q08
  rw [if_neg (fun e=>h.1 e.symm),Qcz b h.2]
  rfl
theorem Qka {c:UInt8}:∀ {l:List UInt8},c ∈ l→∃ a b,l=a ++ c :: b∧c ∉ a
 | x :: l,h=>by
  by_cases hx:x=c
  ·subst hx
   exact ⟨[],l,rfl,by simp⟩
  ·have:c ∈ l:=by
    rcases List.mem_cons.1 h with e | e
    ·exact absurd e.symm hx
    ·exact e
   obtain ⟨a,b,rfl,hn⟩:=Qka this
   exact ⟨x :: a,b,rfl,by simp only [List.mem_cons,not_or];exact ⟨fun e=>hx e.symm,hn⟩⟩
theorem Qtg {c:UInt8} (b:List UInt8):∀ {a:List UInt8},c ∉ a→Lib.index (a ++ c :: b) [c]=a.length:=by
 intro a h
 rw [Lib.index_one]
 induction a with
 | nil=>simp [Lib.indexByte]
 | cons x a ih =>
  simp only [List.mem_cons,not_or] at h
  have e:=ih h.2
  have hx:(x == c)=false:=by simpa using fun e=>h.1 e.symm
  rw [List.cons_append,Lib.indexByte,hx,e]
  simp only [Bool.false_eq_true,if_false,List.length_cons]
  rw [if_neg (by first | (simp;done) | (simp;omega))]
  omega
theorem Qgg (c:UInt8):∀ (n:Nat) (l:List UInt8),l.length≤n→Lib.splitK [c] 0 (l.count c) l=Q08 c l
 | n,l,hn=>by
  by_cases h:c ∈ l
  ·obtain ⟨a,b,rfl,ha⟩:=Qka h
   obtain ⟨m,rfl⟩:∃ m,n=m+1:=⟨n - 1,by simp at hn;omega⟩
   have ih:=Qgg c m b (by simp at hn;omega)
   have hc:(a ++ c :: b).count c=b.count c+1:=by
    rw [List.count_append,List.count_eq_zero.2 ha,List.count_cons_self]
    omega
   rw [hc,Qcz b ha,Lib.splitK,Qtg b ha]
   rw [if_neg (by first | (simp;done) | (simp;omega))]
   simp only [Nat.add_zero,Int.toNat_natCast,List.length_cons,List.length_nil,Nat.zero_add]
   rw [List.take_left',show a ++ c :: b=(a ++ [c]) ++ b by simp,List.drop_left' (by simp),ih]
   rfl
  ·rw [List.count_eq_zero.2 h,Qcy h]
   rfl
def Qh6:List UInt8:=[114,101,103,105,111,110]
structure LPl where
 p:Q00
 m:List (List Int)
structure Q82 where
 run:Q00→List (List Int)→Int→List UInt8
 ahead:Q00→List (List Int)→List Int→Int→List UInt8
 check:Q00→List UInt8
 hard:Q00→List UInt8 × Q00
 text:Q00→List UInt8
 load:Q00→List UInt8
def Qkd:List UInt8:=[102,105,108,108]
def Qiu:List UInt8:=[108,111,111,107]
def Qjp:List UInt8:=[105,110,115]
def runW:List UInt8:=[114,117,110]
def Ql5:List UInt8:=[97,104,101,97,100]
def Qku:List UInt8:=[99,104,101,99,107]
def Qk6:List UInt8:=[104,97,114,100]
def Qg3:List UInt8:=[116,101,120,116]
def Qiy:List UInt8:=[108,111,97,100]
def okW:List UInt8:=[111,107]
def badW:List UInt8:=[98,97,100]
def isW:List UInt8:=[105,115]
def sayT (w:List UInt8) (l:List Int):List UInt8:=w ++ l.flatMap fun n=>32 :: Lib.itoa n
def Q2e (s:LPl) (a b:Int):List UInt8 × LPl :=
 if a < 0∨6 < a∨b < 0∨1 < b∨6≤s.p.regs.length then ([63],s)
 else (sayT okW [((s.p.regs.length+1:Nat):Int)],⟨⟨s.p.regs ++ [⟨a,decide (b=1)⟩],s.p.code⟩,s.m ++ [List.replicate (2 ^ a.toNat) 0]⟩)
def Q36 (s:LPl) (l:List Int):List UInt8 × LPl :=
 if l.getD 0 0 < 0∨(s.m.length:Int)≤l.getD 0 0∨(s.m.getD (l.getD 0 0).toNat []).length < l.length - 1 then ([63],s)
 else (okW,⟨s.p,s.m.set (l.getD 0 0).toNat (l.drop 1 ++ (s.m.getD (l.getD 0 0).toNat []).drop (l.length - 1))⟩)
def Q2o (A:Q82) (s:LPl) (w:List UInt8) (l:List Int):List UInt8 × LPl :=
 if w=Qh6 then (if l.length=2 then Q2e s (l.getD 0 0) (l.getD 1 0) else ([63],s))
 else if w=Qkd then (if 1≤l.length then Q36 s l else ([63],s))
 else if w=Qiu then (if l.length=1∧0≤l.getD 0 0∧l.getD 0 0 < s.m.length then (sayT isW (s.m.getD (l.getD 0 0).toNat []),s) else ([63],s))
 else if w=Qjp then (if l.length=5∧s.p.code.length < 200 then (sayT okW [((s.p.code.length+1:Nat):Int)],⟨⟨s.p.regs,s.p.code ++ [⟨l.getD 0 0,l.getD 1 0,l.getD 2 0,l.getD 3 0,l.getD 4 0⟩]⟩,s.m⟩) else ([63],s))
 else if w=runW then (if l.length=1 then (A.run s.p s.m (l.getD 0 0),s) else ([63],s))
 else if w=Ql5 then (if 1≤l.length then (A.ahead s.p s.m (l.drop 1) (l.getD 0 0),s) else ([63],s))
 else if w=Qku then (if l.length=0 then (A.check s.p,s) else ([63],s))
 else if w=Qk6 then (if l.length=0 then ((A.hard s.p).1,⟨(A.hard s.p).2,s.m⟩) else ([63],s))
 else if w=Qg3 then (if l.length=0 then (A.text s.p,s) else ([63],s))
 else if w=Qiy then (if l.length=0 then (A.load s.p,s) else ([63],s))
 else ([63],s)
def Q0m:List (List UInt8)→Option (List Int)
 | []=>some []
 | w :: r=>(numT w 6).bind fun n=>(Q0m r).map (n :: ·)
def Q20 (A:Q82) (s:LPl) (t:List UInt8):List UInt8 × LPl :=
 match Q0m ((Q08 32 t).drop 1) with
 | none=>([63],s)
 | some l=>Q2o A s ((Q08 32 t).getD 0 []) l
def goD (A:Q82):LPl→List (List UInt8)→List UInt8
 | _,[]=>[]
 | s,t :: r=>(Q20 A s t).1 ++ [10] ++ goD A (Q20 A s t).2 r
def Q2q (s:List UInt8):List (List UInt8):=if (Q08 10 s).getLastD []=[] then (Q08 10 s).dropLast else Q08 10 s
def Q2l:LPl:=⟨⟨[],[]⟩,[]⟩
def Q8g (A:Q82) (s:List UInt8):List UInt8:=goD A Q2l ((Q2q s).take 40)
theorem Qi9:∀ (a b:List (List UInt8)) (l k:List Int),Q0m a=some l→Q0m b=some k→Q0m (a ++ b)=some (l ++ k)
 | [],b,l,k,h,h'=>by
  simp only [Q0m,Option.some.injEq] at h
  subst h
  simpa using h'
 | w :: a,b,l,k,h,h'=>by
  rw [Q0m,Option.bind_eq_some_iff] at h
  obtain ⟨n,hn,h⟩:=h
  rw [Option.map_eq_some_iff] at h
  obtain ⟨r,hr,rfl⟩:=h
  rw [List.cons_append,Q0m,hn,Option.bind_some,Qi9 a b r k hr h']
  rfl
theorem Q5e:∀ (a:List (List UInt8)) (k:Nat),k < a.length→numT (a.getD k []) 6=none→Q0m a=none
 | [],k,h,_=>by simp at h
 | w :: a,0,_,h=>by
  rw [List.getD_cons_zero] at h
  rw [Q0m,h]
  rfl
 | w :: a,k+1,hk,h=>by
  have:=Q5e a k (by simpa using hk) (by simpa using h)
  rw [Q0m,this]
  cases numT w 6 <;> rfl
theorem Q3s:∀ (a:List (List UInt8)) (l:List Int),Q0m a=some l→l.length=a.length
 | [],l,h=>by
  simp only [Q0m,Option.some.injEq] at h
  subst h
  rfl
 | w :: a,l,h=>by
  rw [Q0m,Option.bind_eq_some_iff] at h
  obtain ⟨n,hn,h⟩:=h
  rw [Option.map_eq_some_iff] at h
  obtain ⟨r,hr,rfl⟩:=h
  have:=Q3s a r hr
  simp [this]
def R6 (x:Int):Prop := -999999≤x∧x≤999999
theorem Qkr:∀ (k u:Nat),10 ^ k≤u→k+1≤(Lib.decDigits u).length
 | 0,u,h=>by
  have:=(Q7s u u (Nat.le_refl _)).2.2.1
  cases hd:Lib.decDigits u with
  | nil=>exact absurd hd this
  | cons x r=>simp
 | k+1,u,h=>by
  have hu:¬ u < 10:=by
   have:10≤10 ^ (k+1):=by
    calc 10=10 ^ 1:=rfl
     _≤10 ^ (k+1):=Nat.pow_le_pow_right (by omega) (by omega)
   omega
  have ih:=Qkr k (u / 10) (by rw [Nat.le_div_iff_mul_le (by omega)];rw [Nat.pow_succ] at h;omega)
  have e:Lib.decDigits u=Lib.decDigits (u / 10) ++ [UInt8.ofNat (48+u % 10)]:=by
   conv=>lhs;unfold Lib.decDigits
   rw [dif_neg hu]
  rw [e,List.length_append,List.length_singleton]
  omega
theorem num6 {w:List UInt8} {v:Int} (h:numT w 6=some v):R6 v:=by
 obtain ⟨-,rfl,h6⟩:=Qia.1 h
 apply Classical.byContradiction
 intro hn
 have hb:10 ^ 6≤v.natAbs:=by unfold R6 at hn;omega
 have hd:=Qkr 6 v.natAbs hb
 have key:(Lib.trimPrefix (Lib.itoa v) [45])=Lib.decDigits v.natAbs:=by
  rw [Qcq]
  unfold Lib.itoa
  by_cases hv:v < 0
  ·rw [if_pos hv,if_pos (by simp)]
   simp
  ·rw [if_neg hv,show v.toNat=v.natAbs by omega,if_neg]
   intro h45
   have h:=(Q7s v.natAbs v.natAbs (Nat.le_refl _)).1
   cases hq:Lib.decDigits v.natAbs with
   | nil=>rw [hq] at h45;simp at h45
   | cons x r =>
    rw [hq] at h45 h
    simp only [List.head?_cons,Option.some.injEq] at h45
    subst h45
    simp [isD] at h
 rw [key] at h6
 omega
theorem Q3a:∀ (a:List (List UInt8)) (l:List Int),Q0m a=some l→∀ x ∈ l,R6 x
 | [],l,h,x,hx=>by
  simp only [Q0m,Option.some.injEq] at h
  subst h
  simp at hx
 | w :: a,l,h,x,hx=>by
  rw [Q0m,Option.bind_eq_some_iff] at h
  obtain ⟨n,hn,h⟩:=h
  rw [Option.map_eq_some_iff] at h
  obtain ⟨r,hr,rfl⟩:=h
  rcases List.mem_cons.1 hx with rfl | hx
  ·exact num6 hn
  ·exact Q3a a r hr x hx
structure Q0x (s:LPl):Prop where
 regs:∀ r ∈ s.p.regs,0≤r.log∧r.log≤6
 regs6:s.p.regs.length≤6
 len:s.m.length=s.p.regs.length
 rows:∀ l ∈ s.m,1≤l.length∧l.length≤64
 code:s.p.code.length≤600
 m64:∀ l ∈ s.m,∀ z ∈ l,R64 z
theorem Qc2:Q0x Q2l:=⟨by simp [Q2l],by simp [Q2l],rfl,by simp [Q2l],by simp [Q2l],by simp [Q2l]⟩
theorem R6.r64 {x:Int} (h:R6 x):R64 x:=by unfold R6 at h;unfold R64;omega
theorem Qbk {a:Int} (h0:0≤a) (h6:a≤6):1≤2 ^ a.toNat∧2 ^ a.toNat≤64:=by
 have:a.toNat=0∨a.toNat=1∨a.toNat=2∨a.toNat=3∨a.toNat=4∨a.toNat=5∨a.toNat=6:=by omega
 rcases this with e | e | e | e | e | e | e <;> rw [e] <;> decide
theorem Qts {s:LPl} (h:Q0x s) {a:Int} {b:Bool} (h0:0≤a) (h6:a≤6) (hl:s.p.regs.length < 6):Q0x ⟨⟨s.p.regs ++ [⟨a,b⟩],s.p.code⟩,s.m ++ [List.replicate (2 ^ a.toNat) 0]⟩:=by
 refine ⟨fun r hr=>?_,by simp;omega,by simp [h.len],fun l hl'=>?_,h.code,fun l hl' z hz=>?_⟩
 ·rcases List.mem_append.1 hr with k | k
  ·exact h.regs r k
  ·rw [List.mem_singleton.1 k];exact ⟨h0,h6⟩
 ·rcases List.mem_append.1 hl' with k | k
  ·exact h.rows l k
  ·rw [List.mem_singleton.1 k,List.length_replicate]
   exact Qbk h0 h6
 ·rcases List.mem_append.1 hl' with k | k
  ·exact h.m64 l k z hz
  ·rw [List.mem_singleton.1 k] at hz
   rw [(List.mem_replicate.1 hz).2]
   exact ⟨by omega,by omega⟩
theorem Qtu {s:LPl} (h:Q0x s) {i:LIns} (hl:s.p.code.length < 200):Q0x ⟨⟨s.p.regs,s.p.code ++ [i]⟩,s.m⟩ :=
 ⟨h.regs,h.regs6,h.len,h.rows,by simp;omega,h.m64⟩
theorem Qtr {s:LPl} (h:Q0x s) {k:Nat} {l:List Int} (h1:l.length=(s.m.getD k []).length) (hk:k < s.m.length) (h64:∀ z ∈ l,R64 z):Q0x ⟨s.p,s.m.set k l⟩:=by
 have hm:s.m.getD k [] ∈ s.m:=by
  rw [List.getD_eq_getElem?_getD,List.getElem?_eq_getElem hk]
  exact List.getElem_mem hk
 refine ⟨h.regs,h.regs6,by simpa using h.len,fun r hr=>?_,h.code,fun r hr z hz=>?_⟩
 ·rcases List.mem_or_eq_of_mem_set hr with k' | rfl
  ·exact h.rows r k'
  ·rw [h1];exact h.rows _ hm
 ·rcases List.mem_or_eq_of_mem_set hr with k' | rfl
  ·exact h.m64 r k' z hz
  ·exact h64 z hz
theorem Qtt {s:LPl} (h:Q0x s) {q:Q00} (hr:q.regs=s.p.regs) (hc:q.code.length≤600):Q0x ⟨q,s.m⟩ :=
 ⟨by rw [hr];exact h.regs,by rw [hr];exact h.regs6,by rw [hr];exact h.len,h.rows,hc,h.m64⟩
theorem Qm1 (v:Int) (k:Nat) (h:v.natAbs < 10 ^ (k+1)):(Lib.trimPrefix (Lib.itoa v) [45]).length≤k+1:=by
 have:=Q9n k v.natAbs h
 rw [Qcq]
 unfold Lib.itoa
 by_cases hv:v < 0
 ·rw [if_pos hv]
  simpa using this
 ·rw [if_neg hv,show v.toNat=v.natAbs by omega]
  split
  ·rw [List.length_drop];omega
  ·exact this
end Go.Proofs.YtiafchefbehfbaaGreatDoor
