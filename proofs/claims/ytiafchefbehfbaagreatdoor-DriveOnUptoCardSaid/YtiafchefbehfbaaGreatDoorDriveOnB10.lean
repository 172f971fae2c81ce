/- Laid together from: TxM, TxW, DrP, TxV. -/
import Derived.Test.YtiafchefbehfbaaGreatDoorDriveOnB8
import Derived.Lib.Split
import Derived.Lib.SplitLaws
import Derived.Lib.IndexBytes
import Derived.Test.YtiafchefbehfbaaGreatDoorDriveOnB3

namespace Go.Proofs.YtiafchefbehfbaaGreatDoor
set_option linter.unusedVariables false
set_option linter.unusedSimpArgs false
def Q07 (c:UInt8):List UInt8→List (List UInt8)
 | []=>[[]]
 | b :: l=>if b=c then [] :: Q07 c l else (b :: (Q07 c l).headD []) :: (Q07 c l).tail
theorem Q7k (c:UInt8) (l:List UInt8):Q07 c l≠[]:=by
 cases l with
 | nil=>simp [Q07]
 | cons b l=>unfold Q07;split <;> simp
theorem Qaa (c:UInt8):∀ l:List UInt8,(Q07 c l).length=l.count c+1
 | []=>rfl
 | b :: l=>by
  have ih:=Qaa c l
  have hn:=Q7k c l
  unfold Q07
  by_cases h:b=c
  ·subst h
   rw [if_pos rfl,List.length_cons,ih,List.count_cons_self]
  ·rw [if_neg h,List.length_cons,List.length_tail,ih,List.count_cons_of_ne h]
   omega
theorem Qfd {c:UInt8}:∀ {a:List UInt8},c ∉ a→Q07 c a=[a]
 | [],_=>rfl
 | b :: a,h=>by
  simp only [List.mem_cons,not_or] at h
  unfold Q07
  rw [if_neg (fun e=>h.1 e.symm),Qfd h.2]
  rfl
theorem Qfe {c:UInt8}:∀ {a:List UInt8} (b:List UInt8),c ∉ a→Q07 c (a ++ c :: b)=a :: Q07 c b
 | [],b,_=>by simp [Q07]
 | x :: a,b,h=>by
  simp only [List.mem_cons,not_or] at h
  rw [List.cons_append]
  conv=>lhs;unfold Q07
  rw [if_neg (fun e=>h.1 e.symm),Qfe b h.2]
  rfl
theorem Qij {c:UInt8}:∀ {l:List UInt8},c ∈ l→∃ a b,l=a ++ c :: b∧c ∉ a
 | x :: l,h=>by
  by_cases hx:x=c
  ·subst hx
   exact ⟨[],l,rfl,by simp⟩
  ·have:c ∈ l:=by
    rcases List.mem_cons.1 h with e | e
    ·exact absurd e.symm hx
    ·exact e
   obtain ⟨a,b,rfl,hn⟩:=Qij this
   exact ⟨x :: a,b,rfl,by simp only [List.mem_cons,not_or];exact ⟨fun e=>hx e.symm,hn⟩⟩
theorem Qs2 {c:UInt8} (b:List UInt8):∀ {a:List UInt8},c ∉ a→Lib.index (a ++ c :: b) [c]=a.length:=by
 intro a h
 rw [Lib.index_one]
 induction a with
 | nil=>simp [Lib.indexByte]
 | cons x a ih =>
  simp only [List.mem_cons,not_or] at h
  have e:=ih h.2
  have hx:(x == c)=false:=by simpa using fun e=>h.1 e.symm
  rw [List.cons_append,Lib.indexByte,hx,e]
  simp only [Bool.false_eq_true,if_false,List.length_cons]
  rw [if_neg (by first | (simp;done) | (simp;omega))]
  omega
theorem Qff (c:UInt8):∀ (n:Nat) (l:List UInt8),l.length≤n→Lib.splitK [c] 0 (l.count c) l=Q07 c l
 | n,l,hn=>by
  by_cases h:c ∈ l
  ·obtain ⟨a,b,rfl,ha⟩:=Qij h
   obtain ⟨m,rfl⟩:∃ m,n=m+1:=⟨n - 1,by simp at hn;omega⟩
   have ih:=Qff c m b (by simp at hn;omega)
   have hc:(a ++ c :: b).count c=b.count c+1:=by
    rw [List.count_append,List.count_eq_zero.2 ha,List.count_cons_self]
    omega
   rw [hc,Qfe b ha,Lib.splitK,Qs2 b ha]
   rw [if_neg (by first | (simp;done) | (simp;omega))]
   simp only [Nat.add_zero,Int.toNat_natCast,List.length_cons,List.length_nil,Nat.zero_add]
   rw [List.take_left',show a ++ c :: b=(a ++ [c]) ++ b by simp,List.drop_left' (by simp),ih]
   rfl
  ·rw [List.count_eq_zero.2 h,Qfd h]
   rfl
def Qg3:List UInt8:=[114,101,103,105,111,110]
structure LPl where
 p:Q00
 m:List (List Int)
structure Q5m where
 run:Q00→List (List Int)→Int→List UInt8
 ahead:Q00→List (List Int)→List Int→Int→List UInt8
 check:Q00→List UInt8
 hard:Q00→List UInt8 × Q00
 text:Q00→List UInt8
 load:Q00→List UInt8
def Qil:List UInt8:=[102,105,108,108]
def Qhb:List UInt8:=[108,111,111,107]
def Qhz:List UInt8:=[105,110,115]
def runW:List UInt8:=[114,117,110]
def Qja:List UInt8:=[97,104,101,97,100]
def Qj0:List UInt8:=[99,104,101,99,107]
def Qid:List UInt8:=[104,97,114,100]
def Qf0:List UInt8:=[116,101,120,116]
def Qhe:List UInt8:=[108,111,97,100]
def okW:List UInt8:=[111,107]
def badW:List UInt8:=[98,97,100]
def isW:List UInt8:=[105,115]
def sayT (w:List UInt8) (l:List Int):List UInt8:=w ++ l.flatMap fun n=>32 :: Lib.itoa n
def Q3j (s:LPl) (a b:Int):List UInt8 × LPl :=
 if a < 0∨6 < a∨b < 0∨1 < b∨6≤s.p.regs.length then ([63],s)
 else (sayT okW [((s.p.regs.length+1:Nat):Int)],⟨⟨s.p.regs ++ [⟨a,decide (b=1)⟩],s.p.code⟩,s.m ++ [List.replicate (2 ^ a.toNat) 0]⟩)
def Q5k (s:LPl) (l:List Int):List UInt8 × LPl :=
 if l.getD 0 0 < 0∨(s.m.length:Int)≤l.getD 0 0∨(s.m.getD (l.getD 0 0).toNat []).length < l.length - 1 then ([63],s)
 else (okW,⟨s.p,s.m.set (l.getD 0 0).toNat (l.drop 1 ++ (s.m.getD (l.getD 0 0).toNat []).drop (l.length - 1))⟩)
def Q2e (A:Q5m) (s:LPl) (w:List UInt8) (l:List Int):List UInt8 × LPl :=
 if w=Qg3 then (if l.length=2 then Q3j s (l.getD 0 0) (l.getD 1 0) else ([63],s))
 else if w=Qil then (if 1≤l.length then Q5k s l else ([63],s))
 else if w=Qhb then (if l.length=1∧0≤l.getD 0 0∧l.getD 0 0 < s.m.length then (sayT isW (s.m.getD (l.getD 0 0).toNat []),s) else ([63],s))
 else if w=Qhz then (if l.length=5∧s.p.code.length < 200 then (sayT okW [((s.p.code.length+1:Nat):Int)],⟨⟨s.p.regs,s.p.code ++ [⟨l.getD 0 0,l.getD 1 0,l.getD 2 0,l.getD 3 0,l.getD 4 0⟩]⟩,s.m⟩) else ([63],s))
 else if w=runW then (if l.length=1 then (A.run s.p s.m (l.getD 0 0),s) else ([63],s))
 else if w=Qja then (if 1≤l.length then (A.ahead s.p s.m (l.drop 1) (l.getD 0 0),s) else ([63],s))
 else if w=Qj0 then (if l.length=0 then (A.check s.p,s) else ([63],s))
 else if w=Qid then (if l.length=0 then ((A.hard s.p).1,⟨(A.hard s.p).2,s.m⟩) else ([63],s))
 else if w=Qf0 then (if l.length=0 then (A.text s.p,s) else ([63],s))
 else if w=Qhe then (if l.length=0 then (A.load s.p,s) else ([63],s))
 else ([63],s)
def Q0s:List (List UInt8)→Option (List Int)
 | []=>some []
 | w :: r=>(numT w 6).bind fun n=>(Q0s r).map (n :: ·)
def Q2h (A:Q5m) (s:LPl) (t:List UInt8):List UInt8 × LPl :=
 match Q0s ((Q07 32 t).drop 1) with
 | none=>([63],s)
 | some l=>Q2e A s ((Q07 32 t).getD 0 []) l
def goD (A:Q5m):LPl→List (List UInt8)→List UInt8
 | _,[]=>[]
 | s,t :: r=>(Q2h A s t).1 ++ [10] ++ goD A (Q2h A s t).2 r
def stD (A:Q5m):LPl→List (List UInt8)→LPl
 | s,[]=>s
 | s,t :: r=>stD A (Q2h A s t).2 r
def Q36 (s:List UInt8):List (List UInt8):=if (Q07 10 s).getLastD []=[] then (Q07 10 s).dropLast else Q07 10 s
def Q34:LPl:=⟨⟨[],[]⟩,[]⟩
def Q68 (A:Q5m) (s:List UInt8):List UInt8:=goD A Q34 ((Q36 s).take 40)
theorem Qh0:∀ (a b:List (List UInt8)) (l k:List Int),Q0s a=some l→Q0s b=some k→Q0s (a ++ b)=some (l ++ k)
 | [],b,l,k,h,h'=>by
  simp only [Q0s,Option.some.injEq] at h
  subst h
  simpa using h'
 | w :: a,b,l,k,h,h'=>by
  rw [Q0s,Option.bind_eq_some_iff] at h
  obtain ⟨n,hn,h⟩:=h
  rw [Option.map_eq_some_iff] at h
  obtain ⟨r,hr,rfl⟩:=h
  rw [List.cons_append,Q0s,hn,Option.bind_some,Qh0 a b r k hr h']
  rfl
theorem Qgz:∀ (a:List (List UInt8)) (k:Nat),k < a.length→numT (a.getD k []) 6=none→Q0s a=none
 | [],k,h,_=>by simp at h
 | w :: a,0,_,h=>by
  rw [List.getD_cons_zero] at h
  rw [Q0s,h]
  rfl
 | w :: a,k+1,hk,h=>by
  have:=Qgz a k (by simpa using hk) (by simpa using h)
  rw [Q0s,this]
  cases numT w 6 <;> rfl
theorem Q9c:∀ (a:List (List UInt8)) (l:List Int),Q0s a=some l→l.length=a.length
 | [],l,h=>by
  simp only [Q0s,Option.some.injEq] at h
  subst h
  rfl
 | w :: a,l,h=>by
  rw [Q0s,Option.bind_eq_some_iff] at h
  obtain ⟨n,hn,h⟩:=h
  rw [Option.map_eq_some_iff] at h
  obtain ⟨r,hr,rfl⟩:=h
  have:=Q9c a r hr
  simp [this]
def R6 (x:Int):Prop := -999999≤x∧x≤999999
theorem Qix:∀ (k u:Nat),10 ^ k≤u→k+1≤(Lib.decDigits u).length
 | 0,u,h=>by
  have:=(Q9s u u (Nat.le_refl _)).2.2.1
  cases hd:Lib.decDigits u with
  | nil=>exact absurd hd this
  | cons x r=>simp
 | k+1,u,h=>by
  have hu:¬ u < 10:=by
   have:10≤10 ^ (k+1):=by
    calc 10=10 ^ 1:=rfl
     _≤10 ^ (k+1):=Nat.pow_le_pow_right (by omega) (by omega)
   omega
  have ih:=Qix k (u / 10) (by rw [Nat.le_div_iff_mul_le (by omega)];rw [Nat.pow_succ] at h;omega)
  have e:Lib.decDigits u=Lib.decDigits (u / 10) ++ [UInt8.ofNat (48+u % 10)]:=by
   conv=>lhs;unfold Lib.decDigits
   rw [dif_neg hu]
  rw [e,List.length_append,List.length_singleton]
  omega
theorem num6 {w:List UInt8} {v:Int} (h:numT w 6=some v):R6 v:=by
 obtain ⟨-,rfl,h6⟩:=Qoe.1 h
 apply Classical.byContradiction
 intro hn
 have hb:10 ^ 6≤v.natAbs:=by unfold R6 at hn;omega
 have hd:=Qix 6 v.natAbs hb
 have key:(Lib.trimPrefix (Lib.itoa v) [45])=Lib.decDigits v.natAbs:=by
  rw [Qez]
  unfold Lib.itoa
  by_cases hv:v < 0
  ·rw [if_pos hv,if_pos (by simp)]
   simp
  ·rw [if_neg hv,show v.toNat=v.natAbs by omega,if_neg]
   intro h45
   have h:=(Q9s v.natAbs v.natAbs (Nat.le_refl _)).1
   cases hq:Lib.decDigits v.natAbs with
   | nil=>rw [hq] at h45;simp at h45
   | cons x r =>
    rw [hq] at h45 h
    simp only [List.head?_cons,Option.some.injEq] at h45
    subst h45
    simp [isD] at h
 rw [key] at h6
 omega
theorem Q2o:∀ (a:List (List UInt8)) (l:List Int),Q0s a=some l→∀ x ∈ l,R6 x
 | [],l,h,x,hx=>by
  simp only [Q0s,Option.some.injEq] at h
  subst h
  simp at hx
 | w :: a,l,h,x,hx=>by
  rw [Q0s,Option.bind_eq_some_iff] at h
  obtain ⟨n,hn,h⟩:=h
  rw [Option.map_eq_some_iff] at h
  obtain ⟨r,hr,rfl⟩:=h
  rcases List.mem_cons.1 hx with rfl | hx
  ·exact num6 hn
  ·exact Q2o a r hr x hx
structure Q0y (s:LPl):Prop where
 regs:∀ r ∈ s.p.regs,0≤r.log∧r.log≤6
 regs6:s.p.regs.length≤6
 len:s.m.length=s.p.regs.length
 rows:∀ l ∈ s.m,1≤l.length∧l.length≤64
 code:s.p.code.length≤600
 m64:∀ l ∈ s.m,∀ z ∈ l,R64 z
theorem Qig:Q0y Q34:=⟨by simp [Q34],by simp [Q34],rfl,by simp [Q34],by simp [Q34],by simp [Q34]⟩
theorem R6.r64 {x:Int} (h:R6 x):R64 x:=by unfold R6 at h;unfold R64;omega
theorem Qgf {a:Int} (h0:0≤a) (h6:a≤6):1≤2 ^ a.toNat∧2 ^ a.toNat≤64:=by
 have:a.toNat=0∨a.toNat=1∨a.toNat=2∨a.toNat=3∨a.toNat=4∨a.toNat=5∨a.toNat=6:=by omega
 rcases this with e | e | e | e | e | e | e <;> rw [e] <;> decide
theorem Qsf {s:LPl} (h:Q0y s) {a:Int} {b:Bool} (h0:0≤a) (h6:a≤6) (hl:s.p.regs.length < 6):Q0y ⟨⟨s.p.regs ++ [⟨a,b⟩],s.p.code⟩,s.m ++ [List.replicate (2 ^ a.toNat) 0]⟩:=by
 refine ⟨fun r hr=>?_,by simp;omega,by simp [h.len],fun l hl'=>?_,h.code,fun l hl' z hz=>?_⟩
 ·rcases List.mem_append.1 hr with k | k
  ·exact h.regs r k
  ·rw [List.mem_singleton.1 k];exact ⟨h0,h6⟩
 ·rcases List.mem_append.1 hl' with k | k
  ·exact h.rows l k
  ·rw [List.mem_singleton.1 k,List.length_replicate]
   exact Qgf h0 h6
 ·rcases List.mem_append.1 hl' with k | k
  ·exact h.m64 l k z hz
  ·rw [List.mem_singleton.1 k] at hz
   rw [(List.mem_replicate.1 hz).2]
   exact ⟨by omega,by omega⟩
theorem Qsh {s:LPl} (h:Q0y s) {i:LIns} (hl:s.p.code.length < 200):Q0y ⟨⟨s.p.regs,s.p.code ++ [i]⟩,s.m⟩ :=
 ⟨h.regs,h.regs6,h.len,h.rows,by simp;omega,h.m64⟩
theorem Qse {s:LPl} (h:Q0y s) {k:Nat} {l:List Int} (h1:l.length=(s.m.getD k []).length) (hk:k < s.m.length) (h64:∀ z ∈ l,R64 z):Q0y ⟨s.p,s.m.set k l⟩:=by
 have hm:s.m.getD k [] ∈ s.m:=by
  rw [List.getD_eq_getElem?_getD,List.getElem?_eq_getElem hk]
  exact List.getElem_mem hk
 refine ⟨h.regs,h.regs6,by simpa using h.len,fun r hr=>?_,h.code,fun r hr z hz=>?_⟩
 ·rcases List.mem_or_eq_of_mem_set hr with k' | rfl
  ·exact h.rows r k'
  ·rw [h1];exact h.rows _ hm
 ·rcases List.mem_or_eq_of_mem_set hr with k' | rfl
  ·exact h.m64 r k' z hz
  ·exact h64 z hz
theorem Qsg {s:LPl} (h:Q0y s) {q:Q00} (hr:q.regs=s.p.regs) (hc:q.code.length≤600):Q0y ⟨q,s.m⟩ :=
 ⟨by rw [hr];exact h.regs,by rw [hr];exact h.regs6,by rw [hr];exact h.len,h.rows,hc,h.m64⟩
theorem Qih (A:Q5m):∀ (a b:List (List UInt8)) (s:LPl),goD A s (a ++ b)=goD A s a ++ goD A (stD A s a) b
 | [],b,s=>rfl
 | t :: a,b,s=>by
  rw [List.cons_append,goD,goD,stD,Qih A a b]
  simp
theorem Qbz (c:UInt8):∀ (a b:List UInt8),Q07 c (a ++ c :: b)=Q07 c a ++ Q07 c b
 | [],b=>by
  show Q07 c (c :: b)=[[]] ++ Q07 c b
  rw [Q07,if_pos rfl]
  rfl
 | x :: a,b=>by
  have ih:=Qbz c a b
  have hn:=Q7k c a
  rw [List.cons_append,Q07,Q07,ih]
  by_cases h:x=c
  ·rw [if_pos h,if_pos h]
   rfl
  ·rw [if_neg h,if_neg h]
   cases hs:Q07 c a with
   | nil=>exact absurd hs hn
   | cons y r=>simp
theorem Qq3 (a:List UInt8):Q36 (a ++ [10])=Q07 10 a:=by
 unfold Q36
 rw [Qbz 10 a []]
 simp [Q07]
theorem Qq4 (a b:List UInt8):∃ X,Q36 (a ++ [10] ++ b)=Q07 10 a ++ X:=by
 unfold Q36
 rw [List.append_assoc,List.singleton_append,Qbz 10 a b]
 have hn:=Q7k 10 b
 split
 ·refine ⟨(Q07 10 b).dropLast,?_⟩
  rw [List.dropLast_append_of_ne_nil hn]
 ·exact ⟨Q07 10 b,rfl⟩
theorem Qnb (A:Q5m) (a b:List UInt8):∃ X,Q68 A (a ++ [10] ++ b)=Q68 A (a ++ [10]) ++ X:=by
 obtain ⟨X,hX⟩:=Qq4 a b
 unfold Q68
 rw [hX,Qq3,List.take_append,Qih]
 exact ⟨_,rfl⟩
theorem Qna (A:Q5m):Q68 A [63]=[63,10]:=by
 have h:Q36 [63]=[[63]]:=by decide
 unfold Q68
 rw [h]
 show (Q2h A Q34 [63]).1 ++ [10] ++ []=_
 have h2:Q2h A Q34 [63]=([63],Q34):=by
  unfold Q2h
  have e:Q07 32 [63]=[[63]]:=by decide
  rw [e]
  show Q2e A Q34 [63] []=_
  unfold Q2e
  rw [if_neg (by decide),if_neg (by decide),if_neg (by decide),if_neg (by decide),if_neg (by decide),if_neg (by decide),if_neg (by decide),if_neg (by decide),if_neg (by decide),if_neg (by decide)]
 rw [h2]
 rfl
theorem Qk8 (v:Int) (k:Nat) (h:v.natAbs < 10 ^ (k+1)):(Lib.trimPrefix (Lib.itoa v) [45]).length≤k+1:=by
 have:=Q9r k v.natAbs h
 rw [Qez]
 unfold Lib.itoa
 by_cases hv:v < 0
 ·rw [if_pos hv]
  simpa using this
 ·rw [if_neg hv,show v.toNat=v.natAbs by omega]
  split
  ·rw [List.length_drop];omega
  ·exact this
end Go.Proofs.YtiafchefbehfbaaGreatDoor
