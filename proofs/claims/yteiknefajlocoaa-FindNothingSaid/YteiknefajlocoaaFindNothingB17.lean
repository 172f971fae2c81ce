/- Laid together from: FenL, Ref6P, PubL. -/
import Derived.Test.YteiknefajlocoaaFindNothingB16
import Derived.Test.YteiknefajlocoaaFindNothingB6
import Derived.Test.YteiknefajlocoaaFindNothingB15
import Derived.Test.YteiknefajlocoaaFindNothingB5

namespace Go.Proofs.Yteiknefajlocoaa
open Go.RowKit
set_option linter.unusedSimpArgs false
set_option linter.unusedVariables false
def rel7 (p:Q00) (i:LIns):LIns:=if i.op=7 then { i with n:=(Q0k p i.n.toNat:Nat) } else i
def relG (f:LIns→LIns) (l:List LIns) (k:Nat):List LIns:=(l.take k).map f ++ l.drop k
theorem Qme (f:LIns→LIns) (l:List LIns):relG f l 0=l:=by simp [relG]
theorem Qmg (f:LIns→LIns) (l:List LIns):relG f l l.length=l.map f:=by simp [relG]
theorem Qa9 (f:LIns→LIns) (l:List LIns) (k:Nat):(relG f l k).length=l.length:=by
 simp only [relG,List.length_append,List.length_map,List.length_take,List.length_drop]
 omega
theorem Qc6 (f:LIns→LIns) (l:List LIns) {k:Nat} (hk:k < l.length):(relG f l k).getD k default=l.getD k default:=by
 unfold relG
 rw [List.getD_eq_getElem?_getD,List.getElem?_append_right (by simp;omega)]
 simp [Nat.min_eq_left (Nat.le_of_lt hk),hk]
theorem Qfo (f:LIns→LIns) (l:List LIns) {k:Nat} (hk:k < l.length):relG f l (k+1)=(relG f l k).set k (f (l.getD k default)):=by
 have e:l.drop k=l.getD k default :: l.drop (k+1):=by
  rw [List.drop_eq_getElem_cons hk]
  simp [hk]
 have hlen:((l.take k).map f).length=k:=by simp;omega
 have h1:l[k]=l.getD k default:=by simp [hk]
 unfold relG
 rw [List.take_succ_eq_append_getElem hk,e,List.set_append_right _ _ (by omega),hlen,Nat.sub_self,List.set_cons_zero,List.map_append,List.append_assoc,h1]
 rfl
theorem Qmf (f:LIns→LIns) (l:List LIns) {k:Nat} (hk:k < l.length) (h:f (l.getD k default)=l.getD k default):relG f l (k+1)=relG f l k:=by
 rw [Qfo f l hk,h]
 apply List.ext_getElem (by simp)
 intro j h1 h2
 rw [List.getElem_set]
 split
 ·rename_i e
  subst e
  have:=Qc6 f l hk
  rw [List.getD_eq_getElem?_getD,List.getElem?_eq_getElem h2] at this
  exact this.symm
 ·rfl
def isIf (p:Q00) (j:Nat):Bool:=decide ((p.code.getD j default).op=8)
def ifsF (p:Q00) (n:Nat):List Nat:=(List.range n).filter (isIf p)
theorem Q9l (p:Q00) (n:Nat):ifsF p (n+1)=ifsF p n ++ (if isIf p n=true then [n] else []):=by
 unfold ifsF
 rw [List.range_succ,List.filter_append]
 cases h:isIf p n <;> simp [h]
theorem Qb4 (p:Q00):∀ (n t:Nat),t < (ifsF p n).length→∃ j,j < n∧isIf p j=true∧(ifsF p n).getD t 0=j∧(ifsF p n).take t=ifsF p j
 | 0,t,h=>by simp [ifsF] at h
 | n+1,t,h=>by
  rw [Q9l] at h ⊢
  by_cases ht:t < (ifsF p n).length
  ·obtain ⟨j,h1,h2,h3,h4⟩:=Qb4 p n t ht
   refine ⟨j,by omega,h2,?_,?_⟩
   ·rw [List.getD_eq_getElem?_getD,List.getElem?_append_left ht,← List.getD_eq_getElem?_getD]
    exact h3
   ·rw [List.take_append_of_le_length (by omega)]
    exact h4
  ·cases hi:isIf p n
   ·rw [hi] at h
    simp at h
    omega
   ·rw [hi] at h
    simp only [if_true,List.length_append,List.length_cons,List.length_nil] at h ⊢
    have hte:t=(ifsF p n).length:=by omega
    subst hte
    refine ⟨n,by omega,hi,?_,?_⟩
    ·rw [List.getD_eq_getElem?_getD,List.getElem?_append_right (Nat.le_refl _)]
     simp
    ·rw [List.take_append_of_le_length (Nat.le_refl _),List.take_length]
def Q5c (p:Q00) (j:Nat):List LIns:=p.code.zipIdx.flatMap fun x=>Q0l (if x.2 < j then relF p x.2 x.1 else rel7 p x.1)
def Q2y (p:Q00) (j:Nat):List LIns:=Q5c p j ++ (p.code.take j).flatMap (Q2x p)
theorem Qc7 (p:Q00) (i:LIns):(rel7 p i).op=i.op:=by unfold rel7;split <;> simp
theorem Qmi (p:Q00):rel7 p fenI=fenI:=by unfold rel7 fenI;simp
theorem Qmh {p:Q00} {k:Nat} {i:LIns} (h:i.op≠8):relF p k i=rel7 p i:=by
 unfold relF rel7
 simp [h]
theorem Qob (p:Q00):Q5c p 0=(p.code.flatMap Q0l).map (rel7 p):=by
 unfold Q5c
 have e1:(fun x:LIns × Nat=>Q0l (if x.2 < 0 then relF p x.2 x.1 else rel7 p x.1))=(fun i=>(Q0l i).map (rel7 p)) ∘ Prod.fst:=by
  funext x
  simp only [Nat.not_lt_zero,if_false,Function.comp]
  unfold Q0l
  rw [Qc7]
  split
  ·simp [Qmi]
  ·simp
 have e2:p.code.zipIdx.map Prod.fst=p.code:=by
  apply List.ext_getElem (by simp)
  intro k h1 h2
  simp
 rw [e1,List.map_flatMap]
 conv=>rhs;rw [← e2]
 rw [List.flatMap_map]
 rfl
theorem Qbk {p:Q00} {j:Nat} {i:LIns} (h:p.code[j]? = some i):p.code.zipIdx=p.code.zipIdx.take j ++ (i,j) :: p.code.zipIdx.drop (j+1):=by
 have hz:=Qbl h
 obtain ⟨h1,h2⟩:=List.getElem?_eq_some_iff.1 hz
 conv=>lhs;rw [← List.take_append_drop j p.code.zipIdx,List.drop_eq_getElem_cons h1,h2]
theorem Qjd {p:Q00} {j:Nat}:∀ x ∈ p.code.zipIdx.take j,x.2 < j:=by
 intro x hx
 obtain ⟨k,hk,rfl⟩:=List.getElem_of_mem hx
 simp only [List.length_take,List.length_zipIdx] at hk
 simp
 omega
theorem Qje {p:Q00} {j:Nat}:∀ x ∈ p.code.zipIdx.drop j,j≤x.2:=by
 intro x hx
 obtain ⟨k,hk,rfl⟩:=List.getElem_of_mem hx
 simp
theorem Q99 {p:Q00} {j:Nat} {i:LIns} (h:p.code[j]? = some i) (m:Nat) (hm:m=j∨m=j+1) :
  Q5c p m=(p.code.zipIdx.take j).flatMap (fun x=>Q0l (relF p x.2 x.1)) ++ (Q0l (if j < m then relF p j i else rel7 p i) ++ (p.code.zipIdx.drop (j+1)).flatMap (fun x=>Q0l (rel7 p x.1))):=by
 unfold Q5c
 rw [Qbk h,List.flatMap_append,List.flatMap_cons]
 congr 1
 ·rw [← Qbk h]
  have e:∀ l:List (LIns × Nat),(∀ x ∈ l,x.2 < j)→l.flatMap (fun x=>Q0l (if x.2 < m then relF p x.2 x.1 else rel7 p x.1))=l.flatMap fun x=>Q0l (relF p x.2 x.1):=by
   intro l hl
   induction l with
   | nil=>rfl
   | cons x l ih =>
    rw [List.flatMap_cons,List.flatMap_cons,ih (fun y hy=>hl y (by simp [hy])),if_pos (by have:=hl x (by simp);omega)]
  exact e _ Qjd
 ·congr 1
  rw [← Qbk h]
  have e:∀ l:List (LIns × Nat),(∀ x ∈ l,j+1≤x.2)→l.flatMap (fun x=>Q0l (if x.2 < m then relF p x.2 x.1 else rel7 p x.1))=l.flatMap fun x=>Q0l (rel7 p x.1):=by
   intro l hl
   induction l with
   | nil=>rfl
   | cons x l ih =>
    rw [List.flatMap_cons,List.flatMap_cons,ih (fun y hy=>hl y (by simp [hy])),if_neg (by have:=hl x (by simp);omega)]
  exact e _ Qje
theorem Q3t {p:Q00} (j:Nat):((p.code.zipIdx.take j).flatMap (fun x=>Q0l (relF p x.2 x.1))).length=Q0k p j:=Q97 p j
theorem Qcq (p:Q00) (j:Nat):(Q5c p j).length=rawF p:=by
 have key:∀ l:List (LIns × Nat),(l.flatMap fun x=>Q0l (if x.2 < j then relF p x.2 x.1 else rel7 p x.1)).length=(l.flatMap fun x=>Q0l x.1).length:=by
  intro l
  induction l with
  | nil=>rfl
  | cons x l ih =>
   rw [List.flatMap_cons,List.flatMap_cons,List.length_append,List.length_append,ih,Q5l,Q5l]
   split
   ·rw [(Q40 p x.2 x.1).1]
   ·rw [Qc7]
 unfold Q5c rawF
 rw [key]
 have e2:p.code.zipIdx.map Prod.fst=p.code:=by
  apply List.ext_getElem (by simp)
  intro k h1 h2
  simp
 conv=>rhs;rw [← e2]
 rw [List.flatMap_map]
theorem Qez (p:Q00) (j:Nat):(Q2y p j).length=Q3k p j:=by
 unfold Q2y Q3k
 rw [List.length_append,Qcq]
 rfl
theorem Qkm {p:Q00} {j:Nat} {i:LIns} (h:p.code[j]? = some i) (h8:i.op=8):Q0k p j < (Q2y p j).length∧(Q2y p j).getD (Q0k p j) default=i:=by
 have hj:=(List.getElem?_eq_some_iff.1 h).1
 have hp:=Q87 hj
 have hl:=Qcq p j
 have e:rel7 p i=i:=by unfold rel7;rw [if_neg (by omega)]
 refine ⟨by unfold Q2y;rw [List.length_append];omega,?_⟩
 unfold Q2y
 rw [List.getD_eq_getElem?_getD,List.getElem?_append_left (by omega),Q99 h j (.inl rfl),if_neg (by omega),e,List.getElem?_append_right (by rw [Q3t];exact Nat.le_refl _),Q3t,Nat.sub_self]
 unfold Q0l
 rw [if_pos h8]
 rfl
theorem Qkk {p:Q00} {j:Nat} {i:LIns} (h:p.code[j]? = some i) (h8:i.op=8) :
  Q2y p (j+1)=(Q2y p j).set (Q0k p j) { i with n:=((Q2y p j).length:Nat) } ++ [fenI,⟨7,0,0,0,((Q0k p i.n.toNat:Nat):Int)⟩]:=by
 obtain ⟨hj,hi⟩:=List.getElem?_eq_some_iff.1 h
 have hp:=Q87 hj
 have hl:=Qcq p j
 rw [Qez]
 have e1:(p.code.take (j+1)).flatMap (Q2x p)=(p.code.take j).flatMap (Q2x p) ++ [fenI,⟨7,0,0,0,((Q0k p i.n.toNat:Nat):Int)⟩]:=by
  rw [List.take_succ_eq_append_getElem hj,List.flatMap_append,hi]
  simp [Q2x,h8]
 have e2:Q5c p (j+1)=(Q5c p j).set (Q0k p j) { i with n:=((Q3k p j:Nat):Int) }:=by
  rw [Q99 h (j+1) (.inr rfl),Q99 h j (.inl rfl),if_pos (by omega),if_neg (by omega)]
  rw [List.set_append_right _ _ (by rw [Q3t];exact Nat.le_refl _),Q3t,Nat.sub_self]
  congr 1
  unfold Q0l
  rw [(Q40 p j i).1,Qc7,if_pos h8,if_pos h8]
  have e3:relF p j i={ i with n:=((Q3k p j:Nat):Int) }:=by unfold relF;rw [if_neg (by omega),if_pos h8]
  rw [e3]
  rfl
 unfold Q2y
 rw [e1,e2,List.set_append_left _ _ (by omega),List.append_assoc]
theorem Qkl {p:Q00} {j:Nat} (h:isIf p j=false):Q2y p (j+1)=Q2y p j:=by
 by_cases hj:j < p.code.length
 ·have hi:=List.getElem?_eq_getElem hj
  have h8:p.code[j].op≠8:=by
   unfold isIf at h
   simpa [hj] using h
  have e1:(p.code.take (j+1)).flatMap (Q2x p)=(p.code.take j).flatMap (Q2x p):=by
   rw [List.take_succ_eq_append_getElem hj,List.flatMap_append]
   simp [Q2x,h8]
  unfold Q2y
  rw [e1,Q99 hi (j+1) (.inr rfl),Q99 hi j (.inl rfl),if_pos (by omega),if_neg (by omega),Qmh h8]
 ·have e1:(p.code.take (j+1)).flatMap (Q2x p)=(p.code.take j).flatMap (Q2x p):=by
   rw [List.take_of_length_le (by omega),List.take_of_length_le (by omega)]
  have e2:Q5c p (j+1)=Q5c p j:=by
   unfold Q5c
   have:∀ l:List (LIns × Nat),(∀ x ∈ l,x.2 < j)→l.flatMap (fun x=>Q0l (if x.2 < j+1 then relF p x.2 x.1 else rel7 p x.1))=l.flatMap fun x=>Q0l (if x.2 < j then relF p x.2 x.1 else rel7 p x.1):=by
    intro l hl
    induction l with
    | nil=>rfl
    | cons x l ih =>
     have hx:=hl x (by simp)
     rw [List.flatMap_cons,List.flatMap_cons,ih (fun y hy=>hl y (by simp [hy])),if_pos (by omega),if_pos hx]
   refine this _ (fun x hx=>?_)
   obtain ⟨k,hk,rfl⟩:=List.getElem_of_mem hx
   simp only [List.length_zipIdx] at hk
   simp
   omega
  unfold Q2y
  rw [e1,e2]
theorem Q8y {p:Q00}:∀ (d j:Nat),(∀ k,j≤k→k < j+d→isIf p k=false)→Q2y p (j+d)=Q2y p j
 | 0,j,_=>rfl
 | d+1,j,h=>by
  rw [← Nat.add_assoc,Qkl (h (j+d) (by omega) (by omega)),Q8y d j fun k h1 h2=>h k h1 (by omega)]
def Q61 (p:Q00) (t:Nat):List LIns:=if t < (ifsF p p.code.length).length then Q2y p ((ifsF p p.code.length).getD t 0) else Q2y p p.code.length
theorem Qdp (p:Q00) {a b:Nat} (h:a≤b):(ifsF p a).length≤(ifsF p b).length:=by
 obtain ⟨d,rfl⟩:∃ d,b=a+d:=⟨b - a,by omega⟩
 induction d with
 | zero=>exact Nat.le_refl _
 | succ d ih =>
  rw [← Nat.add_assoc,Q9l,List.length_append]
  have:=ih (by omega)
  omega
theorem Qb3 {p:Q00} {a b:Nat} (h:(ifsF p a).length=(ifsF p b).length) {k:Nat} (h1:a≤k) (h2:k < b):isIf p k=false:=by
 cases hi:isIf p k
 ·rfl
 ·exfalso
  have m1:=Qdp p h1
  have m2:=Qdp p (show k+1≤b by omega)
  rw [Q9l,hi] at m2
  simp only [if_true,List.length_append,List.length_cons,List.length_nil] at m2
  omega
theorem Qk7 {p:Q00} {t:Nat} (h:t < (ifsF p p.code.length).length):∃ j i,p.code[j]? = some i∧i.op=8∧(ifsF p p.code.length).getD t 0=j∧Q61 p t=Q2y p j∧Q61 p (t+1)=Q2y p (j+1):=by
 obtain ⟨j,h1,h2,h3,h4⟩:=Qb4 p _ t h
 refine ⟨j,p.code[j],List.getElem?_eq_getElem h1,?_,h3,?_,?_⟩
 ·unfold isIf at h2
  simpa [h1] using h2
 ·unfold Q61
  rw [if_pos h,h3]
 ·have hl:(ifsF p (j+1)).length=t+1:=by
   rw [Q9l,h2,← h4]
   simp
   omega
  unfold Q61
  by_cases ht:t+1 < (ifsF p p.code.length).length
  ·obtain ⟨j',g1,g2,g3,g4⟩:=Qb4 p _ (t+1) ht
   rw [if_pos ht,g3]
   have hl':(ifsF p j').length=t+1:=by rw [← g4];simp;omega
   have hle:j+1≤j':=by
    rcases Nat.lt_or_ge j j' with hlt | hge
    ·exact hlt
    ·have:=Qdp p hge
     have h5:(ifsF p j).length=t:=by rw [← h4];simp;omega
     omega
   obtain ⟨d,rfl⟩:∃ d,j'=j+1+d:=⟨j' - (j+1),by omega⟩
   exact Q8y d (j+1) fun k k1 k2=>Qb3 (by omega) k1 k2
  ·rw [if_neg ht]
   obtain ⟨d,hd⟩:∃ d,p.code.length=j+1+d:=⟨p.code.length - (j+1),by omega⟩
   rw [hd]
   exact Q8y d (j+1) fun k k1 k2=>Qb3 (by rw [← hd];omega) k1 k2
theorem Qk6 (p:Q00):Q61 p 0=(p.code.flatMap Q0l).map (rel7 p):=by
 have h0:Q2y p 0=(p.code.flatMap Q0l).map (rel7 p):=by
  unfold Q2y
  rw [Qob]
  simp
 unfold Q61
 split
 ·rename_i h
  obtain ⟨j,h1,h2,h3,h4⟩:=Qb4 p _ 0 h
  rw [h3,← h0]
  have hl:(ifsF p j).length=0:=by rw [← h4];simp
  have:=Q8y j 0 (p:=p) fun k k1 k2=>Qb3 (p:=p) (a:=0) (b:=j) (by rw [hl];rfl) k1 (by omega)
  simpa using this
 ·rename_i h
  rw [← h0]
  have:=Q8y p.code.length 0 (p:=p) fun k k1 k2=>Qb3 (p:=p) (a:=0) (b:=p.code.length) (by
   have:(ifsF p 0).length=0:=rfl
   omega) k1 (by omega)
  simpa using this
theorem Qk8 (p:Q00):Q61 p (ifsF p p.code.length).length=(Q12 p).code:=by
 unfold Q61
 rw [if_neg (by omega)]
 unfold Q2y Q12 Qap Q5c
 rw [List.take_length]
 congr 1
 have key:∀ l:List (LIns × Nat),(∀ x ∈ l,x.2 < p.code.length)→l.flatMap (fun x=>Q0l (if x.2 < p.code.length then relF p x.2 x.1 else rel7 p x.1))=l.flatMap fun x=>Q0l (relF p x.2 x.1):=by
  intro l hl
  induction l with
  | nil=>rfl
  | cons x l ih=>rw [List.flatMap_cons,List.flatMap_cons,ih (fun y hy=>hl y (by simp [hy])),if_pos (hl x (by simp))]
 refine key _ (fun x hx=>?_)
 obtain ⟨k,hk,rfl⟩:=List.getElem_of_mem hx
 simp only [List.length_zipIdx] at hk
 simpa using hk
end Go.Proofs.Yteiknefajlocoaa

namespace Go.Proofs.Yteiknefajlocoaa
open Go
set_option linter.unusedVariables false
set_option linter.unusedSimpArgs false
def Q0u (p:Q00) (at_:Nat) (s:KSt) (i:LIns):List (Nat × KSt) :=
 if i.op=7 then [(i.n.toNat,s)]
 else if i.op=9 then []
 else if i.op=8 then [(i.n.toNat,Q16 s i true),(at_+1,Q16 s i false)]
 else [(at_+1,oneK p s i)]
theorem Qd1 (p:Q00) (at_:Nat) (s:KSt) (i:LIns) (x:Nat × KSt):x ∈ Q0u p at_ s i ↔ x ∈ Q0f p at_ s i:=by
 unfold Q0u Q0f
 repeat' split
 all_goals simp
 exact Or.comm
theorem Qhe (p:Q00) (at_:Nat) (s:KSt) (i:LIns):(Q0u p at_ s i).length≤2:=by
 unfold Q0u
 repeat' split
 all_goals simp
theorem Qr2 {p:Q00} {T:Tab} (h:Tok p T) {x:Nat × KSt} (hs:Sok x.2) (hx:x.1 < p.code.length):phi (Q17 T x)≤phi T∧(Q17 T x≠T→phi (Q17 T x) < phi T):=by
 have hxT:x.1 < T.length:=by rw [h.len];exact hx
 unfold Q17
 cases ht:tg T x.1 with
 | none =>
  have:=Q98 T x.1 (some x.2) hxT
  rw [ht] at this
  simp only [ph] at this
  simp only
  exact ⟨by omega,fun _=>by omega⟩
 | some t =>
  have hk:=h.ok _ _ ht
  have hj:=Q7i x.2 t
  have:=Q98 T x.1 (some (Q11 x.2 t)) hxT
  rw [ht] at this
  simp only [ph] at this
  have r1:=Qcb t (Q11 x.2 t) (by rw [hk.len,hj.len]) hk.ok hj.ok (Qbx hk)
  have r2:=Qcc hk
  have r3:=Qcc hj
  simp only
  refine ⟨by omega,fun hne=>?_⟩
  by_cases e:rank t=rank (Q11 x.2 t)
  ·exfalso
   apply hne
   rw [← r1.2 e]
   exact Qbq ht hxT
  ·omega
structure A6 (p:Q00) (T0 T:Tab) (again:Bool) (at_:Nat):Prop where
 tok:Tok p T
 under:Q6e p T
 first:∃ s,tg T 0=some s∧Sle Q32 s
 less:phi T≤phi T0
 still:again=false→T=T0∧∀ j,j < at_→∀ s,tg T j=some s→∀ x ∈ Q0f p j s (Q0d p j),Led p T x
 some_:again=true→phi T < phi T0
structure K6 (p:Q00) (T0 T:Tab) (again:Bool) (at_:Nat) (s:KSt) (k:Nat):Prop where
 a6:A6 p T0 T again at_
 here:∃ s',tg T at_=some s'∧Sle s s'
 same:again=false→tg T at_=some s
 led:again=false→∀ j,j < k→Led p T ((Q0u p at_ s (Q0d p at_)).getD j default)
theorem A6.begin {p:Q00} {T:Tab} (h1:Tok p T) (h2:Q6e p T) (h3:∃ s,tg T 0=some s∧Sle Q32 s):A6 p T T false 0 :=
 ⟨h1,h2,h3,Nat.le_refl _,fun _=>⟨rfl,fun j hj=>by omega⟩,fun h=>by cases h⟩
theorem A6.skip {p:Q00} {T0 T:Tab} {again:Bool} {at_:Nat} (h:A6 p T0 T again at_) (hn:tg T at_=none):A6 p T0 T again (at_+1) :=
 ⟨h.tok,h.under,h.first,h.less,fun e=>⟨(h.still e).1,fun j hj s hs=>by
  by_cases hja:j=at_
  ·subst hja;rw [hn] at hs;cases hs
  ·exact (h.still e).2 j (by omega) s hs⟩,h.some_⟩
theorem K6.begin {p:Q00} {T0 T:Tab} {again:Bool} {at_:Nat} {s:KSt} (h:A6 p T0 T again at_) (hs:tg T at_=some s):K6 p T0 T again at_ s 0 :=
 ⟨h,⟨s,hs,Sle.refl s⟩,fun _=>hs,fun _ j hj=>by omega⟩
theorem K6.beyond {p:Q00} {T0 T:Tab} {again:Bool} {at_:Nat} {s:KSt} {k:Nat} (h:K6 p T0 T again at_ s k) (hx:p.code.length≤((Q0u p at_ s (Q0d p at_)).getD k default).1):K6 p T0 T again at_ s (k+1) :=
 ⟨h.a6,h.here,h.same,fun e j hj=>by
  by_cases hjk:j=k
  ·subst hjk;intro hl;omega
  ·exact h.led e j (by omega)⟩
theorem K6.join {p:Q00} {T0 T:Tab} {again:Bool} {at_:Nat} {s:KSt} {k:Nat} (h:K6 p T0 T again at_ s k) (hs:Sok s) (hk:k < (Q0u p at_ s (Q0d p at_)).length) {x:Nat × KSt} (hxe:(Q0u p at_ s (Q0d p at_)).getD k default=x) (hx:x.1 < p.code.length) :
  K6 p T0 (Q17 T x) (again || decide (Q17 T x≠T)) at_ s (k+1):=by
 have hm:x ∈ Q0f p at_ s (Q0d p at_):=by
  rw [← Qd1,← hxe]
  simp [hk]
 have hsx:=Q8d p at_ hs (Q0d p at_) x hm
 have hT:=h.a6.tok
 have hup:=Qhx hT hsx hx
 have hph:=Qr2 hT hsx hx
 have hled:=Qhw hT hsx (x:=x)
 have hTu:=Qhu hT h.a6.under h.here hs hm hx
 refine ⟨⟨Qhv hT hsx hx,hTu,?_,?_,fun e=>?_,fun e=>?_⟩,?_,fun e=>?_,fun e j hj=>?_⟩
 ·obtain ⟨t,h1,h2⟩:=h.a6.first
  obtain ⟨u,h3,h4⟩:=hup 0 t h1
  exact ⟨u,h3,h2.trans h4⟩
 ·have:=h.a6.less
  omega
 ·simp only [Bool.or_eq_false_iff,decide_eq_false_iff_not,Decidable.not_not] at e
  rw [e.2]
  exact h.a6.still e.1
 ·simp only [Bool.or_eq_true,decide_eq_true_eq] at e
  rcases e with e | e
  ·have:=h.a6.some_ e
   omega
  ·have:=h.a6.less
   have:=hph.2 e
   omega
 ·obtain ⟨t,h1,h2⟩:=h.here
  obtain ⟨u,h3,h4⟩:=hup at_ t h1
  exact ⟨u,h3,h2.trans h4⟩
 ·simp only [Bool.or_eq_false_iff,decide_eq_false_iff_not,Decidable.not_not] at e
  rw [e.2]
  exact h.same e.1
 ·simp only [Bool.or_eq_false_iff,decide_eq_false_iff_not,Decidable.not_not] at e
  by_cases hjk:j=k
  ·subst hjk
   rw [hxe]
   exact hled
  ·rw [e.2]
   exact h.led e.1 j (by omega)
theorem K6.end_ {p:Q00} {T0 T:Tab} {again:Bool} {at_:Nat} {s:KSt} {k:Nat} (h:K6 p T0 T again at_ s k) (hk:(Q0u p at_ s (Q0d p at_)).length≤k):A6 p T0 T again (at_+1) :=
 ⟨h.a6.tok,h.a6.under,h.a6.first,h.a6.less,fun e=>⟨(h.a6.still e).1,fun j hj t ht x hx=>by
  by_cases hja:j=at_
  ·subst hja
   rw [h.same e] at ht
   obtain rfl:=Option.some.inj ht
   rw [← Qd1] at hx
   obtain ⟨n,hn,rfl⟩:=List.getElem_of_mem hx
   have:=h.led e n (by omega)
   simpa [hn] using this
  ·exact (h.a6.still e).2 j (by omega) t ht x hx⟩,h.a6.some_⟩
theorem A6.least {p:Q00} {T0 T:Tab} {at_:Nat} (h:A6 p T0 T false at_) (hat:p.code.length≤at_):Q5x p T :=
 ⟨⟨h.tok,h.first,fun j s hs=>(h.still rfl).2 j (by
  have:=h.tok.len
  rcases Nat.lt_or_ge j at_ with h1 | h1
  ·exact h1
  ·exfalso
   unfold tg at hs
   rw [List.getD_eq_getElem?_getD,List.getElem?_eq_none (by omega)] at hs
   cases hs) s hs⟩,h.under⟩
end Go.Proofs.Yteiknefajlocoaa

namespace Go.Proofs.Yteiknefajlocoaa
open Go.RowKit
set_option linter.unusedSimpArgs false
set_option linter.unusedVariables false
def Q5f (p:Q00) (m n:List (List Int)):Bool:=(List.range p.regs.length).all fun i=>(p.regs.getD i default).secret || decide (m.getD i default=n.getD i default)
theorem Qia:∀ (l:List LReg) (n:Nat),n < (l.map Q0e).sum→∃ r x,r < l.length∧x < Q0e (l.getD r default)∧n=((l.take r).map Q0e).sum+x
 | [],n,h=>by simp at h
 | a :: l,n,h=>by
  by_cases hn:n < Q0e a
  ·exact ⟨0,n,by simp,by simpa using hn,by simp⟩
  ·simp only [List.map_cons,List.sum_cons] at h
   obtain ⟨r,x,h1,h2,h3⟩:=Qia l (n - Q0e a) (by omega)
   refine ⟨r+1,x,by simpa using h1,by simpa using h2,?_⟩
   simp only [List.take_succ_cons,List.map_cons,List.sum_cons]
   omega
theorem Qnq {p:Q00} {a b:List Int} (ha:a.length=Q14 p) (hb:b.length=Q14 p):Q5f p (Q1j p a) (Q1j p b)=true ↔ Pub p a b:=by
 unfold Q5f
 simp only [List.all_eq_true,List.mem_range,Bool.or_eq_true,decide_eq_true_eq]
 constructor
 ·intro h n hn
  by_cases hlt:n < Q14 p
  ·obtain ⟨r,x,h1,h2,h3⟩:=Qia p.regs n hlt
   have h3':n=Q13 p r+x:=h3
   have hs:secW p n=(p.regs.getD r default).secret:=by
    unfold secW
    rw [h3]
    exact Qa0 p.regs r x h1 h2
   rw [hn] at hs
   rcases h r h1 with h4 | h4
   ·rw [← hs] at h4;cases h4
   ·have e1:=Q9y (p:=p) a h1 h2
    have e2:=Q9y (p:=p) b h1 h2
    rw [h4,e2] at e1
    rw [h3']
    exact e1.symm
  ·rw [List.getD_eq_getElem?_getD,List.getD_eq_getElem?_getD,List.getElem?_eq_none (by omega),List.getElem?_eq_none (by omega)]
 ·intro h r hr
  cases hsec:(p.regs.getD r default).secret
  ·right
   apply List.ext_getElem (by rw [Q9w ha hr,Q9w hb hr])
   intro x h1 h2
   have hx:x < Q0e (p.regs.getD r default):=by rw [Q9w ha hr] at h1;exact h1
   have e1:=Q9y (p:=p) a hr hx
   have e2:=Q9y (p:=p) b hr hx
   have hs:secW p (Q13 p r+x)=false:=by
    unfold secW
    have:=Qa0 p.regs r x hr hx
    rw [hsec] at this
    exact this
   have:=h _ hs
   rw [← e1,← e2] at this
   rw [List.getD_eq_getElem?_getD (l:=(Q1j p a).getD r default),List.getD_eq_getElem?_getD (l:=(Q1j p b).getD r default),List.getElem?_eq_getElem h1,List.getElem?_eq_getElem h2] at this
   exact this
  ·left;rfl
theorem Qg5 {p:Q00} {m n:List (List Int)} (hm:Q2f p m=true) (hn:Q2f p n=true):Q5f p m n=true ↔ Pub p m.flatten n.flatten:=by
 have:=Qnq (p:=p) (Q7t hm) (Q7t hn)
 rwa [Qf7 hm,Qf7 hn] at this
end Go.Proofs.Yteiknefajlocoaa
