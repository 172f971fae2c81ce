/- Laid together from: Region, Float, FloatR, FloatS. -/
import Derived.Test.YtiafchefbehfbaaGreatDoorDriveTellsB11
import Derived.Deep.QuietTactic
import Derived.StillTail

namespace Go.Proofs.YtiafchefbehfbaaGreatDoor
open Go Go.RowKit
theorem Q9l {f g:Nat→Bool} {i:Nat} (h2:g i=false) (h3:∀ j,j≠i→g j=f j):∀ l:List Nat,(l.filter g).length≤(l.filter f).length
 | []=>by simp
 | x :: l=>by
  have ih:=Q9l h2 h3 l
  rw [List.filter_cons,List.filter_cons]
  by_cases hx:x=i
  ·rw [hx,h2]
   by_cases hf:f i=true
   ·rw [if_neg (by simp),if_pos hf,List.length_cons];omega
   ·rw [if_neg (by simp),if_neg hf];exact ih
  ·rw [h3 x hx]
   by_cases hf:f x=true
   ·rw [if_pos hf,if_pos hf,List.length_cons,List.length_cons];omega
   ·rw [if_neg hf,if_neg hf];exact ih
theorem Qez {f g:Nat→Bool} {i:Nat} (h1:f i=true) (h2:g i=false) (h3:∀ j,j≠i→g j=f j):∀ l:List Nat,i ∈ l→(l.filter g).length < (l.filter f).length
 | [],h=>by cases h
 | x :: l,h=>by
  rw [List.filter_cons,List.filter_cons]
  by_cases hx:x=i
  ·rw [hx,h2,h1,if_neg (by simp),if_pos rfl,List.length_cons]
   have:=Q9l h2 h3 l
   omega
  ·have ih:=Qez h1 h2 h3 l (by rcases List.mem_cons.1 h with h | h;exact absurd h.symm hx;exact h)
   rw [h3 x hx]
   by_cases hf:f x=true
   ·rw [if_pos hf,if_pos hf,List.length_cons,List.length_cons];omega
   ·rw [if_neg hf,if_neg hf];exact ih
section
variable {P : Program} {ops : Array Oper} {Q : Exit → Act → World → Prop}
theorem Qax (I:Array Bool→Act→World→Prop)
  (hstep:∀ listed a w i,listed.size=ops.size→I listed a w→i ∈ Region.ready .any ops listed→wpOp P ops Q i (I (listed.setIfInBounds i true)) a w)
  (hend:∀ listed a w,listed.size=ops.size→I listed a w→Region.ready .any ops listed=[]→Q .normal a w)
  (hfull:∀ listed a w,listed.size=ops.size→I listed a w→(∀ i,i < ops.size→listed.getD i true=true)→Region.ready .any ops listed=[]) :
  ∀ (fuel:Nat) (listed:Array Bool) (a:Act) (w:World),listed.size=ops.size→((List.range ops.size).filter fun i => !listed.getD i true).length≤fuel→I listed a w→wpAny P .any ops Q fuel listed a w:=by
 intro fuel
 induction fuel with
 | zero =>
  intro listed a w hs hf hI
  have hall:∀ i,i < ops.size→listed.getD i true=true:=fun i hi=>by
   have h0:(List.range ops.size).filter (fun i => !listed.getD i true)=[]:=List.eq_nil_of_length_eq_zero (by omega)
   have:=List.filter_eq_nil_iff.1 h0 i (List.mem_range.2 hi)
   simpa using this
  have hr:=hfull listed a w hs hI hall
  exact ⟨hr,hend listed a w hs hI hr⟩
 | succ fuel ih =>
  intro listed a w hs hf hI
  refine ⟨fun hr=>hend listed a w hs hI hr,fun i hi=>?_⟩
  refine wpOp_mono (fun a' w' h=>ih _ a' w' (by simpa using hs) ?_ h) (hstep listed a w i hs hI hi)
  have hi':=mem_ready.1 hi
  have hil:i < ops.size:=by
   obtain ⟨_,o,ho,_⟩:=hi'
   exact (Array.getElem?_eq_some_iff.1 ho).1
  have hsub:=Qez (f:=fun j => !listed.getD j true) (g:=fun j => !(listed.setIfInBounds i true).getD j true) (i:=i) (by simp only [hi'.1,Bool.not_false]) (by simp [hs,hil]) (fun j hj=>by simp only [getD_set_ne true (fun e=>hj e.symm)]) (List.range ops.size) (List.mem_range.2 hil)
  omega
def Q0b (ops:Array Oper) (i:Nat):Option Tmp:=(ops[i]?).bind (·.dst)
def Q2t (ops:Array Oper) (a:Act) (vs:Nat→Value) (L:Nat→Prop) (a':Act):Prop :=
 a'.defers=a.defers∧a'.tmps.size=a.tmps.size∧(∀ i t,L i→Q0b ops i=some t→t < a.tmps.size→a'.tmps[t]? = some (vs i))∧(∀ t,(∀ i,L i→Q0b ops i≠some t)→a'.tmps[t]? = a.tmps[t]?)
theorem Qa8 (a:Act) (vs:Nat→Value):Q2t ops a vs (fun _=>False) a:=⟨rfl,rfl,fun _ _ h=>h.elim,fun _ _=>rfl⟩
theorem Qbr {a a':Act} {vs vs':Nat→Value} {L:Nat→Prop} (h:Q2t ops a vs L a') (i:Nat) (hd:∀ j,L j→∀ t,Q0b ops j=some t→Q0b ops i≠some t) (hv:∀ j,L j→vs' j=vs j) :
  Q2t ops a vs' (fun j=>L j∨j=i) (a'.put (Q0b ops i) (vs' i)):=by
 obtain ⟨h1,h2,h3,h4⟩:=h
 cases hi:Q0b ops i with
 | none =>
  refine ⟨h1,h2,fun j t hj ht hlt=>?_,fun t ht=>h4 t fun j hj=>ht j (.inl hj)⟩
  rcases hj with hj | rfl
  ·rw [hv j hj];exact h3 j t hj ht hlt
  ·rw [hi] at ht;cases ht
 | some d =>
  refine ⟨h1,by simpa [Act.put] using h2,fun j t hj ht hlt=>?_,fun t ht=>?_⟩
  ·rcases hj with hj | rfl
   ·have hne:d≠t:=fun e=>hd j hj t ht (by rw [hi,e])
    simp only [Act.put]
    rw [Array.getElem?_setIfInBounds_ne hne,hv j hj]
    exact h3 j t hj ht hlt
   ·rw [hi] at ht
    obtain rfl:=Option.some.inj ht
    simp only [Act.put]
    rw [Array.getElem?_setIfInBounds_self_of_lt (by rw [h2];exact hlt)]
  ·have hne:d≠t:=fun e=>ht i (.inr rfl) (by rw [hi,e])
   simp only [Act.put]
   rw [Array.getElem?_setIfInBounds_ne hne]
   exact h4 t fun j hj=>ht j (.inl hj)
theorem Qbq {a a1 a2:Act} {vs:Nat→Value} {L:Nat→Prop} (h:Q2t ops a vs L a1) (k:Q2t ops a vs L a2):a1=a2:=by
 obtain ⟨h1,h2,h3,h4⟩:=h
 obtain ⟨k1,k2,k3,k4⟩:=k
 obtain ⟨t1,d1⟩:=a1
 obtain ⟨t2,d2⟩:=a2
 have ht:t1=t2:=by
  apply Array.ext_getElem?
  intro t
  by_cases hx:∃ i,L i∧Q0b ops i=some t
  ·obtain ⟨i,hi,hd⟩:=hx
   by_cases hl:t < a.tmps.size
   ·exact (h3 i t hi hd hl).trans (k3 i t hi hd hl).symm
   ·rw [Array.getElem?_eq_none (by rw [show t1.size=a.tmps.size from h2];exact Nat.le_of_not_lt hl),Array.getElem?_eq_none (by rw [show t2.size=a.tmps.size from k2];exact Nat.le_of_not_lt hl)]
  ·have hn:∀ i,L i→Q0b ops i≠some t:=fun i hi e=>hx ⟨i,hi,e⟩
   exact (h4 t hn).trans (k4 t hn).symm
 subst ht
 congr 1
 exact h1.trans k1.symm
theorem Q41 {a a':Act} {vs vs':Nat→Value} {L L':Nat→Prop} (h:Q2t ops a vs L a') (hL:∀ i,L i ↔ L' i) (hv:∀ i,L i→vs i=vs' i):Q2t ops a vs' L' a' :=
 ⟨h.1,h.2.1,fun i t hi hd hl=>by rw [← hv i ((hL i).2 hi)];exact h.2.2.1 i t ((hL i).2 hi) hd hl,fun t ht=>h.2.2.2 t fun i hi=>ht i ((hL i).1 hi)⟩
theorem Qqp {a a1 a2:Act} {v1 v2:Nat→Value} {L1 L2:Nat→Prop} (h:Q2t ops a v1 L1 a1) (k:Q2t ops a v2 L2 a2) (t:Tmp)
  (hd:∀ i,Q0b ops i=some t→L1 i∧L2 i∧v1 i=v2 i):a1.tmps[t]? = a2.tmps[t]? := by
 by_cases hx:∃ i,Q0b ops i=some t
 ·obtain ⟨i,hi⟩:=hx
  obtain ⟨l1,l2,hv⟩:=hd i hi
  by_cases hl:t < a.tmps.size
  ·rw [h.2.2.1 i t l1 hi hl,k.2.2.1 i t l2 hi hl,hv]
  ·rw [Array.getElem?_eq_none (by rw [h.2.1];exact Nat.le_of_not_lt hl),Array.getElem?_eq_none (by rw [k.2.1];exact Nat.le_of_not_lt hl)]
 ·rw [h.2.2.2 t fun i _ e=>hx ⟨i,e⟩,k.2.2.2 t fun i _ e=>hx ⟨i,e⟩]
theorem Q8r {a1 a2:Act} (o:Oper) (hs:∀ cs b,o.op≠.select cs b) (h:∀ t,t ∈ o.looksAt ops→a1.tmps[t]? = a2.tmps[t]?):execOp a1.eval o=execOp a2.eval o :=
 execOp_congr o hs fun x hx=>by
  cases x with
  | tmp t =>
   have ht:t ∈ o.looksAt ops:=List.mem_append_left _ (List.mem_filterMap.2 ⟨.tmp t,by simpa using hx,rfl⟩)
   simp only [Act.eval,Array.getD_eq_getD_getElem?,h t ht]
  | _=>rfl
theorem Q83 {a1 a2:Act} (o:Oper) (h:∀ t,t ∈ o.looksAt ops→a1.tmps[t]? = a2.tmps[t]?):Region.wanted o (yielded ops a1.tmps)=Region.wanted o (yielded ops a2.tmps):=by
 unfold Region.wanted
 cases hg:o.guard with
 | none=>rfl
 | some gw =>
  obtain ⟨g,want⟩:=gw
  have hy:yielded ops a1.tmps g=yielded ops a2.tmps g:=by
   unfold yielded
   cases ht:(ops[g]?).bind (·.dst) with
   | none=>rfl
   | some t=>simp only [Option.bind_some,h t (by simp [Oper.looksAt,hg,ht])]
  simp only [hy]
def Q4i (ops:Array Oper) (n:Nat) (i0:Nat):Bool :=
 Region.noSelect ops && decide (n≤ops.size) &&
 ((List.range ops.size).all fun i=>match ops[i]? with | some o=>o.after.all fun e => !Region.binds .any e || decide (e.on < i) | none=>true) &&
 ((List.range n).all fun i=>match ops[i]? with
  | some o=>(o.looksAt ops).all fun t=>(List.range ops.size).all fun j=>Q0b ops j != some t || (decide (j < i) && Region.waitsFor .any ops i j && j != i0)
  | none=>true) &&
 ((List.range ops.size).all fun i=>(List.range i).all fun j=>(Q0b ops j).isNone || Q0b ops j != Q0b ops i) &&
 ((List.range ops.size).all fun t=>decide (t < n) || (List.range t).all fun i=>(List.range (t+1)).any fun j=>decide (i < j) && Region.waitsFor .any ops j i)
def Q9o (P:Program) (w:World) (v:Value):Result Next→Prop
 | .ok (.value u) w'=>w'=w∧u=v
 | .ok .skip w'=>w'=w∧v=undef
 | .ok (.enter f args) w'=>w'=w∧Calls P f args w (fun e w''=>e=.returned v∧Ext w w'')
 | _=>False
def Q7x (P:Program) (ops:Array Oper) (W:World) (i0 k:Nat) (mk:Nat→Value) (T:TypeId) (cs:Array Value) (o:Oper) (a:Act) (v:Value):Prop :=
 if k=i0 then o.guard=none∧v=undef∧(∀ w,Ext W w→(execOp a.eval o).run P w=.ok (.value (mk w.heap.size)) (w.alloc (.cells cs T)))
 else (Region.wanted o (yielded ops a.tmps)=true∧∀ w,Ext W w→Q9o P w v ((execOp a.eval o).run P w))∨(Region.wanted o (yielded ops a.tmps)=false∧v=undef)
def Q3k (P:Program) (ops:Array Oper) (W:World) (i0:Nat) (mk:Nat→Value) (T:TypeId) (cs:Array Value) (Q:Act→Prop):Nat→List Oper→Act→Prop
 | _,[],a=>Q a
 | k,o :: rest,a => ∃ v,Q7x P ops W i0 k mk T cs o a v∧Q3k P ops W i0 mk T cs Q (k+1) rest (a.put o.dst v)
theorem Qkv {W:World} {i0:Nat} {mk:Nat→Value} {T:TypeId} {cs:Array Value} {Qa:Act→Prop} {a0:Act}:∀ (l:List Oper) (k:Nat) (a:Act) (vs0:Nat→Value),
  (∀ j,l[j]? = if j < l.length then ops[k+j]? else none)→(∀ i j,i < k+l.length→j < i→∀ t,Q0b ops j=some t→Q0b ops i≠some t) →
  Q2t ops a0 vs0 (· < k) a→Q3k P ops W i0 mk T cs Qa k l a →
  ∃ vs,(∀ j,j < k→vs j=vs0 j)∧(∀ i,k≤i→i < k+l.length→∃ o c,ops[i]? = some o∧Q2t ops a0 vs (· < i) c∧Q7x P ops W i0 i mk T cs o c (vs i))∧∃ c,Q2t ops a0 vs (· < k+l.length) c∧Qa c
 | [],k,a,vs0,_,_,hm,h=>⟨vs0,fun _ _=>rfl,fun i h1 h2=>by simp at h2;omega,a,by simpa using hm,h⟩
 | o :: l,k,a,vs0,hl,hd,hm,⟨v,h1,h2⟩=>by
  have ho:ops[k]? = some o:=by have:=hl 0;simpa using this.symm
  have hdst:o.dst=Q0b ops k:=by simp [Q0b,ho]
  have hm':Q2t ops a0 (fun i=>if i=k then v else vs0 i) (· < k+1) (a.put o.dst v):=by
   have:=Qbr (vs':=fun i=>if i=k then v else vs0 i) hm k (fun j hj t ht=>hd k j (by simp) hj t ht) (fun j hj=>by simp;intro e;omega)
   simp only [if_true] at this
   rw [hdst]
   exact Q41 this (fun i=>by omega) (fun _ _=>rfl)
  obtain ⟨vs,e1,e2,c,e3,e4⟩:=Qkv l (k+1) (a.put o.dst v) (fun i=>if i=k then v else vs0 i)
   (fun j=>by have:=hl (j+1);simp only [List.getElem?_cons_succ,List.length_cons] at this;rw [this,show k+(j+1)=k+1+j by omega];by_cases hj:j < l.length <;> simp [hj])
   (fun i j hi hj=>hd i j (by simp;omega) hj) hm' h2
  refine ⟨vs,fun j hj=>by rw [e1 j (by omega)];simp;intro e;omega,fun i hi1 hi2=>?_,c,by rw [List.length_cons,show k+(l.length+1)=k+1+l.length by omega];exact e3,e4⟩
  by_cases hik:i=k
  ·subst hik
   refine ⟨o,a,ho,Q41 hm (fun _=>Iff.rfl) (fun j hj=>by rw [e1 j (by omega)];simp;intro e;omega),?_⟩
   have:vs i=v:=by rw [e1 i (by omega)];simp
   rw [this];exact h1
  ·exact e2 i (by omega) (by simp at hi2;omega)
def Q6r (ops:Array Oper) (listed:Array Bool):Prop := ∀ j oj,ops[j]? = some oj→listed.getD j false=true→∀ e ∈ oj.after,Region.binds .any e=true→listed.getD e.on false=true
theorem Q6r.step {listed:Array Bool} (h:Q6r ops listed) {i:Nat} (hi:i ∈ Region.ready .any ops listed):Q6r ops (listed.setIfInBounds i true):=by
 intro j oj hj hl e he hb
 obtain ⟨_,o,ho,hall⟩:=mem_ready.1 hi
 refine getD_set_true ?_
 by_cases hji:j=i
 ·subst hji
  rw [ho] at hj
  obtain rfl:=Option.some.inj hj
  exact hall e he hb
 ·rw [getD_set_ne false (fun e=>hji e.symm)] at hl
  exact h j oj hj hl e he hb
theorem sunk {n i0:Nat} (hB:Q4i ops n i0=true) {listed:Array Bool} (hc:Q6r ops listed) {t:Nat} (ht:t ∈ Region.ready .any ops listed) (hn:n≤t):∀ d i,t - i≤d→i < t→listed.getD i false=true:=by
 simp only [Q4i,Bool.and_eq_true] at hB
 obtain ⟨_,hs⟩:=hB
 obtain ⟨_,ot,hot,hall⟩:=mem_ready.1 ht
 have htl:t < ops.size:=(Array.getElem?_eq_some_iff.1 hot).1
 have hst:=List.all_eq_true.1 hs t (List.mem_range.2 htl)
 rw [decide_eq_false (by omega),Bool.false_or] at hst
 intro d
 induction d with
 | zero=>intro i h1 h2;omega
 | succ d ih =>
  intro i h1 h2
  obtain ⟨j,hj,hw⟩:=List.any_eq_true.1 (List.all_eq_true.1 hst i (List.mem_range.2 h2))
  simp only [Bool.and_eq_true,decide_eq_true_eq] at hw
  have hjt:=List.mem_range.1 hj
  obtain ⟨oj,hoj,e,he,hb,heq⟩:=Region.waitsFor_spec hw.2
  by_cases hjt':j=t
  ·subst hjt'
   rw [hot] at hoj
   obtain rfl:=Option.some.inj hoj
   rw [← heq]
   exact hall e he hb
  ·have:=ih j (by omega) (by omega)
   rw [← heq]
   exact hc j oj hoj this e he hb
theorem Qik {a c:Act} {vs:Nat→Value} {L:Nat→Prop} (h:Q2t ops a vs L c) (i0:Nat) (x:Value) (hL:L i0) (hd:∀ j,L j→j≠i0→∀ t,Q0b ops j=some t→Q0b ops i0≠some t) :
  Q2t ops a (fun i=>if i=i0 then x else vs i) L (c.put (Q0b ops i0) x):=by
 obtain ⟨h1,h2,h3,h4⟩:=h
 cases hi:Q0b ops i0 with
 | none =>
  refine ⟨h1,h2,fun j t hj ht hlt=>?_,h4⟩
  have hne:j≠i0:=fun e=>by subst e;rw [hi] at ht;cases ht
  simp only [if_neg hne]
  exact h3 j t hj ht hlt
 | some d =>
  refine ⟨h1,by simpa [Act.put] using h2,fun j t hj ht hlt=>?_,fun t ht=>?_⟩
  ·by_cases hji:j=i0
   ·subst hji
    rw [hi] at ht
    obtain rfl:=Option.some.inj ht
    simp only [Act.put,if_true]
    rw [Array.getElem?_setIfInBounds_self_of_lt (by rw [h2];exact hlt)]
   ·have hne:d≠t:=fun e=>hd j hj hji t ht (by rw [hi,e])
    simp only [Act.put,if_neg hji]
    rw [Array.getElem?_setIfInBounds_ne hne]
    exact h3 j t hj ht hlt
  ·have hne:d≠t:=fun e=>ht i0 hL (by rw [hi,e])
   simp only [Act.put]
   rw [Array.getElem?_setIfInBounds_ne hne]
   exact h4 t ht
def Qcj (P:Program) (Q:Exit→Act→World→Prop) (l:List Oper) (n i0:Nat) (W:World) (mk:Nat→Value) (T:TypeId) (cs:Array Value) (vs:Nat→Value) (a:Act) (listed:Array Bool) (a':Act) (w:World):Prop :=
 Q6r l.toArray listed ∧
 ((∀ t,n≤t→t < l.length→listed.getD t false=false)∧Ext W w∧(∃ k,(i0 < n→listed.getD i0 false=true→W.heap.size≤k∧Blk w k T cs)∧Q2t l.toArray a (fun i=>if i=i0 then mk k else vs i) (fun i=>i < n∧listed.getD i false=true) a') ∨
 ∃ t,n≤t∧t≤l.length∧(∀ i,i < t→listed.getD i false=true)∧(∀ i,t≤i→i < l.length→listed.getD i false=false)∧wpList P l.toArray Q (l.drop t) a' w)
section
variable {l : List Oper} {n i0 : Nat} {W : World} {mk : Nat → Value} {T : TypeId} {cs : Array Value} {vs : Nat → Value} {a : Act}
theorem Q8s (hB:Q4i l.toArray n i0=true) {i j:Nat} (hi:i < l.length) (hj:j < i):∀ t,Q0b l.toArray j=some t→Q0b l.toArray i≠some t:=by
 simp only [Q4i,Bool.and_eq_true] at hB
 have h:=List.all_eq_true.1 (List.all_eq_true.1 hB.1.2 i (List.mem_range.2 (by simpa using hi))) j (List.mem_range.2 hj)
 intro t ht e
 rw [ht,e] at h
 simp at h
theorem dst_apart' (hB:Q4i l.toArray n i0=true) {i j:Nat} (hi:i < l.length) (hj:j < l.length) (hne:j≠i):∀ t,Q0b l.toArray j=some t→Q0b l.toArray i≠some t:=by
 intro t ht e
 rcases Nat.lt_or_gt_of_ne hne with h | h
 ·exact Q8s hB hi h t ht e
 ·exact Q8s hB hj h t e ht
theorem Qr9 (hB:Q4i l.toArray n i0=true) {i:Nat} {o:Oper} (ho:l.toArray[i]? = some o) (hi:i < n) {t:Tmp} (ht:t ∈ o.looksAt l.toArray) {j:Nat} (hj:Q0b l.toArray j=some t) :
  j < i∧Region.waitsFor .any l.toArray i j=true∧j≠i0:=by
 simp only [Q4i,Bool.and_eq_true] at hB
 have h:=List.all_eq_true.1 hB.1.1.2 i (List.mem_range.2 hi)
 rw [ho] at h
 have hjl:j < l.toArray.size:=by
  unfold Q0b at hj
  cases hx:l.toArray[j]? with
  | none=>rw [hx] at hj;cases hj
  | some oj=>exact (Array.getElem?_eq_some_iff.1 hx).1
 have h2:=List.all_eq_true.1 (List.all_eq_true.1 h t ht) j (List.mem_range.2 hjl)
 rw [hj] at h2
 simp at h2
 exact ⟨h2.1.1,h2.1.2,h2.2⟩
theorem Q91 {listed:Array Bool} {i:Nat} (hi:i < listed.size) (j:Nat):(listed.setIfInBounds i true).getD j false=true ↔ listed.getD j false=true∨j=i:=by
 by_cases h:j=i
 ·subst h;simp [hi]
 ·rw [getD_set_ne false (fun e=>h e.symm)];simp [h]
theorem Qm8 (hB:Q4i l.toArray n i0=true)
  (hv:∀ i,i < n→∃ o c,l.toArray[i]? = some o∧Q2t l.toArray a vs (· < i) c∧Q7x P l.toArray W i0 i mk T cs o c (vs i))
  {listed:Array Bool} {a':Act} {w:World} {i:Nat} (hs:listed.size=l.toArray.size) (hc:Q6r l.toArray listed) (hi:i ∈ Region.ready .any l.toArray listed) (hin:i < n)
  (h:(∀ t,n≤t→t < l.length→listed.getD t false=false)∧Ext W w∧(∃ k,(i0 < n→listed.getD i0 false=true→W.heap.size≤k∧Blk w k T cs)∧Q2t l.toArray a (fun i=>if i=i0 then mk k else vs i) (fun i=>i < n∧listed.getD i false=true) a')) :
  wpOp P l.toArray Q i (Qcj P Q l n i0 W mk T cs vs a (listed.setIfInBounds i true)) a' w:=by
 obtain ⟨htail,hE,k,hk,hm⟩:=h
 obtain ⟨o,c,ho,hmc,hone⟩:=hv i hin
 obtain ⟨hnl,o',ho',hall⟩:=mem_ready.1 hi
 rw [ho] at ho'
 obtain rfl:=Option.some.inj ho'
 have hil:i < l.toArray.size:=(Array.getElem?_eq_some_iff.1 ho).1
 have hil':i < l.length:=by simpa using hil
 have hnl':listed.getD i false=false:=by
  have hlt:i < listed.size:=by omega
  simp [hlt] at hnl ⊢;exact hnl
 have hsel:Region.noSelect l.toArray=true:=by
  simp only [Q4i,Bool.and_eq_true] at hB;exact hB.1.1.1.1.1
 have look:∀ t,t ∈ o.looksAt l.toArray→a'.tmps[t]? = c.tmps[t]? := fun t ht=>Qqp hm hmc t fun j hj=>by
  obtain ⟨h1,h2,h3⟩:=Qr9 hB ho hin ht hj
  obtain ⟨oj,hoj,e,he,hb,heq⟩:=Region.waitsFor_spec h2
  rw [ho] at hoj
  obtain rfl:=Option.some.inj hoj
  have:=hall e he hb
  rw [heq] at this
  exact ⟨⟨by omega,this⟩,h1,by rw [if_neg h3]⟩
 have hex:=Q8r (ops:=l.toArray) o (fun cs b=>Region.noSelect_spec hsel i o cs b ho) look
 have hwa:=Q83 (ops:=l.toArray) o look
 have hdst:o.dst=Q0b l.toArray i:=by simp [Q0b,ho]
 have next:∀ (k':Nat) (v:Value) (w':World),Ext W w'→(if i=i0 then mk k' else vs i)=v→(∀ j,j < n→listed.getD j false=true→(if j=i0 then mk k' else vs j)=(if j=i0 then mk k else vs j)) →
   (i0 < n→(listed.setIfInBounds i true).getD i0 false=true→W.heap.size≤k'∧Blk w' k' T cs)→Qcj P Q l n i0 W mk T cs vs a (listed.setIfInBounds i true) (a'.put o.dst v) w':=by
  intro k' v w' hE' hv' hsame hblk
  refine ⟨hc.step hi,.inl ⟨fun t h1 h2=>by rw [getD_set_ne false (by omega)];exact htail t h1 h2,hE',k',hblk,?_⟩⟩
  have hp:=Qbr (vs':=fun i=>if i=i0 then mk k' else vs i) hm i (fun j hj t ht=>by
   have hjl:j < l.length:=by
    have:=hj.1
    simp only [Q4i,Bool.and_eq_true,decide_eq_true_eq] at hB
    have:=hB.1.1.1.1.2
    simp at this
    omega
   exact dst_apart' hB hil' hjl (fun e=>by subst e;rw [hj.2] at hnl';cases hnl') t ht) (fun j hj=>hsame j hj.1 hj.2)
  rw [← hv',hdst]
  refine Q41 hp (fun j=>?_) (fun _ _=>rfl)
  rw [Q91 (by omega)]
  constructor
  ·rintro (h | h)
   ·exact ⟨h.1,.inl h.2⟩
   ·exact ⟨by omega,.inr h⟩
  ·rintro ⟨h1,h2 | h2⟩
   ·exact .inl ⟨h1,h2⟩
   ·exact .inr h2
 unfold wpOp
 rw [ho]
 simp only []
 unfold Q7x at hone
 by_cases h0:i=i0
 ·rw [if_pos h0] at hone
  obtain ⟨hg,_,hrun⟩:=hone
  have hw:Region.wanted o (yielded l.toArray a'.tmps)=true:=by simp [Region.wanted,hg]
  rw [if_pos hw]
  left
  unfold Oper.wp
  rw [hex,hrun w hE]
  simp only [Oper.upon]
  refine next w.heap.size _ _ (hE.alloc _) (by rw [if_pos h0]) (fun j h1 h2=>?_) (fun _ _=>⟨hE.size,Blk.new _ _ _⟩)
  have hne:j≠i0:=fun e=>by subst e;subst h0;rw [h2] at hnl';cases hnl'
  rw [if_neg hne,if_neg hne]
 ·rw [if_neg h0] at hone
  have keep:∀ w',Ext w w'→(i0 < n→(listed.setIfInBounds i true).getD i0 false=true→W.heap.size≤k∧Blk w' k T cs):=fun w' hx h1 h2=>by
   rw [Q91 (by omega)] at h2
   rcases h2 with h2 | h2
   ·exact ⟨(hk h1 h2).1,(hk h1 h2).2.ext hx⟩
   ·exact absurd h2.symm h0
  rcases hone with ⟨hw,hrun⟩ | ⟨hw,hv0⟩
  ·rw [hwa,if_pos hw]
   left
   have hr:=hrun w hE
   unfold Oper.wp
   rw [hex]
   generalize (execOp c.eval o).run P w=r at hr
   cases r with
   | ok nx w' =>
    cases nx <;> simp only [Q9o] at hr <;> simp only [Oper.upon]
    case value u =>
     obtain ⟨rfl,rfl⟩:=hr
     exact next k _ _ hE (by rw [if_neg h0]) (fun _ _ _=>rfl) (keep _ (Ext.refl _))
    case skip =>
     obtain ⟨rfl,hv'⟩:=hr
     exact next k _ _ hE (by rw [if_neg h0,hv']) (fun _ _ _=>rfl) (keep _ (Ext.refl _))
    case enter f args =>
     obtain ⟨rfl,hcall⟩:=hr
     exact hcall.mono fun e w'' ⟨he,hx⟩=>by
      subst he
      exact next k _ _ (hE.trans hx) (by rw [if_neg h0]) (fun _ _ _=>rfl) (keep _ hx)
   | halt x w'=>simp only [Q9o] at hr
  ·rw [hwa,hw]
   simp only [Bool.false_eq_true,if_false]
   exact next k _ _ hE (by rw [if_neg h0,hv0]) (fun _ _ _=>rfl) (keep _ (Ext.refl _))
theorem Qbg {p:Nat→Bool} {m:Nat} (h:∃ i,i < m∧p i=true):∃ i,i < m∧p i=true∧∀ j,j < i→p j=false:=by
 induction m with
 | zero=>obtain ⟨i,hi,_⟩:=h;omega
 | succ m ih =>
  by_cases hx:∃ i,i < m∧p i=true
  ·obtain ⟨i,h1,h2,h3⟩:=ih hx
   exact ⟨i,by omega,h2,h3⟩
  ·obtain ⟨i,h1,h2⟩:=h
   refine ⟨i,h1,h2,fun j hj=>?_⟩
   cases hp:p j
   ·rfl
   ·exact absurd ⟨j,by omega,hp⟩ hx
theorem Qvx (hB:Q4i l.toArray n i0=true) {listed:Array Bool} (hs:listed.size=l.toArray.size) (hr:Region.ready .any l.toArray listed=[]):∀ i,i < l.length→listed.getD i false=true:=by
 intro i hi
 cases hl:listed.getD i false
 ·exfalso
  obtain ⟨m,h1,h2,h3⟩:=Qbg (p:=fun i => !listed.getD i false) (m:=l.length) ⟨i,hi,by simpa using hl⟩
  have hm:m ∈ Region.ready .any l.toArray listed:=by
   refine mem_ready.2 ⟨?_,l[m],by simp [h1],fun e he hb=>?_⟩
   ·have hlt:m < listed.size:=by simp [hs];exact h1
    simp [hlt] at h2 ⊢;exact h2
   ·simp only [Q4i,Bool.and_eq_true] at hB
    have h:=List.all_eq_true.1 hB.1.1.1.2 m (List.mem_range.2 (by simpa using h1))
    have ho:l.toArray[m]? = some l[m]:=by simp [h1]
    rw [ho] at h
    have:=(Array.all_eq_true'.1 h) e he
    rw [hb] at this
    simp at this
    have:=h3 e.on this
    simpa using this
  rw [hr] at hm
  cases hm
 ·rfl
theorem Qh5 {id:Nat} (n i0:Nat) (hm:P.follows .mixedOrders=true) (hB:Q4i l.toArray n i0=true) (mk:Nat→Value) (T:TypeId) (cs:Array Value)
  (h:Q3k P l.toArray W i0 mk T cs (fun a' => ∀ k w',(i0 < n→W.heap.size≤k∧Blk w' k T cs)→Ext W w'→wpList P l.toArray Q (l.drop n) (if i0 < n then a'.put (Q0b l.toArray i0) (mk k) else a') w') 0 (l.take n) a) :
  (Code.region id l.toArray true).wp P Q a W:=by
 have hnl:n≤l.length:=by
  simp only [Q4i,Bool.and_eq_true,decide_eq_true_eq] at hB
  simpa using hB.1.1.1.1.2
 have htk:(l.take n).length=n:=by simp;omega
 obtain ⟨vs,_,hv,c,hcm,hQ⟩:=Qkv (ops:=l.toArray) (a0:=a) (l.take n) 0 a (fun _=>undef)
  (fun j=>by rw [htk,List.getElem?_take];by_cases hj:j < n <;> simp [hj]) (fun i j hi hj=>Q8s hB (by omega) hj) (Q41 (Qa8 a (fun _=>undef)) (fun _=>by simp) (fun _ h=>h.elim)) h
 simp only [Nat.zero_add,htk,Nat.zero_le,true_imp_iff] at hv hcm
 refine wp_region_any hm ?_
 refine Qax (Qcj P Q l n i0 W mk T cs vs a) ?_ ?_ ?_ _ _ _ _ (by simp) (by
  refine Nat.le_trans (List.length_filter_le _ _) (by simp)) ?_
 ·-- a step
  intro listed a' w i hs hI hi
  obtain ⟨hc,hI⟩:=hI
  have hil:i < l.length:=by
   obtain ⟨_,o,ho,_⟩:=mem_ready.1 hi
   simpa using (Array.getElem?_eq_some_iff.1 ho).1
  have hnl':listed.getD i false=false:=by
   have h0:=(mem_ready.1 hi).1
   have hlt:i < listed.size:=by simp [hs];exact hil
   simp [hlt] at h0 ⊢;exact h0
  by_cases hin:i < n
  ·rcases hI with hI | ⟨t,ht1,ht2,ht3,_,_⟩
   ·exact Qm8 hB hv hs hc hi hin hI
   ·exact absurd (ht3 i (by omega)) (by rw [hnl'];simp)
  ·-- the tail: all ahead has been taken
   have hall:=sunk hB hc hi (by omega)
   have htail:∃ t,t=i∧n≤t∧(∀ j,t≤j→j < l.length→listed.getD j false=false)∧wpList P l.toArray Q (l.drop t) a' w:=by
    rcases hI with ⟨hI1,hE,k,hk,hmx⟩ | ⟨t,ht1,ht2,ht3,ht4,ht5⟩
    ·have hi':i=n:=by
      rcases Nat.lt_or_ge n i with h1 | h1
      ·have:=hI1 n (Nat.le_refl _) (by omega)
       rw [hall _ n (Nat.le_refl _) h1] at this
       cases this
      ·omega
     refine ⟨n,hi'.symm,Nat.le_refl _,hI1,?_⟩
     have hall':∀ j,j < n→listed.getD j false=true:=fun j hj=>hall _ j (Nat.le_refl _) (by omega)
     have hfin:=hQ k w (fun h0=>hk h0 (hall' i0 h0)) hE
     by_cases h0:i0 < n
     ·rw [if_pos h0] at hfin
      have hover:=Qik hcm i0 (mk k) h0 (fun j hj hne=>dst_apart' hB (by omega) (by omega) hne)
      have he:=Qbq (Q41 hmx (L':=(· < n)) (vs':=fun i=>if i=i0 then mk k else vs i) (fun j=>⟨fun h=>h.1,fun h=>⟨h,hall' j h⟩⟩) (fun _ _=>rfl)) hover
      rw [he];exact hfin
     ·rw [if_neg h0] at hfin
      have he:=Qbq (Q41 hmx (L':=(· < n)) (vs':=vs) (fun j=>⟨fun h=>h.1,fun h=>⟨h,hall' j h⟩⟩) (fun j hj=>if_neg (fun (e:j=i0)=>h0 (by rw [← e];exact hj.1)))) hcm
      rw [he];exact hfin
    ·have hti:t=i:=by
      rcases Nat.lt_trichotomy t i with h1 | h1 | h1
      ·have:=ht4 t (Nat.le_refl _) (by omega)
       rw [hall _ t (Nat.le_refl _) h1] at this
       cases this
      ·exact h1
      ·rw [ht3 i h1] at hnl';cases hnl'
     exact ⟨t,hti,ht1,ht4,ht5⟩
   obtain ⟨t,rfl,hnt,ht4,ht5⟩:=htail
   have hdrop:l.drop t=l[t] :: l.drop (t+1):=(List.drop_eq_getElem_cons hil)
   have ho:l.toArray[t]? = some l[t]:=by simp [hil]
   rw [hdrop] at ht5
   unfold wpOp
   rw [ho]
   simp only [wpList] at ht5 ⊢
   have fin:∀ a'' w'',wpList P l.toArray Q (l.drop (t+1)) a'' w''→Qcj P Q l n i0 W mk T cs vs a (listed.setIfInBounds t true) a'' w'':=fun a'' w'' hw =>
    ⟨hc.step hi,.inr ⟨t+1,by omega,by omega,fun j hj=>(Q91 (by simp [hs];exact hil) j).2 (by
     rcases Nat.lt_or_ge j t with h1 | h1
     ·exact .inl (hall _ j (Nat.le_refl _) h1)
     ·exact .inr (by omega)),fun j h1 h2=>by rw [getD_set_ne false (by omega)];exact ht4 j (by omega) h2,hw⟩⟩
   split at ht5
   ·rename_i hw
    rw [if_pos hw]
    exact ht5.imp (Oper.wp_mono fin) (fun h=>h)
   ·rename_i hw
    rw [if_neg hw]
    exact fin _ _ ht5
 ·-- the end
  intro listed a' w hs hI hr
  have hall:=Qvx hB hs hr
  obtain ⟨_,⟨hI1,hE,k,hk,hmx⟩ | ⟨t,ht1,ht2,ht3,ht4,ht5⟩⟩:=hI
  ·have hn:n=l.length:=by
    rcases Nat.lt_or_ge n l.length with h1 | h1
    ·have:=hI1 n (Nat.le_refl _) h1
     rw [hall n h1] at this
     cases this
    ·omega
   have hfin:=hQ k w (fun h0=>hk h0 (hall i0 (by omega))) hE
   rw [hn,List.drop_length] at hfin
   rw [← hn] at hfin
   by_cases h0:i0 < n
   ·rw [if_pos h0] at hfin
    have hover:=Qik hcm i0 (mk k) h0 (fun j hj hne=>dst_apart' hB (by omega) (by omega) hne)
    have he:=Qbq (Q41 hmx (L':=(· < n)) (vs':=fun i=>if i=i0 then mk k else vs i) (fun j=>⟨fun h=>h.1,fun h=>⟨h,hall j (by omega)⟩⟩) (fun _ _=>rfl)) hover
    rw [he];exact hfin
   ·rw [if_neg h0] at hfin
    have he:=Qbq (Q41 hmx (L':=(· < n)) (vs':=vs) (fun j=>⟨fun h=>h.1,fun h=>⟨h,hall j (by omega)⟩⟩) (fun j hj=>if_neg (fun (e:j=i0)=>h0 (by rw [← e];exact hj.1)))) hcm
    rw [he];exact hfin
  ·have htl:t=l.length:=by
    rcases Nat.lt_or_ge t l.length with h1 | h1
    ·have:=ht4 t (Nat.le_refl _) h1
     rw [hall t h1] at this
     cases this
    ·omega
   rw [htl,List.drop_length] at ht5
   exact ht5
 ·-- nothing is left
  intro listed a' w hs _ hall
  rw [List.eq_nil_iff_forall_not_mem]
  intro i hi
  obtain ⟨h0,o,ho,_⟩:=mem_ready.1 hi
  rw [hall i (Array.getElem?_eq_some_iff.1 ho).1] at h0
  cases h0
 ·-- the beginning
  refine ⟨fun j oj hj hl=>?_,.inl ⟨fun t _ h2=>by simp [h2],(Ext.refl W).drew,0,fun _ h2=>?_,?_⟩⟩
  ·by_cases hj':j < l.length <;> simp [hj'] at hl
  ·by_cases hj':i0 < l.length <;> simp [hj'] at h2
  ·refine Q41 (Qa8 a (fun _=>undef)) (fun j=>⟨fun h=>h.elim,fun h=>?_⟩) (fun _ h=>h.elim)
   have:=h.2
   by_cases hj':j < l.length <;> simp [hj'] at this
theorem Q0j {id:Nat} (n:Nat) (hm:P.follows .mixedOrders=true) (hB:Q4i l.toArray n n=true)
  (h:Q3k P l.toArray W n (fun _=>undef) 0 #[] (fun a' => ∀ w',Ext W w'→wpList P l.toArray Q (l.drop n) a' w') 0 (l.take n) a) :
  (Code.region id l.toArray true).wp P Q a W:=by
 refine Qh5 n n hm hB (fun _=>undef) 0 #[] ?_
 have key:∀ (l':List Oper) (k:Nat) (a:Act) (Q1 Q2:Act→Prop),(∀ a,Q1 a→Q2 a)→Q3k P l.toArray W n (fun _=>undef) 0 #[] Q1 k l' a→Q3k P l.toArray W n (fun _=>undef) 0 #[] Q2 k l' a:=by
  intro l'
  induction l' with
  | nil=>intro k a Q1 Q2 hq h;exact hq a h
  | cons o l' ih=>intro k a Q1 Q2 hq h;obtain ⟨v,h1,h2⟩:=h;exact ⟨v,h1,ih _ _ _ _ hq h2⟩
 refine key _ _ _ _ _ (fun a' ha k w' _ hE=>?_) h
 rw [if_neg (Nat.lt_irrefl _)]
 exact ha w' hE
theorem Qva {i0:Nat} {T:TypeId} {cs:Array Value}:∀ (l':List Oper) (k:Nat) (a:Act) (Q1 Q2:Act→Prop),(∀ a,Q1 a→Q2 a)→Q3k P ops W i0 mk T cs Q1 k l' a→Q3k P ops W i0 mk T cs Q2 k l' a:=by
 intro l'
 induction l' with
 | nil=>intro k a Q1 Q2 hq h;exact hq a h
 | cons o l' ih=>intro k a Q1 Q2 hq h;obtain ⟨v,h1,h2⟩:=h;exact ⟨v,h1,ih _ _ _ _ hq h2⟩
theorem Q8b {id:Nat} (n i0:Nat) (d:Option Tmp) (h0:i0 < n) (hd:Q0b l.toArray i0=d) (hm:P.follows .mixedOrders=true) (hB:Q4i l.toArray n i0=true) (mk:Nat→Value) (T:TypeId) (cs:Array Value)
  (h:Q3k P l.toArray W i0 mk T cs (fun a' => ∀ k w',W.heap.size≤k→Blk w' k T cs→Ext W w'→wpList P l.toArray Q (l.drop n) (a'.put d (mk k)) w') 0 (l.take n) a) :
  (Code.region id l.toArray true).wp P Q a W:=by
 refine Qh5 n i0 hm hB mk T cs (Qva _ _ _ _ _ (fun a' ha k w' hk hE=>?_) h)
 rw [if_pos h0,hd]
 exact ha k w' (hk h0).1 (hk h0).2 hE
section
variable {Qa : Act → Prop} {k i0 : Nat} {T : TypeId} {cs : Array Value} {o : Oper} {rest : List Oper}
theorem Q0f (h:Qa a):Q3k P ops W i0 mk T cs Qa k [] a:=h
theorem Q0d (hk:k≠i0) (hw:Region.wanted o (yielded ops a.tmps)=true)
  (h:∃ v,(∀ w,Ext W w→(execOp a.eval o).run P w=.ok (.value v) w)∧Q3k P ops W i0 mk T cs Qa (k+1) rest (a.put o.dst v)):Q3k P ops W i0 mk T cs Qa k (o :: rest) a:=by
 obtain ⟨v,hr,h⟩:=h
 exact ⟨v,by unfold Q7x;rw [if_neg hk];exact .inl ⟨hw,fun w hE=>by rw [hr w hE];exact ⟨rfl,rfl⟩⟩,h⟩
theorem Q2g (hk:k≠i0) (hw:Region.wanted o (yielded ops a.tmps)=true)
  (h:∃ v,(∀ w,Ext W w→Q9o P w v ((execOp a.eval o).run P w))∧Q3k P ops W i0 mk T cs Qa (k+1) rest (a.put o.dst v)):Q3k P ops W i0 mk T cs Qa k (o :: rest) a:=by
 obtain ⟨v,hr,h⟩:=h
 exact ⟨v,by unfold Q7x;rw [if_neg hk];exact .inl ⟨hw,hr⟩,h⟩
theorem Q0e (hk:k≠i0) (hw:Region.wanted o (yielded ops a.tmps)=false)
  (h:Q3k P ops W i0 mk T cs Qa (k+1) rest (a.put o.dst undef)):Q3k P ops W i0 mk T cs Qa k (o :: rest) a :=
 ⟨undef,by unfold Q7x;rw [if_neg hk];exact .inr ⟨hw,rfl⟩,h⟩
theorem Q5x (hk:k=i0) (hg:o.guard=none)
  (hr:∀ w,Ext W w→(execOp a.eval o).run P w=.ok (.value (mk w.heap.size)) (w.alloc (.cells cs T))) (h:Q3k P ops W i0 mk T cs Qa (k+1) rest (a.put o.dst undef)):Q3k P ops W i0 mk T cs Qa k (o :: rest) a :=
 ⟨undef,by unfold Q7x;rw [if_pos hk];exact ⟨hg,rfl,hr⟩,h⟩
theorem Q26 {w:World} {v:Value} {f:FuncId} {args:Array Value} (h:Calls P f args w fun e w'=>e=.returned v∧Ext w w'):Q9o P w v (.ok (.enter f args) w):=⟨rfl,h⟩
theorem Qfb {w:World} {v:Value} {f:FuncId} {args:Array Value} (h:Calls P f args w fun e w'=>e=.returned v∧w=w'):Q9o P w v (.ok (.enter f args) w) :=
 ⟨rfl,h.mono fun _ _ ⟨h1,h2⟩=>⟨h1,by subst h2;exact Ext.refl _⟩⟩
end
end
end
end Go.Proofs.YtiafchefbehfbaaGreatDoor

namespace Go.Proofs.YtiafchefbehfbaaGreatDoor
open Go Go.RowKit
set_option linter.unusedVariables false
set_option linter.unusedSimpArgs false
section
variable {P : Program} {ops : Array Oper}
def Q8c (ops:Array Oper):Nat→Nat→Nat→Bool
 | 0,_,_=>false
 | f+1,b,i=>Region.waitsFor .any ops b i || (List.range b).any fun m=>decide (i < m) && (Region.waitsFor .any ops b m && Q8c ops f m i)
theorem Q7h {listed:Array Bool} (hc:Q6r ops listed):∀ (f b i:Nat),(∀ ob,ops[b]? = some ob→∀ e ∈ ob.after,Region.binds .any e=true→listed.getD e.on false=true)→Q8c ops f b i=true→listed.getD i false=true
 | 0,_,_,_,h=>by cases h
 | f+1,b,i,hb,h=>by
  simp only [Q8c,Bool.or_eq_true] at h
  have key:∀ m,Region.waitsFor .any ops b m=true→listed.getD m false=true:=fun m hm=>by
   obtain ⟨ob,hob,e,he,hbd,rfl⟩:=Region.waitsFor_spec hm
   exact hb ob hob e he hbd
  rcases h with h | h
  ·exact key i h
  ·obtain ⟨m,_,hm⟩:=List.any_eq_true.1 h
   simp only [Bool.and_eq_true] at hm
   exact Q7h hc f m i (fun om hom e he hbd=>hc m om hom (key m hm.2.1) e he hbd) hm.2.2
def Qed (o:Oper):Bool:=match o.op with
 | .move _=>o.guard.isNone
 | _=>false
def Q7p (ops:Array Oper) (hs:List Nat) (s:Nat):Bool :=
 Region.noSelect ops &&
 ((List.range ops.size).all fun i=>match ops[i]? with | some o=>o.after.all fun e => !Region.binds .any e || decide (e.on < i) | none=>true) &&
 ((List.range ops.size).all fun i=>(List.range i).all fun j=>(Q0b ops j).isNone || Q0b ops j != Q0b ops i) &&
 ((List.range ops.size).all fun i=>match ops[i]? with
  | some o=>(o.looksAt ops).all fun t=>(List.range ops.size).all fun j=>Q0b ops j != some t || (Region.waitsFor .any ops i j && (decide (j < i) && (hs.contains i || !hs.contains j)))
  | none=>true) &&
 (hs.all fun c=>decide (c < ops.size)) &&
 ((List.range hs.length).all fun b=>(List.range b).all fun a=>Q8c ops ops.size (hs.getD b 0) (hs.getD a 0)) &&
 ((List.range hs.length).all fun b=>decide (b < s) || (List.range ops.size).all fun i=>hs.contains i || ((ops[i]?).map Qed).getD true || Q8c ops ops.size (hs.getD b 0) i)
def Q7w (P:Program) (ops:Array Oper) (W:World) (o:Oper) (a:Act) (v:Value):Prop :=
 (Region.wanted o (yielded ops a.tmps)=true∧∀ w,Ext W w→(execOp a.eval o).run P w=.ok (.value v) w)∨(Region.wanted o (yielded ops a.tmps)=false∧v=undef)
def Q15 (P:Program) (ops:Array Oper) (W:World) (hs:List Nat) (Z:Act→Prop):Nat→List Oper→Act→Prop
 | _,[],a=>Z a
 | k,o :: rest,a=>if hs.contains k=true then Q15 P ops W hs Z (k+1) rest a else ∃ v,Q7w P ops W o a v∧Q15 P ops W hs Z (k+1) rest (a.put o.dst v)
def Q03 (ops:Array Oper) (hs:List Nat):List Oper:=hs.filterMap fun i=>ops[i]?
def wpF (P:Program) (ops:Array Oper) (Z:Act→World→Prop) (W:World):Nat→List Nat→Act→World→Prop
 | _,[],A,w=>Z A w
 | 0,i :: r,A,w=>wpList P ops (fun x A' w'=>x=.normal∧Z A' w') (Q03 ops (i :: r)) A w
 | s+1,i :: r,A,w=>wpList P ops (fun x A' w'=>x=.normal∧Ext W w'∧wpF P ops Z W s r A' w') (Q03 ops [i]) A w
theorem Qcm {o:Oper} {A A':Act} {w:World} {K K':Act→World→Prop} {Q1 Q2:Exit→Act→World→Prop} (hE:execOp A.eval o=execOp A'.eval o)
  (hK:∀ v w',K (A.put o.dst v) w'→K' (A'.put o.dst v) w') (hD:∀ d w',K ({ A with defers:=d :: A.defers }.put o.dst undef) w'→K' ({ A' with defers:=d :: A'.defers }.put o.dst undef) w')
  (hQ:∀ x a w,x≠.normal→¬ Q1 x a w) (h:o.wp P A w K Q1):o.wp P A' w K' Q2:=by
 unfold Oper.wp at *
 rw [← hE]
 generalize (execOp A.eval o).run P w=r at *
 cases r with
 | ok n w' =>
  cases n <;> simp only [Oper.upon] at h ⊢
  case value v=>exact hK _ _ h
  case skip=>exact hK _ _ h
  case defer d=>exact hD _ _ h
  case enter f args =>
   exact Calls.mono h (fun e w'' he=>by
    cases e
    ·exact hK _ _ he
    ·exact absurd he (hQ _ _ _ (by simp))
    ·obtain ⟨a,w,he⟩:=he
     exact absurd he (hQ _ _ _ (by simp)))
  case row row args=>exact Rows.mono h (fun _ _ he=>hK _ _ he)
 | halt x w' =>
  cases x <;> simp only [Oper.upon] at h ⊢
  exact absurd h (hQ _ _ _ (by simp))
theorem Qaw {Z:Act→World→Prop} {W:World} {s i:Nat} {r:List Nat} {A:Act} {w:World} {o:Oper} (ho:ops[i]? = some o) (hE:0 < s→Ext W w) (h:wpF P ops Z W s (i :: r) A w) :
  (Region.wanted o (yielded ops A.tmps)=true∧∃ Q1:Exit→Act→World→Prop,(∀ x a w,x≠.normal→¬ Q1 x a w)∧o.wp P A w (fun A' w'=>(0 < s→Ext W w')∧wpF P ops Z W (s - 1) r A' w') Q1) ∨
  (Region.wanted o (yielded ops A.tmps)=false∧(0 < s→Ext W w)∧wpF P ops Z W (s - 1) r (A.put o.dst undef) w):=by
 cases s with
 | zero =>
  unfold wpF at h
  simp only [Q03,List.filterMap_cons,ho] at h
  have hr:∀ A' w',wpList P ops (fun x A' w'=>x=.normal∧Z A' w') (r.filterMap fun i=>ops[i]?) A' w'→(0 < 0→Ext W w')∧wpF P ops Z W (0 - 1) r A' w':=fun A' w' hh=>by
   refine ⟨fun h0=>absurd h0 (by decide),?_⟩
   cases r with
   | nil=>exact hh.2
   | cons j r=>exact hh
  cases hw:Region.wanted o (yielded ops A.tmps)
  ·right
   unfold wpList at h
   rw [hw] at h
   simp only [Bool.false_eq_true,if_false] at h
   exact ⟨rfl,fun h0=>absurd h0 (by decide),(hr _ _ h).2⟩
  ·left
   unfold wpList at h
   rw [hw] at h
   simp only [if_true] at h
   refine ⟨rfl,fun x A' w'=>x=.normal∧Z A' w',fun x a w hx hh=>hx hh.1,?_⟩
   rcases h with h | ⟨-,a,w,h⟩
   ·exact Oper.wp_mono hr h
   ·cases h.1
 | succ s =>
  unfold wpF at h
  simp only [Q03,List.filterMap_cons,ho,List.filterMap_nil] at h
  cases hw:Region.wanted o (yielded ops A.tmps)
  ·right
   unfold wpList at h
   rw [hw] at h
   simp only [Bool.false_eq_true,if_false] at h
   exact ⟨rfl,fun _=>h.2.1,h.2.2⟩
  ·left
   unfold wpList at h
   rw [hw] at h
   simp only [if_true] at h
   refine ⟨rfl,fun x A' w'=>x=.normal∧Ext W w'∧wpF P ops Z W s r A' w',fun x a w hx hh=>hx hh.1,?_⟩
   rcases h with h | ⟨-,a,w,h⟩
   ·exact Oper.wp_mono (fun A' w' hh=>⟨fun _=>hh.2.1,hh.2.2⟩) h
   ·cases h.1
def Pend (ops:Array Oper) (pend:Nat→Prop) (a' A:Act):Prop :=
 a'.defers=A.defers∧a'.tmps.size=A.tmps.size∧∀ t,(∀ i,pend i→Q0b ops i≠some t)→a'.tmps[t]? = A.tmps[t]?
theorem Qdq {pend:Nat→Prop} {a' A:Act} (h:Pend ops pend a' A) (d:Option Tmp) (v:Value):Pend ops pend (a'.put d v) (A.put d v):=by
 obtain ⟨h1,h2,h3⟩:=h
 cases d with
 | none=>exact ⟨h1,h2,h3⟩
 | some d =>
  refine ⟨h1,by simpa [Act.put] using h2,fun t ht=>?_⟩
  simp only [Act.put]
  by_cases hd:d=t
  ·subst hd
   by_cases hl:d < A.tmps.size
   ·rw [Array.getElem?_setIfInBounds_self_of_lt (by rw [h2];exact hl),Array.getElem?_setIfInBounds_self_of_lt hl]
   ·rw [Array.getElem?_eq_none (by rw [Array.size_setIfInBounds,h2];exact Nat.le_of_not_lt hl),Array.getElem?_eq_none (by rw [Array.size_setIfInBounds];exact Nat.le_of_not_lt hl)]
  ·rw [Array.getElem?_setIfInBounds_ne hd,Array.getElem?_setIfInBounds_ne hd];exact h3 t ht
theorem Q97 {p q:Nat→Prop} {a' A:Act} (h:Pend ops p a' A) (hpq:∀ i,p i→q i):Pend ops q a' A:=⟨h.1,h.2.1,fun t ht=>h.2.2 t fun i hi=>ht i (hpq i hi)⟩
theorem Qdr {pend:Nat→Prop} {a' A:Act} (h:Pend ops pend a' A) (i:Nat) (v:Value) (hA:∀ t,Q0b ops i=some t→t < A.tmps.size→A.tmps[t]? = some v):Pend ops (fun j=>pend j∧j≠i) (a'.put (Q0b ops i) v) A:=by
 obtain ⟨h1,h2,h3⟩:=h
 cases hd:Q0b ops i with
 | none=>exact ⟨h1,h2,fun t ht=>h3 t fun j hj=>by
   by_cases e:j=i
   ·subst e;rw [hd];simp
   ·exact ht j ⟨hj,e⟩⟩
 | some d =>
  refine ⟨h1,by simpa [Act.put] using h2,fun t ht=>?_⟩
  simp only [Act.put]
  by_cases e:d=t
  ·subst e
   by_cases hl:d < A.tmps.size
   ·rw [Array.getElem?_setIfInBounds_self_of_lt (by rw [h2];exact hl),hA d hd hl]
   ·rw [Array.getElem?_eq_none (by rw [Array.size_setIfInBounds,h2];exact Nat.le_of_not_lt hl),Array.getElem?_eq_none (Nat.le_of_not_lt hl)]
  ·rw [Array.getElem?_setIfInBounds_ne e]
   exact h3 t fun j hj=>by
    by_cases ej:j=i
    ·subst ej;rw [hd];simpa using e
    ·exact ht j ⟨hj,ej⟩
theorem Q7v {W:World} {hs:List Nat} {Z:Act→Prop} {a0:Act} (hdist:∀ i j,i < ops.size→j < i→∀ t,Q0b ops j=some t→Q0b ops i≠some t):∀ (l:List Oper) (k:Nat) (a:Act) (vs0:Nat→Value),
  (∀ j,l[j]? = ops[k+j]?)→k+l.length=ops.size →
  Q2t ops a0 vs0 (fun i=>i < k∧hs.contains i=false) a→Q15 P ops W hs Z k l a →
  ∃ vs,(∀ j,j < k→vs j=vs0 j)∧(∀ i,k≤i→i < ops.size→hs.contains i=false→∃ o c,ops[i]? = some o∧Q2t ops a0 vs (fun j=>j < i∧hs.contains j=false) c∧Q7w P ops W o c (vs i))∧∃ c,Q2t ops a0 vs (fun i=>i < ops.size∧hs.contains i=false) c∧Z c
 | [],k,a,vs0,_,hk,hm,h=>⟨vs0,fun _ _=>rfl,fun i h1 h2=>by simp at hk;omega,a,by simp at hk;rw [← hk];exact hm,h⟩
 | o :: l,k,a,vs0,hl,hk,hm,h=>by
  have ho:ops[k]? = some o:=by have:=hl 0;simpa using this.symm
  have hdst:o.dst=Q0b ops k:=by simp [Q0b,ho]
  have hkl:k < ops.size:=by simp at hk;omega
  have hl':∀ j,l[j]? = ops[k+1+j]? := fun j=>by have:=hl (j+1);simp only [List.getElem?_cons_succ] at this;rw [this,show k+(j+1)=k+1+j by omega]
  unfold Q15 at h
  by_cases hh:hs.contains k=true
  ·rw [if_pos hh] at h
   obtain ⟨vs,e1,e2,e3⟩:=Q7v hdist l (k+1) a vs0 hl' (by simp at hk;omega) (Q41 hm (fun i=>by
    constructor
    ·rintro ⟨h1,h2⟩;exact ⟨by omega,h2⟩
    ·rintro ⟨h1,h2⟩
     refine ⟨?_,h2⟩
     by_cases e:i=k
     ·subst e;rw [hh] at h2;cases h2
     ·omega) (fun _ _=>rfl)) h
   refine ⟨vs,fun j hj=>e1 j (by omega),fun i h1 h2 h3=>e2 i ?_ h2 h3,e3⟩
   by_cases e:i=k
   ·subst e;rw [hh] at h3;cases h3
   ·omega
  ·rw [if_neg hh] at h
   have hh':hs.contains k=false:=by simpa using hh
   obtain ⟨v,hv,h⟩:=h
   have hm':Q2t ops a0 (fun i=>if i=k then v else vs0 i) (fun i=>i < k+1∧hs.contains i=false) (a.put o.dst v):=by
    have:=Qbr (vs':=fun i=>if i=k then v else vs0 i) hm k (fun j hj t ht=>hdist k j hkl hj.1 t ht) (fun j hj=>by simp;intro e;omega)
    simp only [if_true] at this
    rw [hdst]
    refine Q41 this (fun i=>?_) (fun _ _=>rfl)
    constructor
    ·rintro (h1 | rfl)
     ·exact ⟨by omega,h1.2⟩
     ·exact ⟨by omega,hh'⟩
    ·rintro ⟨h1,h2⟩
     by_cases e:i=k
     ·exact .inr e
     ·exact .inl ⟨by omega,h2⟩
   obtain ⟨vs,e1,e2,e3⟩:=Q7v hdist l (k+1) (a.put o.dst v) _ hl' (by simp at hk;omega) hm' h
   have ek:vs k=v:=by rw [e1 k (by omega)];simp
   refine ⟨vs,fun j hj=>by rw [e1 j (by omega)];simp;intro e;omega,fun i h1 h2 h3=>?_,e3⟩
   by_cases e:i=k
   ·subst e
    refine ⟨o,a,ho,Q41 hm (fun _=>Iff.rfl) (fun j hj=>by rw [e1 j (by omega)];simp;intro e;omega),?_⟩
    rw [ek];exact hv
   ·exact e2 i (by omega) h2 h3
theorem Qbp {o:Oper} (h:Qed o=true) (a:Act) (w:World):∃ x,o.op=.move x∧o.guard=none∧(execOp a.eval o).run P w=.ok (.value (a.eval x)) w:=by
 unfold Qed at h
 cases ho:o.op <;> rw [ho] at h <;> simp only [Bool.false_eq_true] at h
 rename_i x
 refine ⟨x,rfl,by simpa using h,?_⟩
 unfold execOp
 simp [ho]
structure Q6h (P:Program) (ops:Array Oper) (Z:Act→World→Prop) (W:World) (hs:List Nat) (s:Nat) (vs:Nat→Value) (a0:Act) (listed:Array Bool) (a':Act) (w:World):Prop where
 Qce:Q6r ops listed
 ex:∃ k A,k≤hs.length∧(∀ b,b < hs.length→(listed.getD (hs.getD b 0) false=true ↔ b < k))∧(k≤s→Ext W w)∧wpF P ops Z W (s - k) (hs.drop k) A w ∧
  Pend ops (fun i=>i < ops.size∧hs.contains i=false∧listed.getD i false=false) a' A ∧
  (∀ i t,i < ops.size→hs.contains i=false→Q0b ops i=some t→t < A.tmps.size→A.tmps[t]? = some (vs i)) ∧
  (∀ t,(∀ i,Q0b ops i≠some t)→A.tmps[t]? = a0.tmps[t]?)∧A.tmps.size=a0.tmps.size
theorem Qev {Z:Act→World→Prop} {Q:Exit→Act→World→Prop} {W:World} {hs:List Nat} {s:Nat} {vs:Nat→Value} {a0:Act} (hB:Q7p ops hs s=true)
  (hv:∀ i,i < ops.size→hs.contains i=false→∃ o c,ops[i]? = some o∧Q2t ops a0 vs (fun j=>j < i∧hs.contains j=false) c∧Q7w P ops W o c (vs i))
  {listed:Array Bool} {a':Act} {w:World} {i:Nat} (hsz:listed.size=ops.size) (hI:Q6h P ops Z W hs s vs a0 listed a' w) (hi:i ∈ Region.ready .any ops listed) :
  wpOp P ops Q i (Q6h P ops Z W hs s vs a0 (listed.setIfInBounds i true)) a' w:=by
 simp only [Q7p,Bool.and_eq_true] at hB
 obtain ⟨⟨⟨⟨⟨⟨hsel,hback⟩,hdist⟩,hlook⟩,hin⟩,hord⟩,hhard⟩:=hB
 obtain ⟨hc,k,A,hk,hdone,hext,hF,hP,hAv,hAn,hAs⟩:=hI
 obtain ⟨hnl,o,ho,hall⟩:=mem_ready.1 hi
 have hil:i < ops.size:=(Array.getElem?_eq_some_iff.1 ho).1
 have hils:i < listed.size:=by omega
 have hnl':listed.getD i false=false:=by
  simp [hils] at hnl ⊢;exact hnl
 have hdst:o.dst=Q0b ops i:=by simp [Q0b,ho]
 have hallo:∀ ob,ops[i]? = some ob→∀ e ∈ ob.after,Region.binds .any e=true→listed.getD e.on false=true:=fun ob hob e he hb=>by
  rw [ho] at hob
  obtain rfl:=Option.some.inj hob
  exact hall e he hb
 have dist:∀ x y,x < ops.size→y < ops.size→x≠y→∀ t,Q0b ops x=some t→Q0b ops y≠some t:=by
  have one:∀ x y,x < ops.size→y < x→∀ t,Q0b ops y=some t→Q0b ops x≠some t:=fun x y hx hy t ht e=>by
   have h:=List.all_eq_true.1 (List.all_eq_true.1 hdist x (List.mem_range.2 hx)) y (List.mem_range.2 hy)
   rw [ht,e] at h
   simp at h
  intro x y hx hy hne t ht e
  rcases Nat.lt_or_gt_of_ne hne with h | h
  ·exact one y x hy h t ht e
  ·exact one x y hx h t e ht
 have look:∀ t,t ∈ o.looksAt ops→∀ j,Q0b ops j=some t→j < i∧listed.getD j false=true∧(hs.contains i=true∨hs.contains j=false):=fun t ht j hj=>by
  have h:=List.all_eq_true.1 hlook i (List.mem_range.2 hil)
  rw [ho] at h
  have hjl:j < ops.size:=by
   unfold Q0b at hj
   cases hx:ops[j]? with
   | none=>rw [hx] at hj;cases hj
   | some oj=>exact (Array.getElem?_eq_some_iff.1 hx).1
  have h2:=List.all_eq_true.1 (List.all_eq_true.1 h t ht) j (List.mem_range.2 hjl)
  rw [hj] at h2
  simp only [bne_self_eq_false,Bool.false_or,Bool.and_eq_true,decide_eq_true_eq,Bool.or_eq_true,Bool.not_eq_true'] at h2
  obtain ⟨oj,hoj,e,he,hb,rfl⟩:=Region.waitsFor_spec h2.1
  exact ⟨h2.2.1,hallo oj hoj e he hb,h2.2.2⟩
 have hlt:∀ t,t ∈ o.looksAt ops→a'.tmps[t]? = A.tmps[t]? := fun t ht=>hP.2.2 t fun j hj e=>by
  have:=(look t ht j e).2.1
  rw [hj.2.2] at this;cases this
 have hex:=Q8r (ops:=ops) o (fun cs b=>Region.noSelect_spec hsel i o cs b ho) hlt
 have hwa:=Q83 (ops:=ops) o hlt
 have hcl:=hc.step hi
 unfold wpOp
 rw [ho]
 simp only []
 cases hh:hs.contains i
 ·-- a calm one
  obtain ⟨o2,c,ho2,hmc,hcalm⟩:=hv i hil hh
  rw [ho] at ho2
  obtain rfl:=Option.some.inj ho2
  have hlc:∀ t,t ∈ o.looksAt ops→A.tmps[t]? = c.tmps[t]? := fun t ht=>by
   by_cases hx:∃ j,Q0b ops j=some t
   ·obtain ⟨j,hj⟩:=hx
    obtain ⟨h1,h2,h3⟩:=look t ht j hj
    have hjh:hs.contains j=false:=by
     rcases h3 with h3 | h3
     ·rw [hh] at h3;cases h3
     ·exact h3
    by_cases hl:t < A.tmps.size
    ·rw [hAv j t (by omega) hjh hj hl,hmc.2.2.1 j t ⟨h1,hjh⟩ hj (by rw [← hAs];exact hl)]
    ·rw [Array.getElem?_eq_none (Nat.le_of_not_lt hl),Array.getElem?_eq_none (by rw [hmc.2.1,← hAs];exact Nat.le_of_not_lt hl)]
   ·rw [hAn t fun j e=>hx ⟨j,e⟩,hmc.2.2.2 t fun j _ e=>hx ⟨j,e⟩]
  have hlac:∀ t,t ∈ o.looksAt ops→a'.tmps[t]? = c.tmps[t]? := fun t ht=>(hlt t ht).trans (hlc t ht)
  have hexc:=Q8r (ops:=ops) o (fun cs b=>Region.noSelect_spec hsel i o cs b ho) hlac
  have hwac:=Q83 (ops:=ops) o hlac
  have next:Q6h P ops Z W hs s vs a0 (listed.setIfInBounds i true) (a'.put o.dst (vs i)) w:=by
   refine ⟨hcl,k,A,hk,fun b hb=>?_,hext,hF,?_,hAv,hAn,hAs⟩
   ·rw [← hdone b hb]
    have hne:hs.getD b 0≠i:=fun e=>by
     have:hs.contains i=true:=by
      rw [← e];simp [hb]
     rw [hh] at this;cases this
    rw [getD_set_ne false (fun e=>hne e.symm)]
   ·rw [hdst]
    refine Q97 (Qdr hP i (vs i) (fun t ht hl=>hAv i t hil hh ht hl)) fun j hj=>?_
    obtain ⟨⟨h1,h2,h3⟩,h4⟩:=hj
    exact ⟨h1,h2,by rw [getD_set_ne false (fun e=>h4 e.symm)];exact h3⟩
  rcases hcalm with ⟨hw,hrun⟩ | ⟨hw,hv0⟩
  ·rw [hwac,if_pos hw]
   left
   have hrw:(execOp a'.eval o).run P w=.ok (.value (vs i)) w:=by
    rw [hexc]
    by_cases hks:k≤s
    ·exact hrun w (hext hks)
    ·-- behind a heavy one that turns something: it does not read memory
     have hsk:s < hs.length:=by omega
     have h1:=List.all_eq_true.1 hhard s (List.mem_range.2 hsk)
     rw [decide_eq_false (Nat.lt_irrefl s),Bool.false_or] at h1
     have h2:=List.all_eq_true.1 h1 i (List.mem_range.2 hil)
     rw [ho,hh] at h2
     simp only [Bool.false_or,Option.map_some,Option.getD_some,Bool.or_eq_true] at h2
     rcases h2 with h2 | h2
     ·obtain ⟨x,hx,-,hr⟩:=Qbp (P:=P) h2 c w
      obtain ⟨x',hx',-,hr'⟩:=Qbp (P:=P) h2 c W
      rw [hx] at hx'
      obtain rfl:=Op.move.inj hx'
      have h3:=hrun W (Ext.refl W)
      rw [hr'] at h3
      rw [hr]
      simp only [Result.ok.injEq,Next.value.injEq,and_true] at h3
      rw [h3]
     ·exfalso
      have h3:listed.getD (hs.getD s 0) false=true:=(hdone s hsk).2 (by omega)
      have:=Q7h hc ops.size (hs.getD s 0) i (fun ob hob e he hb=>hc _ ob hob h3 e he hb) h2
      rw [hnl'] at this;cases this
   unfold Oper.wp
   rw [hrw]
   exact next
  ·rw [hwac,hw]
   simp only [Bool.false_eq_true,if_false]
   rw [hv0] at next
   exact next
 ·-- a heavy one: the next
  have hmem:i ∈ hs:=by simpa using hh
  obtain ⟨b,hb,hbi⟩:=List.getElem_of_mem hmem
  have hgb:hs.getD b 0=i:=by simp [hb,hbi]
  have hbk:k≤b:=by
   rcases Nat.lt_or_ge b k with h | h
   ·have:=(hdone b hb).2 h
    rw [hgb,hnl'] at this;cases this
   ·exact h
  have hbk':b=k:=by
   rcases Nat.lt_or_ge k b with h | h
   ·exfalso
    have h1:=List.all_eq_true.1 (List.all_eq_true.1 hord b (List.mem_range.2 hb)) k (List.mem_range.2 h)
    rw [hgb] at h1
    have:=Q7h hc ops.size i (hs.getD k 0) hallo h1
    have:=(hdone k (by omega)).1 this
    omega
   ·omega
  subst hbk'
  have hdrop:hs.drop b=i :: hs.drop (b+1):=by rw [List.drop_eq_getElem_cons hb,hbi]
  rw [hdrop] at hF
  have next:∀ (A1 a1:Act) (v:Value) (w1:World),A1.tmps=A.tmps→a1.tmps=a'.tmps→a1.defers=A1.defers→(0 < s - b→Ext W w1)→wpF P ops Z W (s - b - 1) (hs.drop (b+1)) (A1.put o.dst v) w1→Q6h P ops Z W hs s vs a0 (listed.setIfInBounds i true) (a1.put o.dst v) w1:=by
   intro A1 a1 v w1 hA1 ha1 hdf hx hw
   have hPP:Pend ops (fun j=>j < ops.size∧hs.contains j=false∧listed.getD j false=false) a1 A1:=⟨hdf,by rw [ha1,hA1];exact hP.2.1,fun t ht=>by rw [ha1,hA1];exact hP.2.2 t ht⟩
   refine ⟨hcl,b+1,A1.put o.dst v,by omega,fun d hd=>?_,fun hle=>hx (by omega),by rw [show s - (b+1)=s - b - 1 by omega];exact hw,?_,fun j t hj hjh hjt hl=>?_,fun t ht=>?_,?_⟩
   ·by_cases hdb:d=b
    ·subst hdb
     rw [hgb,Q91 hils]
     simp
    ·have hne:hs.getD d 0≠i:=fun e=>by
      rcases Nat.lt_or_gt_of_ne hdb with h | h
      ·have:=(hdone d hd).2 h
       rw [e,hnl'] at this;cases this
      ·have h1:=List.all_eq_true.1 (List.all_eq_true.1 hord d (List.mem_range.2 hd)) b (List.mem_range.2 h)
       rw [e,hgb] at h1
       have:=Q7h hc ops.size i i hallo h1
       rw [hnl'] at this;cases this
     rw [getD_set_ne false (fun e=>hne e.symm),hdone d hd]
     omega
   ·refine Q97 (Qdq hPP o.dst v) fun j hj=>⟨hj.1,hj.2.1,?_⟩
    have hne:j≠i:=fun e=>by rw [e,hh] at hj;cases hj.2.1
    rw [getD_set_ne false (fun e=>hne e.symm)]
    exact hj.2.2
   ·have hne:j≠i:=fun e=>by rw [e,hh] at hjh;cases hjh
    have hns:Q0b ops i≠some t:=dist j i hj hil hne t hjt
    have hAA:(A1.put o.dst v).tmps[t]? = A.tmps[t]? := by
     rw [hdst]
     cases hd:Q0b ops i with
     | none=>simp [Act.put,hA1]
     | some d =>
      have:d≠t:=fun e=>hns (by rw [hd,e])
      simp only [Act.put]
      rw [Array.getElem?_setIfInBounds_ne this,hA1]
    rw [hAA]
    refine hAv j t hj hjh hjt ?_
    have hsz2:(A1.put o.dst v).tmps.size=A.tmps.size:=by cases o.dst <;> simp [Act.put,hA1]
    rw [← hsz2];exact hl
   ·have hns:Q0b ops i≠some t:=ht i
    rw [← hAn t ht,hdst]
    cases hd:Q0b ops i with
    | none=>simp [Act.put,hA1]
    | some d =>
     have:d≠t:=fun e=>hns (by rw [hd,e])
     simp only [Act.put]
     rw [Array.getElem?_setIfInBounds_ne this,hA1]
   ·rw [← hAs]
    cases o.dst <;> simp [Act.put,hA1]
  rw [hwa]
  rcases Qaw ho (fun h0=>hext (by omega)) hF with ⟨hw,Q1,hQ1,hwp⟩ | ⟨hw,hx,hw2⟩
  ·rw [if_pos hw]
   left
   exact Qcm hex.symm (fun v w1 hh=>next A a' v w1 rfl rfl hP.1 hh.1 hh.2) (fun d w1 hh=>next { A with defers:=d :: A.defers } { a' with defers:=d :: a'.defers } undef w1 rfl rfl (by simp [hP.1]) hh.1 hh.2) hQ1 hwp
  ·rw [hw]
   simp only [Bool.false_eq_true,if_false]
   exact next A a' undef w rfl rfl hP.1 hx hw2
theorem Q23 {id:Nat} {l:List Oper} {Q:Exit→Act→World→Prop} {W:World} {a:Act} (hs:List Nat) (s:Nat) (hm:P.follows .mixedOrders=true) (hB:Q7p l.toArray hs s=true)
  (h:Q15 P l.toArray W hs (fun A => ∀ w,Ext W w→wpF P l.toArray (Q .normal) W s hs A w) 0 l a):(Code.region id l.toArray true).wp P Q a W:=by
 have hB':=hB
 simp only [Q7p,Bool.and_eq_true] at hB'
 obtain ⟨⟨⟨⟨⟨⟨hsel,hback⟩,hdist⟩,hlook⟩,hin⟩,hord⟩,hhard⟩:=hB'
 have one:∀ x y,x < l.toArray.size→y < x→∀ t,Q0b l.toArray y=some t→Q0b l.toArray x≠some t:=fun x y hx hy t ht e=>by
  have h:=List.all_eq_true.1 (List.all_eq_true.1 hdist x (List.mem_range.2 hx)) y (List.mem_range.2 hy)
  rw [ht,e] at h
  simp at h
 obtain ⟨vs,_,hv,c,hcm,hZ⟩:=Q7v (ops:=l.toArray) (a0:=a) one l 0 a (fun _=>undef) (fun j=>by simp) (by simp) (Q41 (Qa8 a (fun _=>undef)) (fun i=>⟨fun h=>h.elim,fun h=>by omega⟩) (fun _ h=>h.elim)) h
 refine wp_region_any hm ?_
 refine Qax (Q6h P l.toArray (Q .normal) W hs s vs a) ?_ ?_ ?_ _ _ _ _ (by simp) (by
  refine Nat.le_trans (List.length_filter_le _ _) (by simp)) ?_
 ·intro listed a' w i hsz hI hi
  exact Qev hB (fun i h1 h2=>hv i (by omega) h1 h2) hsz hI hi
 ·-- the end
  intro listed a' w hsz hI hr
  have hall:∀ i,i < l.toArray.size→listed.getD i false=true:=by
   intro i hi
   cases hl:listed.getD i false
   ·exfalso
    obtain ⟨m,h1,h2,h3⟩:=Qbg (p:=fun i => !listed.getD i false) (m:=l.toArray.size) ⟨i,hi,by simpa using hl⟩
    have hm':m ∈ Region.ready .any l.toArray listed:=by
     refine mem_ready.2 ⟨?_,l.toArray[m],by simp [h1],fun e he hb=>?_⟩
     ·have hlt:m < listed.size:=by omega
      simp [hlt] at h2 ⊢;exact h2
     ·have h:=List.all_eq_true.1 hback m (List.mem_range.2 h1)
      have ho:l.toArray[m]? = some l.toArray[m]:=by simp [h1]
      rw [ho] at h
      have:=(Array.all_eq_true'.1 h) e he
      rw [hb] at this
      simp at this
      have:=h3 e.on this
      simpa using this
    rw [hr] at hm'
    cases hm'
   ·rfl
  obtain ⟨hc,k,A,hk,hdone,hext,hF,hP,hAv,hAn,hAs⟩:=hI
  have hkl:k=hs.length:=by
   rcases Nat.lt_or_ge k hs.length with h1 | h1
   ·exfalso
    have hin1:=List.all_eq_true.1 hin (hs.getD k 0) (by simp [h1])
    have:=(hdone k h1).1 (hall _ (by simpa using hin1))
    omega
   ·omega
  rw [hkl,List.drop_length] at hF
  have hA:a'=A:=by
   obtain ⟨p1,p2,p3⟩:=hP
   obtain ⟨t1,d1⟩:=a'
   obtain ⟨t2,d2⟩:=A
   have ht:t1=t2:=by
    apply Array.ext_getElem?
    intro t
    exact p3 t fun i hi e=>by
     have h1:=hall i hi.1
     have h2:=hi.2.2
     rw [h1] at h2;cases h2
   subst ht
   congr 1
  rw [hA]
  cases hsk:s - hs.length <;> (rw [hsk] at hF;exact hF)
 ·intro listed a' w hsz _ hall
  rw [List.eq_nil_iff_forall_not_mem]
  intro i hi
  obtain ⟨h0,o,ho,_⟩:=mem_ready.1 hi
  rw [hall i (Array.getElem?_eq_some_iff.1 ho).1] at h0
  cases h0
 ·-- the beginning
  have hnl:∀ j,(Array.replicate l.toArray.size false).getD j false=false:=fun j=>by
   rw [Array.getD_eq_getD_getElem?,Array.getElem?_replicate]
   split <;> rfl
  refine ⟨fun j oj hj hl=>absurd hl (by rw [hnl j];simp),0,c,Nat.zero_le _,fun b hb=>?_,fun _=>(Ext.refl W).drew,?_,?_,fun i t hi hh ht hl=>?_,fun t ht=>?_,hcm.2.1⟩
  ·rw [hnl];simp
  ·exact hZ _ ((Ext.refl W).drew)
  ·refine ⟨hcm.1.symm,hcm.2.1.symm,fun t ht=>?_⟩
   exact (hcm.2.2.2 t fun i hi=>ht i ⟨hi.1,hi.2,hnl i⟩).symm
  ·exact hcm.2.2.1 i t ⟨hi,hh⟩ ht (by rw [← hcm.2.1];exact hl)
  ·exact hcm.2.2.2 t fun i _=>ht i
section
variable {W : World} {hs : List Nat} {Zc : Act → Prop} {k s i : Nat} {o : Oper} {rest : List Oper} {a : Act} {r : List Nat} {Z : Act → World → Prop} {w : World}
theorem Q1w (h:Zc a):Q15 P ops W hs Zc k [] a:=h
theorem Q1x (hh:hs.contains k=true) (h:Q15 P ops W hs Zc (k+1) rest a):Q15 P ops W hs Zc k (o :: rest) a:=by
 unfold Q15;rw [if_pos hh];exact h
theorem Q1o (hh:hs.contains k=false) (hw:Region.wanted o (yielded ops a.tmps)=true)
  (h:∃ v,(∀ w,Ext W w→(execOp a.eval o).run P w=.ok (.value v) w)∧Q15 P ops W hs Zc (k+1) rest (a.put o.dst v)):Q15 P ops W hs Zc k (o :: rest) a:=by
 obtain ⟨v,h1,h2⟩:=h
 unfold Q15
 rw [if_neg (by rw [hh];simp)]
 exact ⟨v,.inl ⟨hw,h1⟩,h2⟩
theorem Q1v (hh:hs.contains k=false) (hw:Region.wanted o (yielded ops a.tmps)=false) (h:Q15 P ops W hs Zc (k+1) rest (a.put o.dst undef)):Q15 P ops W hs Zc k (o :: rest) a:=by
 unfold Q15
 rw [if_neg (by rw [hh];simp)]
 exact ⟨undef,.inr ⟨hw,rfl⟩,h⟩
theorem Q01 (ho:ops[i]? = some o) (h:wpList P ops (fun x A' w'=>x=.normal∧Ext W w'∧wpF P ops Z W s r A' w') [o] a w):wpF P ops Z W (s+1) (i :: r) a w:=by
 unfold wpF
 simp only [Q03,List.filterMap_cons,ho,List.filterMap_nil]
 exact h
theorem Q1q {L:List Oper} (hL:Q03 ops (i :: r)=L) (h:wpList P ops (fun x A' w'=>x=.normal∧Z A' w') L a w):wpF P ops Z W 0 (i :: r) a w:=by
 unfold wpF
 rw [hL]
 exact h
theorem Q0c {L:List Oper} (ho:ops[i]? = some o) (h:Q03 ops r=L):Q03 ops (i :: r)=o :: L:=by
 unfold Q03 at *
 rw [List.filterMap_cons,ho,h]
theorem Q22:Q03 ops []=[]:=rfl
end
end
section
variable {P : Program} {ops : Array Oper}
def Qfd (R:World→World→Prop) (P:Program) (ops:Array Oper) (W:World) (o:Oper) (a:Act) (v:Value):Prop :=
 (Region.wanted o (yielded ops a.tmps)=true∧∀ w,R W w→(execOp a.eval o).run P w=.ok (.value v) w)∨(Region.wanted o (yielded ops a.tmps)=false∧v=undef)
def Q4c (R:World→World→Prop) (P:Program) (ops:Array Oper) (W:World) (hs:List Nat) (Z:Act→Prop):Nat→List Oper→Act→Prop
 | _,[],a=>Z a
 | k,o :: rest,a=>if hs.contains k=true then Q4c R P ops W hs Z (k+1) rest a else ∃ v,Qfd R P ops W o a v∧Q4c R P ops W hs Z (k+1) rest (a.put o.dst v)
def wpFR (R:World→World→Prop) (P:Program) (ops:Array Oper) (Z:Act→World→Prop) (W:World):Nat→List Nat→Act→World→Prop
 | _,[],A,w=>Z A w
 | 0,i :: r,A,w=>wpList P ops (fun x A' w'=>x=.normal∧Z A' w') (Q03 ops (i :: r)) A w
 | s+1,i :: r,A,w=>wpList P ops (fun x A' w'=>x=.normal∧R W w'∧wpFR R P ops Z W s r A' w') (Q03 ops [i]) A w
theorem Qlc {Z:Act→World→Prop} {R:World→World→Prop} {W:World} {s i:Nat} {r:List Nat} {A:Act} {w:World} {o:Oper} (ho:ops[i]? = some o) (hE:0 < s→R W w) (h:wpFR R P ops Z W s (i :: r) A w) :
  (Region.wanted o (yielded ops A.tmps)=true∧∃ Q1:Exit→Act→World→Prop,(∀ x a w,x≠.normal→¬ Q1 x a w)∧o.wp P A w (fun A' w'=>(0 < s→R W w')∧wpFR R P ops Z W (s - 1) r A' w') Q1) ∨
  (Region.wanted o (yielded ops A.tmps)=false∧(0 < s→R W w)∧wpFR R P ops Z W (s - 1) r (A.put o.dst undef) w):=by
 cases s with
 | zero =>
  unfold wpFR at h
  simp only [Q03,List.filterMap_cons,ho] at h
  have hr:∀ A' w',wpList P ops (fun x A' w'=>x=.normal∧Z A' w') (r.filterMap fun i=>ops[i]?) A' w'→(0 < 0→R W w')∧wpFR R P ops Z W (0 - 1) r A' w':=fun A' w' hh=>by
   refine ⟨fun h0=>absurd h0 (by decide),?_⟩
   cases r with
   | nil=>exact hh.2
   | cons j r=>exact hh
  cases hw:Region.wanted o (yielded ops A.tmps)
  ·right
   unfold wpList at h
   rw [hw] at h
   simp only [Bool.false_eq_true,if_false] at h
   exact ⟨rfl,fun h0=>absurd h0 (by decide),(hr _ _ h).2⟩
  ·left
   unfold wpList at h
   rw [hw] at h
   simp only [if_true] at h
   refine ⟨rfl,fun x A' w'=>x=.normal∧Z A' w',fun x a w hx hh=>hx hh.1,?_⟩
   rcases h with h | ⟨-,a,w,h⟩
   ·exact Oper.wp_mono hr h
   ·cases h.1
 | succ s =>
  unfold wpFR at h
  simp only [Q03,List.filterMap_cons,ho,List.filterMap_nil] at h
  cases hw:Region.wanted o (yielded ops A.tmps)
  ·right
   unfold wpList at h
   rw [hw] at h
   simp only [Bool.false_eq_true,if_false] at h
   exact ⟨rfl,fun _=>h.2.1,h.2.2⟩
  ·left
   unfold wpList at h
   rw [hw] at h
   simp only [if_true] at h
   refine ⟨rfl,fun x A' w'=>x=.normal∧R W w'∧wpFR R P ops Z W s r A' w',fun x a w hx hh=>hx hh.1,?_⟩
   rcases h with h | ⟨-,a,w,h⟩
   ·exact Oper.wp_mono (fun A' w' hh=>⟨fun _=>hh.2.1,hh.2.2⟩) h
   ·cases h.1
theorem Qfc {R:World→World→Prop} {W:World} {hs:List Nat} {Z:Act→Prop} {a0:Act} (hdist:∀ i j,i < ops.size→j < i→∀ t,Q0b ops j=some t→Q0b ops i≠some t):∀ (l:List Oper) (k:Nat) (a:Act) (vs0:Nat→Value),
  (∀ j,l[j]? = ops[k+j]?)→k+l.length=ops.size →
  Q2t ops a0 vs0 (fun i=>i < k∧hs.contains i=false) a→Q4c R P ops W hs Z k l a →
  ∃ vs,(∀ j,j < k→vs j=vs0 j)∧(∀ i,k≤i→i < ops.size→hs.contains i=false→∃ o c,ops[i]? = some o∧Q2t ops a0 vs (fun j=>j < i∧hs.contains j=false) c∧Qfd R P ops W o c (vs i))∧∃ c,Q2t ops a0 vs (fun i=>i < ops.size∧hs.contains i=false) c∧Z c
 | [],k,a,vs0,_,hk,hm,h=>⟨vs0,fun _ _=>rfl,fun i h1 h2=>by simp at hk;omega,a,by simp at hk;rw [← hk];exact hm,h⟩
 | o :: l,k,a,vs0,hl,hk,hm,h=>by
  have ho:ops[k]? = some o:=by have:=hl 0;simpa using this.symm
  have hdst:o.dst=Q0b ops k:=by simp [Q0b,ho]
  have hkl:k < ops.size:=by simp at hk;omega
  have hl':∀ j,l[j]? = ops[k+1+j]? := fun j=>by have:=hl (j+1);simp only [List.getElem?_cons_succ] at this;rw [this,show k+(j+1)=k+1+j by omega]
  unfold Q4c at h
  by_cases hh:hs.contains k=true
  ·rw [if_pos hh] at h
   obtain ⟨vs,e1,e2,e3⟩:=Qfc hdist l (k+1) a vs0 hl' (by simp at hk;omega) (Q41 hm (fun i=>by
    constructor
    ·rintro ⟨h1,h2⟩;exact ⟨by omega,h2⟩
    ·rintro ⟨h1,h2⟩
     refine ⟨?_,h2⟩
     by_cases e:i=k
     ·subst e;rw [hh] at h2;cases h2
     ·omega) (fun _ _=>rfl)) h
   refine ⟨vs,fun j hj=>e1 j (by omega),fun i h1 h2 h3=>e2 i ?_ h2 h3,e3⟩
   by_cases e:i=k
   ·subst e;rw [hh] at h3;cases h3
   ·omega
  ·rw [if_neg hh] at h
   have hh':hs.contains k=false:=by simpa using hh
   obtain ⟨v,hv,h⟩:=h
   have hm':Q2t ops a0 (fun i=>if i=k then v else vs0 i) (fun i=>i < k+1∧hs.contains i=false) (a.put o.dst v):=by
    have:=Qbr (vs':=fun i=>if i=k then v else vs0 i) hm k (fun j hj t ht=>hdist k j hkl hj.1 t ht) (fun j hj=>by simp;intro e;omega)
    simp only [if_true] at this
    rw [hdst]
    refine Q41 this (fun i=>?_) (fun _ _=>rfl)
    constructor
    ·rintro (h1 | rfl)
     ·exact ⟨by omega,h1.2⟩
     ·exact ⟨by omega,hh'⟩
    ·rintro ⟨h1,h2⟩
     by_cases e:i=k
     ·exact .inr e
     ·exact .inl ⟨by omega,h2⟩
   obtain ⟨vs,e1,e2,e3⟩:=Qfc hdist l (k+1) (a.put o.dst v) _ hl' (by simp at hk;omega) hm' h
   have ek:vs k=v:=by rw [e1 k (by omega)];simp
   refine ⟨vs,fun j hj=>by rw [e1 j (by omega)];simp;intro e;omega,fun i h1 h2 h3=>?_,e3⟩
   by_cases e:i=k
   ·subst e
    refine ⟨o,a,ho,Q41 hm (fun _=>Iff.rfl) (fun j hj=>by rw [e1 j (by omega)];simp;intro e;omega),?_⟩
    rw [ek];exact hv
   ·exact e2 i (by omega) h2 h3
structure Qav (R:World→World→Prop) (P:Program) (ops:Array Oper) (Z:Act→World→Prop) (W:World) (hs:List Nat) (s:Nat) (vs:Nat→Value) (a0:Act) (listed:Array Bool) (a':Act) (w:World):Prop where
 Qce:Q6r ops listed
 ex:∃ k A,k≤hs.length∧(∀ b,b < hs.length→(listed.getD (hs.getD b 0) false=true ↔ b < k))∧(k≤s→R W w)∧wpFR R P ops Z W (s - k) (hs.drop k) A w ∧
  Pend ops (fun i=>i < ops.size∧hs.contains i=false∧listed.getD i false=false) a' A ∧
  (∀ i t,i < ops.size→hs.contains i=false→Q0b ops i=some t→t < A.tmps.size→A.tmps[t]? = some (vs i)) ∧
  (∀ t,(∀ i,Q0b ops i≠some t)→A.tmps[t]? = a0.tmps[t]?)∧A.tmps.size=a0.tmps.size
theorem Qtw {Z:Act→World→Prop} {Q:Exit→Act→World→Prop} {R:World→World→Prop} {W:World} {hs:List Nat} {s:Nat} {vs:Nat→Value} {a0:Act} (hR0:R W W) (hB:Q7p ops hs s=true)
  (hv:∀ i,i < ops.size→hs.contains i=false→∃ o c,ops[i]? = some o∧Q2t ops a0 vs (fun j=>j < i∧hs.contains j=false) c∧Qfd R P ops W o c (vs i))
  {listed:Array Bool} {a':Act} {w:World} {i:Nat} (hsz:listed.size=ops.size) (hI:Qav R P ops Z W hs s vs a0 listed a' w) (hi:i ∈ Region.ready .any ops listed) :
  wpOp P ops Q i (Qav R P ops Z W hs s vs a0 (listed.setIfInBounds i true)) a' w:=by
 simp only [Q7p,Bool.and_eq_true] at hB
 obtain ⟨⟨⟨⟨⟨⟨hsel,hback⟩,hdist⟩,hlook⟩,hin⟩,hord⟩,hhard⟩:=hB
 obtain ⟨hc,k,A,hk,hdone,hext,hF,hP,hAv,hAn,hAs⟩:=hI
 obtain ⟨hnl,o,ho,hall⟩:=mem_ready.1 hi
 have hil:i < ops.size:=(Array.getElem?_eq_some_iff.1 ho).1
 have hils:i < listed.size:=by omega
 have hnl':listed.getD i false=false:=by
  simp [hils] at hnl ⊢;exact hnl
 have hdst:o.dst=Q0b ops i:=by simp [Q0b,ho]
 have hallo:∀ ob,ops[i]? = some ob→∀ e ∈ ob.after,Region.binds .any e=true→listed.getD e.on false=true:=fun ob hob e he hb=>by
  rw [ho] at hob
  obtain rfl:=Option.some.inj hob
  exact hall e he hb
 have dist:∀ x y,x < ops.size→y < ops.size→x≠y→∀ t,Q0b ops x=some t→Q0b ops y≠some t:=by
  have one:∀ x y,x < ops.size→y < x→∀ t,Q0b ops y=some t→Q0b ops x≠some t:=fun x y hx hy t ht e=>by
   have h:=List.all_eq_true.1 (List.all_eq_true.1 hdist x (List.mem_range.2 hx)) y (List.mem_range.2 hy)
   rw [ht,e] at h
   simp at h
  intro x y hx hy hne t ht e
  rcases Nat.lt_or_gt_of_ne hne with h | h
  ·exact one y x hy h t ht e
  ·exact one x y hx h t e ht
 have look:∀ t,t ∈ o.looksAt ops→∀ j,Q0b ops j=some t→j < i∧listed.getD j false=true∧(hs.contains i=true∨hs.contains j=false):=fun t ht j hj=>by
  have h:=List.all_eq_true.1 hlook i (List.mem_range.2 hil)
  rw [ho] at h
  have hjl:j < ops.size:=by
   unfold Q0b at hj
   cases hx:ops[j]? with
   | none=>rw [hx] at hj;cases hj
   | some oj=>exact (Array.getElem?_eq_some_iff.1 hx).1
  have h2:=List.all_eq_true.1 (List.all_eq_true.1 h t ht) j (List.mem_range.2 hjl)
  rw [hj] at h2
  simp only [bne_self_eq_false,Bool.false_or,Bool.and_eq_true,decide_eq_true_eq,Bool.or_eq_true,Bool.not_eq_true'] at h2
  obtain ⟨oj,hoj,e,he,hb,rfl⟩:=Region.waitsFor_spec h2.1
  exact ⟨h2.2.1,hallo oj hoj e he hb,h2.2.2⟩
 have hlt:∀ t,t ∈ o.looksAt ops→a'.tmps[t]? = A.tmps[t]? := fun t ht=>hP.2.2 t fun j hj e=>by
  have:=(look t ht j e).2.1
  rw [hj.2.2] at this;cases this
 have hex:=Q8r (ops:=ops) o (fun cs b=>Region.noSelect_spec hsel i o cs b ho) hlt
 have hwa:=Q83 (ops:=ops) o hlt
 have hcl:=hc.step hi
 unfold wpOp
 rw [ho]
 simp only []
 cases hh:hs.contains i
 ·-- a calm one
  obtain ⟨o2,c,ho2,hmc,hcalm⟩:=hv i hil hh
  rw [ho] at ho2
  obtain rfl:=Option.some.inj ho2
  have hlc:∀ t,t ∈ o.looksAt ops→A.tmps[t]? = c.tmps[t]? := fun t ht=>by
   by_cases hx:∃ j,Q0b ops j=some t
   ·obtain ⟨j,hj⟩:=hx
    obtain ⟨h1,h2,h3⟩:=look t ht j hj
    have hjh:hs.contains j=false:=by
     rcases h3 with h3 | h3
     ·rw [hh] at h3;cases h3
     ·exact h3
    by_cases hl:t < A.tmps.size
    ·rw [hAv j t (by omega) hjh hj hl,hmc.2.2.1 j t ⟨h1,hjh⟩ hj (by rw [← hAs];exact hl)]
    ·rw [Array.getElem?_eq_none (Nat.le_of_not_lt hl),Array.getElem?_eq_none (by rw [hmc.2.1,← hAs];exact Nat.le_of_not_lt hl)]
   ·rw [hAn t fun j e=>hx ⟨j,e⟩,hmc.2.2.2 t fun j _ e=>hx ⟨j,e⟩]
  have hlac:∀ t,t ∈ o.looksAt ops→a'.tmps[t]? = c.tmps[t]? := fun t ht=>(hlt t ht).trans (hlc t ht)
  have hexc:=Q8r (ops:=ops) o (fun cs b=>Region.noSelect_spec hsel i o cs b ho) hlac
  have hwac:=Q83 (ops:=ops) o hlac
  have next:Qav R P ops Z W hs s vs a0 (listed.setIfInBounds i true) (a'.put o.dst (vs i)) w:=by
   refine ⟨hcl,k,A,hk,fun b hb=>?_,hext,hF,?_,hAv,hAn,hAs⟩
   ·rw [← hdone b hb]
    have hne:hs.getD b 0≠i:=fun e=>by
     have:hs.contains i=true:=by
      rw [← e];simp [hb]
     rw [hh] at this;cases this
    rw [getD_set_ne false (fun e=>hne e.symm)]
   ·rw [hdst]
    refine Q97 (Qdr hP i (vs i) (fun t ht hl=>hAv i t hil hh ht hl)) fun j hj=>?_
    obtain ⟨⟨h1,h2,h3⟩,h4⟩:=hj
    exact ⟨h1,h2,by rw [getD_set_ne false (fun e=>h4 e.symm)];exact h3⟩
  rcases hcalm with ⟨hw,hrun⟩ | ⟨hw,hv0⟩
  ·rw [hwac,if_pos hw]
   left
   have hrw:(execOp a'.eval o).run P w=.ok (.value (vs i)) w:=by
    rw [hexc]
    by_cases hks:k≤s
    ·exact hrun w (hext hks)
    ·-- behind a heavy one that turns something: it does not read memory
     have hsk:s < hs.length:=by omega
     have h1:=List.all_eq_true.1 hhard s (List.mem_range.2 hsk)
     rw [decide_eq_false (Nat.lt_irrefl s),Bool.false_or] at h1
     have h2:=List.all_eq_true.1 h1 i (List.mem_range.2 hil)
     rw [ho,hh] at h2
     simp only [Bool.false_or,Option.map_some,Option.getD_some,Bool.or_eq_true] at h2
     rcases h2 with h2 | h2
     ·obtain ⟨x,hx,-,hr⟩:=Qbp (P:=P) h2 c w
      obtain ⟨x',hx',-,hr'⟩:=Qbp (P:=P) h2 c W
      rw [hx] at hx'
      obtain rfl:=Op.move.inj hx'
      have h3:=hrun W hR0
      rw [hr'] at h3
      rw [hr]
      simp only [Result.ok.injEq,Next.value.injEq,and_true] at h3
      rw [h3]
     ·exfalso
      have h3:listed.getD (hs.getD s 0) false=true:=(hdone s hsk).2 (by omega)
      have:=Q7h hc ops.size (hs.getD s 0) i (fun ob hob e he hb=>hc _ ob hob h3 e he hb) h2
      rw [hnl'] at this;cases this
   unfold Oper.wp
   rw [hrw]
   exact next
  ·rw [hwac,hw]
   simp only [Bool.false_eq_true,if_false]
   rw [hv0] at next
   exact next
 ·-- a heavy one: the next
  have hmem:i ∈ hs:=by simpa using hh
  obtain ⟨b,hb,hbi⟩:=List.getElem_of_mem hmem
  have hgb:hs.getD b 0=i:=by simp [hb,hbi]
  have hbk:k≤b:=by
   rcases Nat.lt_or_ge b k with h | h
   ·have:=(hdone b hb).2 h
    rw [hgb,hnl'] at this;cases this
   ·exact h
  have hbk':b=k:=by
   rcases Nat.lt_or_ge k b with h | h
   ·exfalso
    have h1:=List.all_eq_true.1 (List.all_eq_true.1 hord b (List.mem_range.2 hb)) k (List.mem_range.2 h)
    rw [hgb] at h1
    have:=Q7h hc ops.size i (hs.getD k 0) hallo h1
    have:=(hdone k (by omega)).1 this
    omega
   ·omega
  subst hbk'
  have hdrop:hs.drop b=i :: hs.drop (b+1):=by rw [List.drop_eq_getElem_cons hb,hbi]
  rw [hdrop] at hF
  have next:∀ (A1 a1:Act) (v:Value) (w1:World),A1.tmps=A.tmps→a1.tmps=a'.tmps→a1.defers=A1.defers→(0 < s - b→R W w1)→wpFR R P ops Z W (s - b - 1) (hs.drop (b+1)) (A1.put o.dst v) w1→Qav R P ops Z W hs s vs a0 (listed.setIfInBounds i true) (a1.put o.dst v) w1:=by
   intro A1 a1 v w1 hA1 ha1 hdf hx hw
   have hPP:Pend ops (fun j=>j < ops.size∧hs.contains j=false∧listed.getD j false=false) a1 A1:=⟨hdf,by rw [ha1,hA1];exact hP.2.1,fun t ht=>by rw [ha1,hA1];exact hP.2.2 t ht⟩
   refine ⟨hcl,b+1,A1.put o.dst v,by omega,fun d hd=>?_,fun hle=>hx (by omega),by rw [show s - (b+1)=s - b - 1 by omega];exact hw,?_,fun j t hj hjh hjt hl=>?_,fun t ht=>?_,?_⟩
   ·by_cases hdb:d=b
    ·subst hdb
     rw [hgb,Q91 hils]
     simp
    ·have hne:hs.getD d 0≠i:=fun e=>by
      rcases Nat.lt_or_gt_of_ne hdb with h | h
      ·have:=(hdone d hd).2 h
       rw [e,hnl'] at this;cases this
      ·have h1:=List.all_eq_true.1 (List.all_eq_true.1 hord d (List.mem_range.2 hd)) b (List.mem_range.2 h)
       rw [e,hgb] at h1
       have:=Q7h hc ops.size i i hallo h1
       rw [hnl'] at this;cases this
     rw [getD_set_ne false (fun e=>hne e.symm),hdone d hd]
     omega
   ·refine Q97 (Qdq hPP o.dst v) fun j hj=>⟨hj.1,hj.2.1,?_⟩
    have hne:j≠i:=fun e=>by rw [e,hh] at hj;cases hj.2.1
    rw [getD_set_ne false (fun e=>hne e.symm)]
    exact hj.2.2
   ·have hne:j≠i:=fun e=>by rw [e,hh] at hjh;cases hjh
    have hns:Q0b ops i≠some t:=dist j i hj hil hne t hjt
    have hAA:(A1.put o.dst v).tmps[t]? = A.tmps[t]? := by
     rw [hdst]
     cases hd:Q0b ops i with
     | none=>simp [Act.put,hA1]
     | some d =>
      have:d≠t:=fun e=>hns (by rw [hd,e])
      simp only [Act.put]
      rw [Array.getElem?_setIfInBounds_ne this,hA1]
    rw [hAA]
    refine hAv j t hj hjh hjt ?_
    have hsz2:(A1.put o.dst v).tmps.size=A.tmps.size:=by cases o.dst <;> simp [Act.put,hA1]
    rw [← hsz2];exact hl
   ·have hns:Q0b ops i≠some t:=ht i
    rw [← hAn t ht,hdst]
    cases hd:Q0b ops i with
    | none=>simp [Act.put,hA1]
    | some d =>
     have:d≠t:=fun e=>hns (by rw [hd,e])
     simp only [Act.put]
     rw [Array.getElem?_setIfInBounds_ne this,hA1]
   ·rw [← hAs]
    cases o.dst <;> simp [Act.put,hA1]
  rw [hwa]
  rcases Qlc ho (fun h0=>hext (by omega)) hF with ⟨hw,Q1,hQ1,hwp⟩ | ⟨hw,hx,hw2⟩
  ·rw [if_pos hw]
   left
   exact Qcm hex.symm (fun v w1 hh=>next A a' v w1 rfl rfl hP.1 hh.1 hh.2) (fun d w1 hh=>next { A with defers:=d :: A.defers } { a' with defers:=d :: a'.defers } undef w1 rfl rfl (by simp [hP.1]) hh.1 hh.2) hQ1 hwp
  ·rw [hw]
   simp only [Bool.false_eq_true,if_false]
   exact next A a' undef w rfl rfl hP.1 hx hw2
theorem Qo9 {id:Nat} {l:List Oper} {Q:Exit→Act→World→Prop} {R:World→World→Prop} {W:World} {a:Act} (hs:List Nat) (s:Nat) (hR0:R W W) (hRd:R W W.drew) (hm:P.follows .mixedOrders=true) (hB:Q7p l.toArray hs s=true)
  (h:Q4c R P l.toArray W hs (fun A=>wpFR R P l.toArray (Q .normal) W s hs A W.drew) 0 l a):(Code.region id l.toArray true).wp P Q a W:=by
 have hB':=hB
 simp only [Q7p,Bool.and_eq_true] at hB'
 obtain ⟨⟨⟨⟨⟨⟨hsel,hback⟩,hdist⟩,hlook⟩,hin⟩,hord⟩,hhard⟩:=hB'
 have one:∀ x y,x < l.toArray.size→y < x→∀ t,Q0b l.toArray y=some t→Q0b l.toArray x≠some t:=fun x y hx hy t ht e=>by
  have h:=List.all_eq_true.1 (List.all_eq_true.1 hdist x (List.mem_range.2 hx)) y (List.mem_range.2 hy)
  rw [ht,e] at h
  simp at h
 obtain ⟨vs,_,hv,c,hcm,hZ⟩:=Qfc (ops:=l.toArray) (a0:=a) one l 0 a (fun _=>undef) (fun j=>by simp) (by simp) (Q41 (Qa8 a (fun _=>undef)) (fun i=>⟨fun h=>h.elim,fun h=>by omega⟩) (fun _ h=>h.elim)) h
 refine wp_region_any hm ?_
 refine Qax (Qav R P l.toArray (Q .normal) W hs s vs a) ?_ ?_ ?_ _ _ _ _ (by simp) (by
  refine Nat.le_trans (List.length_filter_le _ _) (by simp)) ?_
 ·intro listed a' w i hsz hI hi
  exact Qtw hR0 hB (fun i h1 h2=>hv i (by omega) h1 h2) hsz hI hi
 ·-- the end
  intro listed a' w hsz hI hr
  have hall:∀ i,i < l.toArray.size→listed.getD i false=true:=by
   intro i hi
   cases hl:listed.getD i false
   ·exfalso
    obtain ⟨m,h1,h2,h3⟩:=Qbg (p:=fun i => !listed.getD i false) (m:=l.toArray.size) ⟨i,hi,by simpa using hl⟩
    have hm':m ∈ Region.ready .any l.toArray listed:=by
     refine mem_ready.2 ⟨?_,l.toArray[m],by simp [h1],fun e he hb=>?_⟩
     ·have hlt:m < listed.size:=by omega
      simp [hlt] at h2 ⊢;exact h2
     ·have h:=List.all_eq_true.1 hback m (List.mem_range.2 h1)
      have ho:l.toArray[m]? = some l.toArray[m]:=by simp [h1]
      rw [ho] at h
      have:=(Array.all_eq_true'.1 h) e he
      rw [hb] at this
      simp at this
      have:=h3 e.on this
      simpa using this
    rw [hr] at hm'
    cases hm'
   ·rfl
  obtain ⟨hc,k,A,hk,hdone,hext,hF,hP,hAv,hAn,hAs⟩:=hI
  have hkl:k=hs.length:=by
   rcases Nat.lt_or_ge k hs.length with h1 | h1
   ·exfalso
    have hin1:=List.all_eq_true.1 hin (hs.getD k 0) (by simp [h1])
    have:=(hdone k h1).1 (hall _ (by simpa using hin1))
    omega
   ·omega
  rw [hkl,List.drop_length] at hF
  have hA:a'=A:=by
   obtain ⟨p1,p2,p3⟩:=hP
   obtain ⟨t1,d1⟩:=a'
   obtain ⟨t2,d2⟩:=A
   have ht:t1=t2:=by
    apply Array.ext_getElem?
    intro t
    exact p3 t fun i hi e=>by
     have h1:=hall i hi.1
     have h2:=hi.2.2
     rw [h1] at h2;cases h2
   subst ht
   congr 1
  rw [hA]
  cases hsk:s - hs.length <;> (rw [hsk] at hF;exact hF)
 ·intro listed a' w hsz _ hall
  rw [List.eq_nil_iff_forall_not_mem]
  intro i hi
  obtain ⟨h0,o,ho,_⟩:=mem_ready.1 hi
  rw [hall i (Array.getElem?_eq_some_iff.1 ho).1] at h0
  cases h0
 ·-- the beginning
  have hnl:∀ j,(Array.replicate l.toArray.size false).getD j false=false:=fun j=>by
   rw [Array.getD_eq_getD_getElem?,Array.getElem?_replicate]
   split <;> rfl
  refine ⟨fun j oj hj hl=>absurd hl (by rw [hnl j];simp),0,c,Nat.zero_le _,fun b hb=>?_,fun _=>hRd,?_,?_,fun i t hi hh ht hl=>?_,fun t ht=>?_,hcm.2.1⟩
  ·rw [hnl];simp
  ·exact hZ
  ·refine ⟨hcm.1.symm,hcm.2.1.symm,fun t ht=>?_⟩
   exact (hcm.2.2.2 t fun i hi=>ht i ⟨hi.1,hi.2,hnl i⟩).symm
  ·exact hcm.2.2.1 i t ⟨hi,hh⟩ ht (by rw [← hcm.2.1];exact hl)
  ·exact hcm.2.2.2 t fun i _=>ht i
section
variable {R : World → World → Prop} {W : World} {hs : List Nat} {Zc : Act → Prop} {k s i : Nat} {o : Oper} {rest : List Oper} {a : Act} {r : List Nat} {Z : Act → World → Prop} {w : World}
theorem Qv2 (h:Zc a):Q4c R P ops W hs Zc k [] a:=h
theorem Qv4 (hh:hs.contains k=true) (h:Q4c R P ops W hs Zc (k+1) rest a):Q4c R P ops W hs Zc k (o :: rest) a:=by
 unfold Q4c;rw [if_pos hh];exact h
theorem Qks (hh:hs.contains k=false) (hw:Region.wanted o (yielded ops a.tmps)=true)
  (h:∃ v,(∀ w,R W w→(execOp a.eval o).run P w=.ok (.value v) w)∧Q4c R P ops W hs Zc (k+1) rest (a.put o.dst v)):Q4c R P ops W hs Zc k (o :: rest) a:=by
 obtain ⟨v,h1,h2⟩:=h
 unfold Q4c
 rw [if_neg (by rw [hh];simp)]
 exact ⟨v,.inl ⟨hw,h1⟩,h2⟩
theorem Qv1 (hh:hs.contains k=false) (hw:Region.wanted o (yielded ops a.tmps)=false) (h:Q4c R P ops W hs Zc (k+1) rest (a.put o.dst undef)):Q4c R P ops W hs Zc k (o :: rest) a:=by
 unfold Q4c
 rw [if_neg (by rw [hh];simp)]
 exact ⟨undef,.inr ⟨hw,rfl⟩,h⟩
theorem Qfu (ho:ops[i]? = some o) (h:wpList P ops (fun x A' w'=>x=.normal∧R W w'∧wpFR R P ops Z W s r A' w') [o] a w):wpFR R P ops Z W (s+1) (i :: r) a w:=by
 unfold wpFR
 simp only [Q03,List.filterMap_cons,ho,List.filterMap_nil]
 exact h
theorem Qld {L:List Oper} (hL:Q03 ops (i :: r)=L) (h:wpList P ops (fun x A' w'=>x=.normal∧Z A' w') L a w):wpFR R P ops Z W 0 (i :: r) a w:=by
 unfold wpFR
 rw [hL]
 exact h
end
end
section
variable {P : Program} {ops : Array Oper}
def Qb5 (ops:Array Oper) (hs:List Nat):Bool :=
 Region.noSelect ops &&
 ((List.range ops.size).all fun i=>match ops[i]? with | some o=>o.after.all fun e => !Region.binds .any e || decide (e.on < i) | none=>true) &&
 ((List.range ops.size).all fun i=>(List.range i).all fun j=>(Q0b ops j).isNone || Q0b ops j != Q0b ops i) &&
 ((List.range ops.size).all fun i=>match ops[i]? with
  | some o=>(o.looksAt ops).all fun t=>(List.range ops.size).all fun j=>Q0b ops j != some t || (Region.waitsFor .any ops i j && (decide (j < i) && (hs.contains i || !hs.contains j)))
  | none=>true) &&
 (hs.all fun c=>decide (c < ops.size))
def mayB (ops:Array Oper) (hs done:List Nat) (i:Nat):Bool := !done.contains i && hs.all fun j=>done.contains j || j == i || !Q8c ops ops.size i j
def wpS (P:Program) (ops:Array Oper) (Z:Act→World→Prop) (W:World) (hs:List Nat):Nat→List Nat→Act→World→Prop
 | 0,done,A,w=>hs.all (fun j=>done.contains j)=true∧Z A w
 | f+1,done,A,w=>(hs.all (fun j=>done.contains j)=true→Z A w)∧∀ i ∈ hs,mayB ops hs done i=true→wpF P ops (wpS P ops Z W hs f (i :: done)) W 1 [i] A w
structure Qar (P:Program) (ops:Array Oper) (Z:Act→World→Prop) (W:World) (hs:List Nat) (vs:Nat→Value) (a0:Act) (listed:Array Bool) (a':Act) (w:World):Prop where
 Qce:Q6r ops listed
 ex:∃ f done A,(∀ j ∈ hs,(listed.getD j false=true ↔ j ∈ done))∧Ext W w∧wpS P ops Z W hs f done A w ∧
  Pend ops (fun i=>i < ops.size∧hs.contains i=false∧listed.getD i false=false) a' A ∧
  (∀ i t,i < ops.size→hs.contains i=false→Q0b ops i=some t→t < A.tmps.size→A.tmps[t]? = some (vs i)) ∧
  (∀ t,(∀ i,Q0b ops i≠some t)→A.tmps[t]? = a0.tmps[t]?)∧A.tmps.size=a0.tmps.size
theorem Qn3 {Z:Act→World→Prop} {Q:Exit→Act→World→Prop} {W:World} {hs:List Nat} {vs:Nat→Value} {a0:Act} (hB:Qb5 ops hs=true)
  (hv:∀ i,i < ops.size→hs.contains i=false→∃ o c,ops[i]? = some o∧Q2t ops a0 vs (fun j=>j < i∧hs.contains j=false) c∧Q7w P ops W o c (vs i))
  {listed:Array Bool} {a':Act} {w:World} {i:Nat} (hsz:listed.size=ops.size) (hI:Qar P ops Z W hs vs a0 listed a' w) (hi:i ∈ Region.ready .any ops listed) :
  wpOp P ops Q i (Qar P ops Z W hs vs a0 (listed.setIfInBounds i true)) a' w:=by
 simp only [Qb5,Bool.and_eq_true] at hB
 obtain ⟨⟨⟨⟨hsel,hback⟩,hdist⟩,hlook⟩,hin⟩:=hB
 obtain ⟨hc,f,done,A,hdone,hext,hF,hP,hAv,hAn,hAs⟩:=hI
 obtain ⟨hnl,o,ho,hall⟩:=mem_ready.1 hi
 have hil:i < ops.size:=(Array.getElem?_eq_some_iff.1 ho).1
 have hils:i < listed.size:=by omega
 have hnl':listed.getD i false=false:=by
  simp [hils] at hnl ⊢;exact hnl
 have hdst:o.dst=Q0b ops i:=by simp [Q0b,ho]
 have hallo:∀ ob,ops[i]? = some ob→∀ e ∈ ob.after,Region.binds .any e=true→listed.getD e.on false=true:=fun ob hob e he hb=>by
  rw [ho] at hob
  obtain rfl:=Option.some.inj hob
  exact hall e he hb
 have dist:∀ x y,x < ops.size→y < ops.size→x≠y→∀ t,Q0b ops x=some t→Q0b ops y≠some t:=by
  have one:∀ x y,x < ops.size→y < x→∀ t,Q0b ops y=some t→Q0b ops x≠some t:=fun x y hx hy t ht e=>by
   have h:=List.all_eq_true.1 (List.all_eq_true.1 hdist x (List.mem_range.2 hx)) y (List.mem_range.2 hy)
   rw [ht,e] at h
   simp at h
  intro x y hx hy hne t ht e
  rcases Nat.lt_or_gt_of_ne hne with h | h
  ·exact one y x hy h t ht e
  ·exact one x y hx h t e ht
 have look:∀ t,t ∈ o.looksAt ops→∀ j,Q0b ops j=some t→j < i∧listed.getD j false=true∧(hs.contains i=true∨hs.contains j=false):=fun t ht j hj=>by
  have h:=List.all_eq_true.1 hlook i (List.mem_range.2 hil)
  rw [ho] at h
  have hjl:j < ops.size:=by
   unfold Q0b at hj
   cases hx:ops[j]? with
   | none=>rw [hx] at hj;cases hj
   | some oj=>exact (Array.getElem?_eq_some_iff.1 hx).1
  have h2:=List.all_eq_true.1 (List.all_eq_true.1 h t ht) j (List.mem_range.2 hjl)
  rw [hj] at h2
  simp only [bne_self_eq_false,Bool.false_or,Bool.and_eq_true,decide_eq_true_eq,Bool.or_eq_true,Bool.not_eq_true'] at h2
  obtain ⟨oj,hoj,e,he,hb,rfl⟩:=Region.waitsFor_spec h2.1
  exact ⟨h2.2.1,hallo oj hoj e he hb,h2.2.2⟩
 have hlt:∀ t,t ∈ o.looksAt ops→a'.tmps[t]? = A.tmps[t]? := fun t ht=>hP.2.2 t fun j hj e=>by
  have:=(look t ht j e).2.1
  rw [hj.2.2] at this;cases this
 have hex:=Q8r (ops:=ops) o (fun cs b=>Region.noSelect_spec hsel i o cs b ho) hlt
 have hwa:=Q83 (ops:=ops) o hlt
 have hcl:=hc.step hi
 unfold wpOp
 rw [ho]
 simp only []
 cases hh:hs.contains i
 ·-- a calm one
  obtain ⟨o2,c,ho2,hmc,hcalm⟩:=hv i hil hh
  rw [ho] at ho2
  obtain rfl:=Option.some.inj ho2
  have hlc:∀ t,t ∈ o.looksAt ops→A.tmps[t]? = c.tmps[t]? := fun t ht=>by
   by_cases hx:∃ j,Q0b ops j=some t
   ·obtain ⟨j,hj⟩:=hx
    obtain ⟨h1,h2,h3⟩:=look t ht j hj
    have hjh:hs.contains j=false:=by
     rcases h3 with h3 | h3
     ·rw [hh] at h3;cases h3
     ·exact h3
    by_cases hl:t < A.tmps.size
    ·rw [hAv j t (by omega) hjh hj hl,hmc.2.2.1 j t ⟨h1,hjh⟩ hj (by rw [← hAs];exact hl)]
    ·rw [Array.getElem?_eq_none (Nat.le_of_not_lt hl),Array.getElem?_eq_none (by rw [hmc.2.1,← hAs];exact Nat.le_of_not_lt hl)]
   ·rw [hAn t fun j e=>hx ⟨j,e⟩,hmc.2.2.2 t fun j _ e=>hx ⟨j,e⟩]
  have hlac:∀ t,t ∈ o.looksAt ops→a'.tmps[t]? = c.tmps[t]? := fun t ht=>(hlt t ht).trans (hlc t ht)
  have hexc:=Q8r (ops:=ops) o (fun cs b=>Region.noSelect_spec hsel i o cs b ho) hlac
  have hwac:=Q83 (ops:=ops) o hlac
  have next:Qar P ops Z W hs vs a0 (listed.setIfInBounds i true) (a'.put o.dst (vs i)) w:=by
   refine ⟨hcl,f,done,A,fun b hb=>?_,hext,hF,?_,hAv,hAn,hAs⟩
   ·rw [← hdone b hb]
    have hne:b≠i:=fun e=>by
     have:hs.contains i=true:=by
      rw [← e];simpa using hb
     rw [hh] at this;cases this
    rw [getD_set_ne false (fun e=>hne e.symm)]
   ·rw [hdst]
    refine Q97 (Qdr hP i (vs i) (fun t ht hl=>hAv i t hil hh ht hl)) fun j hj=>?_
    obtain ⟨⟨h1,h2,h3⟩,h4⟩:=hj
    exact ⟨h1,h2,by rw [getD_set_ne false (fun e=>h4 e.symm)];exact h3⟩
  rcases hcalm with ⟨hw,hrun⟩ | ⟨hw,hv0⟩
  ·rw [hwac,if_pos hw]
   left
   have hrw:(execOp a'.eval o).run P w=.ok (.value (vs i)) w:=by
    rw [hexc]
    exact hrun w hext
   unfold Oper.wp
   rw [hrw]
   exact next
  ·rw [hwac,hw]
   simp only [Bool.false_eq_true,if_false]
   rw [hv0] at next
   exact next
 ·-- a heavy one: the next
  have hmem:i ∈ hs:=by simpa using hh
  have hnd:i ∉ done:=fun h=>by
   have:=(hdone i hmem).2 h
   rw [hnl'] at this;cases this
  have hmay:mayB ops hs done i=true:=by
   simp only [mayB,Bool.and_eq_true,Bool.not_eq_true',List.all_eq_true,Bool.or_eq_true,beq_iff_eq]
   refine ⟨by simpa using hnd,fun j hj=>?_⟩
   by_cases hjd:j ∈ done
   ·exact .inl (.inl (by simpa using hjd))
   ·cases hr:Q8c ops ops.size i j
    ·exact .inr rfl
    ·exact absurd ((hdone j hj).1 (Q7h hc ops.size i j hallo hr)) hjd
  obtain ⟨f',hF'⟩:∃ f',wpF P ops (wpS P ops Z W hs f' (i :: done)) W 1 [i] A w:=by
   cases f with
   | zero =>
    have:=List.all_eq_true.1 hF.1 i hmem
    exact absurd (by simpa using this) hnd
   | succ f=>exact ⟨f,hF.2 i hmem hmay⟩
  have next:∀ (A1 a1:Act) (v:Value) (w1:World),A1.tmps=A.tmps→a1.tmps=a'.tmps→a1.defers=A1.defers→Ext W w1→wpS P ops Z W hs f' (i :: done) (A1.put o.dst v) w1→Qar P ops Z W hs vs a0 (listed.setIfInBounds i true) (a1.put o.dst v) w1:=by
   intro A1 a1 v w1 hA1 ha1 hdf hx hw
   have hPP:Pend ops (fun j=>j < ops.size∧hs.contains j=false∧listed.getD j false=false) a1 A1:=⟨hdf,by rw [ha1,hA1];exact hP.2.1,fun t ht=>by rw [ha1,hA1];exact hP.2.2 t ht⟩
   refine ⟨hcl,f',i :: done,A1.put o.dst v,fun d hd=>?_,hx,hw,?_,fun j t hj hjh hjt hl=>?_,fun t ht=>?_,?_⟩
   ·rw [Q91 hils,hdone d hd,List.mem_cons]
    exact Or.comm
   ·refine Q97 (Qdq hPP o.dst v) fun j hj=>⟨hj.1,hj.2.1,?_⟩
    have hne:j≠i:=fun e=>by rw [e,hh] at hj;cases hj.2.1
    rw [getD_set_ne false (fun e=>hne e.symm)]
    exact hj.2.2
   ·have hne:j≠i:=fun e=>by rw [e,hh] at hjh;cases hjh
    have hns:Q0b ops i≠some t:=dist j i hj hil hne t hjt
    have hAA:(A1.put o.dst v).tmps[t]? = A.tmps[t]? := by
     rw [hdst]
     cases hd:Q0b ops i with
     | none=>simp [Act.put,hA1]
     | some d =>
      have:d≠t:=fun e=>hns (by rw [hd,e])
      simp only [Act.put]
      rw [Array.getElem?_setIfInBounds_ne this,hA1]
    rw [hAA]
    refine hAv j t hj hjh hjt ?_
    have hsz2:(A1.put o.dst v).tmps.size=A.tmps.size:=by cases o.dst <;> simp [Act.put,hA1]
    rw [← hsz2];exact hl
   ·have hns:Q0b ops i≠some t:=ht i
    rw [← hAn t ht,hdst]
    cases hd:Q0b ops i with
    | none=>simp [Act.put,hA1]
    | some d =>
     have:d≠t:=fun e=>hns (by rw [hd,e])
     simp only [Act.put]
     rw [Array.getElem?_setIfInBounds_ne this,hA1]
   ·rw [← hAs]
    cases o.dst <;> simp [Act.put,hA1]
  rw [hwa]
  rcases Qaw ho (fun _=>hext) hF' with ⟨hw,Q1,hQ1,hwp⟩ | ⟨hw,hx,hw2⟩
  ·rw [if_pos hw]
   left
   exact Qcm hex.symm (fun v w1 hh=>next A a' v w1 rfl rfl hP.1 (hh.1 (by decide)) hh.2) (fun d w1 hh=>next { A with defers:=d :: A.defers } { a' with defers:=d :: a'.defers } undef w1 rfl rfl (by simp [hP.1]) (hh.1 (by decide)) hh.2) hQ1 hwp
  ·rw [hw]
   simp only [Bool.false_eq_true,if_false]
   exact next A a' undef w rfl rfl hP.1 hext hw2
theorem Qbe {id:Nat} {l:List Oper} {Q:Exit→Act→World→Prop} {W:World} {a:Act} (hs:List Nat) (hm:P.follows .mixedOrders=true) (hB:Qb5 l.toArray hs=true)
  (h:Q15 P l.toArray W hs (fun A => ∀ w,Ext W w→wpS P l.toArray (Q .normal) W hs hs.length [] A w) 0 l a):(Code.region id l.toArray true).wp P Q a W:=by
 have hB':=hB
 simp only [Qb5,Bool.and_eq_true] at hB'
 obtain ⟨⟨⟨⟨hsel,hback⟩,hdist⟩,hlook⟩,hin⟩:=hB'
 have one:∀ x y,x < l.toArray.size→y < x→∀ t,Q0b l.toArray y=some t→Q0b l.toArray x≠some t:=fun x y hx hy t ht e=>by
  have h:=List.all_eq_true.1 (List.all_eq_true.1 hdist x (List.mem_range.2 hx)) y (List.mem_range.2 hy)
  rw [ht,e] at h
  simp at h
 obtain ⟨vs,_,hv,c,hcm,hZ⟩:=Q7v (ops:=l.toArray) (a0:=a) one l 0 a (fun _=>undef) (fun j=>by simp) (by simp) (Q41 (Qa8 a (fun _=>undef)) (fun i=>⟨fun h=>h.elim,fun h=>by omega⟩) (fun _ h=>h.elim)) h
 refine wp_region_any hm ?_
 refine Qax (Qar P l.toArray (Q .normal) W hs vs a) ?_ ?_ ?_ _ _ _ _ (by simp) (by
  refine Nat.le_trans (List.length_filter_le _ _) (by simp)) ?_
 ·intro listed a' w i hsz hI hi
  exact Qn3 hB (fun i h1 h2=>hv i (by omega) h1 h2) hsz hI hi
 ·-- the end
  intro listed a' w hsz hI hr
  have hall:∀ i,i < l.toArray.size→listed.getD i false=true:=by
   intro i hi
   cases hl:listed.getD i false
   ·exfalso
    obtain ⟨m,h1,h2,h3⟩:=Qbg (p:=fun i => !listed.getD i false) (m:=l.toArray.size) ⟨i,hi,by simpa using hl⟩
    have hm':m ∈ Region.ready .any l.toArray listed:=by
     refine mem_ready.2 ⟨?_,l.toArray[m],by simp [h1],fun e he hb=>?_⟩
     ·have hlt:m < listed.size:=by omega
      simp [hlt] at h2 ⊢;exact h2
     ·have h:=List.all_eq_true.1 hback m (List.mem_range.2 h1)
      have ho:l.toArray[m]? = some l.toArray[m]:=by simp [h1]
      rw [ho] at h
      have:=(Array.all_eq_true'.1 h) e he
      rw [hb] at this
      simp at this
      have:=h3 e.on this
      simpa using this
    rw [hr] at hm'
    cases hm'
   ·rfl
  obtain ⟨hc,f,done,A,hdone,hext,hF,hP,hAv,hAn,hAs⟩:=hI
  have hfull:hs.all (fun j=>done.contains j)=true:=List.all_eq_true.2 fun j hj=>by
   have hin1:=List.all_eq_true.1 hin j hj
   have:=(hdone j hj).1 (hall _ (by simpa using hin1))
   simpa using this
  have hA:a'=A:=by
   obtain ⟨p1,p2,p3⟩:=hP
   obtain ⟨t1,d1⟩:=a'
   obtain ⟨t2,d2⟩:=A
   have ht:t1=t2:=by
    apply Array.ext_getElem?
    intro t
    exact p3 t fun i hi e=>by
     have h1:=hall i hi.1
     have h2:=hi.2.2
     rw [h1] at h2;cases h2
   subst ht
   congr 1
  rw [hA]
  cases f with
  | zero=>exact hF.2
  | succ f=>exact hF.1 hfull
 ·intro listed a' w hsz _ hall
  rw [List.eq_nil_iff_forall_not_mem]
  intro i hi
  obtain ⟨h0,o,ho,_⟩:=mem_ready.1 hi
  rw [hall i (Array.getElem?_eq_some_iff.1 ho).1] at h0
  cases h0
 ·-- the beginning
  have hnl:∀ j,(Array.replicate l.toArray.size false).getD j false=false:=fun j=>by
   rw [Array.getD_eq_getD_getElem?,Array.getElem?_replicate]
   split <;> rfl
  refine ⟨fun j oj hj hl=>absurd hl (by rw [hnl j];simp),hs.length,[],c,fun b hb=>?_,(Ext.refl W).drew,?_,?_,fun i t hi hh ht hl=>?_,fun t ht=>?_,hcm.2.1⟩
  ·rw [hnl];simp
  ·exact hZ _ ((Ext.refl W).drew)
  ·refine ⟨hcm.1.symm,hcm.2.1.symm,fun t ht=>?_⟩
   exact (hcm.2.2.2 t fun i hi=>ht i ⟨hi.1,hi.2,hnl i⟩).symm
  ·exact hcm.2.2.1 i t ⟨hi,hh⟩ ht (by rw [← hcm.2.1];exact hl)
  ·exact hcm.2.2.2 t fun i _=>ht i
section
variable {R : World → World → Prop} {W : World} {hs done : List Nat} {f i j m : Nat} {o oi oj om : Oper} {A : Act} {Z : Act → World → Prop} {w : World}
theorem Q05 {s:Nat} (h:Z A w):wpF P ops Z W s [] A w:=by
 unfold wpF
 exact h
theorem Q2d (hd:hs.all (fun j=>done.contains j)=true) (h:Z A w):wpS P ops Z W hs 0 done A w:=⟨hd,h⟩
theorem Qcn (hn:hs.all (fun j=>done.contains j)=false) (h:∀ i ∈ hs.filter (mayB ops hs done),wpF P ops (wpS P ops Z W hs f (i :: done)) W 1 [i] A w):wpS P ops Z W hs (f+1) done A w :=
 ⟨fun hx=>absurd (hn.symm.trans hx) (by simp),fun i hi hm=>h i (List.mem_filter.2 ⟨hi,hm⟩)⟩
theorem Q0h (hn:hs.all (fun j=>done.contains j)=false) (hr:hs.filter (mayB ops hs done)=[i]) (h:wpF P ops (wpS P ops Z W hs f (i :: done)) W 1 [i] A w):wpS P ops Z W hs (f+1) done A w :=
 Qcn hn fun x hx=>by
  rw [hr] at hx
  rw [List.mem_singleton.1 hx];exact h
theorem Q38 (hn:hs.all (fun j=>done.contains j)=false) (hr:hs.filter (mayB ops hs done)=[i,j]) (h:wpF P ops (wpS P ops Z W hs f (i :: done)) W 1 [i] A w) (h':wpF P ops (wpS P ops Z W hs f (j :: done)) W 1 [j] A w):wpS P ops Z W hs (f+1) done A w :=
 Qcn hn fun x hx=>by
  rw [hr] at hx
  rcases List.mem_cons.1 hx with rfl | hx
  ·exact h
  ·rw [List.mem_singleton.1 hx];exact h'
theorem Qfs (hn:hs.all (fun j=>done.contains j)=false) (hr:hs.filter (mayB ops hs done)=[i,j,m]) (h:wpF P ops (wpS P ops Z W hs f (i :: done)) W 1 [i] A w) (h':wpF P ops (wpS P ops Z W hs f (j :: done)) W 1 [j] A w) (h'':wpF P ops (wpS P ops Z W hs f (m :: done)) W 1 [m] A w):wpS P ops Z W hs (f+1) done A w :=
 Qcn hn fun x hx=>by
  rw [hr] at hx
  rcases List.mem_cons.1 hx with rfl | hx
  ·exact h
  ·rcases List.mem_cons.1 hx with rfl | hx
   ·exact h'
   ·rw [List.mem_singleton.1 hx];exact h''
end
end
end Go.Proofs.YtiafchefbehfbaaGreatDoor
