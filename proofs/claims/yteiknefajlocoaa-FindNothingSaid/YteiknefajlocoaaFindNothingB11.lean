/- Laid together from: FloatR. -/
import Derived.Test.YteiknefajlocoaaFindNothingB10

namespace Go.Proofs.Yteiknefajlocoaa
open Go Go.RowKit
set_option linter.unusedVariables false
set_option linter.unusedSimpArgs false
section
variable {P : Program} {ops : Array Oper}
def Qe9 (R:World→World→Prop) (P:Program) (ops:Array Oper) (W:World) (o:Oper) (a:Act) (v:Value):Prop :=
 (Region.wanted o (yielded ops a.tmps)=true∧∀ w,R W w→(execOp a.eval o).run P w=.ok (.value v) w)∨(Region.wanted o (yielded ops a.tmps)=false∧v=undef)
def Q4a (R:World→World→Prop) (P:Program) (ops:Array Oper) (W:World) (hs:List Nat) (Z:Act→Prop):Nat→List Oper→Act→Prop
 | _,[],a=>Z a
 | k,o :: rest,a=>if hs.contains k=true then Q4a R P ops W hs Z (k+1) rest a else ∃ v,Qe9 R P ops W o a v∧Q4a R P ops W hs Z (k+1) rest (a.put o.dst v)
def wpFR (R:World→World→Prop) (P:Program) (ops:Array Oper) (Z:Act→World→Prop) (W:World):Nat→List Nat→Act→World→Prop
 | _,[],A,w=>Z A w
 | 0,i :: r,A,w=>wpList P ops (fun x A' w'=>x=.normal∧Z A' w') (Q06 ops (i :: r)) A w
 | s+1,i :: r,A,w=>wpList P ops (fun x A' w'=>x=.normal∧R W w'∧wpFR R P ops Z W s r A' w') (Q06 ops [i]) A w
theorem Qjj {Z:Act→World→Prop} {R:World→World→Prop} {W:World} {s i:Nat} {r:List Nat} {A:Act} {w:World} {o:Oper} (ho:ops[i]? = some o) (hE:0 < s→R W w) (h:wpFR R P ops Z W s (i :: r) A w) :
  (Region.wanted o (yielded ops A.tmps)=true∧∃ Q1:Exit→Act→World→Prop,(∀ x a w,x≠.normal→¬ Q1 x a w)∧o.wp P A w (fun A' w'=>(0 < s→R W w')∧wpFR R P ops Z W (s - 1) r A' w') Q1) ∨
  (Region.wanted o (yielded ops A.tmps)=false∧(0 < s→R W w)∧wpFR R P ops Z W (s - 1) r (A.put o.dst undef) w):=by
 cases s with
 | zero =>
  unfold wpFR at h
  simp only [Q06,List.filterMap_cons,ho] at h
  have hr:∀ A' w',wpList P ops (fun x A' w'=>x=.normal∧Z A' w') (r.filterMap fun i=>ops[i]?) A' w'→(0 < 0→R W w')∧wpFR R P ops Z W (0 - 1) r A' w':=fun A' w' hh=>by
   refine ⟨fun h0=>absurd h0 (by decide),?_⟩
   cases r with
   | nil=>exact hh.2
   | cons j r=>exact hh
  cases hw:Region.wanted o (yielded ops A.tmps)
  ·right
   unfold wpList at h
   rw [hw] at h
   simp only [Bool.false_eq_true,if_false] at h
   exact ⟨rfl,fun h0=>absurd h0 (by decide),(hr _ _ h).2⟩
  ·left
   unfold wpList at h
   rw [hw] at h
   simp only [if_true] at h
   refine ⟨rfl,fun x A' w'=>x=.normal∧Z A' w',fun x a w hx hh=>hx hh.1,?_⟩
   rcases h with h | ⟨-,a,w,h⟩
   ·exact Oper.wp_mono hr h
   ·cases h.1
 | succ s =>
  unfold wpFR at h
  simp only [Q06,List.filterMap_cons,ho,List.filterMap_nil] at h
  cases hw:Region.wanted o (yielded ops A.tmps)
  ·right
   unfold wpList at h
   rw [hw] at h
   simp only [Bool.false_eq_true,if_false] at h
   exact ⟨rfl,fun _=>h.2.1,h.2.2⟩
  ·left
   unfold wpList at h
   rw [hw] at h
   simp only [if_true] at h
   refine ⟨rfl,fun x A' w'=>x=.normal∧R W w'∧wpFR R P ops Z W s r A' w',fun x a w hx hh=>hx hh.1,?_⟩
   rcases h with h | ⟨-,a,w,h⟩
   ·exact Oper.wp_mono (fun A' w' hh=>⟨fun _=>hh.2.1,hh.2.2⟩) h
   ·cases h.1
theorem Qe8 {R:World→World→Prop} {W:World} {hs:List Nat} {Z:Act→Prop} {a0:Act} (hdist:∀ i j,i < ops.size→j < i→∀ t,Q0g ops j=some t→Q0g ops i≠some t):∀ (l:List Oper) (k:Nat) (a:Act) (vs0:Nat→Value),
  (∀ j,l[j]? = ops[k+j]?)→k+l.length=ops.size →
  Q2q ops a0 vs0 (fun i=>i < k∧hs.contains i=false) a→Q4a R P ops W hs Z k l a →
  ∃ vs,(∀ j,j < k→vs j=vs0 j)∧(∀ i,k≤i→i < ops.size→hs.contains i=false→∃ o c,ops[i]? = some o∧Q2q ops a0 vs (fun j=>j < i∧hs.contains j=false) c∧Qe9 R P ops W o c (vs i))∧∃ c,Q2q ops a0 vs (fun i=>i < ops.size∧hs.contains i=false) c∧Z c
 | [],k,a,vs0,_,hk,hm,h=>⟨vs0,fun _ _=>rfl,fun i h1 h2=>by simp at hk;omega,a,by simp at hk;rw [← hk];exact hm,h⟩
 | o :: l,k,a,vs0,hl,hk,hm,h=>by
  have ho:ops[k]? = some o:=by have:=hl 0;simpa using this.symm
  have hdst:o.dst=Q0g ops k:=by simp [Q0g,ho]
  have hkl:k < ops.size:=by simp at hk;omega
  have hl':∀ j,l[j]? = ops[k+1+j]? := fun j=>by have:=hl (j+1);simp only [List.getElem?_cons_succ] at this;rw [this,show k+(j+1)=k+1+j by omega]
  unfold Q4a at h
  by_cases hh:hs.contains k=true
  ·rw [if_pos hh] at h
   obtain ⟨vs,e1,e2,e3⟩:=Qe8 hdist l (k+1) a vs0 hl' (by simp at hk;omega) (Q49 hm (fun i=>by
    constructor
    ·rintro ⟨h1,h2⟩;exact ⟨by omega,h2⟩
    ·rintro ⟨h1,h2⟩
     refine ⟨?_,h2⟩
     by_cases e:i=k
     ·subst e;rw [hh] at h2;cases h2
     ·omega) (fun _ _=>rfl)) h
   refine ⟨vs,fun j hj=>e1 j (by omega),fun i h1 h2 h3=>e2 i ?_ h2 h3,e3⟩
   by_cases e:i=k
   ·subst e;rw [hh] at h3;cases h3
   ·omega
  ·rw [if_neg hh] at h
   have hh':hs.contains k=false:=by simpa using hh
   obtain ⟨v,hv,h⟩:=h
   have hm':Q2q ops a0 (fun i=>if i=k then v else vs0 i) (fun i=>i < k+1∧hs.contains i=false) (a.put o.dst v):=by
    have:=Qal (vs':=fun i=>if i=k then v else vs0 i) hm k (fun j hj t ht=>hdist k j hkl hj.1 t ht) (fun j hj=>by simp;intro e;omega)
    simp only [if_true] at this
    rw [hdst]
    refine Q49 this (fun i=>?_) (fun _ _=>rfl)
    constructor
    ·rintro (h1 | rfl)
     ·exact ⟨by omega,h1.2⟩
     ·exact ⟨by omega,hh'⟩
    ·rintro ⟨h1,h2⟩
     by_cases e:i=k
     ·exact .inr e
     ·exact .inl ⟨by omega,h2⟩
   obtain ⟨vs,e1,e2,e3⟩:=Qe8 hdist l (k+1) (a.put o.dst v) _ hl' (by simp at hk;omega) hm' h
   have ek:vs k=v:=by rw [e1 k (by omega)];simp
   refine ⟨vs,fun j hj=>by rw [e1 j (by omega)];simp;intro e;omega,fun i h1 h2 h3=>?_,e3⟩
   by_cases e:i=k
   ·subst e
    refine ⟨o,a,ho,Q49 hm (fun _=>Iff.rfl) (fun j hj=>by rw [e1 j (by omega)];simp;intro e;omega),?_⟩
    rw [ek];exact hv
   ·exact e2 i (by omega) h2 h3
structure Q9q (R:World→World→Prop) (P:Program) (ops:Array Oper) (Z:Act→World→Prop) (W:World) (hs:List Nat) (s:Nat) (vs:Nat→Value) (a0:Act) (listed:Array Bool) (a':Act) (w:World):Prop where
 Qe4:Q6t ops listed
 ex:∃ k A,k≤hs.length∧(∀ b,b < hs.length→(listed.getD (hs.getD b 0) false=true ↔ b < k))∧(k≤s→R W w)∧wpFR R P ops Z W (s - k) (hs.drop k) A w ∧
  Pend ops (fun i=>i < ops.size∧hs.contains i=false∧listed.getD i false=false) a' A ∧
  (∀ i t,i < ops.size→hs.contains i=false→Q0g ops i=some t→t < A.tmps.size→A.tmps[t]? = some (vs i)) ∧
  (∀ t,(∀ i,Q0g ops i≠some t)→A.tmps[t]? = a0.tmps[t]?)∧A.tmps.size=a0.tmps.size
theorem Qs8 {Z:Act→World→Prop} {Q:Exit→Act→World→Prop} {R:World→World→Prop} {W:World} {hs:List Nat} {s:Nat} {vs:Nat→Value} {a0:Act} (hR0:R W W) (hB:Q76 ops hs s=true)
  (hv:∀ i,i < ops.size→hs.contains i=false→∃ o c,ops[i]? = some o∧Q2q ops a0 vs (fun j=>j < i∧hs.contains j=false) c∧Qe9 R P ops W o c (vs i))
  {listed:Array Bool} {a':Act} {w:World} {i:Nat} (hsz:listed.size=ops.size) (hI:Q9q R P ops Z W hs s vs a0 listed a' w) (hi:i ∈ Region.ready .any ops listed) :
  wpOp P ops Q i (Q9q R P ops Z W hs s vs a0 (listed.setIfInBounds i true)) a' w:=by
 simp only [Q76,Bool.and_eq_true] at hB
 obtain ⟨⟨⟨⟨⟨⟨hsel,hback⟩,hdist⟩,hlook⟩,hin⟩,hord⟩,hhard⟩:=hB
 obtain ⟨hc,k,A,hk,hdone,hext,hF,hP,hAv,hAn,hAs⟩:=hI
 obtain ⟨hnl,o,ho,hall⟩:=mem_ready.1 hi
 have hil:i < ops.size:=(Array.getElem?_eq_some_iff.1 ho).1
 have hils:i < listed.size:=by omega
 have hnl':listed.getD i false=false:=by
  simp [hils] at hnl ⊢;exact hnl
 have hdst:o.dst=Q0g ops i:=by simp [Q0g,ho]
 have hallo:∀ ob,ops[i]? = some ob→∀ e ∈ ob.after,Region.binds .any e=true→listed.getD e.on false=true:=fun ob hob e he hb=>by
  rw [ho] at hob
  obtain rfl:=Option.some.inj hob
  exact hall e he hb
 have dist:∀ x y,x < ops.size→y < ops.size→x≠y→∀ t,Q0g ops x=some t→Q0g ops y≠some t:=by
  have one:∀ x y,x < ops.size→y < x→∀ t,Q0g ops y=some t→Q0g ops x≠some t:=fun x y hx hy t ht e=>by
   have h:=List.all_eq_true.1 (List.all_eq_true.1 hdist x (List.mem_range.2 hx)) y (List.mem_range.2 hy)
   rw [ht,e] at h
   simp at h
  intro x y hx hy hne t ht e
  rcases Nat.lt_or_gt_of_ne hne with h | h
  ·exact one y x hy h t ht e
  ·exact one x y hx h t e ht
 have look:∀ t,t ∈ o.looksAt ops→∀ j,Q0g ops j=some t→j < i∧listed.getD j false=true∧(hs.contains i=true∨hs.contains j=false):=fun t ht j hj=>by
  have h:=List.all_eq_true.1 hlook i (List.mem_range.2 hil)
  rw [ho] at h
  have hjl:j < ops.size:=by
   unfold Q0g at hj
   cases hx:ops[j]? with
   | none=>rw [hx] at hj;cases hj
   | some oj=>exact (Array.getElem?_eq_some_iff.1 hx).1
  have h2:=List.all_eq_true.1 (List.all_eq_true.1 h t ht) j (List.mem_range.2 hjl)
  rw [hj] at h2
  simp only [bne_self_eq_false,Bool.false_or,Bool.and_eq_true,decide_eq_true_eq,Bool.or_eq_true,Bool.not_eq_true'] at h2
  obtain ⟨oj,hoj,e,he,hb,rfl⟩:=Region.waitsFor_spec h2.1
  exact ⟨h2.2.1,hallo oj hoj e he hb,h2.2.2⟩
 have hlt:∀ t,t ∈ o.looksAt ops→a'.tmps[t]? = A.tmps[t]? := fun t ht=>hP.2.2 t fun j hj e=>by
  have:=(look t ht j e).2.1
  rw [hj.2.2] at this;cases this
 have hex:=Q9o (ops:=ops) o (fun cs b=>Region.noSelect_spec hsel i o cs b ho) hlt
 have hwa:=Q8t (ops:=ops) o hlt
 have hcl:=hc.step hi
 unfold wpOp
 rw [ho]
 simp only []
 cases hh:hs.contains i
 ·-- a calm one
  obtain ⟨o2,c,ho2,hmc,hcalm⟩:=hv i hil hh
  rw [ho] at ho2
  obtain rfl:=Option.some.inj ho2
  have hlc:∀ t,t ∈ o.looksAt ops→A.tmps[t]? = c.tmps[t]? := fun t ht=>by
   by_cases hx:∃ j,Q0g ops j=some t
   ·obtain ⟨j,hj⟩:=hx
    obtain ⟨h1,h2,h3⟩:=look t ht j hj
    have hjh:hs.contains j=false:=by
     rcases h3 with h3 | h3
     ·rw [hh] at h3;cases h3
     ·exact h3
    by_cases hl:t < A.tmps.size
    ·rw [hAv j t (by omega) hjh hj hl,hmc.2.2.1 j t ⟨h1,hjh⟩ hj (by rw [← hAs];exact hl)]
    ·rw [Array.getElem?_eq_none (Nat.le_of_not_lt hl),Array.getElem?_eq_none (by rw [hmc.2.1,← hAs];exact Nat.le_of_not_lt hl)]
   ·rw [hAn t fun j e=>hx ⟨j,e⟩,hmc.2.2.2 t fun j _ e=>hx ⟨j,e⟩]
  have hlac:∀ t,t ∈ o.looksAt ops→a'.tmps[t]? = c.tmps[t]? := fun t ht=>(hlt t ht).trans (hlc t ht)
  have hexc:=Q9o (ops:=ops) o (fun cs b=>Region.noSelect_spec hsel i o cs b ho) hlac
  have hwac:=Q8t (ops:=ops) o hlac
  have next:Q9q R P ops Z W hs s vs a0 (listed.setIfInBounds i true) (a'.put o.dst (vs i)) w:=by
   refine ⟨hcl,k,A,hk,fun b hb=>?_,hext,hF,?_,hAv,hAn,hAs⟩
   ·rw [← hdone b hb]
    have hne:hs.getD b 0≠i:=fun e=>by
     have:hs.contains i=true:=by
      rw [← e];simp [hb]
     rw [hh] at this;cases this
    rw [getD_set_ne false (fun e=>hne e.symm)]
   ·rw [hdst]
    refine Qaf (Qgc hP i (vs i) (fun t ht hl=>hAv i t hil hh ht hl)) fun j hj=>?_
    obtain ⟨⟨h1,h2,h3⟩,h4⟩:=hj
    exact ⟨h1,h2,by rw [getD_set_ne false (fun e=>h4 e.symm)];exact h3⟩
  rcases hcalm with ⟨hw,hrun⟩ | ⟨hw,hv0⟩
  ·rw [hwac,if_pos hw]
   left
   have hrw:(execOp a'.eval o).run P w=.ok (.value (vs i)) w:=by
    rw [hexc]
    by_cases hks:k≤s
    ·exact hrun w (hext hks)
    ·-- behind a heavy one that turns something: it does not read memory
     have hsk:s < hs.length:=by omega
     have h1:=List.all_eq_true.1 hhard s (List.mem_range.2 hsk)
     rw [decide_eq_false (Nat.lt_irrefl s),Bool.false_or] at h1
     have h2:=List.all_eq_true.1 h1 i (List.mem_range.2 hil)
     rw [ho,hh] at h2
     simp only [Bool.false_or,Option.map_some,Option.getD_some,Bool.or_eq_true] at h2
     rcases h2 with h2 | h2
     ·obtain ⟨x,hx,-,hr⟩:=Qaj (P:=P) h2 c w
      obtain ⟨x',hx',-,hr'⟩:=Qaj (P:=P) h2 c W
      rw [hx] at hx'
      obtain rfl:=Op.move.inj hx'
      have h3:=hrun W hR0
      rw [hr'] at h3
      rw [hr]
      simp only [Result.ok.injEq,Next.value.injEq,and_true] at h3
      rw [h3]
     ·exfalso
      have h3:listed.getD (hs.getD s 0) false=true:=(hdone s hsk).2 (by omega)
      have:=Q7m hc ops.size (hs.getD s 0) i (fun ob hob e he hb=>hc _ ob hob h3 e he hb) h2
      rw [hnl'] at this;cases this
   unfold Oper.wp
   rw [hrw]
   exact next
  ·rw [hwac,hw]
   simp only [Bool.false_eq_true,if_false]
   rw [hv0] at next
   exact next
 ·-- a heavy one: the next
  have hmem:i ∈ hs:=by simpa using hh
  obtain ⟨b,hb,hbi⟩:=List.getElem_of_mem hmem
  have hgb:hs.getD b 0=i:=by simp [hb,hbi]
  have hbk:k≤b:=by
   rcases Nat.lt_or_ge b k with h | h
   ·have:=(hdone b hb).2 h
    rw [hgb,hnl'] at this;cases this
   ·exact h
  have hbk':b=k:=by
   rcases Nat.lt_or_ge k b with h | h
   ·exfalso
    have h1:=List.all_eq_true.1 (List.all_eq_true.1 hord b (List.mem_range.2 hb)) k (List.mem_range.2 h)
    rw [hgb] at h1
    have:=Q7m hc ops.size i (hs.getD k 0) hallo h1
    have:=(hdone k (by omega)).1 this
    omega
   ·omega
  subst hbk'
  have hdrop:hs.drop b=i :: hs.drop (b+1):=by rw [List.drop_eq_getElem_cons hb,hbi]
  rw [hdrop] at hF
  have next:∀ (A1 a1:Act) (v:Value) (w1:World),A1.tmps=A.tmps→a1.tmps=a'.tmps→a1.defers=A1.defers→(0 < s - b→R W w1)→wpFR R P ops Z W (s - b - 1) (hs.drop (b+1)) (A1.put o.dst v) w1→Q9q R P ops Z W hs s vs a0 (listed.setIfInBounds i true) (a1.put o.dst v) w1:=by
   intro A1 a1 v w1 hA1 ha1 hdf hx hw
   have hPP:Pend ops (fun j=>j < ops.size∧hs.contains j=false∧listed.getD j false=false) a1 A1:=⟨hdf,by rw [ha1,hA1];exact hP.2.1,fun t ht=>by rw [ha1,hA1];exact hP.2.2 t ht⟩
   refine ⟨hcl,b+1,A1.put o.dst v,by omega,fun d hd=>?_,fun hle=>hx (by omega),by rw [show s - (b+1)=s - b - 1 by omega];exact hw,?_,fun j t hj hjh hjt hl=>?_,fun t ht=>?_,?_⟩
   ·by_cases hdb:d=b
    ·subst hdb
     rw [hgb,Q8z hils]
     simp
    ·have hne:hs.getD d 0≠i:=fun e=>by
      rcases Nat.lt_or_gt_of_ne hdb with h | h
      ·have:=(hdone d hd).2 h
       rw [e,hnl'] at this;cases this
      ·have h1:=List.all_eq_true.1 (List.all_eq_true.1 hord d (List.mem_range.2 hd)) b (List.mem_range.2 h)
       rw [e,hgb] at h1
       have:=Q7m hc ops.size i i hallo h1
       rw [hnl'] at this;cases this
     rw [getD_set_ne false (fun e=>hne e.symm),hdone d hd]
     omega
   ·refine Qaf (Qgb hPP o.dst v) fun j hj=>⟨hj.1,hj.2.1,?_⟩
    have hne:j≠i:=fun e=>by rw [e,hh] at hj;cases hj.2.1
    rw [getD_set_ne false (fun e=>hne e.symm)]
    exact hj.2.2
   ·have hne:j≠i:=fun e=>by rw [e,hh] at hjh;cases hjh
    have hns:Q0g ops i≠some t:=dist j i hj hil hne t hjt
    have hAA:(A1.put o.dst v).tmps[t]? = A.tmps[t]? := by
     rw [hdst]
     cases hd:Q0g ops i with
     | none=>simp [Act.put,hA1]
     | some d =>
      have:d≠t:=fun e=>hns (by rw [hd,e])
      simp only [Act.put]
      rw [Array.getElem?_setIfInBounds_ne this,hA1]
    rw [hAA]
    refine hAv j t hj hjh hjt ?_
    have hsz2:(A1.put o.dst v).tmps.size=A.tmps.size:=by cases o.dst <;> simp [Act.put,hA1]
    rw [← hsz2];exact hl
   ·have hns:Q0g ops i≠some t:=ht i
    rw [← hAn t ht,hdst]
    cases hd:Q0g ops i with
    | none=>simp [Act.put,hA1]
    | some d =>
     have:d≠t:=fun e=>hns (by rw [hd,e])
     simp only [Act.put]
     rw [Array.getElem?_setIfInBounds_ne this,hA1]
   ·rw [← hAs]
    cases o.dst <;> simp [Act.put,hA1]
  rw [hwa]
  rcases Qjj ho (fun h0=>hext (by omega)) hF with ⟨hw,Q1,hQ1,hwp⟩ | ⟨hw,hx,hw2⟩
  ·rw [if_pos hw]
   left
   exact Qej hex.symm (fun v w1 hh=>next A a' v w1 rfl rfl hP.1 hh.1 hh.2) (fun d w1 hh=>next { A with defers:=d :: A.defers } { a' with defers:=d :: a'.defers } undef w1 rfl rfl (by simp [hP.1]) hh.1 hh.2) hQ1 hwp
  ·rw [hw]
   simp only [Bool.false_eq_true,if_false]
   exact next A a' undef w rfl rfl hP.1 hx hw2
theorem Qmk {id:Nat} {l:List Oper} {Q:Exit→Act→World→Prop} {R:World→World→Prop} {W:World} {a:Act} (hs:List Nat) (s:Nat) (hR0:R W W) (hRd:R W W.drew) (hm:P.follows .mixedOrders=true) (hB:Q76 l.toArray hs s=true)
  (h:Q4a R P l.toArray W hs (fun A=>wpFR R P l.toArray (Q .normal) W s hs A W.drew) 0 l a):(Code.region id l.toArray true).wp P Q a W:=by
 have hB':=hB
 simp only [Q76,Bool.and_eq_true] at hB'
 obtain ⟨⟨⟨⟨⟨⟨hsel,hback⟩,hdist⟩,hlook⟩,hin⟩,hord⟩,hhard⟩:=hB'
 have one:∀ x y,x < l.toArray.size→y < x→∀ t,Q0g l.toArray y=some t→Q0g l.toArray x≠some t:=fun x y hx hy t ht e=>by
  have h:=List.all_eq_true.1 (List.all_eq_true.1 hdist x (List.mem_range.2 hx)) y (List.mem_range.2 hy)
  rw [ht,e] at h
  simp at h
 obtain ⟨vs,_,hv,c,hcm,hZ⟩:=Qe8 (ops:=l.toArray) (a0:=a) one l 0 a (fun _=>undef) (fun j=>by simp) (by simp) (Q49 (Qam a (fun _=>undef)) (fun i=>⟨fun h=>h.elim,fun h=>by omega⟩) (fun _ h=>h.elim)) h
 refine wp_region_any hm ?_
 refine Qbo (Q9q R P l.toArray (Q .normal) W hs s vs a) ?_ ?_ ?_ _ _ _ _ (by simp) (by
  refine Nat.le_trans (List.length_filter_le _ _) (by simp)) ?_
 ·intro listed a' w i hsz hI hi
  exact Qs8 hR0 hB (fun i h1 h2=>hv i (by omega) h1 h2) hsz hI hi
 ·-- the end
  intro listed a' w hsz hI hr
  have hall:∀ i,i < l.toArray.size→listed.getD i false=true:=by
   intro i hi
   cases hl:listed.getD i false
   ·exfalso
    obtain ⟨m,h1,h2,h3⟩:=Qcd (p:=fun i => !listed.getD i false) (m:=l.toArray.size) ⟨i,hi,by simpa using hl⟩
    have hm':m ∈ Region.ready .any l.toArray listed:=by
     refine mem_ready.2 ⟨?_,l.toArray[m],by simp [h1],fun e he hb=>?_⟩
     ·have hlt:m < listed.size:=by omega
      simp [hlt] at h2 ⊢;exact h2
     ·have h:=List.all_eq_true.1 hback m (List.mem_range.2 h1)
      have ho:l.toArray[m]? = some l.toArray[m]:=by simp [h1]
      rw [ho] at h
      have:=(Array.all_eq_true'.1 h) e he
      rw [hb] at this
      simp at this
      have:=h3 e.on this
      simpa using this
    rw [hr] at hm'
    cases hm'
   ·rfl
  obtain ⟨hc,k,A,hk,hdone,hext,hF,hP,hAv,hAn,hAs⟩:=hI
  have hkl:k=hs.length:=by
   rcases Nat.lt_or_ge k hs.length with h1 | h1
   ·exfalso
    have hin1:=List.all_eq_true.1 hin (hs.getD k 0) (by simp [h1])
    have:=(hdone k h1).1 (hall _ (by simpa using hin1))
    omega
   ·omega
  rw [hkl,List.drop_length] at hF
  have hA:a'=A:=by
   obtain ⟨p1,p2,p3⟩:=hP
   obtain ⟨t1,d1⟩:=a'
   obtain ⟨t2,d2⟩:=A
   have ht:t1=t2:=by
    apply Array.ext_getElem?
    intro t
    exact p3 t fun i hi e=>by
     have h1:=hall i hi.1
     have h2:=hi.2.2
     rw [h1] at h2;cases h2
   subst ht
   congr 1
  rw [hA]
  cases hsk:s - hs.length <;> (rw [hsk] at hF;exact hF)
 ·intro listed a' w hsz _ hall
  rw [List.eq_nil_iff_forall_not_mem]
  intro i hi
  obtain ⟨h0,o,ho,_⟩:=mem_ready.1 hi
  rw [hall i (Array.getElem?_eq_some_iff.1 ho).1] at h0
  cases h0
 ·-- the beginning
  have hnl:∀ j,(Array.replicate l.toArray.size false).getD j false=false:=fun j=>by
   rw [Array.getD_eq_getD_getElem?,Array.getElem?_replicate]
   split <;> rfl
  refine ⟨fun j oj hj hl=>absurd hl (by rw [hnl j];simp),0,c,Nat.zero_le _,fun b hb=>?_,fun _=>hRd,?_,?_,fun i t hi hh ht hl=>?_,fun t ht=>?_,hcm.2.1⟩
  ·rw [hnl];simp
  ·exact hZ
  ·refine ⟨hcm.1.symm,hcm.2.1.symm,fun t ht=>?_⟩
   exact (hcm.2.2.2 t fun i hi=>ht i ⟨hi.1,hi.2,hnl i⟩).symm
  ·exact hcm.2.2.1 i t ⟨hi,hh⟩ ht (by rw [← hcm.2.1];exact hl)
  ·exact hcm.2.2.2 t fun i _=>ht i
section
variable {R : World → World → Prop} {W : World} {hs : List Nat} {Zc : Act → Prop} {k s i : Nat} {o : Oper} {rest : List Oper} {a : Act} {r : List Nat} {Z : Act → World → Prop} {w : World}
theorem Qso (h:Zc a):Q4a R P ops W hs Zc k [] a:=h
theorem Qsq (hh:hs.contains k=true) (h:Q4a R P ops W hs Zc (k+1) rest a):Q4a R P ops W hs Zc k (o :: rest) a:=by
 unfold Q4a;rw [if_pos hh];exact h
theorem Qiz (hh:hs.contains k=false) (hw:Region.wanted o (yielded ops a.tmps)=true)
  (h:∃ v,(∀ w,R W w→(execOp a.eval o).run P w=.ok (.value v) w)∧Q4a R P ops W hs Zc (k+1) rest (a.put o.dst v)):Q4a R P ops W hs Zc k (o :: rest) a:=by
 obtain ⟨v,h1,h2⟩:=h
 unfold Q4a
 rw [if_neg (by rw [hh];simp)]
 exact ⟨v,.inl ⟨hw,h1⟩,h2⟩
theorem Qsn (hh:hs.contains k=false) (hw:Region.wanted o (yielded ops a.tmps)=false) (h:Q4a R P ops W hs Zc (k+1) rest (a.put o.dst undef)):Q4a R P ops W hs Zc k (o :: rest) a:=by
 unfold Q4a
 rw [if_neg (by rw [hh];simp)]
 exact ⟨undef,.inr ⟨hw,rfl⟩,h⟩
theorem Qel (ho:ops[i]? = some o) (h:wpList P ops (fun x A' w'=>x=.normal∧R W w'∧wpFR R P ops Z W s r A' w') [o] a w):wpFR R P ops Z W (s+1) (i :: r) a w:=by
 unfold wpFR
 simp only [Q06,List.filterMap_cons,ho,List.filterMap_nil]
 exact h
theorem Qjk {L:List Oper} (hL:Q06 ops (i :: r)=L) (h:wpList P ops (fun x A' w'=>x=.normal∧Z A' w') L a w):wpFR R P ops Z W 0 (i :: r) a w:=by
 unfold wpFR
 rw [hL]
 exact h
end
end
end Go.Proofs.Yteiknefajlocoaa
