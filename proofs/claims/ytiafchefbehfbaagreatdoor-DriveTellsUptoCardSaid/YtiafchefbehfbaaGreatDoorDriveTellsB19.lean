/- Laid together from: RunM. -/
import Derived.Test.YtiafchefbehfbaaGreatDoorDriveTellsB17
import Derived.Test.YtiafchefbehfbaaGreatDoorDriveTellsB5
import Derived.Test.YtiafchefbehfbaaGreatDoorDriveTellsB18

namespace Go.Proofs.YtiafchefbehfbaaGreatDoor
open Go.RowKit
set_option linter.unusedVariables false
set_option linter.unusedSimpArgs false
theorem Qf1 {w w':World} (h:Ext w w') (row:Option Nat):w.grownBy w' row :=
 ⟨h.os,h.tape,h.output,h.size,fun j hj _=>Below.block h j hj⟩
theorem Q92 (w:World) (p:Addr) (u:Value):w.grownBy (w.setCell p u) (some p.block) :=
 ⟨rfl,rfl,rfl,by simp [World.setCell],fun j hj hne=>Below.heap_setCell w p u j (by intro e;exact hne (by rw [e]))⟩
theorem Q6c {B:Nat} {w0 w w':World} {row:Option Nat} (h:Below B w0 w) (hg:w.grownBy w' row) (hB:B≤w.heap.size) (hr:∀ k,row=some k→B≤k):Below B w0 w':=Below.grown h hg hB hr
theorem Q27 {w w':World} {base:Nat} {e:TypeId} {size n:Nat} {v:Value} {xs:List Value} {row:Option Nat} (h:w.ownsRow base e size v n xs) (hg:w.grownBy w' row) (hne:∀ k,row=some k→v.ownBlock≠some k):w'.ownsRow base e size v n xs:=by
 refine h.kept hg ?_
 cases hr:row with
 | none=>cases hv:v.ownBlock <;> simp
 | some k=>exact .inr (hne k hr)
def regV (l:List Int):Array Value:=(l.map (Value.int .i64)).toArray
theorem rg64 {l:List Int} (h:Q1p l) (a:Int):R64 (rg l a):=h _
def Q5a (s:LSee):Nat→Value
 | 0=>.int .i64 s.kind
 | 1=>.int .i64 s.a
 | _=>.int .i64 s.b
def Q6x (s:LSee):List Value:=[.int .i64 s.kind,.int .i64 s.a,.int .i64 s.b]
theorem Qno (s:LSee) (j:Nat) (hj:j < 3):(Q6x s)[j]? = some (Q5a s j):=by
 rcases (show j=0∨j=1∨j=2 by omega) with rfl | rfl | rfl <;> rfl
def Q9r (w:World) (v:Value) (l:List LSee):Prop :=
 ∃ oa cap b o,v=.slice oa l.length cap∧l.length≤cap∧cap≤maxLen∧Rows w oa b o l.length 3 fun i=>Q5a (l.getD i default)
theorem Q9r.ext {w w':World} {v:Value} {l:List LSee} (h:Q9r w v l) (hx:Ext w w'):Q9r w' v l:=by
 obtain ⟨oa,cap,b,o,h1,h2,h3,h4⟩:=h
 exact ⟨oa,cap,b,o,h1,h2,h3,h4.ext hx⟩
theorem Qnm {w:World} {base:Nat} {e:TypeId} {v:Value} {l:List LSee} (h:w.ownsRow base e 3 v l.length (l.flatMap Q6x)):Q9r w v l:=by
 obtain ⟨oa,cap,b,h1,h2,h3,h4,-⟩:=Q7j (c:=3) (f:=Q6x) (g:=Q5a) (by omega) (fun _=>rfl) Qno h
 exact ⟨oa,cap,b,0,h1,h2,h3,h4⟩
theorem Qnn (w:World):Q9r w (.slice none 0 0) []:=⟨none,0,0,0,rfl,by simp,by decide,⟨fun h=>by simp at h,fun i j hi hj=>by simp at hi⟩⟩
def Q52 (w:World) (v:Value) (fin value:Int) (steps:Nat) (seen:List LSee) (mem:List (List Int)):Prop :=
 ∃ vs vm,v=.agg #[.int .i64 fin,.int .i64 value,.int .i64 steps,vs,vm]∧Q9r w vs seen∧Q4q w vm mem
theorem Q52.ext {w w':World} {v:Value} {fin value:Int} {steps:Nat} {seen:List LSee} {mem:List (List Int)} (h:Q52 w v fin value steps seen mem) (hx:Ext w w'):Q52 w' v fin value steps seen mem:=by
 obtain ⟨vs,vm,h1,h2,h3⟩:=h
 exact ⟨vs,vm,h1,h2.ext hx,h3.ext hx⟩
def Q3d (w:World) (B U:Nat) (T E:TypeId) (v:Value) (m:List (List Int)):Prop :=
 ∃ vs:List Value,vs.length=m.length∧w.ownsRow B T 1 v m.length vs∧(∀ b,v.ownBlock=some b→b < U) ∧
  (∀ i,i < m.length→w.ownsRow B E 1 (vs.getD i undef) (m.getD i default).length ((m.getD i default).map (Value.int .i64))∧∀ b,(vs.getD i undef).ownBlock=some b→b < U) ∧
  (∀ i j,i < j→j < m.length→∀ b,(vs.getD i undef).ownBlock=some b→(vs.getD j undef).ownBlock≠some b)
theorem Q3d.below {w w':World} {B U:Nat} {T E:TypeId} {v:Value} {m:List (List Int)} (h:Q3d w B U T E v m) (hb:Below U w w'):Q3d w' B U T E v m:=by
 obtain ⟨vs,h1,h2,h3,h4,h5⟩:=h
 have key:∀ {e:TypeId} {s n:Nat} {u:Value} {xs:List Value},w.ownsRow B e s u n xs→(∀ b,u.ownBlock=some b→b < U)→w'.ownsRow B e s u n xs:=by
  intro e s n u xs ho hlt
  refine ⟨ho.1,?_⟩
  rcases ho.2 with hn | ⟨g,cap,cur,rfl,a1,a2,a3⟩
  ·exact .inl hn
  ·exact .inr ⟨g,cap,cur,rfl,a1,(hb.block g (hlt g rfl)).trans a2,a3⟩
 exact ⟨vs,h1,key h2 h3,h3,fun i hi=>⟨key (h4 i hi).1 (h4 i hi).2,(h4 i hi).2⟩,h5⟩
theorem Q3d.at_ {w:World} {B U:Nat} {T E:TypeId} {v:Value} {m:List (List Int)} (h:Q3d w B U T E v m) {c:Nat} (hc:c < m.length) (hn:0 < (m.getD c default).length) :
  ∃ ko capo k cap,v=.slice (some ⟨ko,0,none⟩) m.length capo∧B≤ko∧B≤k∧k < U∧w.cell? ⟨ko,c,none⟩=some (.slice (some ⟨k,0,none⟩) (m.getD c default).length cap) ∧
   (∀ x,x < (m.getD c default).length→w.cell? ⟨k,x,none⟩=some (.int .i64 ((m.getD c default).getD x 0))∧w.frozen? ⟨k,x,none⟩=false):=by
 obtain ⟨vs,h1,h2,h3,h4,h5⟩:=h
 obtain ⟨h6,h7⟩:=h4 c hc
 have h2':=h2
 have h6':=h6
 rcases h2.2 with ⟨-,h0⟩ | ⟨ko,capo,cur,rfl,a1,a2,a3⟩
 ·omega
 rcases h6.2 with ⟨-,h0⟩ | ⟨k,cap,cur',hv,b1,b2,b3⟩
 ·omega
 rw [hv] at h6' h7
 refine ⟨ko,capo,k,cap,rfl,a1,b1,h7 k rfl,?_,fun x hx=>⟨?_,?_⟩⟩
 ·rw [h2'.cellAt c (by omega),← hv]
  have:c < vs.length:=by omega
  simp [this]
 ·rw [h6'.cellAt x (by omega)]
  generalize m.getD c default=l at *
  simp [hx]
 ·exact h6'.frozenAt x
theorem Q93 {w:World} {B:Nat} {e:TypeId} {s n:Nat} {v:Value} {xs:List Value} (h:w.ownsRow B e s v n xs):∀ k,v.ownBlock=some k→k < w.heap.size:=fun k hk=>(h.lt k hk).2
theorem Q3d.set_ {w:World} {B U:Nat} {T E:TypeId} {v:Value} {m:List (List Int)} (h:Q3d w B U T E v m) (hTE:T≠E) {c:Nat} (hc:c < m.length) {x:Nat} (hx:x < (m.getD c default).length) {ko k cap:Nat} {capo:Nat}
  (hv:v=.slice (some ⟨ko,0,none⟩) m.length capo) (hk:w.cell? ⟨ko,c,none⟩=some (.slice (some ⟨k,0,none⟩) (m.getD c default).length cap)) (z:Int) :
  Q3d (w.setCell ⟨k,x,none⟩ (.int .i64 z)) B U T E v (m.set c ((m.getD c default).set x z)):=by
 obtain ⟨vs,h1,h2,h3,h4,h5⟩:=h
 subst hv
 have hcell:=h2.cellAt c (by omega)
 rw [hk] at hcell
 have hcv:c < vs.length:=by omega
 have hvc:vs.getD c undef=.slice (some ⟨k,0,none⟩) (m.getD c default).length cap:=by
  have:vs[c]? = some (vs.getD c undef):=by simp [hcv]
  rw [this] at hcell
  exact (Option.some.inj hcell).symm
 obtain ⟨h6,h7⟩:=h4 c hc
 rw [hvc] at h6 h7
 have hst:=(h6.stored x (.int .i64 z))
 have hlenm:(m.set c ((m.getD c default).set x z)).length=m.length:=by simp
 have hg:∀ i,i < m.length→(m.set c ((m.getD c default).set x z)).getD i default=if i=c then (m.getD c default).set x z else m.getD i default:=by
  intro i hi
  by_cases e:i=c
  ·subst e;simp [hi]
  ·rw [if_neg e,List.getD_eq_getElem?_getD,List.getElem?_set,if_neg (by omega),← List.getD_eq_getElem?_getD]
 have hkU:=h7 k rfl
 have hkT:Value.ownBlock (.slice (some ⟨ko,0,none⟩) m.length capo)≠some k:=by
  intro e
  have e2:ko=k:=by simpa [Value.ownBlock] using e
  subst e2
  rcases h2.2 with ⟨h0,-⟩ | ⟨g,c1,cur,hh,a1,a2,-⟩
  ·cases h0
  ·rcases h6.2 with ⟨h0,-⟩ | ⟨g',c2,cur',hh',b1,b2,-⟩
   ·cases h0
   ·simp only [Value.slice.injEq,Option.some.injEq,Addr.mk.injEq,and_true,true_and] at hh hh'
    obtain ⟨rfl,-⟩:=hh
    obtain ⟨rfl,-⟩:=hh'
    rw [a2] at b2
    simp only [Option.some.injEq,Obj.cells.injEq,and_true] at b2
    exact hTE b2.2
 have hset:=Q92 w ⟨k,x,none⟩ (.int .i64 z)
 refine ⟨vs,by rw [hlenm,h1],?_,h3,fun i hi=>?_,fun i j hij hj=>?_⟩
 ·rw [hlenm]
  exact Q27 h2 hset (by intro k' e;simp only [Option.some.injEq] at e;subst e;exact hkT)
 ·rw [hlenm] at hi
  rw [hg i hi]
  by_cases e:i=c
  ·subst e
   rw [if_pos rfl,hvc]
   refine ⟨?_,h7⟩
   have:=hst.1
   rw [List.length_set]
   rw [List.map_set]
   exact this
  ·rw [if_neg e]
   obtain ⟨h8,h9⟩:=h4 i hi
   refine ⟨Q27 h8 hset ?_,h9⟩
   intro k' e'
   simp only [Option.some.injEq] at e'
   subst e'
   intro hb
   rcases Nat.lt_or_ge i c with hlt | hge
   ·exact h5 i c hlt hc k hb (by rw [hvc];rfl)
   ·exact h5 c i (by omega) hi k (by rw [hvc];rfl) hb
 ·rw [hlenm] at hj
  exact h5 i j hij hj
theorem Q3d.mem {w:World} {B U:Nat} {T E:TypeId} {v:Value} {m:List (List Int)} (h:Q3d w B U T E v m) (h64:∀ l ∈ m,∀ x ∈ l,R64 x):Q4q w v m:=by
 obtain ⟨vs,h1,h2,h3,h4,h5⟩:=h
 have hs:vs=vs.flatMap fun x=>[x]:=by
  induction vs with
  | nil=>rfl
  | cons x l ih=>simp
 rw [← h1,hs] at h2
 obtain ⟨oa,cap,b,e1,e2,e3,e4,-⟩:=Q7j (c:=1) (f:=fun x:Value=>[x]) (g:=fun x _=>x) (by omega) (fun _=>rfl) (fun x j hj=>by
  obtain rfl:j=0:=by omega
  rfl) (by simpa using h2)
 rw [h1] at e1 e2 e4
 refine ⟨oa,cap,b,0,e1,e2,e3,fun i=>vs.getD i default,e4,fun i hi=>?_⟩
 have h6:=(h4 i hi).1
 have e:vs.getD i default=vs.getD i undef:=by
  have:i < vs.length:=by omega
  simp [this]
 simp only [e]
 exact Q32 h6 (h64 _ (Q25 hi))
theorem Q2c {w:World} {B B':Nat} {e e':TypeId} {s s' n n':Nat} {v v':Value} {xs xs':List Value} (h:w.ownsRow B e s v n xs) (h':w.ownsRow B' e' s' v' n' xs') (hne:e≠e'):∀ k,v.ownBlock=some k→v'.ownBlock≠some k:=by
 intro k hk hk'
 rcases h.2 with ⟨rfl,_⟩ | ⟨g,c,cur,rfl,_,a2,_⟩
 ·cases hk
 rcases h'.2 with ⟨rfl,_⟩ | ⟨g',c',cur',rfl,_,b2,_⟩
 ·cases hk'
 have e1:g=k:=by simpa [Value.ownBlock] using hk
 have e2:g'=k:=by simpa [Value.ownBlock] using hk'
 subst e1;subst e2
 rw [a2] at b2
 simp only [Option.some.injEq,Obj.cells.injEq,and_true] at b2
 exact hne b2.2
theorem Q17 {w:World} {base:Nat} {e:TypeId} {c n:Nat} {v:Value} {xs:List Value} (h:w.ownsRow base e c v n xs):∀ k,v.ownBlock=some k→base≤k:=fun k hk=>(h.lt k hk).1
theorem Q3b (w:World) (B U:Nat) (T E:TypeId):Q3d w B U T E (.slice none 0 0) [] :=
 ⟨[],rfl,World.ownsRow_nil _ _ _ _,fun b h=>by simp [Value.ownBlock] at h,fun i hi=>by simp at hi,fun i j _ hj=>by simp at hj⟩
theorem Qqs {wr w1 w2 w3:World} {B:Nat} {T E:TypeId} {out out' v1:Value} {vs:List Value} {ml:List (List Int)} {l:List Int} (hTE:T≠E) (h1:vs.length=ml.length) (h2:wr.ownsRow B T 1 out ml.length vs)
  (h4:∀ i,i < ml.length→wr.ownsRow B E 1 (vs.getD i undef) (ml.getD i default).length ((ml.getD i default).map (Value.int .i64)))
  (h5:∀ i j,i < j→j < ml.length→∀ b,(vs.getD i undef).ownBlock=some b→(vs.getD j undef).ownBlock≠some b)
  (hx:Ext wr w2) (hv1:w2.ownsRow B E 1 v1 l.length (l.map (Value.int .i64))) (hat:∀ b,v1.ownBlock=some b→wr.heap.size≤b)
  (hown:w3.ownsRow B T 1 out' (ml.length+1) (vs ++ [v1])) (hg:w2.grownBy w3 out.ownBlock):Q3d w3 B w3.heap.size T E out' (ml ++ [l]):=by
 have hlen:(ml ++ [l]).length=ml.length+1:=by simp
 have hold:∀ i,i < ml.length→w3.ownsRow B E 1 (vs.getD i undef) (ml.getD i default).length ((ml.getD i default).map (Value.int .i64)):=fun i hi =>
  Q27 (Q19 (h4 i hi) hx) hg (fun k hk he=>Q2c h2 (h4 i hi) hTE k hk he)
 have hnew:w3.ownsRow B E 1 v1 l.length (l.map (Value.int .i64)):=Q27 hv1 hg (fun k hk he=>by
  have a:=Q93 h2 k hk
  have b:=hat k he
  omega)
 have gv:∀ i,i < ml.length→(vs ++ [v1]).getD i undef=vs.getD i undef:=fun i hi=>by
  have:i < vs.length:=by omega
  simp [List.getD_eq_getElem?_getD,List.getElem?_append_left this]
 have gl:(vs ++ [v1]).getD ml.length undef=v1:=by rw [← h1];simp
 have mv:∀ i,i < ml.length→(ml ++ [l]).getD i default=ml.getD i default:=fun i hi=>by simp [List.getD_eq_getElem?_getD,List.getElem?_append_left hi]
 have mlv:(ml ++ [l]).getD ml.length default=l:=by simp
 refine ⟨vs ++ [v1],by simp [h1],by rw [hlen];exact hown,Q93 hown,fun i hi=>?_,fun i j hij hj=>?_⟩
 ·rw [hlen] at hi
  by_cases e:i < ml.length
  ·rw [gv i e,mv i e];exact ⟨hold i e,Q93 (hold i e)⟩
  ·obtain rfl:i=ml.length:=by omega
   rw [gl,mlv];exact ⟨hnew,Q93 hnew⟩
 ·rw [hlen] at hj
  intro b hb
  by_cases e:j < ml.length
  ·rw [gv i (by omega)] at hb
   rw [gv j e];exact h5 i j hij e b hb
  ·obtain rfl:j=ml.length:=by omega
   rw [gv i hij] at hb
   rw [gl]
   intro hb'
   have a:=Q93 (h4 i hij) b hb
   have b:=hat b hb'
   omega
end Go.Proofs.YtiafchefbehfbaaGreatDoor
