/- Laid together from: App. -/
import Derived.Test.YtiafchefbehfbaaGreatDoorDriveTellsB13
import Derived.Maps.AppendAt

namespace Go.Proofs.YtiafchefbehfbaaGreatDoor
open Go.RowKit
set_option linter.unusedVariables false
set_option linter.unusedSimpArgs false
structure Src (w:World) (size:Nat) (ao:Option Addr) (m:Nat) (news:List Value):Prop where
 len:news.length=m * size
 none_:ao=none→m=0
 cells:∀ ad,ao=some ad→∀ j u,news[j]? = some u→w.cell? (ad.add j)=some u
 one:∀ u ∈ news,u.oneCell'=true
theorem Src.ext {w w':World} {size:Nat} {ao:Option Addr} {m:Nat} {news:List Value} (h:Src w size ao m news) (hx:Ext w w'):Src w' size ao m news :=
 ⟨h.len,h.none_,fun ad ha j u hu=>hx.kept (h.cells ad ha j u hu),h.one⟩
theorem Qnt (P:Program) (w:World) (base:Nat) (t ty e:TypeId) (i:TypeInfo) (size:Nat) (ht:P.underlying t=some (.slice e)) (hi:P.info? e=some i) (hsize:i.size=size)
  (v:Value) (n:Nat) (xs:List Value) (hown:w.ownsRow base e size v n xs) (c:Nat):(Builtin.append_ #[t,t] ty #[v,.slice none 0 c]).run P w=.ok v w:=by
 rcases hown.2 with ⟨rfl,rfl⟩ | ⟨g,cap,cur,rfl,_,_,hnc,_⟩ <;> simp [Builtin.append_,run_underlying ht,sizeOf,typeInfo,hi,Builtin.lenOf,Builtin.firstCells,storeCells]
 ·omega
theorem Q1b {P:Program} (w:World) {ops:Array Oper} {rest:List Oper} {o:Oper} {a:Act} {Q:Exit→Act→World→Prop} (hgd:o.guard=none) (s x:Operand) (t:TypeId)
  (ho:o.op=.call { callee:=.builtin .append,args:=#[s,x],argTypes:=#[t,t] })
  (base:Nat) (e:TypeId) (i:TypeInfo) (z:Value) (size bytes:Nat) (ht:P.underlying t=some (.slice e)) (hi:P.info? e=some i) (hz:i.zero=some z)
  (hsize:i.size=size) (hby:i.bytes=bytes) (hzs:z.cells.size=size) (hsz:0 < size)
  (v:Value) (n:Nat) (xs:List Value) (hs:a.eval s=v) (hown:w.ownsRow base e size v n xs)
  (ao:Option Addr) (m c:Nat) (news:List Value) (hx:a.eval x=.slice ao m c) (hsrc:Src w size ao m news)
  (h63:n+m≤maxLen) (hbytes:(n+m) * bytes≤140737488355328) (hbase:base≤w.heap.size)
  (h:∀ v' w',w'.ownsRow base e size v' (n+m) (xs ++ news)→w.grownBy w' v.ownBlock→(v'.ownBlock=v.ownBlock∨v'.ownBlock=some w.heap.size)→wpList P ops Q rest (a.put o.dst v') w'):wpList P ops Q (o :: rest) a w:=by
 refine wpList_plain hgd fun K hK=>?_
 cases ao with
 | some ad =>
  obtain ⟨v',w',hrun,h2,h3,-,h5⟩:=run_append_own_at (P:=P) w base t o.type e i z size bytes ht hi hz hsize hby hzs hsz v n xs hown ad m c news hsrc.len (hsrc.cells ad rfl) hsrc.one h63 hbytes hbase
  unfold Oper.wp execOp
  simp only [ho,resolve,invoke,builtin,Sem.run_bind,Sem.run_pure,Result.andThen_ok,List.map_toArray,List.map_cons,List.map_nil,hs,hx,hrun]
  exact hK _ _ (h v' w' h2 h3 h5)
 | none =>
  have hm:=hsrc.none_ rfl
  subst hm
  have hn:news=[]:=List.eq_nil_of_length_eq_zero (by have:=hsrc.len;simpa using this)
  subst hn
  have hrun:=Qnt P w base t o.type e i size ht hi hsize v n xs hown c
  unfold Oper.wp execOp
  simp only [ho,resolve,invoke,builtin,Sem.run_bind,Sem.run_pure,Result.andThen_ok,List.map_toArray,List.map_cons,List.map_nil,hs,hx,hrun]
  exact hK _ _ (h v w (by simpa using hown) (World.grownBy.refl _ _) (.inl rfl))
theorem Qgc {α:Type} [Inhabited α] {w:World} {oa:Option Addr} {b o c:Nat} {l:List α} {f:α→List Value} {g:α→Nat→Value} (hc:0 < c) (hf:∀ x,(f x).length=c) (hg:∀ x j,j < c→(f x)[j]? = some (g x j)) (h1:∀ x ∈ l,∀ u ∈ f x,u.oneCell'=true)
  (h:Rows w oa b o l.length c fun i=>g (l.getD i default)):Src w c oa l.length (l.flatMap f):=by
 refine ⟨Qew f c hf l,fun hn=>?_,fun ad ha j u hu=>?_,fun u hu=>?_⟩
 ·rcases Nat.eq_zero_or_pos l.length with h0 | h0
  ·exact h0
  ·rw [h.at_ h0] at hn;cases hn
 ·have hj:j < l.length * c:=by rw [← Qew f c hf l];exact (List.getElem?_eq_some_iff.1 hu).1
  have hl:0 < l.length:=by
   rcases Nat.eq_zero_or_pos l.length with h0 | h0
   ·rw [h0] at hj;omega
   ·exact h0
  rw [h.at_ hl] at ha
  obtain rfl:=Option.some.inj ha
  have h2:j / c < l.length:=Nat.div_lt_of_lt_mul (by rw [Nat.mul_comm];exact hj)
  have h3:j % c < c:=Nat.mod_lt _ hc
  have h4:=Nat.div_add_mod j c
  rw [Nat.mul_comm] at h4
  have h5:=Qc7 f c hf l (j / c) (j % c) h2 h3
  rw [h4,hg _ _ h3] at h5
  rw [h5] at hu
  obtain rfl:=Option.some.inj hu
  have:=h.cell (j / c) (j % c) h2 h3
  rw [Addr.add_lit,← this,Nat.add_assoc,h4]
 ·simp only [List.mem_flatMap] at hu
  obtain ⟨x,hx,hu⟩:=hu
  exact h1 x hx u hu
theorem Qmu {w:World} {oa:Option Addr} {b o:Nat} {l:List LReg} (h:Rows w oa b o l.length 2 fun i=>Q2v (l.getD i default)):Src w 2 oa l.length (l.flatMap Q40) :=
 Qgc (f:=Q40) (g:=Q2v) (by omega) (fun _=>rfl) Qh7 (fun x _ u hu=>by
  simp only [Q40,List.mem_cons,List.not_mem_nil,or_false] at hu
  rcases hu with rfl | rfl <;> rfl) h
theorem Qgd {w:World} {oa:Option Addr} {b o:Nat} {l:List Int} (k:IntKind) (h:Rows w oa b o l.length 1 fun i _=>.int k (l.getD i default)):Src w 1 oa l.length (l.map (Value.int k)):=by
 rw [← Qc6]
 exact Qgc (f:=fun x=>[Value.int k x]) (g:=fun x _=>Value.int k x) (by omega) (fun _=>rfl) (fun x j hj=>by
  obtain rfl:j=0:=by omega
  rfl) (fun x _ u hu=>by
  simp only [List.mem_singleton] at hu
  subst hu;rfl) h
theorem Q1y {w:World} {k size:Nat} {T:TypeId} {cs:Array Value} (h:Blk w k T cs) (hs:cs.size=size) (h1:cs.all (·.oneCell')=true):Src w size (some ⟨k,0,none⟩) 1 cs.toList:=by
 refine ⟨by simpa using hs,(fun h=>by cases h),fun ad ha j u hu=>?_,fun u hu=>?_⟩
 ·obtain rfl:=Option.some.inj ha
  rw [Addr.add_lit,h.cell,Nat.zero_add]
  simpa using hu
 ·have:=Array.all_eq_true'.1 h1 u (by simpa using hu)
  exact this
theorem Q02 {w:World} {base:Nat} {e:TypeId} {size n:Nat} {v:Value} {xs:List Value} (h:w.ownsRow base e size v n xs):∃ oa cap,v=.slice oa n cap:=by
 rcases h.2 with ⟨rfl,rfl⟩ | ⟨g,cap,cur,rfl,_⟩
 ·exact ⟨_,_,rfl⟩
 ·exact ⟨_,_,rfl⟩
theorem Q19 {w w':World} {base:Nat} {e:TypeId} {size n:Nat} {v:Value} {xs:List Value} (h:w.ownsRow base e size v n xs) (hx:Ext w w'):w'.ownsRow base e size v n xs:=by
 refine ⟨h.1,?_⟩
 rcases h.2 with h | ⟨g,cap,cur,rfl,h1,h2,h3⟩
 ·exact .inl h
 ·exact .inr ⟨g,cap,cur,rfl,h1,(Below.block hx g (Array.getElem?_eq_some_iff.1 h2).1).trans h2,h3⟩
theorem Q1r {w:World} {base:Nat} {e:TypeId} {size n:Nat} {v:Value} {xs:List Value} {o:Obj} (h:w.ownsRow base e size v n xs):(w.alloc o).ownsRow base e size v n xs:=h.alloc o
theorem Q0r {w:World} {base:Nat} {e:TypeId} {size n:Nat} {v:Value} {xs:List Value} {p:Addr} (h:w.ownsRow base e size v n xs) (hne:some p.block≠v.ownBlock) (u:Value):(w.setCell p u).ownsRow base e size v n xs:=by
 refine ⟨h.1,?_⟩
 rcases h.2 with h | ⟨g,cap,cur,rfl,h1,h2,h3⟩
 ·exact .inl h
 ·exact .inr ⟨g,cap,cur,rfl,h1,(Below.heap_setCell w p u g (by intro e;apply hne;simp [Value.ownBlock,e])).trans h2,h3⟩
theorem Qh0 {P:Program} {w:World} {g k:Nat} {T U p q ty uy:Nat} {cs ds:Array Value} {fn:Func} {d d':TypeDesc} (h:Blk w g T cs) (h':Blk w k U ds) (hr:fn.results=#[.cell p ty,.cell q uy]) (tmps:Array Value)
  (hp:tmps.getD p undef=.pointer (some ⟨g,0,none⟩)) (hq:tmps.getD q undef=.pointer (some ⟨k,0,none⟩))
  (hu:P.underlying ty=some d) (hd:d.isRow=true) (hi:(P.info? ty).map (·.size)=some cs.size) (hu':P.underlying uy=some d') (hd':d'.isRow=true) (hi':(P.info? uy).map (·.size)=some ds.size) :
  (results fn tmps).run P w=.ok (.tuple #[.agg cs,.agg ds]) w:=by
 have hp':tmps[p]?.getD undef=.pointer (some ⟨g,0,none⟩):=by simpa using hp
 have hq':tmps[q]?.getD undef=.pointer (some ⟨k,0,none⟩):=by simpa using hq
 have h1:=run_loadVar_mid w g 0 ty cs.toList d (h.range 0 cs.toList (fun j v hv=>by simpa using hv)) hu hd (by simpa using hi)
 have h2:=run_loadVar_mid w k 0 uy ds.toList d' (h'.range 0 ds.toList (fun j v hv=>by simpa using hv)) hu' hd' (by simpa using hi')
 simp only [Array.toArray_toList] at h1 h2
 simp [results,hr,hp',hq',asAddr,h1,h2]
theorem Qoz {w:World} {v:Value} {p:Q00} (h:Q29 w v p):∃ a n c b m d,v=.agg #[.slice a n c,.slice b m d]:=by
 obtain ⟨v1,v2,rfl,⟨-,oa,cap,b,o,rfl,-⟩,⟨-,ob,capb,b2,o2,rfl,-⟩⟩:=h
 exact ⟨_,_,_,_,_,_,rfl⟩
theorem Q16 (w:World) (A:Array Value) (S:TypeId):∃ W g,w.heap.size=g∧w.alloc (.cells A S)=W∧Ext w W∧Blk W g S A :=
 ⟨_,_,rfl,rfl,(Ext.refl w).alloc _,Blk.new w S A⟩
theorem Blk.grown {w w':World} {g:Nat} {t:TypeId} {cs:Array Value} {row:Option Nat} (h:Blk w g t cs) (hg:w.grownBy w' row) (hne:some g≠row):Blk w' g t cs:=(hg.block g h.lt hne).trans h
theorem Blk.ne_ {w:World} {g g':Nat} {t t':TypeId} {cs cs':Array Value} (h:Blk w g t cs) (h':Blk w g' t' cs') (hne:t≠t'):g≠g':=by
 intro e
 subst e
 unfold Blk at h h'
 rw [h] at h'
 injection h' with h'
 injection h' with _ ht
 exact hne ht
theorem Q09 {w:World} {base g:Nat} {e t:TypeId} {size n:Nat} {v:Value} {xs:List Value} {cs:Array Value} (h:w.ownsRow base e size v n xs) (hg:Blk w g t cs) (hne:e≠t):some g≠v.ownBlock:=by
 rcases h.2 with ⟨rfl,_⟩ | ⟨g',cap,cur,rfl,_,hh,_⟩
 ·simp [Value.ownBlock]
 ·intro he
  have hgg:g=g':=by simpa [Value.ownBlock] using he
  subst hgg
  exact Blk.ne_ (t:=e) (cs:=cur) hh hg hne rfl
end Go.Proofs.YtiafchefbehfbaaGreatDoor
