/- Laid together from: Spc5, Spc6, Spc7, Spc8, Spc9. -/
import Derived.Test.YteiknefajlocoaaFindNothingB36
import Derived.Maps.Ext
import Derived.Test.YteiknefajlocoaaFindNothingB10

namespace Go.Proofs.Yteiknefajlocoaa
open Go.ChangeShapes Go.WideShapes Go.ChangeAt Go.RowKit
set_option linter.unusedVariables false
set_option linter.unusedSimpArgs false
def Q8c (w:World) (b it:Nat):Nat:=match w.heap[b]?,w.heap[it]? with
 | some (.map es _),some (.mapIter _ _ seen _)=>(leftOf es seen).size
 | _,_=>0
theorem Qh9 {w:World} {b it:Nat} {G left:List (Nat × Value)} (h:Q3x w b it G left):Q8c w b it=left.length:=by
 obtain ⟨es,clock,since,seen,c0,h1,-,-,h4,-,-,-,h8⟩:=h
 unfold Q8c
 rw [h1,h4]
 have:=congrArg List.length h8
 simpa using this
theorem Qh4 (w:World):MapG (w.alloc (.map #[] 0)) w.heap.size []:=⟨#[],0,heap_alloc_new w _,MapKept.stamped_empty 0,rfl⟩
theorem Qnn {G:List (Nat × Value)} {k:Nat} {v:Value} (h:∀ p ∈ G,p.1≠k):putG G k v=G ++ [(k,v)]:=by
 unfold putG
 have:G.find? (fun p=>p.1 == k)=none:=by
  rw [List.find?_eq_none]
  intro p hp
  simpa using h p hp
 rw [this]
 rfl
def Qts (G:Grp) (w:World) (e:Ending) (w':World):Prop :=
 ∃ b' G',e=.returned (.map (some b'))∧MapG w' b' (Q1m G')∧Fam w' w.heap.size (Q21 G')∧(∀ n,Q3e G' n=Q3e G n)∧(∀ x ∈ G',∃ y ∈ G,y.1=x.1)∧Ext w w'∧w.heap.size≤b'
structure Q8s (G GL Gd:Grp):Prop where
 sub:∀ x ∈ GL,x ∈ G
 done:∀ y ∈ Gd,∃ x ∈ G,x.1=y.1∧x.2.2=y.2.2
 apart:∀ y ∈ Gd,∀ x ∈ GL,x.1≠y.1
 all:∀ x ∈ G,x ∈ GL∨∃ y ∈ Gd,y.1=x.1
theorem Qs2 (G:Grp):Q8s G G []:=⟨fun _ h=>h,fun y h=>by simp at h,fun y h=>by simp at h,fun x h=>.inl h⟩
theorem Qs1 {G GL Gd:Grp} (h:Q8s G GL Gd) {k:Nat} {v u:Value} {l:List Int} (hx:(k,v,l) ∈ GL):Q8s G (GL.filter fun x=>x.1 != k) (Gd ++ [(k,u,l)]):=by
 refine ⟨fun x hx=>h.sub x (List.mem_filter.1 hx).1,fun y hy=>?_,fun y hy x hx'=>?_,fun x hx'=>?_⟩
 ·rcases List.mem_append.1 hy with hy | hy
  ·exact h.done y hy
  ·simp only [List.mem_singleton] at hy
   subst hy
   exact ⟨_,h.sub _ hx,rfl,rfl⟩
 ·obtain ⟨h1,h2⟩:=List.mem_filter.1 hx'
  rcases List.mem_append.1 hy with hy | hy
  ·exact h.apart y hy x h1
  ·simp only [List.mem_singleton] at hy
   subst hy
   simpa using h2
 ·rcases h.all x hx' with h1 | ⟨y,h1,h2⟩
  ·by_cases hk:x.1=k
   ·exact .inr ⟨_,List.mem_append_right _ (List.mem_singleton.2 rfl),hk.symm⟩
   ·exact .inl (List.mem_filter.2 ⟨h1,by simpa using hk⟩)
  ·exact .inr ⟨y,List.mem_append_left _ h1,h2⟩
theorem Qb9 {G:Grp} (hd:(G.map (·.1)).Nodup) {x:Nat × Value × List Int} (hx:x ∈ G):G.find? (fun y=>y.1 == x.1)=some x:=by
 induction G with
 | nil=>simp at hx
 | cons y G ih =>
  simp only [List.map_cons,List.nodup_cons] at hd
  rw [List.find?_cons]
  rcases List.mem_cons.1 hx with rfl | hx
  ·simp
  ·have:(y.1 == x.1)=false:=by
    rw [Bool.eq_false_iff]
    intro e
    exact hd.1 (List.mem_map.2 ⟨x,hx,(beq_iff_eq.1 e).symm⟩)
   rw [this]
   exact ih hd.2 hx
theorem Qs3 {G Gd:Grp} (h:Q8s G [] Gd) (hd:(G.map (·.1)).Nodup) (hd':(Gd.map (·.1)).Nodup) (n:Nat):Q3e Gd n=Q3e G n:=by
 unfold Q3e
 by_cases hn:∃ x ∈ G,x.1=n
 ·obtain ⟨x,hx,rfl⟩:=hn
  rcases h.all x hx with h1 | ⟨y,h1,h2⟩
  ·simp at h1
  ·have e1:=Qb9 hd hx
   have e2:=Qb9 hd' h1
   rw [h2] at e2
   rw [e1,e2]
   obtain ⟨x',hx',h3,h4⟩:=h.done y h1
   have e3:=Qb9 hd hx'
   rw [h3,h2,e1] at e3
   simp only [Option.some.injEq] at e3
   simp only [Option.map_some,Option.getD_some]
   rw [e3,h4]
 ·have e1:G.find? (fun x=>x.1 == n)=none:=by
   rw [List.find?_eq_none]
   intro x hx e
   exact hn ⟨x,hx,by simpa using e⟩
  have e2:Gd.find? (fun x=>x.1 == n)=none:=by
   rw [List.find?_eq_none]
   intro y hy e
   obtain ⟨x,hx,h3,-⟩:=h.done y hy
   exact hn ⟨x,hx,by rw [h3];simpa using e⟩
  rw [e1,e2]
theorem Qav {w:World} {b:Nat} {G:Grp} (h:MapG w b (Q1m G)):(G.map (·.1)).Nodup:=by
 have:=h.keys
 unfold Q1m at this
 simpa [List.map_map,Function.comp_def] using this
theorem Qr1 (G:Grp) (k:Nat):(Q1m G).filter (fun p=>p.1 != k)=Q1m (G.filter fun x=>x.1 != k):=by
 unfold Q1m
 rw [List.filter_map]
 rfl
theorem Fam.push {w w1:World} {B:Nat} {L:List (Value × List Int)} (h:Fam w B L) (hx:Ext w w1) (hB:B≤w.heap.size) {u:Value} {l:List Int} (ho:w1.ownsRow w.heap.size 2 1 u l.length (l.map (Value.int .i64))):Fam w1 B (L ++ [(u,l)]) :=
 (h.ext hx).app (B':=w.heap.size) ⟨fun y hy=>by
  simp only [List.mem_singleton] at hy
  subst hy
  exact ho,List.pairwise_singleton _ _⟩ hB (fun y hy k hk=>(h.size hy k hk).2)
theorem Fam.map_ {w w':World} {B b:Nat} {L:List (Value × List Int)} {G:List (Nat × Value)} (h:Fam w B L) (hm:MapG w b G) (hg:w.grownBy w' (some b)):Fam w' B L:=h.kept hg fun x hx k hk=>by
 simp only [Option.some.injEq] at hk
 subst hk
 exact hm.ne_own (h.own x hx)
theorem Q3x.ne_own {w:World} {b it:Nat} {G left:List (Nat × Value)} (h:Q3x w b it G left) {B:Nat} {e:TypeId} {s n:Nat} {v:Value} {xs:List Value} (ho:w.ownsRow B e s v n xs):v.ownBlock≠some it:=by
 intro hk
 obtain ⟨es,clock,since,seen,c0,-,-,-,h1,-⟩:=h
 rcases ho.2 with ⟨rfl,-⟩ | ⟨k,cap,cur,rfl,-,h2,-⟩
 ·cases hk
 ·have e:k=it:=by simpa [Value.ownBlock] using hk
  rw [← e,h2] at h1
  cases h1
set_option maxRecDepth 100000 in
set_option maxHeartbeats 4000000 in
theorem Qo9 {B:Nat} (G:Grp) (b:Nat) (w:World) (hM:MapG w b (Q1m G)) (hR:∀ x ∈ G,w.ownsRow B 2 1 x.2.1 x.2.2.length (x.2.2.map (Value.int .i64))) (hl:∀ x ∈ G,x.2.2.length≤1000000) :
  Calls Try.prog 149 #[.map (some b)] w (Qts G w):=by
 have hmm:=@run_makeMap Try.prog
 have hu:Try.prog.underlying 130 = some (.map 3 71):=by kernel_rfl
 have hbl:=hM.lt
 have HM:=Lib.hid hM
 have HR:=Lib.hid hR
 have Hl:=Lib.hid hl
 have Hnd:=Lib.hid (Qav hM)
 have hx0:Ext w (w.alloc (.map #[] 0)):=(Ext.refl w).alloc _
 have e1:(w.alloc (.map #[] 0)).heap.size=w.heap.size+1:=by simp
 have hM1:=hM.ext hx0
 clear hM hR hl
 go_enter Try.func149,Try.ntmps149
 go_wp2_with (at_range;refine Qjh rfl _ 130 3 71 rfl hu rfl hM1 ?_;intro w0 hrg0 hx1 hs0)
 rw [e1] at hrg0 hs0 ⊢
 have hs1:w0.heap.size=w.heap.size+2:=hs0
 go_frame
 go_loopw [4,5] (fun _ _ wr => ∃ (GL Gd:Grp),Q3x wr b (w.heap.size+1) (Q1m G) (Q1m GL)∧MapG wr w.heap.size (Q1m Gd)∧Fam wr w.heap.size (Q21 Gd)∧Q8s G GL Gd∧Ext w wr) (fun _ _ wr=>Q8c wr b (w.heap.size+1))
 case atStart=>exact ⟨G,[],hrg0,(Qh4 w).ext hx1,Fam.nil _ _,Qs2 G,hx0.trans hx1⟩
 case round =>
  obtain ⟨GL,Gd,hrg,hmo,hf,hh,hx⟩:=hrel
  have Hrg:=Lib.hid hrg
  have Hmo:=Lib.hid hmo
  have Hf:=Lib.hid hf
  have Hh:=Lib.hid hh
  have X:=Lib.hid hx
  clear hmo hf hh hx hx0 hx1 hM1 hrg0
  go_wp2_with (at_next;refine Qji rfl _ rfl rfl hrg (by omega) ?_ ?_)
  ·intro h0
   have hGL:GL=[]:=by simpa [Q1m] using h0
   subst hGL
   clear hrg
   go_wp2
   go_ret
   exact ⟨_,Gd,rfl,Hmo.out,Hf.out,Qs3 Hh.out Hnd.out (Qav Hmo.out),fun y hy=>by
    obtain ⟨x,hx,h1,-⟩:=Hh.out.done y hy
    exact ⟨x,hx,h1⟩,X.out,Nat.le_refl _⟩
  ·intro k v w1 hkv hrg1 hen hg1 hsz1
   obtain ⟨⟨k',v',l⟩,hxm,heq⟩:=List.mem_map.1 hkv
   simp only [Prod.mk.injEq] at heq
   obtain ⟨rfl,rfl⟩:=heq
   have X1:Ext w w1:=X.out.grown hg1 (fun j hj=>by
    simp only [Option.some.injEq] at hj
    omega)
   have hro:=Q3p (HR.out _ (Hh.out.sub _ hxm)) X1
   have hln:=Hl.out _ (Hh.out.sub _ hxm)
   simp only at hro hln
   have Hro:=Lib.hid hro
   obtain ⟨ov,cv,rfl⟩:=Q1e hro
   have Hxm:=Lib.hid hxm
   have X1:=Lib.hid X1
   have hmo1:=Hmo.out.kept hg1 (by simp)
   have Hf1:=Lib.hid (Hf.out.kept hg1 (fun y hy j hj=>by
    simp only [Option.some.injEq] at hj
    subst hj
    exact Hrg.out.ne_own (Hf.out.own y hy)))
   have Hmo1:=Lib.hid hmo1
   have Hrg1:=Lib.hid hrg1
   clear hrg hro hxm hkv hmo1 hrg1 hg1
   go_wp2_with fail
   have C:=Qfh l _ w1 Hro.out hln
   (with_reducible refine C.mono ?_)
   clear C
   rintro er w2 ⟨u,rfl,hO,hx2⟩
   have hmo2:=Hmo1.out.ext hx2
   obtain ⟨ou,cu,rfl⟩:=Q1e hO
   have hs1:=X1.out.size
   have hf2:=Hf1.out.push hx2 hs1 hO
   have hrg2:=Hrg1.out.ext hx2
   have Hf2:=Lib.hid hf2
   have Hrg2:=Lib.hid hrg2
   have X2:=Lib.hid (X1.out.trans hx2)
   clear hO hf2 hrg2 hx2 hen
   go_wp2_with (at_mapUpdate;refine Qek rfl _ _ _ 130 3 71 rfl hu Try.underlying3 rfl hmo2 k' rfl (.slice ou l.length cu) rfl ?_;intro w3 hm3 hg3)
   have hnew:∀ p ∈ Q1m Gd,p.1≠k':=fun p hp=>by
    obtain ⟨y,hy,rfl⟩:=List.mem_map.1 hp
    exact fun e=>Hh.out.apart y hy _ Hxm.out e.symm
   rw [Qnn hnew] at hm3
   have e3:Q1m Gd ++ [(k',Value.slice ou l.length cu)]=Q1m (Gd ++ [(k',.slice ou l.length cu,l)]):=by simp [Q1m]
   rw [e3] at hm3
   have hf3:=Hf2.out.map_ hmo2 hg3
   have e4:Q21 Gd ++ [(Value.slice ou l.length cu,l)]=Q21 (Gd ++ [(k',.slice ou l.length cu,l)]):=by simp [Q21]
   rw [e4] at hf3
   have hrg3:=Hrg2.out.kept hg3 (fun e=>by simp only [Option.some.injEq] at e;omega) (fun e=>by simp only [Option.some.injEq] at e;omega)
   rw [Qr1] at hrg3
   have hX3:Ext w w3:=X2.out.grown hg3 (fun j hj=>by simp only [Option.some.injEq] at hj;omega)
   have Hend:=Lib.hid (show Q3x w3 b (w.heap.size+1) (Q1m G) (Q1m (GL.filter fun x=>x.1 != k'))∧MapG w3 w.heap.size (Q1m (Gd ++ [(k',.slice ou l.length cu,l)]))∧Fam w3 w.heap.size (Q21 (Gd ++ [(k',.slice ou l.length cu,l)]))∧Q8s G (GL.filter fun x=>x.1 != k') (Gd ++ [(k',.slice ou l.length cu,l)])∧Ext w w3 from ⟨hrg3,hm3,hf3,Qs1 Hh.out Hxm.out,hX3⟩)
   clear hm3 hf3 hrg3 hX3 hg3 hmo2 hnew e3 e4
   go_wp2
   go_roundw
   case rel=>exact ⟨_,_,_,_,_,_,_,_,_,_,_,⟨_,_,Hend.out⟩,rfl⟩
   case measure =>
    rw [Qh9 Hend.out.1,Qh9 Hrg.out]
    simp only [Q1m,List.length_map]
    exact List.length_filter_lt_length_iff_exists.2 ⟨_,Hxm.out,by simp⟩
section
variable {P : Program} {ops : Array Oper} {rest : List Oper} {a : Act} {w W : World} {Q : Exit → Act → World → Prop} {g : Nat} {t : TypeId} {cs : Array Value} {dst : Option Tmp} {T ty : TypeId} {pos : String} {after : Array Edge} {o : Oper} {hs : List Nat} {Zc : Act → Prop} {k off : Nat} {d : TypeDesc} {l : List Value}
theorem Qsi {x:Operand} (ho:o.op=.load ty x) (hx:a.eval x=.pointer (some ⟨g,off,none⟩)) (hb:Blk w g t cs) (hl:∀ j v,l[j]? = some v→cs[off+j]? = some v) (hu:P.underlying ty=some d) (hd:d.isRow=true) (hi:(P.info? ty).map (·.size)=some l.length) :
  (execOp a.eval o).run P w=.ok (.value (.agg l.toArray)) w:=by
 have h:=run_loadVar_mid (P:=P) w g off ty l _ (hb.range off _ hl) hu hd hi
 unfold execOp
 simp only [ho,hx,Instr.loadAt,Instr.sureAddr,Sem.run_bind,Sem.run_pure,Result.andThen_ok,h,Array.toArray_toList]
theorem Qe2 (hb:Blk W g t cs) (off:Nat) (l:List Value) (hl:∀ j v,l[j]? = some v→cs[off+j]? = some v) (hu:P.underlying ty=some d) (hd:d.isRow=true) (hi:(P.info? ty).map (·.size)=some l.length)
  (hh:hs.contains k=false) (hw:Region.wanted o (yielded ops a.tmps)=true) (ho:∃ x,o.op=.load ty x∧a.eval x=.pointer (some ⟨g,off,none⟩))
  (h:Q1o P ops W hs Zc (k+1) rest (a.put o.dst (.agg l.toArray))):Q1o P ops W hs Zc k (o :: rest) a:=by
 obtain ⟨x,ho,hx⟩:=ho
 exact Q2i hh hw ⟨_,fun _ hE=>Qsi ho hx (hb.ext hE) hl hu hd hi,h⟩
theorem Qbs (h:Blk w g t cs) (o:Nat) (l:List Value) {ty:TypeId} {x y:Operand} (hs:o+l.length≤cs.size) (hi:(P.info? ty).map (·.size)=some l.length) (h1:l.toArray.all (·.oneCell')=true) (hx:a.eval x=.pointer (some ⟨g,o,none⟩)) (hy:a.eval y=.agg l.toArray)
  (k:wpList P ops Q rest (a.put dst undef) (w.setCells g o l)):wpList P ops Q (⟨dst,.store ty x y,T,pos,after,none⟩ :: rest) a w :=
 wpList_store_mid rfl ty x y rfl g o l.toArray hx hy (h.there o _ (by simpa using hs)) (by simpa using hi) h1 (by simpa using k)
end
section
variable {S0 : Nat → Prop} {w w' w'' : World}
theorem Turn.cells:∀ (vs:List Value) (w:World) (b o:Nat),Turn (fun j=>j=b) w (w.setCells b o vs)
 | [],w,_,_=>Turn.refl w
 | u :: vs,w,b,o=>by
  rw [World.setCells]
  exact (Turn.set w ⟨b,o,none⟩ u).trans (Turn.cells vs _ b (o+1)) (fun _ _ e=>e)
theorem MapG.turn {b:Nat} {G:List (Nat × Value)} (h:MapG w b G) (ht:Turn S0 w w') (hn:¬ S0 b):MapG w' b G:=by
 obtain ⟨es,clock,hb,h1,h2⟩:=h
 exact ⟨es,clock,(ht.block b (Array.getElem?_eq_some_iff.1 hb).1 hn).trans hb,h1,h2⟩
theorem Fam.turn {B:Nat} {L:List (Value × List Int)} (h:Fam w B L) (ht:Turn S0 w w') (hn:∀ x ∈ L,∀ k,x.1.ownBlock=some k→¬ S0 k):Fam w' B L :=
 ⟨fun x hx=>Q5d (h.own x hx) ht (hn x hx),h.apart⟩
end
def stL (regs:List Int) (vW:Value) (at_:Int):List Value:=regs.map (Value.int .i64) ++ [vW,.int .i64 at_]
theorem Q6g {regs:List Int} (h:regs.length=10) (vW:Value) (at_:Int):(stL regs vW at_).length=12:=by simp [stL,h]
theorem Qbu (regs:List Int) (ov:Option Addr) (n cap:Nat) (at_:Int):(stL regs (.slice ov n cap) at_).toArray.all (·.oneCell')=true:=by simp [stL,Value.oneCell']
theorem Q19:(Try.prog.info? 108).map (·.size)=some 12:=by kernel_rfl
theorem Q8b {l:List Int} (h:l.length=10):∃ x0 x1 x2 x3 x4 x5 x6 x7 x8 x9,l=[x0,x1,x2,x3,x4,x5,x6,x7,x8,x9]:=by
 match l,h with
 | [x0,x1,x2,x3,x4,x5,x6,x7,x8,x9],_=>exact ⟨x0,x1,x2,x3,x4,x5,x6,x7,x8,x9,rfl⟩
theorem Qpn {vR vC vS vM vW vB:Value} {fin value:Int} {steps at_:Nat} {regs:List Int} (j:Nat) (v:Value) (h:(stL regs vW at_)[j]? = some v):(Q18 vR vC fin value steps vS vM regs vW at_ vB).toArray[7+j]? = some v:=by
 rw [List.getElem?_toArray]
 unfold Q18
 rw [List.getElem?_append_right (by simp)]
 have hj:=(List.getElem?_eq_some_iff.1 h).1
 have e:regs.map (Value.int .i64) ++ [vW,.int .i64 (at_:Int),vB]=stL regs vW at_ ++ [vB]:=by simp [stL]
 rw [e,List.getElem?_append_left (by simpa using hj)]
 simpa using h
theorem Qfj {g:Nat} {V:QV} {S:Spc} (j:Nat) (v:Value) (h:(stL V.bR V.bW V.bA)[j]? = some v):(Q2c g V S).toArray[5+j]? = some v:=by
 rw [List.getElem?_toArray]
 unfold Q2c
 rw [List.getElem?_append_right (by simp)]
 have hj:=(List.getElem?_eq_some_iff.1 h).1
 have e:V.bR.map (Value.int .i64) ++ [V.bW,.int .i64 V.bA,.map V.bb]=stL V.bR V.bW V.bA ++ [.map V.bb]:=by simp [stL]
 rw [e,List.getElem?_append_left (by simpa using hj)]
 simpa using h
theorem Qaq {vR vC vS vM vW vB vW':Value} {fin value:Int} {steps at_ at':Nat} {regs regs':List Int} (h:regs.length=10) (h':regs'.length=10) :
  Q4e (Q18 vR vC fin value steps vS vM regs vW at_ vB).toArray 7 (stL regs' vW' at')=(Q18 vR vC fin value steps vS vM regs' vW' at' vB).toArray:=by
 obtain ⟨x0,x1,x2,x3,x4,x5,x6,x7,x8,x9,rfl⟩:=Q8b h
 obtain ⟨y0,y1,y2,y3,y4,y5,y6,y7,y8,y9,rfl⟩:=Q8b h'
 simp [Q18,stL,Q4e]
theorem Qfk {g:Nat} {V:QV} {S:Spc} {regs':List Int} {vW':Value} {a':Int} (h:V.bR.length=10) (h':regs'.length=10) :
  Q4e (Q2c g V S).toArray 5 (stL regs' vW' a')=(Q2c g { V with bR:=regs',bW:=vW',bA:=a' } S).toArray:=by
 obtain ⟨vS,vW,vX,bW,G,GB,bm,bb,bR,bA,lf⟩:=V
 simp only at h
 obtain ⟨x0,x1,x2,x3,x4,x5,x6,x7,x8,x9,rfl⟩:=Q8b h
 obtain ⟨y0,y1,y2,y3,y4,y5,y6,y7,y8,y9,rfl⟩:=Q8b h'
 simp [Q2c,stL,Q4e]
theorem Qlx {g:Nat} {V:QV} {S:Spc} {bb:Option Nat} (h:V.bR.length=10):(Q2c g V S).toArray.setIfInBounds 17 (.map bb)=(Q2c g { V with bb:=bb } S).toArray:=by
 simp [Q2c,List.set_append,h]
theorem Qkh {B:Nat} (regs:List Int) (h10:regs.length=10) (at_:Int) (l:List Int) (vW:Value) (w:World) (h:w.ownsRow B 2 1 vW l.length (l.map (Value.int .i64))) (hl:l.length≤1000000) :
  Calls Try.prog 148 #[.agg (stL regs vW at_).toArray] w fun e w' => ∃ u,e=.returned (.agg (stL regs u at_).toArray)∧w'.ownsRow w.heap.size 2 1 u l.length (l.map (Value.int .i64))∧Ext w w':=by
 obtain ⟨x0,x1,x2,x3,x4,x5,x6,x7,x8,x9,rfl⟩:=Q8b h10
 exact Qki (B:=B) x0 x1 x2 x3 x4 x5 x6 x7 x8 x9 at_ l vW w h hl
section
variable {wB w w' : World} {N g r : Nat} {vR vC vB : Value} {bases : List Int} {V V' : QV} {S S' : Spc}
theorem QSt.leave_ (h:QSt wB w N g r vR vC vB bases V S) (ha:S.ahead=false) {w2:World} (hx:Ext ((w.setCell ⟨r,3,none⟩ (.bool true)).setCell ⟨r,4,none⟩ (.int .i64 13)) w2) {bW:Value} {GB:Grp} {bb:Nat}
  (hF:Fam w2 w.heap.size ((bW,S.pl.words) :: Q21 GB)) (hM:MapG w2 bb (Q1m GB)) (hbb:w.heap.size≤bb) (hP:Q7c N GB S.pl.past) :
  QSt wB ((w2.setCells r 5 (stL S.pl.regs bW S.pl.at_)).setCell ⟨r,17,none⟩ (.map (some bb))) N g r vR vC vB bases { V with bW:=bW,GB:=GB,bb:=some bb,bR:=S.pl.regs,bA:=S.pl.at_,lf:=13 } S.leave ∧
   Q1r w ((w2.setCells r 5 (stL S.pl.regs bW S.pl.at_)).setCell ⟨r,17,none⟩ (.map (some bb))):=by
 have hs:S.leave={ S with ahead:=true,since := -1,back:=S.pl }:=by unfold Spc.leave;rw [if_neg (by rw [ha];simp)]
 have hm10:S.pl.regs.length=10:=h.mach.len
 have T2:Turn (fun j=>j=r) w2 ((w2.setCells r 5 (stL S.pl.regs bW S.pl.at_)).setCell ⟨r,17,none⟩ (.map (some bb))) :=
  (Turn.cells _ w2 r 5).trans (Turn.set _ ⟨r,17,none⟩ _) (fun _ _ e=>e)
 have T:Turn (fun j=>j=r) w ((w2.setCells r 5 (stL S.pl.regs bW S.pl.at_)).setCell ⟨r,17,none⟩ (.map (some bb))) :=
  (((Turn.set w ⟨r,3,none⟩ (.bool true)).trans (Turn.set _ ⟨r,4,none⟩ (.int .i64 13)) (fun _ _ e=>e)).ext hx).trans T2 (fun _ _ e=>e)
 have hbx:=((((h.box.set_ 3 (.bool true)).set_ 4 (.int .i64 13)).ext hx).setCells (stL S.pl.regs bW S.pl.at_) 5).set_ 17 (.map (some bb))
 have e1:(((Q2c g V S).toArray.setIfInBounds 3 (.bool true)).setIfInBounds 4 (.int .i64 13))=(Q2c g { V with lf:=13 } { S with ahead:=true,since := -1,back:=S.pl }).toArray:=rfl
 rw [e1,Qfk (V:={ V with lf:=13 }) h.ten hm10,Qlx (V:={ V with lf:=13,bR:=S.pl.regs,bW:=bW,bA:=S.pl.at_ }) hm10] at hbx
 have hown:∀ {B:Nat} {e:TypeId} {s n:Nat} {v:Value} {xs:List Value},w.ownsRow B e s v n xs→e≠132 → ∀ k,v.ownBlock=some k→¬ (k=r):=fun ho he k hk e=>Q0j ho h.box he (by rw [hk,e])
 have hsz:=h.ext.size
 have hr2:r < w.heap.size:=h.box.lt
 have hx0:w.heap.size≤w2.heap.size:=by have:=hx.size;simpa using this
 have hf0:Fam w wB.heap.size ((V.vW,S.pl.words) :: Q21 V.G):=by
  have:=h.fam
  unfold Q45 at this
  rw [if_neg (by rw [ha];simp),List.append_nil] at this
  exact this
 have hf1:=hf0.turn T (fun x hx' k hk=>hown (hf0.own x hx') (by decide) k hk)
 have hf2:=hF.turn T2 (fun x hx' k hk e=>by
  have:=(hF.size hx' k hk).1
  omega)
 rw [hs]
 refine ⟨⟨⟨h.mach.box.turn T (fun e=>h.rg e.symm),Q5d h.mach.sn T (hown h.mach.sn (by decide)),Q5d h.mach.ws T (hown h.mach.ws (by decide)),Q5d h.mach.bs T (hown h.mach.bs (by decide)),h.mach.len,h.mach.hg⟩,hbx,?_,h.map.turn T (h.map.ne_blk h.box),h.past,fun _=>⟨⟨bb,rfl,hM.turn T2 (by omega),?_,by show wB.heap.size≤bb;omega⟩,hP,rfl,rfl,rfl⟩,hm10,h.scr,?_,h.hr,h.hm⟩,?_⟩
 ·exact hf1.app hf2 hsz (fun x hx' k hk=>(hf0.size hx' k hk).2)
 ·have:=h.map.lt
  show bb≠V.bm
  omega
 ·exact Below.trans h.ext (T.below hsz (fun j e=>by rw [e];exact h.hr))
 ·exact fun k t cs hk hn=>hk.turn T (Blk.ne_ hk h.box (fun e=>hn (by rw [e];exact Qdb)))
theorem QSt.back_ (h:QSt wB w N g r vR vC vB bases V S) (ha:S.ahead=true) {w2:World} (hx:Ext (w.setCell ⟨r,3,none⟩ (.bool false)) w2) :
  QSt wB ((w2.setCells g 7 (stL V.bR V.bW V.bA)).setCell ⟨r,2,none⟩ (.map V.bb)) N g r vR vC vB bases { V with vW:=V.bW,G:=V.GB,bm:=V.bb.getD 0 } { S with ahead:=false,pl:=S.back } ∧
   Q1r w ((w2.setCells g 7 (stL V.bR V.bW V.bA)).setCell ⟨r,2,none⟩ (.map V.bb)):=by
 obtain ⟨⟨bb,hb1,hb2,hb3,hb4⟩,hp,hrg,hat,hlf⟩:=h.back ha
 have T:Turn (fun j=>j=r∨j=g) w ((w2.setCells g 7 (stL V.bR V.bW V.bA)).setCell ⟨r,2,none⟩ (.map V.bb)) :=
  ((((Turn.set w ⟨r,3,none⟩ (.bool false)).mono (fun _ e=>.inl e)).ext hx).trans (Turn.cells (stL V.bR V.bW V.bA) _ g 7) (fun _ _ e=>.inr e)).trans (Turn.set _ ⟨r,2,none⟩ _) (fun _ _ e=>.inl e)
 have hne:=h.rg
 have hbx:=(((h.box.set_ 3 (.bool false)).ext hx).farCells (stL V.bR V.bW V.bA) hne 7).set_ 2 (.map V.bb)
 have hmx:=(((h.mach.box.far (p:=⟨r,3,none⟩) (Ne.symm hne) (.bool false)).ext hx).setCells (stL V.bR V.bW V.bA) 7).far (p:=⟨r,2,none⟩) (Ne.symm hne) (.map V.bb)
 have e0:Q4e (Q18 vR vC (Q25 S).fin (Q25 S).value (Q25 S).steps V.vS (.slice none 0 0) (Q25 S).regs V.vW (Q25 S).at_ vB).toArray 7 (stL V.bR V.bW V.bA)=(Q18 vR vC (Q25 S).fin (Q25 S).value (Q25 S).steps V.vS (.slice none 0 0) V.bR V.bW S.back.at_ vB).toArray:=by
  rw [hat]
  exact Qaq h.mach.len h.ten
 rw [e0] at hmx
 have hown:∀ {B:Nat} {e:TypeId} {s n:Nat} {v:Value} {xs:List Value},w.ownsRow B e s v n xs→e≠132 → e≠110 → ∀ k,v.ownBlock=some k→¬ (k=r∨k=g):=by
  rintro B e s n v xs ho h1 h2 k hk (e | e)
  ·exact Q0j ho h.box h1 (by rw [hk,e])
  ·exact Q0j ho h.mach.box h2 (by rw [hk,e])
 have hf0:Fam w wB.heap.size ((V.bW,S.back.words) :: Q21 V.GB):=by
  refine h.fam.sub ?_
  unfold Q45
  rw [if_pos ha]
  exact List.sublist_append_right _ _
 have hws:=hf0.at_ (i:=0) rfl
 have hsz:=h.ext.size
 refine ⟨⟨⟨?_,Q5d h.mach.sn T (hown h.mach.sn (by decide) (by decide)),Q5d hws T (hown hws (by decide) (by decide)),Q5d h.mach.bs T (hown h.mach.bs (by decide) (by decide)),by show S.back.regs.length=10;rw [← hrg];exact h.ten,h.mach.hg⟩,?_,?_,?_,hp,fun e=>(by cases e),h.ten,h.scr,?_,h.hr,?_⟩,?_⟩
 ·rw [hrg] at hmx ⊢
  exact hmx
 ·have e2:V.bb=some (V.bb.getD 0):=by rw [hb1];rfl
  have e3:((Q2c g V S).toArray.setIfInBounds 3 (.bool false)).setIfInBounds 2 (.map (some (V.bb.getD 0)))=(Q2c g { V with vW:=V.bW,G:=V.GB,bm:=V.bb.getD 0 } { S with ahead:=false,pl:=S.back }).toArray:=rfl
  rw [← e3,← e2]
  exact hbx
 ·unfold Q45
  rw [if_neg (by simp),List.append_nil]
  exact hf0.turn T (fun x hx' k hk=>hown (hf0.own x hx') (by decide) (by decide) k hk)
 ·have:=hb2.turn T (by
   rintro (e | e)
   ·exact hb2.ne_blk h.box e
   ·exact hb2.ne_blk h.mach.box e)
  rw [hb1] at this ⊢
  exact this
 ·exact Below.trans h.ext (T.below hsz (by
   rintro j (e | e)
   ·rw [e];exact h.hr
   ·rw [e];exact h.mach.hg))
 ·show wB.heap.size≤V.bb.getD 0
  rw [hb1]
  exact hb4
 ·refine fun k t cs hk hn=>hk.turn T ?_
  rintro (e | e)
  ·exact Blk.ne_ hk h.box (fun e=>hn (by rw [e];exact Qdb)) e
  ·exact Blk.ne_ hk h.mach.box (fun e=>hn (by rw [e];exact Qdc)) e
end
theorem Qoa {w:World} {N n b:Nat} {G:Grp} {past:List (List Int)} (hM:MapG w b (Q1m G)) (hP:Q7c N G past) (hp:∀ l ∈ past,l.length≤n):∀ x ∈ G,x.2.2.length≤n:=by
 intro x hx
 have h1:=Qb9 (Qav hM) hx
 have h2:=hP.get x.1 (hP.lt x hx)
 unfold Q3e at h2
 rw [h1] at h2
 simp only [Option.map_some,Option.getD_some] at h2
 have h3:x.1 < past.length:=by rw [hP.len];exact hP.lt x hx
 rw [← h2]
 have:past.getD x.1 []=past[x.1]:=by simp [h3]
 rw [this]
 exact hp _ (List.getElem_mem h3)
def Qtt (wB w:World) (N g r:Nat) (vR vC vB:Value) (bases:List Int) (G:Grp) (S':Spc) (e:Ending) (w':World):Prop:=e=.returned (.tuple #[])∧∃ V',QSt wB w' N g r vR vC vB bases V' S'∧Q1r w w'∧V'.G=G
section
variable {wB w : World} {N g r : Nat} {vR vC vB : Value} {bases : List Int} {V : QV} {S : Spc}
set_option maxHeartbeats 4000000 in
set_option maxRecDepth 100000 in
theorem Qg2 {p:Q00} {n:Nat} (h:QSt wB w N g r vR vC vB bases V S) (hp:PlOk p n S.pl) (ht:Q14 p≤1000000) (hn:n≤1000000) :
  Calls Try.prog 140 #[.pointer (some ⟨r,0,none⟩)] w (Qtt wB w N g r vR vC vB bases V.G S.leave):=by
 have hrl:=h.box.lt
 have g3:w.cell? ⟨r,3,none⟩=some (.bool S.ahead)∧w.frozen? ⟨r,3,none⟩=false:=⟨by rw [h.box.cell];rfl,h.box.frozen _⟩
 have H:=Lib.hid h
 cases ha:S.ahead
 ·have g4:w.cell? ⟨r,4,none⟩=some (.int .i64 V.lf)∧w.frozen? ⟨r,4,none⟩=false:=⟨by rw [h.box.cell];rfl,h.box.frozen _⟩
  rw [ha] at g3
  have Ha:=Lib.hid ha
  have b1:=(h.box.set_ 3 (.bool true)).set_ 4 (.int .i64 13)
  have m1:=(h.mach.box.far (p:=⟨r,3,none⟩) (Ne.symm h.rg) (.bool true)).far (p:=⟨r,4,none⟩) (Ne.symm h.rg) (.int .i64 13)
  have T0:Turn (fun j=>j=r) w ((w.setCell ⟨r,3,none⟩ (.bool true)).setCell ⟨r,4,none⟩ (.int .i64 13)):=(Turn.set w ⟨r,3,none⟩ (.bool true)).trans (Turn.set _ ⟨r,4,none⟩ (.int .i64 13)) (fun _ _ e=>e)
  have hown:∀ {B:Nat} {e:TypeId} {s n:Nat} {v:Value} {xs:List Value},w.ownsRow B e s v n xs→e≠132 → ∀ k,v.ownBlock=some k→¬ (k=r):=fun ho he k hk e=>Q0j ho h.box he (by rw [hk,e])
  have hws:=Q5d h.mach.ws T0 (hown h.mach.ws (by decide))
  have hmp:=h.map.turn T0 (h.map.ne_blk h.box)
  have hGo:∀ x ∈ V.G,((w.setCell ⟨r,3,none⟩ (.bool true)).setCell ⟨r,4,none⟩ (.int .i64 13)).ownsRow wB.heap.size 2 1 x.2.1 x.2.2.length (x.2.2.map (Value.int .i64)):=fun x hx=>by
   have hx':(x.2.1,x.2.2) ∈ Q45 V S:=by
    unfold Q45
    refine List.mem_append_left _ (List.mem_cons_of_mem _ ?_)
    unfold Q21
    exact List.mem_map.2 ⟨x,hx,rfl⟩
   have ho:=h.fam.own _ hx'
   exact Q5d ho T0 (hown ho (by decide))
  have HL:=Lib.hid (Qoa h.map h.past (n:=n) (fun l hl=>(hp.past l hl).1))
  have Hws:=Lib.hid hws
  have Hmp:=Lib.hid hmp
  have HGo:=Lib.hid hGo
  have BB:=Lib.hid b1
  have MM:=Lib.hid m1
  have Hp:=Lib.hid hp
  have hm10:S.pl.regs.length=10:=h.mach.len
  have H10:=Lib.hid hm10
  have HLD:Hid (∀ j v,(stL S.pl.regs V.vW S.pl.at_)[j]? = some v→(Q18 vR vC S.fin S.value S.steps V.vS (.slice none 0 0) S.pl.regs V.vW S.pl.at_ vB).toArray[7+j]? = some v):=Lib.hid Qpn
  have hinfo:=Q19
  have hsl:(stL S.pl.regs V.vW S.pl.at_).length=12:=Q6g hm10 _ _
  rw [← hsl] at hinfo
  have Hinfo:=Lib.hid hinfo
  clear h ha b1 m1 T0 hown hws hmp hGo hp hinfo hsl hm10
  go_enter Try.func140,Try.ntmps140
  go_upto_region 3 with fail
  generalize hw0:(w.setCell ⟨r,3,none⟩ (.bool true)).setCell ⟨r,4,none⟩ (.int .i64 13)=w0 at *
  have hs0:w0.heap.size=w.heap.size:=by rw [← hw0];simp
  have q0:w0.cell? ⟨r,0,none⟩=some (.pointer (some ⟨g,0,none⟩)):=by rw [BB.out.cell];rfl
  have q2:w0.cell? ⟨r,2,none⟩=some (.map (some V.bm)):=by rw [BB.out.cell];rfl
  have k0:∀ Wx,Ext w0 Wx→Wx.cell? ⟨r,0,none⟩=some (.pointer (some ⟨g,0,none⟩)):=fun _ h=>h.kept q0
  have k2:∀ Wx,Ext w0 Wx→Wx.cell? ⟨r,2,none⟩=some (.map (some V.bm)):=fun _ h=>h.kept q2
  have hgl:=MM.out.lt
  have Hw0:=Lib.hid hw0
  clear g3 g4 hw0 q0 q2
  refine Q2d [9,14,15,16,17,18,19,20] 2 (by kernel_rfl) (by kernel_rfl) ?_
  repeat (first | (refine Q2o ?_ ?_;(decide)) | (refine Qe2 MM.out 7 (stL S.pl.regs V.vW S.pl.at_) HLD.out Try.underlying108 rfl Hinfo.out ?_ ?_ ?_ ?_;(decide);(first | rfl | (focus (go_simp;done)));exact ⟨_,rfl,rfl⟩;go_simp) | (refine Q2i ?_ ?_ ?_;(decide);(first | rfl | (focus (go_simp;done)));apply Exists.intro;refine ⟨fun wc hE=>?_,?_⟩;(go_simp;exact rfl);go_simp) | (refine Q2m ?_ ?_ ?_;(decide);(focus (go_simp;done));go_simp))
  refine Q2n ?_
  intro w3 hx
  have X3:=Lib.hid hx
  have hs3:=hx.size
  clear k0 k2 hx
  refine Q39 rfl ?_
  go_wp2_with fail
  have C:=Qkh S.pl.regs H10.out S.pl.at_ S.pl.words V.vW w3 (Q3p Hws.out X3.out) (by rw [Hp.out.wlen];exact ht)
  (with_reducible refine C.mono ?_)
  clear C
  rintro e w4 ⟨u,rfl,hO,hx4⟩
  obtain ⟨ou,cu,rfl⟩:=Q1e hO
  have X4:=Lib.hid (X3.out.trans hx4)
  have HO:=Lib.hid hO
  have hs4:=hx4.size
  clear hO hx4
  go_wp2
  refine ⟨X4.out,?_⟩
  refine Q39 rfl ?_
  go_wp2_with fail
  have C:=Qo9 (B:=wB.heap.size) V.G V.bm w4 (Hmp.out.ext X4.out) (fun x hx=>Q3p (HGo.out x hx) X4.out) (fun x hx=>Nat.le_trans (HL.out x hx) hn)
  (with_reducible refine C.mono ?_)
  clear C
  rintro e w5 ⟨bb,GB,rfl,hM,hF,hfind,hkeys,hx5,hbb⟩
  have X5:=Lib.hid (X4.out.trans hx5)
  have hs5:=hx5.size
  have hfw:Fam w4 w.heap.size [(Value.slice ou S.pl.words.length cu,S.pl.words)]:=⟨fun x hx=>by
   simp only [List.mem_singleton] at hx
   subst hx
   exact own_mono' HO.out (by omega),List.pairwise_singleton _ _⟩
  have hfam:=(hfw.ext hx5).app hF (by omega) (fun x hx k hk=>(hfw.size hx k hk).2)
  have hPI:Q7c N GB S.pl.past:=⟨H.out.past.len,fun x hx=>by
   obtain ⟨y,hy,e⟩:=hkeys x hx
   rw [← e]
   exact H.out.past.lt y hy,fun m hm=>by rw [hfind m];exact H.out.past.get m hm⟩
  have hx5w:=X5.out
  rw [← Hw0.out] at hx5w
  obtain ⟨h2,T2⟩:=H.out.leave_ Ha.out hx5w hfam hM (by omega) hPI
  have H2:=Lib.hid h2
  have T2:=Lib.hid T2
  have b5:=BB.out.ext X5.out
  have hbsz:5+(stL S.pl.regs (.slice ou S.pl.words.length cu) S.pl.at_).length≤(((Q2c g V S).toArray.setIfInBounds 3 (.bool true)).setIfInBounds 4 (.int .i64 13)).size:=by
   rw [Q6g H10.out]
   simp [Q2c,H.out.ten]
  have hinf:(Try.prog.info? 108).map (·.size)=some (stL S.pl.regs (.slice ou S.pl.words.length cu) S.pl.at_).length:=by rw [Q6g H10.out];exact Q19
  have B6:=Lib.hid (b5.setCells (stL S.pl.regs (.slice ou S.pl.words.length cu) S.pl.at_) 5)
  have B5:=Lib.hid b5
  have Hbsz:=Lib.hid hbsz
  have Hinf:=Lib.hid hinf
  have Hone:=Lib.hid (Qbu S.pl.regs ou S.pl.words.length cu S.pl.at_)
  have HC17:Hid ((w5.setCells r 5 (stL S.pl.regs (.slice ou S.pl.words.length cu) S.pl.at_)).cell? ⟨r,17,none⟩=some (.map V.bb)):=Lib.hid (by
   rw [B6.out.cell]
   have e1:(((Q2c g V S).toArray.setIfInBounds 3 (.bool true)).setIfInBounds 4 (.int .i64 13))=(Q2c g { V with lf:=13 } { S with ahead:=true }).toArray:=rfl
   rw [e1,Qfk (V:={ V with lf:=13 }) H.out.ten H10.out]
   simp [Q2c,H10.out])
  clear hM hF hfind hkeys hx5 hfw hfam hPI hx5w h2 b5 hbsz hinf
  go_wp2
  refine ⟨X5.out,?_⟩
  refine Q23 (Q10 rfl (Q10 rfl (Q10 rfl (Q10 rfl (Q10 rfl (Q10 rfl (Q2a))))))) ?_
  have hb6:=B6.out.lt
  have hb5:=B5.out.lt
  have c17:(w5.setCells r 5 (stL S.pl.regs (.slice ou S.pl.words.length cu) S.pl.at_)).cell? ⟨r,17,none⟩=some (.map V.bb)∧(w5.setCells r 5 (stL S.pl.regs (.slice ou S.pl.words.length cu) S.pl.at_)).frozen? ⟨r,17,none⟩=false:=⟨HC17.out,B6.out.frozen _⟩
  simp only [List.getElem_toArray,List.getElem_cons_succ,List.getElem_cons_zero]
  go_wp2_with (first | ((with_reducible refine Qbs B5.out 5 (stL S.pl.regs (.slice ou S.pl.words.length cu) S.pl.at_) Hbsz.out Hinf.out Hone.out ?_ ?_ ?_);rfl;rfl;(generalize w5.setCells r 5 (stL S.pl.regs (.slice ou S.pl.words.length cu) S.pl.at_)=w6 at *)))
  refine bodyPost_end (results_none rfl _ _ _) rfl ?_
  exact ⟨rfl,_,H2.out,T2.out,rfl⟩
 ·have hs:S.leave=S:=by unfold Spc.leave;rw [if_pos ha]
  have Hs:=Lib.hid hs
  rw [ha] at g3
  clear h ha hs
  go_enter Try.func140,Try.ntmps140
  go_wp2
  refine bodyPost_end (results_none rfl _ _ _) rfl ?_
  rw [Hs.out]
  exact ⟨rfl,V,H.out,Q1r.refl _,rfl⟩
theorem Qg1 {p:Q00} {n:Nat} (h:QSt wB w N g r vR vC vB bases V S) (hp:PlOk p n S.pl) (ht:Q14 p≤1000000) (hn:n≤1000000) :
  Calls Try.prog 140 #[.pointer (some ⟨r,0,none⟩)] w (Q7b wB w N g r vR vC vB bases S.leave (.tuple #[])) :=
 (Qg2 h hp ht hn).mono fun e w' ⟨h1,V',h2,h3,_⟩=>⟨h1,V',h2,h3⟩
theorem Qaa (h:QSt wB w N g r vR vC vB bases V S) (kind a b:Int) (hl:S.seen.length≤1000000) :
  Calls Try.prog 105 #[.pointer (some ⟨g,0,none⟩),.int .i64 kind,.int .i64 a,.int .i64 b] w (Q7b wB w N g r vR vC vB bases { S with seen:=S.seen ++ [⟨kind,a,b⟩] } (.tuple #[])):=by
 refine (Q6x w h.mach kind a b hl).mono ?_
 rintro e w' ⟨rfl,vS',hm,ht,-⟩
 obtain ⟨h1,h2⟩:=h.turn (S':={ S with seen:=S.seen ++ [⟨kind,a,b⟩] }) hm ht rfl rfl rfl rfl rfl rfl
 exact ⟨rfl,_,h1,h2⟩
set_option maxRecDepth 100000 in
set_option maxHeartbeats 4000000 in
theorem Qci (h:QSt wB w N g r vR vC vB bases V S) (ha:S.ahead=true) (hl:S.seen.length≤1000000) :
  Calls Try.prog 84 #[.pointer (some ⟨r,0,none⟩)] w (Q7b wB w N g r vR vC vB bases S.returns (.tuple #[])):=by
 have hrl:=h.box.lt
 have g0:w.cell? ⟨r,0,none⟩=some (.pointer (some ⟨g,0,none⟩)):=by rw [h.box.cell];rfl
 have H:=Lib.hid h
 clear h
 go_enter Try.func84,Try.ntmps84
 go_wp2_with fail
 have C:=Qaa H.out 4 0 0 hl
 (with_reducible refine C.mono ?_)
 clear C
 rintro e w1 ⟨rfl,V1,h1,T1⟩
 clear g0
 have hr1:=h1.box.lt
 have g3:w1.cell? ⟨r,3,none⟩=some (.bool S.ahead)∧w1.frozen? ⟨r,3,none⟩=false:=⟨by rw [h1.box.cell];rfl,h1.box.frozen _⟩
 have hrow:∃ ob cb,V1.bW=.slice ob S.back.words.length cb:=by
  have hf:=h1.fam
  unfold Q45 at hf
  rw [if_pos (show ({ S with seen:=S.seen ++ [⟨4,0,0⟩] }:Spc).ahead=true from ha)] at hf
  exact Q1e (hf.own (V1.bW,S.back.words) (List.mem_append_right _ List.mem_cons_self))
 obtain ⟨ob,cb,eb⟩:=hrow
 have hone:(stL V1.bR V1.bW V1.bA).toArray.all (·.oneCell')=true:=by rw [eb];exact Qbu _ _ _ _ _
 have b1:=h1.box.set_ 3 (.bool false)
 have e1:(Q2c g V1 { S with seen:=S.seen ++ [⟨4,0,0⟩] }).toArray.setIfInBounds 3 (.bool false)=(Q2c g V1 { S with ahead:=false }).toArray:=rfl
 rw [e1] at b1
 have m1:Blk (w1.setCell ⟨r,3,none⟩ (.bool false)) g 110 (Q18 vR vC S.fin S.value S.steps V1.vS (.slice none 0 0) S.pl.regs V1.vW S.pl.at_ vB).toArray:=h1.mach.box.far (p:=⟨r,3,none⟩) (Ne.symm h1.rg) (.bool false)
 have hinf:(Try.prog.info? 108).map (·.size)=some (stL V1.bR V1.bW V1.bA).length:=by rw [Q6g h1.ten];exact Q19
 have hms:7+(stL V1.bR V1.bW V1.bA).length≤(Q18 vR vC S.fin S.value S.steps V1.vS (.slice none 0 0) S.pl.regs V1.vW S.pl.at_ vB).toArray.size:=by
  have h10:S.pl.regs.length=10:=h1.mach.len
  rw [Q6g h1.ten,Qh5 h10]
  omega
 have B1:=Lib.hid b1
 have M1:=Lib.hid m1
 have Hms:=Lib.hid hms
 have Hinf:=Lib.hid hinf
 have Hone:=Lib.hid hone
 have Heb:=Lib.hid eb
 have H1:=Lib.hid h1
 have T1:=Lib.hid T1
 have HLD:Hid (∀ j v,(stL V1.bR V1.bW V1.bA)[j]? = some v→(Q2c g V1 { S with ahead:=false }).toArray[5+j]? = some v):=Lib.hid Qfj
 clear h1 eb hone b1 m1 e1 hinf hms
 go_upto_region 3 with fail
 generalize hw2:w1.setCell ⟨r,3,none⟩ (.bool false)=w2 at *
 have Hw2:=Lib.hid hw2
 have q0:w2.cell? ⟨r,0,none⟩=some (.pointer (some ⟨g,0,none⟩)):=by rw [B1.out.cell];rfl
 have q17:w2.cell? ⟨r,17,none⟩=some (.map V1.bb):=by
  rw [B1.out.cell]
  obtain ⟨x0,x1,x2,x3,x4,x5,x6,x7,x8,x9,ex⟩:=Q8b H1.out.ten
  have ex:V1.bR=[x0,x1,x2,x3,x4,x5,x6,x7,x8,x9]:=ex
  unfold Q2c
  rw [ex]
  rfl
 have hr2:=B1.out.lt
 have hg2:=M1.out.lt
 have k0:∀ Wx,Ext w2 Wx→Wx.cell? ⟨r,0,none⟩=some (.pointer (some ⟨g,0,none⟩)):=fun _ h=>h.kept q0
 have k17:∀ Wx,Ext w2 Wx→Wx.cell? ⟨r,17,none⟩=some (.map V1.bb):=fun _ h=>h.kept q17
 clear g3 q0 q17 hw2
 refine Q2d [13,14,15,16,17,18] 0 (by kernel_rfl) (by kernel_rfl) ?_
 repeat (first | (refine Q2o ?_ ?_;(decide)) | (refine Qe2 B1.out 5 (stL V1.bR V1.bW V1.bA) HLD.out Try.underlying108 rfl Hinf.out ?_ ?_ ?_ ?_;(decide);(first | rfl | (focus (go_simp;done)));exact ⟨_,rfl,rfl⟩;go_simp) | (refine Q2i ?_ ?_ ?_;(decide);(first | rfl | (focus (go_simp;done)));apply Exists.intro;refine ⟨fun wc hE=>?_,?_⟩;(go_simp;exact rfl);go_simp) | (refine Q2m ?_ ?_ ?_;(decide);(focus (go_simp;done));go_simp))
 refine Q2n ?_
 intro w3 hx
 have b2:=B1.out.ext hx
 have B2:=Lib.hid (b2.farCells (stL V1.bR V1.bW V1.bA) H1.out.rg 7)
 have M2:=Lib.hid (M1.out.ext hx)
 have hr3:=b2.lt
 have hg3:=M2.out.lt
 have hr4:=B2.out.lt
 have c2:(w3.setCells g 7 (stL V1.bR V1.bW V1.bA)).cell? ⟨r,2,none⟩=some (.map (some V1.bm))∧(w3.setCells g 7 (stL V1.bR V1.bW V1.bA)).frozen? ⟨r,2,none⟩=false:=⟨by rw [B2.out.cell];rfl,B2.out.frozen _⟩
 rw [← Hw2.out] at hx
 obtain ⟨h2,T2⟩:=H1.out.back_ ha hx
 have H2:=Lib.hid h2
 have T:=Lib.hid (T1.out.trans T2)
 clear k0 k17 b2 hx h2 T2
 refine Q23 (Q10 rfl (Q10 rfl (Q10 rfl (Q10 rfl (Q10 rfl (Q10 rfl (Q2a))))))) ?_
 simp only [List.getElem_toArray,List.getElem_cons_succ,List.getElem_cons_zero]
 go_wp2_with (first | ((with_reducible refine Qbs M2.out 7 (stL V1.bR V1.bW V1.bA) Hms.out Hinf.out Hone.out ?_ ?_ ?_);rfl;rfl;(generalize w3.setCells g 7 (stL V1.bR V1.bW V1.bA)=w4 at *)))
 refine bodyPost_end (results_none rfl _ _ _) rfl ?_
 exact ⟨rfl,_,H2.out,T.out⟩
end
section
variable {wB w : World} {N g r : Nat} {vR vC vB : Value} {bases : List Int} {V : QV} {S : Spc}
theorem QSt.atCell (h:QSt wB w N g r vR vC vB bases V S):w.cell? ⟨g,18,none⟩=some (.int .i64 (S.pl.at_:Int))∧w.frozen? ⟨g,18,none⟩=false:=by
 obtain ⟨-,-,-,-,-,-,-,-,g18,-⟩:=h.mach.cells
 exact g18
theorem QSt.ptrCell (h:QSt wB w N g r vR vC vB bases V S):w.cell? ⟨r,0,none⟩=some (.pointer (some ⟨g,0,none⟩)):=by rw [h.box.cell];rfl
theorem Q7o (h:QSt wB w N g r vR vC vB bases V S) {a:Int} (ha:okIn 10 a=true):w.cell? ⟨g,7+a.toNat,none⟩=some (.int .i64 (rg S.pl.regs a))∧w.frozen? ⟨g,7+a.toNat,none⟩=false:=h.mach.reg ha
set_option maxRecDepth 100000 in
set_option maxHeartbeats 8000000 in
theorem Qnm {p:Q00} {m:Nat} (i:LIns) (h:QSt wB w N g r vR vC vB bases V S) (hp:PlOk p m S.pl) (ht:Q14 p≤1000000) (hm:m≤1000000) (hi:Q01 p 10 i=true) (h8:i.op=8) (hat:S.pl.at_ < p.code.length) (hcl:p.code.length≤1000000) :
  Calls Try.prog 119 #[.pointer (some ⟨r,0,none⟩),insV i] w (Q7b wB w N g r vR vC vB bases (Q4u i S) (.tuple #[])):=by
 have Hat:=Lib.hid hat
 have Hp:=Lib.hid hp
 have H:=Lib.hid h
 have HT:Hid (Q4u i S=Q4u i S):=Lib.hid rfl
 generalize hT:Q4u i S=T at *
 replace HT:=Lib.hid hT
 obtain ⟨op,a,b,c,n⟩:=i
 simp only at h8
 subst h8
 have hn:=(Q2e hi).2.2.2.2.2.2.2.2.2.1 (.inr rfl)
 obtain ⟨ha,hb,-,-⟩:=(Q2e hi).2.2.2.2.2.1 rfl
 simp only at hn ha hb
 have Hn:Hid (n=((n.toNat:Nat):Int)):=Lib.hid (by omega)
 have Hnl:Hid (n.toNat < p.code.length):=Lib.hid hn.2
 obtain ⟨a0,a1⟩:=Q08.1 ha
 obtain ⟨b0,b1⟩:=Q08.1 hb
 have hixr:=Q53
 unfold insV
 simp only
 have Ha:=Lib.hid ha
 have Hb:=Lib.hid hb
 have hrl:=h.box.lt
 have hgl:=h.mach.box.lt
 clear h hp hi hT hn ha hb
 go_enter Try.func119,Try.ntmps119
 go_upto_region 1 with fail
 obtain ⟨w0,e,he,hW,hs0,hx0,c0,c1,c2,c3,c4⟩:=new5 w 70 (.int .i64 8) (.int .i64 a) (.int .i64 b) (.int .i64 c) (.int .i64 n)
 have bI:Blk w0 e 70 #[.int .i64 8,.int .i64 a,.int .i64 b,.int .i64 c,.int .i64 n]:=by rw [← hW,← he];exact Blk.new _ _ _
 rw [hW,he]
 have X:=Lib.hid hx0
 have BI:=Lib.hid bI
 have hel:=bI.lt
 have P0:=H.out.extend hx0
 have hrl0:=P0.box.lt
 have hgl0:=P0.mach.box.lt
 have k0:∀ W,Ext w0 W→W.cell? ⟨r,0,none⟩=some (.pointer (some ⟨g,0,none⟩)):=fun _ h=>h.kept P0.ptrCell
 have k18:∀ W,Ext w0 W→W.cell? ⟨g,18,none⟩=some (.int .i64 (S.pl.at_:Int)):=fun _ h=>h.kept P0.atCell.1
 have k4:∀ W,Ext w0 W→W.cell? ⟨e,4,none⟩=some (.int .i64 n):=fun _ h=>h.kept (by rw [BI.out.cell];rfl)
 clear hW hs0 hx0 c0 c1 c2 c3 c4 he bI P0 hrl hgl
 go_upto_region 2 with fail
 refine Q0z 13 (by kernel_rfl) (by kernel_rfl) ?_
 simp only [List.take_succ_cons,List.take_zero,List.drop_succ_cons,List.drop_zero]
 repeat (first | (refine Q0p ?_ ?_ (fun wc hE=>?_) ?_;(decide);rfl;(focus (go_simp;done));go_simp) | (refine Q0h ?_ ?_ ?_;(decide);(first | rfl | (focus (go_simp;done)));apply Exists.intro;refine ⟨fun wc hE=>?_,?_⟩;(go_simp;exact rfl);go_simp) | (refine Q0q ?_ ?_ ?_;(decide);(first | rfl | (focus (go_simp;done)));apply Exists.intro;refine ⟨fun wc hE=>?_,?_⟩;(go_simp;(first | fail));go_simp) | (refine Q0n ?_ ?_ ?_;(decide);(focus (go_simp;done));go_simp))
 refine Q0o ?_
 intro w1 hx
 have X:=Lib.hid (X.out.trans hx)
 have BI:=Lib.hid (BI.out.ext hx)
 have P1:=H.out.extend X.out
 have hrl1:=P1.box.lt
 have hgl1:=P1.mach.box.lt
 have hel1:=hx.lt hel
 clear k0 k18 k4 hx hel hrl0 hgl0
 have k0:∀ W,Ext w1 W→W.cell? ⟨r,0,none⟩=some (.pointer (some ⟨g,0,none⟩)):=fun _ h=>h.kept P1.ptrCell
 have k1:∀ W,Ext w1 W→W.cell? ⟨e,1,none⟩=some (.int .i64 a):=fun _ h=>h.kept (by rw [BI.out.cell];rfl)
 have k2:∀ W,Ext w1 W→W.cell? ⟨e,2,none⟩=some (.int .i64 b):=fun _ h=>h.kept (by rw [BI.out.cell];rfl)
 have k3:∀ W,Ext w1 W→W.cell? ⟨e,3,none⟩=some (.int .i64 c):=fun _ h=>h.kept (by rw [BI.out.cell];rfl)
 have ma:∀ W,Ext w1 W→W.cell? ⟨g,7+a.toNat,none⟩=some (.int .i64 (rg S.pl.regs a)):=fun _ h=>h.kept (Q7o P1 Ha.out).1
 have mb:∀ W,Ext w1 W→W.cell? ⟨g,7+b.toNat,none⟩=some (.int .i64 (rg S.pl.regs b)):=fun _ h=>h.kept (Q7o P1 Hb.out).1
 clear P1
 cases hh:Q3d c (rg S.pl.regs a) (rg S.pl.regs b)
 ·have HTs:Hid (T=if S.choice=0 then (S.goTo (S.pl.at_+1)).chosen else ((S.goTo (S.pl.at_+1)).chosen).leave.goTo (n.toNat)):=Lib.hid (by
   rw [← HT.out]
   unfold Q4u
   simp only
   rw [hh]
   rfl)
  have C8:∀ W,Calls Try.prog 106 #[.int .i64 c,.int .i64 (rg S.pl.regs a),.int .i64 (rg S.pl.regs b)] W fun e w'=>e=.returned (.bool false)∧Ext W w':=fun W=>by
   have:=Qgp c (rg S.pl.regs a) (rg S.pl.regs b) W
   rw [hh] at this
   exact this
  have C8:=Lib.hid C8
  clear hh
  go_upto_region 3 with fail
  refine Q0z 25 (by kernel_rfl) (by kernel_rfl) ?_
  simp only [List.take_succ_cons,List.take_zero,List.drop_succ_cons,List.drop_zero]
  repeat (first | (refine Q0p ?_ ?_ (fun wc hE=>?_) ?_;(decide);rfl;(focus (go_simp;done));go_simp) | (refine Q0h ?_ ?_ ?_;(decide);(first | rfl | (focus (go_simp;done)));apply Exists.intro;refine ⟨fun wc hE=>?_,?_⟩;(go_simp;exact rfl);go_simp) | (refine Q0q ?_ ?_ ?_;(decide);(first | rfl | (focus (go_simp;done)));apply Exists.intro;refine ⟨fun wc hE=>?_,?_⟩;(go_simp;(first | (with_reducible exact Q1p (C8.out _))));go_simp) | (refine Q0n ?_ ?_ ?_;(decide);(focus (go_simp;done));go_simp))
  refine Q0o ?_
  intro w2 hx
  have X:=Lib.hid (X.out.trans hx)
  have P2:=H.out.extend X.out
  have g0:=P2.ptrCell
  have g18:=P2.atCell
  have hrl2:=P2.box.lt
  have hgl2:=P2.mach.box.lt
  have P3:=P2.at__ (S.pl.at_+1)
  have T3:=(Q1r.ofExt X.out).trans (P2.stayM 18 (.int .i64 ((S.pl.at_+1:Nat):Int)))
  rw [show ((S.pl.at_+1:Nat):Int)=(S.pl.at_:Int)+1 by omega] at P3 T3
  have P3:=Lib.hid P3
  have T3:=Lib.hid T3
  have Hpl:=Lib.hid (Hp.out.goTo (k:=S.pl.at_+1) (by have:=Hat.out;omega))
  clear k0 k1 k2 k3 ma mb C8 hx P2
  go_wp2_with fail
  have C:=Qcj P3.out
  (with_reducible refine C.mono ?_)
  clear C
  rintro er w4 ⟨rfl,V4,P4,T4⟩
  have hch:(S.goTo (S.pl.at_+1)).choice=S.choice:=rfl
  rw [hch]
  have T4:=Lib.hid (T3.out.trans T4)
  have P4:=Lib.hid P4
  clear hch g0 g18
  by_cases hz:S.choice=0
  ·rw [hz]
   have HTz:=Lib.hid (HTs.out.trans (if_pos hz))
   clear hz
   go_wp2
   refine bodyPost_end (results_none rfl _ _ _) rfl ?_
   rw [HTz.out]
   exact ⟨rfl,_,P4.out,T4.out⟩
  ·have HTz:=Lib.hid (HTs.out.trans (if_neg hz))
   have q0:(S.choice != (0:Int))=true:=by simpa using hz
   clear hz HTs
   generalize S.choice=ch at *
   go_wp2_with fail
   have C:=Qg1 P4.out Hpl.out ht hm
   (with_reducible refine C.mono ?_)
   clear C
   rintro er w5 ⟨rfl,V5,P5,T5⟩
   have g0:=P5.ptrCell
   have g18:=P5.atCell
   have hrl5:=P5.box.lt
   have hgl5:=P5.mach.box.lt
   have P7:=P5.at__ (n.toNat)
   have T7:=(T4.out.trans T5).trans (P5.stayM 18 (.int .i64 ((n.toNat:Nat):Int)))
   rw [← Hn.out] at P7 T7
   have P7:=Lib.hid P7
   have T7:=Lib.hid T7
   generalize (((S.goTo (S.pl.at_+1)).chosen).leave).pl.at_=aa at *
   clear P5 T5 q0
   go_wp2
   refine bodyPost_end (results_none rfl _ _ _) rfl ?_
   rw [HTz.out]
   exact ⟨rfl,_,P7.out,T7.out⟩
 ·have HTs:Hid (T=if S.choice=0 then (S.goTo (n.toNat)).chosen else ((S.goTo (n.toNat)).chosen).leave.goTo (S.pl.at_+1)):=Lib.hid (by
   rw [← HT.out]
   unfold Q4u
   simp only
   rw [hh]
   rfl)
  have C8:∀ W,Calls Try.prog 106 #[.int .i64 c,.int .i64 (rg S.pl.regs a),.int .i64 (rg S.pl.regs b)] W fun e w'=>e=.returned (.bool true)∧Ext W w':=fun W=>by
   have:=Qgp c (rg S.pl.regs a) (rg S.pl.regs b) W
   rw [hh] at this
   exact this
  have C8:=Lib.hid C8
  clear hh
  go_upto_region 3 with fail
  refine Q0z 25 (by kernel_rfl) (by kernel_rfl) ?_
  simp only [List.take_succ_cons,List.take_zero,List.drop_succ_cons,List.drop_zero]
  repeat (first | (refine Q0p ?_ ?_ (fun wc hE=>?_) ?_;(decide);rfl;(focus (go_simp;done));go_simp) | (refine Q0h ?_ ?_ ?_;(decide);(first | rfl | (focus (go_simp;done)));apply Exists.intro;refine ⟨fun wc hE=>?_,?_⟩;(go_simp;exact rfl);go_simp) | (refine Q0q ?_ ?_ ?_;(decide);(first | rfl | (focus (go_simp;done)));apply Exists.intro;refine ⟨fun wc hE=>?_,?_⟩;(go_simp;(first | (with_reducible exact Q1p (C8.out _))));go_simp) | (refine Q0n ?_ ?_ ?_;(decide);(focus (go_simp;done));go_simp))
  refine Q0o ?_
  intro w2 hx
  have X:=Lib.hid (X.out.trans hx)
  have P2:=H.out.extend X.out
  have g0:=P2.ptrCell
  have g18:=P2.atCell
  have hrl2:=P2.box.lt
  have hgl2:=P2.mach.box.lt
  have P3:=P2.at__ (n.toNat)
  have T3:=(Q1r.ofExt X.out).trans (P2.stayM 18 (.int .i64 ((n.toNat:Nat):Int)))
  rw [← Hn.out] at P3 T3
  have P3:=Lib.hid P3
  have T3:=Lib.hid T3
  have Hpl:=Lib.hid (Hp.out.goTo (k:=n.toNat) (by have:=Hnl.out;omega))
  clear k0 k1 k2 k3 ma mb C8 hx P2
  go_wp2_with fail
  have C:=Qcj P3.out
  (with_reducible refine C.mono ?_)
  clear C
  rintro er w4 ⟨rfl,V4,P4,T4⟩
  have hch:(S.goTo (n.toNat)).choice=S.choice:=rfl
  rw [hch]
  have T4:=Lib.hid (T3.out.trans T4)
  have P4:=Lib.hid P4
  clear hch g0 g18
  by_cases hz:S.choice=0
  ·rw [hz]
   have HTz:=Lib.hid (HTs.out.trans (if_pos hz))
   clear hz
   go_wp2
   refine bodyPost_end (results_none rfl _ _ _) rfl ?_
   rw [HTz.out]
   exact ⟨rfl,_,P4.out,T4.out⟩
  ·have HTz:=Lib.hid (HTs.out.trans (if_neg hz))
   have q0:(S.choice != (0:Int))=true:=by simpa using hz
   clear hz HTs
   generalize S.choice=ch at *
   go_wp2_with fail
   have C:=Qg1 P4.out Hpl.out ht hm
   (with_reducible refine C.mono ?_)
   clear C
   rintro er w5 ⟨rfl,V5,P5,T5⟩
   have g0:=P5.ptrCell
   have g18:=P5.atCell
   have hrl5:=P5.box.lt
   have hgl5:=P5.mach.box.lt
   have P7:=P5.at__ (S.pl.at_+1)
   have T7:=(T4.out.trans T5).trans (P5.stayM 18 (.int .i64 ((S.pl.at_+1:Nat):Int)))
   rw [show ((S.pl.at_+1:Nat):Int)=(S.pl.at_:Int)+1 by omega] at P7 T7
   have P7:=Lib.hid P7
   have T7:=Lib.hid T7
   generalize (((S.goTo (n.toNat)).chosen).leave).pl.at_=aa at *
   clear P5 T5 q0
   go_wp2
   refine bodyPost_end (results_none rfl _ _ _) rfl ?_
   rw [HTz.out]
   exact ⟨rfl,_,P7.out,T7.out⟩
end
theorem Qeh (w:World):(zeroValue 71).run Try.prog w=.ok (.slice none 0 0) w:=by kernel_rfl
theorem Qgd:Try.prog.underlying 130 = some (.map 3 71):=by kernel_rfl
theorem Qar {w:World} {B:Nat} {G:Grp} (hF:Fam w B (Q21 G)) (n:Nat):w.ownsRow B 2 1 (Q2g (Q1m G) n (.slice none 0 0)) (Q3e G n).length ((Q3e G n).map (Value.int .i64)):=by
 unfold Q2g Q3e Q1m
 rw [List.find?_map]
 cases he:List.find? ((fun p=>p.1 == n) ∘ fun x:Nat × Value × List Int=>(x.1,x.2.1)) G with
 | none =>
  have he':G.find? (fun x=>x.1 == n)=none:=he
  rw [he']
  exact World.ownsRow_nil _ _ _ _
 | some x =>
  have he':G.find? (fun x=>x.1 == n)=some x:=he
  rw [he']
  have hx:=List.mem_of_find?_eq_some he'
  exact hF.own (x.2.1,x.2.2) (List.mem_map.2 ⟨x,hx,rfl⟩)
theorem Q74:¬ Q6s 70 := by unfold Q6s;decide
section
variable {wB w : World} {N g r : Nat} {vR vC vB : Value} {bases : List Int} {V : QV} {S : Spc}
theorem QSt.famG (h:QSt wB w N g r vR vC vB bases V S):Fam w wB.heap.size (Q21 V.G):=by
 refine h.fam.sub ?_
 unfold Q45
 exact (List.sublist_cons_self _ _).trans (List.sublist_append_left _ _)
theorem QSt.pastCell (h:QSt wB w N g r vR vC vB bases V S):w.cell? ⟨r,2,none⟩=some (.map (some V.bm))∧w.frozen? ⟨r,2,none⟩=false:=⟨by rw [h.box.cell];rfl,h.box.frozen _⟩
theorem QSt.wordsCell (h:QSt wB w N g r vR vC vB bases V S):w.cell? ⟨g,17,none⟩=some V.vW:=by
 obtain ⟨-,-,-,-,-,-,-,g17,-,-⟩:=h.mach.cells
 exact g17.1
set_option maxRecDepth 100000 in
set_option maxHeartbeats 8000000 in
theorem Qnj {p:Q00} {m:Nat} (i:LIns) (nn:Nat) (h:QSt wB w N g r vR vC vB bases V S) (hp:PlOk p m S.pl) (ht:Q14 p≤1000000) (hm:m≤1000000) (ha:okIn 10 i.a=true) (hn:nn < S.pl.words.length) (hat:S.pl.at_ < p.code.length) (hcl:p.code.length≤1000000) :
  Calls Try.prog 141 #[.pointer (some ⟨r,0,none⟩),insV i,.int .i64 (nn:Int)] w (Q7b wB w N g r vR vC vB bases (Q44 i nn S) (.tuple #[])):=by
 have Hat:=Lib.hid hat
 have Hp:=Lib.hid hp
 have H:=Lib.hid h
 have HT:Hid (Q44 i nn S=Q44 i nn S):=Lib.hid rfl
 generalize hT:Q44 i nn S=T at *
 replace HT:=Lib.hid hT
 have hNn:nn < N:=by rw [← h.past.len,hp.plen,← hp.wlen];exact hn
 have HNn:=Lib.hid hNn
 have Hn:=Lib.hid hn
 have hnl:nn < 1000000:=by have:=hp.wlen;omega
 have hll:=(hp.row nn).1
 obtain ⟨op,a,b,c,n⟩:=i
 simp only at ha
 obtain ⟨a0,a1⟩:=Q08.1 ha
 have Ha:=Lib.hid ha
 have hixr:=Q53
 unfold insV
 simp only
 have hrl:=h.box.lt
 have hgl:=h.mach.box.lt
 clear h hp hT ha hn hNn
 go_enter Try.func141,Try.ntmps141
 go_upto_region 1 with fail
 obtain ⟨w0,e,he,hW,hs0,hx0,c0,c1,c2,c3,c4⟩:=new5 w 70 (.int .i64 op) (.int .i64 a) (.int .i64 b) (.int .i64 c) (.int .i64 n)
 have bI:Blk w0 e 70 #[.int .i64 op,.int .i64 a,.int .i64 b,.int .i64 c,.int .i64 n]:=by rw [← hW,← he];exact Blk.new _ _ _
 rw [hW,he]
 have X:=Lib.hid hx0
 have BI:=Lib.hid bI
 have P0:=H.out.extend hx0
 have hrl0:=P0.box.lt
 have hgl0:=P0.mach.box.lt
 have g0:=P0.ptrCell
 have g18:=P0.atCell
 have P3:=P0.at__ (S.pl.at_+1)
 have T3:=(Q1r.ofExt X.out).trans (P0.stayM 18 (.int .i64 ((S.pl.at_+1:Nat):Int)))
 have I3:=P0.stayM 18 (.int .i64 ((S.pl.at_+1:Nat):Int)) _ _ _ bI Q74
 rw [show ((S.pl.at_+1:Nat):Int)=(S.pl.at_:Int)+1 by omega] at P3 T3 I3
 have P3:=Lib.hid P3
 have T3:=Lib.hid T3
 have I3:=Lib.hid I3
 have Hpl:=Lib.hid (Hp.out.goTo (k:=S.pl.at_+1) (by have:=Hat.out;omega))
 clear hW hs0 hx0 c0 c1 c2 c3 c4 he bI P0 hrl hgl
 go_wp2_with fail
 have C:=Qcj P3.out
 (with_reducible refine C.mono ?_)
 clear C
 rintro er w4 ⟨rfl,V4,P4,T4⟩
 have hch:(S.goTo (S.pl.at_+1)).choice=S.choice:=rfl
 rw [hch]
 have I4:=T4 _ _ _ I3.out Q74
 have T4:=Lib.hid (T3.out.trans T4)
 have e1:w4.cell? ⟨e,1,none⟩=some (.int .i64 a):=by rw [I4.cell];rfl
 have hel:=I4.lt
 have hrl4:=P4.box.lt
 have hgl4:=P4.mach.box.lt
 obtain ⟨kw,cw,hvw,hkw,hcell⟩:=own_at' P4.mach.ws (by have:=Hn.out;show 0 < S.pl.words.length;omega)
 obtain ⟨rc,-⟩:=hcell nn (.int .i64 (S.pl.words.getD nn 0)) (by have:=Hn.out;exact this) (by
  have:=Hn.out
  show (S.pl.words.map (Value.int .i64))[nn]? = some (.int .i64 (S.pl.words.getD nn 0))
  simp [this])
 have k0:∀ W,Ext w4 W→W.cell? ⟨r,0,none⟩=some (.pointer (some ⟨g,0,none⟩)):=fun _ h=>h.kept P4.ptrCell
 have k17:∀ W,Ext w4 W→W.cell? ⟨g,17,none⟩=some (.slice (some ⟨kw,0,none⟩) S.pl.words.length cw):=fun _ h=>h.kept (by have:=P4.wordsCell;rw [hvw] at this;exact this)
 have k1:∀ W,Ext w4 W→W.cell? ⟨e,1,none⟩=some (.int .i64 a):=fun _ h=>h.kept e1
 have kc:∀ W,Ext w4 W→W.cell? ⟨kw,nn,none⟩=some (.int .i64 (S.pl.words.getD nn 0)):=fun _ h=>h.kept rc
 have HR64:=Lib.hid (Hp.out.w64 nn)
 generalize hxv:S.pl.words.getD nn 0=x at *
 have Hxv:=Lib.hid hxv
 clear hxv
 have hkl:=Q09 rc
 simp only at hkl
 have hix:∀ W,(Instr.indexAt 71 (.slice (some ⟨kw,0,none⟩) S.pl.words.length cw) (.int .i64 (nn:Int))).run Try.prog W=.ok (.pointer (some ⟨kw,nn,none⟩)) W:=fun W=>by
  have:=Qb1 W kw S.pl.words.length cw (nn:Int) (by omega) (by have:=Hn.out;omega)
  simpa using this
 have P4:=Lib.hid P4
 have I4:=Lib.hid I4
 clear hch g0 g18 hvw hcell rc e1 hrl0 hgl0
 go_upto_region 4 with fail
 refine Q2d [21] 0 (by kernel_rfl) (by kernel_rfl) ?_
 repeat (first | (refine Q2o ?_ ?_;(decide)) | (refine Q2i ?_ ?_ ?_;(decide);(first | rfl | (focus (go_simp;done)));apply Exists.intro;refine ⟨fun wc hE=>?_,?_⟩;(go_simp;exact rfl);go_simp) | (refine Q2m ?_ ?_ ?_;(decide);(focus (go_simp;done));go_simp))
 refine Q2n ?_
 intro w5 hx
 have P5:=P4.out.extend hx
 have gA:=Q7o P5 Ha.out
 have hrl5:=P5.box.lt
 have hgl5:=P5.mach.box.lt
 have P6:=P5.reg_ Ha.out x
 have T6:=Lib.hid ((T4.out.ext hx).trans (P5.stayM (7+a.toNat) (.int .i64 x)))
 have I6:=Lib.hid (P5.stayM (7+a.toNat) (.int .i64 x) _ _ _ (I4.out.ext hx) Q74)
 have hfd:Q3e V4.G nn=S.pl.past.getD nn []:=(P4.out.past.get nn HNn.out).symm
 have hrow:=Qar P6.famG nn
 rw [hfd] at hrow
 obtain ⟨ol,cl,hl⟩:=Q1e hrow
 have Hl:=Lib.hid hl
 have Hfd:=Lib.hid hfd
 have HM:=Lib.hid P6.map
 have gp:=P5.pastCell.1
 have hrg:=P5.rg
 have hgr:=Ne.symm P5.rg
 have P6:=Lib.hid P6
 have Hpl2:=Lib.hid (Hpl.out.reg a HR64.out)
 have hz:=Qeh
 have hpu:=Qgd
 clear k0 k17 k1 kc hix hx P5 hl hfd hrow hrl4 hgl4 hel hkl
 by_cases hA:0 < S.choice∧S.choice≤(S.pl.past.getD nn []).length
 ·have HTs:Hid (T=(((S.goTo (S.pl.at_+1)).chosen).put_ a x).leave.put_ a ((S.pl.past.getD nn []).getD ((S.pl.past.getD nn []).length - S.choice.toNat) 0)):=Lib.hid (by
   rw [← HT.out]
   unfold Q44
   simp only
   rw [if_pos hA,Hxv.out])
  obtain ⟨hA0,hA1⟩:=hA
  generalize S.choice=ch at *
  generalize hlv:S.pl.past.getD nn []=l at *
  have hl1:(l.length:Int)≤1000000:=by omega
  refine Q23 (Q10 rfl (Q2a)) ?_
  go_wp2_with (refine Qbm rfl (.tmp 46) (.tmp 47) 130 3 71 rfl hpu Try.underlying3 (hz _) rfl HM.out nn rfl ?_;rw [Hl.out])
  have C:=Qg2 P6.out Hpl2.out ht hm
  (with_reducible refine C.mono ?_)
  clear C
  rintro er w8 ⟨rfl,V8,P8,T8,hG⟩
  have hrow8:=Qar P8.famG nn
  have hG4:V8.G=V4.G:=hG
  rw [hG4,Hfd.out,Hl.out] at hrow8
  obtain ⟨kl,cl8,hvl,hkl8,hcell8⟩:=own_at' hrow8 (by omega)
  simp only [Value.slice.injEq,true_and] at hvl
  obtain ⟨rfl,rfl⟩:=hvl
  have hin:l.length - ch.toNat < l.length:=by omega
  obtain ⟨rc,-⟩:=hcell8 (l.length - ch.toNat) (.int .i64 (l.getD (l.length - ch.toNat) 0)) hin (by simp [hin])
  have hkl:=Q09 rc
  simp only at hkl
  have I8:=T8 _ _ _ I6.out Q74
  have k0:∀ W,Ext w8 W→W.cell? ⟨r,0,none⟩=some (.pointer (some ⟨g,0,none⟩)):=fun _ h=>h.kept P8.ptrCell
  have k1:∀ W,Ext w8 W→W.cell? ⟨e,1,none⟩=some (.int .i64 a):=fun _ h=>h.kept (by rw [I8.cell];rfl)
  have kc:∀ W,Ext w8 W→W.cell? ⟨kl,l.length - ch.toNat,none⟩=some (.int .i64 (l.getD (l.length - ch.toNat) 0)):=fun _ h=>h.kept rc
  have hix:∀ W,(Instr.indexAt 71 (.slice (some ⟨kl,0,none⟩) l.length cl) (.int .i64 ((l.length:Int) - ch))).run Try.prog W=.ok (.pointer (some ⟨kl,l.length - ch.toNat,none⟩)) W:=fun W=>by
   have:=Qb1 W kl l.length cl ((l.length:Int) - ch) (by omega) (by omega)
   rw [this,show ((l.length:Int) - ch).toNat=l.length - ch.toNat by omega]
  have hwr:IntKind.i64.wrap ((l.length:Int) - ch)=(l.length:Int) - ch:=Go.IntWalk.i64_in _ (by omega)
  have hel8:=I8.lt
  have hrl8:=P8.box.lt
  have hgl8:=P8.mach.box.lt
  have P8:=Lib.hid P8
  have T8:=Lib.hid (T6.out.trans T8)
  clear hrow8 hG hG4 hcell8 rc I8 gA gp hin hrl5 hgl5
  generalize l.getD (l.length - ch.toNat) 0=was at *
  generalize l.length - ch.toNat=jj at *
  go_upto_region 8 with fail
  refine Q2d [17] 0 (by kernel_rfl) (by kernel_rfl) ?_
  repeat (first | (refine Q2o ?_ ?_;(decide)) | (refine Q2i ?_ ?_ ?_;(decide);(first | rfl | (focus (go_simp;done)));apply Exists.intro;refine ⟨fun wc hE=>?_,?_⟩;(go_simp;exact rfl);go_simp) | (refine Q2m ?_ ?_ ?_;(decide);(focus (go_simp;done));go_simp))
  refine Q2n ?_
  intro w9 hx
  have P9:=P8.out.extend hx
  have gA:=Q7o P9 Ha.out
  have hgl9:=P9.mach.box.lt
  have P10:=Lib.hid (P9.reg_ Ha.out was)
  have T10:=Lib.hid ((T8.out.ext hx).trans (P9.stayM (7+a.toNat) (.int .i64 was)))
  generalize rg _ a=ra at gA
  clear k0 k1 kc hix hx P9
  refine Q23 (Q10 rfl (Q2a)) ?_
  go_wp2
  refine bodyPost_end (results_none rfl _ _ _) rfl ?_
  rw [HTs.out]
  exact ⟨rfl,_,P10.out,T10.out⟩
 ·have HTs:Hid (T=((S.goTo (S.pl.at_+1)).chosen).put_ a x):=Lib.hid (by
   rw [← HT.out]
   unfold Q44
   simp only
   rw [if_neg hA,Hxv.out])
  generalize S.choice=ch at *
  generalize hlv:S.pl.past.getD nn []=l at *
  have hl1:(l.length:Int)≤1000000:=by omega
  by_cases hB:0 < ch
  ·have hC:(l.length:Int) < ch:=by
    rcases Int.lt_or_le (l.length:Int) ch with h | h
    ·exact h
    ·exact absurd ⟨hB,h⟩ hA
   have hC2:decide (ch≤(l.length:Int))=false:=by simp;omega
   clear hA
   refine Q23 (Q10 rfl (Q2a)) ?_
   go_wp2_with (refine Qbm rfl (.tmp 46) (.tmp 47) 130 3 71 rfl hpu Try.underlying3 (hz _) rfl HM.out nn rfl ?_;rw [Hl.out])
   refine bodyPost_end (results_none rfl _ _ _) rfl ?_
   rw [HTs.out]
   exact ⟨rfl,_,P6.out,T6.out⟩
  ·have hC2:decide (0 < ch)=false:=by simp;omega
   clear hA
   refine Q23 (Q10 rfl (Q2a)) ?_
   go_wp2_with (refine Qbm rfl (.tmp 46) (.tmp 47) 130 3 71 rfl hpu Try.underlying3 (hz _) rfl HM.out nn rfl ?_;rw [Hl.out])
   refine bodyPost_end (results_none rfl _ _ _) rfl ?_
   rw [HTs.out]
   exact ⟨rfl,_,P6.out,T6.out⟩
end
end Go.Proofs.Yteiknefajlocoaa
