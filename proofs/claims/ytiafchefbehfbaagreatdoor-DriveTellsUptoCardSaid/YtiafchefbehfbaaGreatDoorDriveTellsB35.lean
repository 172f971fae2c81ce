/- Laid together from: Spc5, Spc6, Spc7, Spc8, Spc9, SpcA, SpcB. -/
import Derived.Test.YtiafchefbehfbaaGreatDoorDriveTellsB33
import Derived.Maps.Ext
import Derived.Test.YtiafchefbehfbaaGreatDoorDriveTellsB14
import Derived.Test.YtiafchefbehfbaaGreatDoorDriveTellsB28

namespace Go.Proofs.YtiafchefbehfbaaGreatDoor
open Go.ChangeShapes Go.WideShapes Go.ChangeAt Go.RowKit
set_option linter.unusedVariables false
set_option linter.unusedSimpArgs false
def Q9e (w:World) (b it:Nat):Nat:=match w.heap[b]?,w.heap[it]? with
 | some (.map es _),some (.mapIter _ _ seen _)=>(leftOf es seen).size
 | _,_=>0
theorem Qj3 {w:World} {b it:Nat} {G left:List (Nat × Value)} (h:Q3y w b it G left):Q9e w b it=left.length:=by
 obtain ⟨es,clock,since,seen,c0,h1,-,-,h4,-,-,-,h8⟩:=h
 unfold Q9e
 rw [h1,h4]
 have:=congrArg List.length h8
 simpa using this
theorem Qir (w:World):MapG (w.alloc (.map #[] 0)) w.heap.size []:=⟨#[],0,heap_alloc_new w _,MapKept.stamped_empty 0,rfl⟩
theorem Qox {G:List (Nat × Value)} {k:Nat} {v:Value} (h:∀ p ∈ G,p.1≠k):putG G k v=G ++ [(k,v)]:=by
 unfold putG
 have:G.find? (fun p=>p.1 == k)=none:=by
  rw [List.find?_eq_none]
  intro p hp
  simpa using h p hp
 rw [this]
 rfl
def Qw3 (G:Grp) (w:World) (e:Ending) (w':World):Prop :=
 ∃ b' G',e=.returned (.map (some b'))∧MapG w' b' (Q1a G')∧Fam w' w.heap.size (Q2b G')∧(∀ n,Q3j G' n=Q3j G n)∧(∀ x ∈ G',∃ y ∈ G,y.1=x.1)∧Ext w w'∧w.heap.size≤b'
structure Q9s (G GL Gd:Grp):Prop where
 sub:∀ x ∈ GL,x ∈ G
 done:∀ y ∈ Gd,∃ x ∈ G,x.1=y.1∧x.2.2=y.2.2
 apart:∀ y ∈ Gd,∀ x ∈ GL,x.1≠y.1
 all:∀ x ∈ G,x ∈ GL∨∃ y ∈ Gd,y.1=x.1
theorem Qtn (G:Grp):Q9s G G []:=⟨fun _ h=>h,fun y h=>by simp at h,fun y h=>by simp at h,fun x h=>.inl h⟩
theorem Qtm {G GL Gd:Grp} (h:Q9s G GL Gd) {k:Nat} {v u:Value} {l:List Int} (hx:(k,v,l) ∈ GL):Q9s G (GL.filter fun x=>x.1 != k) (Gd ++ [(k,u,l)]):=by
 refine ⟨fun x hx=>h.sub x (List.mem_filter.1 hx).1,fun y hy=>?_,fun y hy x hx'=>?_,fun x hx'=>?_⟩
 ·rcases List.mem_append.1 hy with hy | hy
  ·exact h.done y hy
  ·simp only [List.mem_singleton] at hy
   subst hy
   exact ⟨_,h.sub _ hx,rfl,rfl⟩
 ·obtain ⟨h1,h2⟩:=List.mem_filter.1 hx'
  rcases List.mem_append.1 hy with hy | hy
  ·exact h.apart y hy x h1
  ·simp only [List.mem_singleton] at hy
   subst hy
   simpa using h2
 ·rcases h.all x hx' with h1 | ⟨y,h1,h2⟩
  ·by_cases hk:x.1=k
   ·exact .inr ⟨_,List.mem_append_right _ (List.mem_singleton.2 rfl),hk.symm⟩
   ·exact .inl (List.mem_filter.2 ⟨h1,by simpa using hk⟩)
  ·exact .inr ⟨y,List.mem_append_left _ h1,h2⟩
theorem Qc9 {G:Grp} (hd:(G.map (·.1)).Nodup) {x:Nat × Value × List Int} (hx:x ∈ G):G.find? (fun y=>y.1 == x.1)=some x:=by
 induction G with
 | nil=>simp at hx
 | cons y G ih =>
  simp only [List.map_cons,List.nodup_cons] at hd
  rw [List.find?_cons]
  rcases List.mem_cons.1 hx with rfl | hx
  ·simp
  ·have:(y.1 == x.1)=false:=by
    rw [Bool.eq_false_iff]
    intro e
    exact hd.1 (List.mem_map.2 ⟨x,hx,(beq_iff_eq.1 e).symm⟩)
   rw [this]
   exact ih hd.2 hx
theorem Qto {G Gd:Grp} (h:Q9s G [] Gd) (hd:(G.map (·.1)).Nodup) (hd':(Gd.map (·.1)).Nodup) (n:Nat):Q3j Gd n=Q3j G n:=by
 unfold Q3j
 by_cases hn:∃ x ∈ G,x.1=n
 ·obtain ⟨x,hx,rfl⟩:=hn
  rcases h.all x hx with h1 | ⟨y,h1,h2⟩
  ·simp at h1
  ·have e1:=Qc9 hd hx
   have e2:=Qc9 hd' h1
   rw [h2] at e2
   rw [e1,e2]
   obtain ⟨x',hx',h3,h4⟩:=h.done y h1
   have e3:=Qc9 hd hx'
   rw [h3,h2,e1] at e3
   simp only [Option.some.injEq] at e3
   simp only [Option.map_some,Option.getD_some]
   rw [e3,h4]
 ·have e1:G.find? (fun x=>x.1 == n)=none:=by
   rw [List.find?_eq_none]
   intro x hx e
   exact hn ⟨x,hx,by simpa using e⟩
  have e2:Gd.find? (fun x=>x.1 == n)=none:=by
   rw [List.find?_eq_none]
   intro y hy e
   obtain ⟨x,hx,h3,-⟩:=h.done y hy
   exact hn ⟨x,hx,by rw [h3];simpa using e⟩
  rw [e1,e2]
theorem Qbx {w:World} {b:Nat} {G:Grp} (h:MapG w b (Q1a G)):(G.map (·.1)).Nodup:=by
 have:=h.keys
 unfold Q1a at this
 simpa [List.map_map,Function.comp_def] using this
theorem Qse (G:Grp) (k:Nat):(Q1a G).filter (fun p=>p.1 != k)=Q1a (G.filter fun x=>x.1 != k):=by
 unfold Q1a
 rw [List.filter_map]
 rfl
theorem Fam.push {w w1:World} {B:Nat} {L:List (Value × List Int)} (h:Fam w B L) (hx:Ext w w1) (hB:B≤w.heap.size) {u:Value} {l:List Int} (ho:w1.ownsRow w.heap.size 2 1 u l.length (l.map (Value.int .i64))):Fam w1 B (L ++ [(u,l)]) :=
 (h.ext hx).app (B':=w.heap.size) ⟨fun y hy=>by
  simp only [List.mem_singleton] at hy
  subst hy
  exact ho,List.pairwise_singleton _ _⟩ hB (fun y hy k hk=>(h.size hy k hk).2)
theorem Fam.map_ {w w':World} {B b:Nat} {L:List (Value × List Int)} {G:List (Nat × Value)} (h:Fam w B L) (hm:MapG w b G) (hg:w.grownBy w' (some b)):Fam w' B L:=h.kept hg fun x hx k hk=>by
 simp only [Option.some.injEq] at hk
 subst hk
 exact hm.ne_own (h.own x hx)
theorem Q3y.ne_own {w:World} {b it:Nat} {G left:List (Nat × Value)} (h:Q3y w b it G left) {B:Nat} {e:TypeId} {s n:Nat} {v:Value} {xs:List Value} (ho:w.ownsRow B e s v n xs):v.ownBlock≠some it:=by
 intro hk
 obtain ⟨es,clock,since,seen,c0,-,-,-,h1,-⟩:=h
 rcases ho.2 with ⟨rfl,-⟩ | ⟨k,cap,cur,rfl,-,h2,-⟩
 ·cases hk
 ·have e:k=it:=by simpa [Value.ownBlock] using hk
  rw [← e,h2] at h1
  cases h1
set_option maxRecDepth 100000 in
set_option maxHeartbeats 4000000 in
theorem Qpg {B:Nat} (G:Grp) (b:Nat) (w:World) (hM:MapG w b (Q1a G)) (hR:∀ x ∈ G,w.ownsRow B 2 1 x.2.1 x.2.2.length (x.2.2.map (Value.int .i64))) (hl:∀ x ∈ G,x.2.2.length≤1000000) :
  Calls Tryz.prog 107 #[.map (some b)] w (Qw3 G w):=by
 have hmm:=@run_makeMap Tryz.prog
 have hu:Tryz.prog.underlying 82 = some (.map 3 35):=by kernel_rfl
 have hbl:=hM.lt
 have HM:=zh hM
 have HR:=zh hR
 have Hl:=zh hl
 have Hnd:=zh (Qbx hM)
 have hx0:Ext w (w.alloc (.map #[] 0)):=(Ext.refl w).alloc _
 have e1:(w.alloc (.map #[] 0)).heap.size=w.heap.size+1:=by simp
 have hM1:=hM.ext hx0
 clear hM hR hl
 go_enter Tryz.func107,Tryz.ntmps107
 go_wp2_with (at_range;refine Qla rfl _ 82 3 35 rfl hu rfl hM1 ?_;intro w0 hrg0 hx1 hs0)
 rw [e1] at hrg0 hs0 ⊢
 have hs1:w0.heap.size=w.heap.size+2:=hs0
 go_frame
 go_loopw [4,5] (fun _ _ wr => ∃ (GL Gd:Grp),Q3y wr b (w.heap.size+1) (Q1a G) (Q1a GL)∧MapG wr w.heap.size (Q1a Gd)∧Fam wr w.heap.size (Q2b Gd)∧Q9s G GL Gd∧Ext w wr) (fun _ _ wr=>Q9e wr b (w.heap.size+1))
 case atStart=>exact ⟨G,[],hrg0,(Qir w).ext hx1,Fam.nil _ _,Qtn G,hx0.trans hx1⟩
 case round =>
  obtain ⟨GL,Gd,hrg,hmo,hf,hh,hx⟩:=hrel
  have Hrg:=zh hrg
  have Hmo:=zh hmo
  have Hf:=zh hf
  have Hh:=zh hh
  have X:=zh hx
  clear hmo hf hh hx hx0 hx1 hM1 hrg0
  go_wp2_with (at_next;refine Qlb rfl _ rfl rfl hrg (by omega) ?_ ?_)
  ·intro h0
   have hGL:GL=[]:=by simpa [Q1a] using h0
   subst hGL
   clear hrg
   go_wp2
   go_ret
   exact ⟨_,Gd,rfl,Hmo.out,Hf.out,Qto Hh.out Hnd.out (Qbx Hmo.out),fun y hy=>by
    obtain ⟨x,hx,h1,-⟩:=Hh.out.done y hy
    exact ⟨x,hx,h1⟩,X.out,Nat.le_refl _⟩
  ·intro k v w1 hkv hrg1 hen hg1 hsz1
   obtain ⟨⟨k',v',l⟩,hxm,heq⟩:=List.mem_map.1 hkv
   simp only [Prod.mk.injEq] at heq
   obtain ⟨rfl,rfl⟩:=heq
   have X1:Ext w w1:=X.out.grown hg1 (fun j hj=>by
    simp only [Option.some.injEq] at hj
    omega)
   have hro:=Q19 (HR.out _ (Hh.out.sub _ hxm)) X1
   have hln:=Hl.out _ (Hh.out.sub _ hxm)
   simp only at hro hln
   have Hro:=zh hro
   obtain ⟨ov,cv,rfl⟩:=Q02 hro
   have Hxm:=zh hxm
   have X1:=zh X1
   have hmo1:=Hmo.out.kept hg1 (by simp)
   have Hf1:=zh (Hf.out.kept hg1 (fun y hy j hj=>by
    simp only [Option.some.injEq] at hj
    subst hj
    exact Hrg.out.ne_own (Hf.out.own y hy)))
   have Hmo1:=zh hmo1
   have Hrg1:=zh hrg1
   clear hrg hro hxm hkv hmo1 hrg1 hg1
   go_wp2_with fail
   have C:=Qgp l _ w1 Hro.out hln
   (with_reducible refine C.mono ?_)
   clear C
   rintro er w2 ⟨u,rfl,hO,hx2⟩
   have hmo2:=Hmo1.out.ext hx2
   obtain ⟨ou,cu,rfl⟩:=Q02 hO
   have hs1:=X1.out.size
   have hf2:=Hf1.out.push hx2 hs1 hO
   have hrg2:=Hrg1.out.ext hx2
   have Hf2:=zh hf2
   have Hrg2:=zh hrg2
   have X2:=zh (X1.out.trans hx2)
   clear hO hf2 hrg2 hx2 hen
   go_wp2_with (at_mapUpdate;refine Qft rfl _ _ _ 82 3 35 rfl hu Tryz.underlying3 rfl hmo2 k' rfl (.slice ou l.length cu) rfl ?_;intro w3 hm3 hg3)
   have hnew:∀ p ∈ Q1a Gd,p.1≠k':=fun p hp=>by
    obtain ⟨y,hy,rfl⟩:=List.mem_map.1 hp
    exact fun e=>Hh.out.apart y hy _ Hxm.out e.symm
   rw [Qox hnew] at hm3
   have e3:Q1a Gd ++ [(k',Value.slice ou l.length cu)]=Q1a (Gd ++ [(k',.slice ou l.length cu,l)]):=by simp [Q1a]
   rw [e3] at hm3
   have hf3:=Hf2.out.map_ hmo2 hg3
   have e4:Q2b Gd ++ [(Value.slice ou l.length cu,l)]=Q2b (Gd ++ [(k',.slice ou l.length cu,l)]):=by simp [Q2b]
   rw [e4] at hf3
   have hrg3:=Hrg2.out.kept hg3 (fun e=>by simp only [Option.some.injEq] at e;omega) (fun e=>by simp only [Option.some.injEq] at e;omega)
   rw [Qse] at hrg3
   have hX3:Ext w w3:=X2.out.grown hg3 (fun j hj=>by simp only [Option.some.injEq] at hj;omega)
   have Hend:=zh (show Q3y w3 b (w.heap.size+1) (Q1a G) (Q1a (GL.filter fun x=>x.1 != k'))∧MapG w3 w.heap.size (Q1a (Gd ++ [(k',.slice ou l.length cu,l)]))∧Fam w3 w.heap.size (Q2b (Gd ++ [(k',.slice ou l.length cu,l)]))∧Q9s G (GL.filter fun x=>x.1 != k') (Gd ++ [(k',.slice ou l.length cu,l)])∧Ext w w3 from ⟨hrg3,hm3,hf3,Qtm Hh.out Hxm.out,hX3⟩)
   clear hm3 hf3 hrg3 hX3 hg3 hmo2 hnew e3 e4
   go_wp2
   go_roundw
   case rel=>exact ⟨_,_,_,_,_,_,_,_,_,_,_,⟨_,_,Hend.out⟩,rfl⟩
   case measure =>
    rw [Qj3 Hend.out.1,Qj3 Hrg.out]
    simp only [Q1a,List.length_map]
    exact List.length_filter_lt_length_iff_exists.2 ⟨_,Hxm.out,by simp⟩
section
variable {P : Program} {ops : Array Oper} {rest : List Oper} {a : Act} {w W : World} {Q : Exit → Act → World → Prop} {g : Nat} {t : TypeId} {cs : Array Value} {dst : Option Tmp} {T ty : TypeId} {pos : String} {after : Array Edge} {o : Oper} {hs : List Nat} {Zc : Act → Prop} {k off : Nat} {d : TypeDesc} {l : List Value}
theorem Quc {x:Operand} (ho:o.op=.load ty x) (hx:a.eval x=.pointer (some ⟨g,off,none⟩)) (hb:Blk w g t cs) (hl:∀ j v,l[j]? = some v→cs[off+j]? = some v) (hu:P.underlying ty=some d) (hd:d.isRow=true) (hi:(P.info? ty).map (·.size)=some l.length) :
  (execOp a.eval o).run P w=.ok (.value (.agg l.toArray)) w:=by
 have h:=run_loadVar_mid (P:=P) w g off ty l _ (hb.range off _ hl) hu hd hi
 unfold execOp
 simp only [ho,hx,Instr.loadAt,Instr.sureAddr,Sem.run_bind,Sem.run_pure,Result.andThen_ok,h,Array.toArray_toList]
theorem Qf6 (hb:Blk W g t cs) (off:Nat) (l:List Value) (hl:∀ j v,l[j]? = some v→cs[off+j]? = some v) (hu:P.underlying ty=some d) (hd:d.isRow=true) (hi:(P.info? ty).map (·.size)=some l.length)
  (hh:hs.contains k=false) (hw:Region.wanted o (yielded ops a.tmps)=true) (ho:∃ x,o.op=.load ty x∧a.eval x=.pointer (some ⟨g,off,none⟩))
  (h:Q15 P ops W hs Zc (k+1) rest (a.put o.dst (.agg l.toArray))):Q15 P ops W hs Zc k (o :: rest) a:=by
 obtain ⟨x,ho,hx⟩:=ho
 exact Q1o hh hw ⟨_,fun _ hE=>Quc ho hx (hb.ext hE) hl hu hd hi,h⟩
theorem Qcs (h:Blk w g t cs) (o:Nat) (l:List Value) {ty:TypeId} {x y:Operand} (hs:o+l.length≤cs.size) (hi:(P.info? ty).map (·.size)=some l.length) (h1:l.toArray.all (·.oneCell')=true) (hx:a.eval x=.pointer (some ⟨g,o,none⟩)) (hy:a.eval y=.agg l.toArray)
  (k:wpList P ops Q rest (a.put dst undef) (w.setCells g o l)):wpList P ops Q (⟨dst,.store ty x y,T,pos,after,none⟩ :: rest) a w :=
 wpList_store_mid rfl ty x y rfl g o l.toArray hx hy (h.there o _ (by simpa using hs)) (by simpa using hi) h1 (by simpa using k)
end
section
variable {S0 : Nat → Prop} {w w' w'' : World}
theorem Turn.cells:∀ (vs:List Value) (w:World) (b o:Nat),Turn (fun j=>j=b) w (w.setCells b o vs)
 | [],w,_,_=>Turn.refl w
 | u :: vs,w,b,o=>by
  rw [World.setCells]
  exact (Turn.set w ⟨b,o,none⟩ u).trans (Turn.cells vs _ b (o+1)) (fun _ _ e=>e)
theorem MapG.turn {b:Nat} {G:List (Nat × Value)} (h:MapG w b G) (ht:Turn S0 w w') (hn:¬ S0 b):MapG w' b G:=by
 obtain ⟨es,clock,hb,h1,h2⟩:=h
 exact ⟨es,clock,(ht.block b (Array.getElem?_eq_some_iff.1 hb).1 hn).trans hb,h1,h2⟩
theorem Fam.turn {B:Nat} {L:List (Value × List Int)} (h:Fam w B L) (ht:Turn S0 w w') (hn:∀ x ∈ L,∀ k,x.1.ownBlock=some k→¬ S0 k):Fam w' B L :=
 ⟨fun x hx=>Q5d (h.own x hx) ht (hn x hx),h.apart⟩
end
def stL (regs:List Int) (vW:Value) (at_:Int):List Value:=regs.map (Value.int .i64) ++ [vW,.int .i64 at_]
theorem Q6w {regs:List Int} (h:regs.length=10) (vW:Value) (at_:Int):(stL regs vW at_).length=12:=by simp [stL,h]
theorem Qcu (regs:List Int) (ov:Option Addr) (n cap:Nat) (at_:Int):(stL regs (.slice ov n cap) at_).toArray.all (·.oneCell')=true:=by simp [stL,Value.oneCell']
theorem Q12:(Tryz.prog.info? 74).map (·.size)=some 12:=by kernel_rfl
theorem Q9d {l:List Int} (h:l.length=10):∃ x0 x1 x2 x3 x4 x5 x6 x7 x8 x9,l=[x0,x1,x2,x3,x4,x5,x6,x7,x8,x9]:=by
 match l,h with
 | [x0,x1,x2,x3,x4,x5,x6,x7,x8,x9],_=>exact ⟨x0,x1,x2,x3,x4,x5,x6,x7,x8,x9,rfl⟩
theorem Qqx {vR vC vS vM vW vB:Value} {fin value:Int} {steps at_:Nat} {regs:List Int} (j:Nat) (v:Value) (h:(stL regs vW at_)[j]? = some v):(Q0z vR vC fin value steps vS vM regs vW at_ vB).toArray[7+j]? = some v:=by
 rw [List.getElem?_toArray]
 unfold Q0z
 rw [List.getElem?_append_right (by simp)]
 have hj:=(List.getElem?_eq_some_iff.1 h).1
 have e:regs.map (Value.int .i64) ++ [vW,.int .i64 (at_:Int),vB]=stL regs vW at_ ++ [vB]:=by simp [stL]
 rw [e,List.getElem?_append_left (by simpa using hj)]
 simpa using h
theorem Qgs {g:Nat} {V:QV} {S:Spc} (j:Nat) (v:Value) (h:(stL V.bR V.bW V.bA)[j]? = some v):(Q2n g V S).toArray[5+j]? = some v:=by
 rw [List.getElem?_toArray]
 unfold Q2n
 rw [List.getElem?_append_right (by simp)]
 have hj:=(List.getElem?_eq_some_iff.1 h).1
 have e:V.bR.map (Value.int .i64) ++ [V.bW,.int .i64 V.bA,.map V.bb]=stL V.bR V.bW V.bA ++ [.map V.bb]:=by simp [stL]
 rw [e,List.getElem?_append_left (by simpa using hj)]
 simpa using h
theorem Qbt {vR vC vS vM vW vB vW':Value} {fin value:Int} {steps at_ at':Nat} {regs regs':List Int} (h:regs.length=10) (h':regs'.length=10) :
  Q4e (Q0z vR vC fin value steps vS vM regs vW at_ vB).toArray 7 (stL regs' vW' at')=(Q0z vR vC fin value steps vS vM regs' vW' at' vB).toArray:=by
 obtain ⟨x0,x1,x2,x3,x4,x5,x6,x7,x8,x9,rfl⟩:=Q9d h
 obtain ⟨y0,y1,y2,y3,y4,y5,y6,y7,y8,y9,rfl⟩:=Q9d h'
 simp [Q0z,stL,Q4e]
theorem Qgt {g:Nat} {V:QV} {S:Spc} {regs':List Int} {vW':Value} {a':Int} (h:V.bR.length=10) (h':regs'.length=10) :
  Q4e (Q2n g V S).toArray 5 (stL regs' vW' a')=(Q2n g { V with bR:=regs',bW:=vW',bA:=a' } S).toArray:=by
 obtain ⟨vS,vW,vX,bW,G,GB,bm,bb,bR,bA,lf⟩:=V
 simp only at h
 obtain ⟨x0,x1,x2,x3,x4,x5,x6,x7,x8,x9,rfl⟩:=Q9d h
 obtain ⟨y0,y1,y2,y3,y4,y5,y6,y7,y8,y9,rfl⟩:=Q9d h'
 simp [Q2n,stL,Q4e]
theorem Qns {g:Nat} {V:QV} {S:Spc} {bb:Option Nat} (h:V.bR.length=10):(Q2n g V S).toArray.setIfInBounds 17 (.map bb)=(Q2n g { V with bb:=bb } S).toArray:=by
 simp [Q2n,List.set_append,h]
theorem Qmp {B:Nat} (regs:List Int) (h10:regs.length=10) (at_:Int) (l:List Int) (vW:Value) (w:World) (h:w.ownsRow B 2 1 vW l.length (l.map (Value.int .i64))) (hl:l.length≤1000000) :
  Calls Tryz.prog 106 #[.agg (stL regs vW at_).toArray] w fun e w' => ∃ u,e=.returned (.agg (stL regs u at_).toArray)∧w'.ownsRow w.heap.size 2 1 u l.length (l.map (Value.int .i64))∧Ext w w':=by
 obtain ⟨x0,x1,x2,x3,x4,x5,x6,x7,x8,x9,rfl⟩:=Q9d h10
 exact Qmq (B:=B) x0 x1 x2 x3 x4 x5 x6 x7 x8 x9 at_ l vW w h hl
section
variable {wB w w' : World} {N g r : Nat} {vR vC vB : Value} {bases : List Int} {V V' : QV} {S S' : Spc}
theorem QSt.leave_ (h:QSt wB w N g r vR vC vB bases V S) (ha:S.ahead=false) {w2:World} (hx:Ext ((w.setCell ⟨r,3,none⟩ (.bool true)).setCell ⟨r,4,none⟩ (.int .i64 13)) w2) {bW:Value} {GB:Grp} {bb:Nat}
  (hF:Fam w2 w.heap.size ((bW,S.pl.words) :: Q2b GB)) (hM:MapG w2 bb (Q1a GB)) (hbb:w.heap.size≤bb) (hP:Q81 N GB S.pl.past) :
  QSt wB ((w2.setCells r 5 (stL S.pl.regs bW S.pl.at_)).setCell ⟨r,17,none⟩ (.map (some bb))) N g r vR vC vB bases { V with bW:=bW,GB:=GB,bb:=some bb,bR:=S.pl.regs,bA:=S.pl.at_,lf:=13 } S.leave ∧
   Q1h w ((w2.setCells r 5 (stL S.pl.regs bW S.pl.at_)).setCell ⟨r,17,none⟩ (.map (some bb))):=by
 have hs:S.leave={ S with ahead:=true,since := -1,back:=S.pl }:=by unfold Spc.leave;rw [if_neg (by rw [ha];simp)]
 have hm10:S.pl.regs.length=10:=h.mach.len
 have T2:Turn (fun j=>j=r) w2 ((w2.setCells r 5 (stL S.pl.regs bW S.pl.at_)).setCell ⟨r,17,none⟩ (.map (some bb))) :=
  (Turn.cells _ w2 r 5).trans (Turn.set _ ⟨r,17,none⟩ _) (fun _ _ e=>e)
 have T:Turn (fun j=>j=r) w ((w2.setCells r 5 (stL S.pl.regs bW S.pl.at_)).setCell ⟨r,17,none⟩ (.map (some bb))) :=
  (((Turn.set w ⟨r,3,none⟩ (.bool true)).trans (Turn.set _ ⟨r,4,none⟩ (.int .i64 13)) (fun _ _ e=>e)).ext hx).trans T2 (fun _ _ e=>e)
 have hbx:=((((h.box.set_ 3 (.bool true)).set_ 4 (.int .i64 13)).ext hx).setCells (stL S.pl.regs bW S.pl.at_) 5).set_ 17 (.map (some bb))
 have e1:(((Q2n g V S).toArray.setIfInBounds 3 (.bool true)).setIfInBounds 4 (.int .i64 13))=(Q2n g { V with lf:=13 } { S with ahead:=true,since := -1,back:=S.pl }).toArray:=rfl
 rw [e1,Qgt (V:={ V with lf:=13 }) h.ten hm10,Qns (V:={ V with lf:=13,bR:=S.pl.regs,bW:=bW,bA:=S.pl.at_ }) hm10] at hbx
 have hown:∀ {B:Nat} {e:TypeId} {s n:Nat} {v:Value} {xs:List Value},w.ownsRow B e s v n xs→e≠84 → ∀ k,v.ownBlock=some k→¬ (k=r):=fun ho he k hk e=>Q09 ho h.box he (by rw [hk,e])
 have hsz:=h.ext.size
 have hr2:r < w.heap.size:=h.box.lt
 have hx0:w.heap.size≤w2.heap.size:=by have:=hx.size;simpa using this
 have hf0:Fam w wB.heap.size ((V.vW,S.pl.words) :: Q2b V.G):=by
  have:=h.fam
  unfold Q45 at this
  rw [if_neg (by rw [ha];simp),List.append_nil] at this
  exact this
 have hf1:=hf0.turn T (fun x hx' k hk=>hown (hf0.own x hx') (by decide) k hk)
 have hf2:=hF.turn T2 (fun x hx' k hk e=>by
  have:=(hF.size hx' k hk).1
  omega)
 rw [hs]
 refine ⟨⟨⟨h.mach.box.turn T (fun e=>h.rg e.symm),Q5d h.mach.sn T (hown h.mach.sn (by decide)),Q5d h.mach.ws T (hown h.mach.ws (by decide)),Q5d h.mach.bs T (hown h.mach.bs (by decide)),h.mach.len,h.mach.hg⟩,hbx,?_,h.map.turn T (h.map.ne_blk h.box),h.past,fun _=>⟨⟨bb,rfl,hM.turn T2 (by omega),?_,by show wB.heap.size≤bb;omega⟩,hP,rfl,rfl,rfl⟩,hm10,h.scr,?_,h.hr,h.hm⟩,?_⟩
 ·exact hf1.app hf2 hsz (fun x hx' k hk=>(hf0.size hx' k hk).2)
 ·have:=h.map.lt
  show bb≠V.bm
  omega
 ·exact Below.trans h.ext (T.below hsz (fun j e=>by rw [e];exact h.hr))
 ·exact fun k t cs hk hn=>hk.turn T (Blk.ne_ hk h.box (fun e=>hn (by rw [e];exact Qe8)))
theorem QSt.back_ (h:QSt wB w N g r vR vC vB bases V S) (ha:S.ahead=true) {w2:World} (hx:Ext (w.setCell ⟨r,3,none⟩ (.bool false)) w2) :
  QSt wB ((w2.setCells g 7 (stL V.bR V.bW V.bA)).setCell ⟨r,2,none⟩ (.map V.bb)) N g r vR vC vB bases { V with vW:=V.bW,G:=V.GB,bm:=V.bb.getD 0 } { S with ahead:=false,pl:=S.back } ∧
   Q1h w ((w2.setCells g 7 (stL V.bR V.bW V.bA)).setCell ⟨r,2,none⟩ (.map V.bb)):=by
 obtain ⟨⟨bb,hb1,hb2,hb3,hb4⟩,hp,hrg,hat,hlf⟩:=h.back ha
 have T:Turn (fun j=>j=r∨j=g) w ((w2.setCells g 7 (stL V.bR V.bW V.bA)).setCell ⟨r,2,none⟩ (.map V.bb)) :=
  ((((Turn.set w ⟨r,3,none⟩ (.bool false)).mono (fun _ e=>.inl e)).ext hx).trans (Turn.cells (stL V.bR V.bW V.bA) _ g 7) (fun _ _ e=>.inr e)).trans (Turn.set _ ⟨r,2,none⟩ _) (fun _ _ e=>.inl e)
 have hne:=h.rg
 have hbx:=(((h.box.set_ 3 (.bool false)).ext hx).farCells (stL V.bR V.bW V.bA) hne 7).set_ 2 (.map V.bb)
 have hmx:=(((h.mach.box.far (p:=⟨r,3,none⟩) (Ne.symm hne) (.bool false)).ext hx).setCells (stL V.bR V.bW V.bA) 7).far (p:=⟨r,2,none⟩) (Ne.symm hne) (.map V.bb)
 have e0:Q4e (Q0z vR vC (Q2f S).fin (Q2f S).value (Q2f S).steps V.vS (.slice none 0 0) (Q2f S).regs V.vW (Q2f S).at_ vB).toArray 7 (stL V.bR V.bW V.bA)=(Q0z vR vC (Q2f S).fin (Q2f S).value (Q2f S).steps V.vS (.slice none 0 0) V.bR V.bW S.back.at_ vB).toArray:=by
  rw [hat]
  exact Qbt h.mach.len h.ten
 rw [e0] at hmx
 have hown:∀ {B:Nat} {e:TypeId} {s n:Nat} {v:Value} {xs:List Value},w.ownsRow B e s v n xs→e≠84 → e≠76 → ∀ k,v.ownBlock=some k→¬ (k=r∨k=g):=by
  rintro B e s n v xs ho h1 h2 k hk (e | e)
  ·exact Q09 ho h.box h1 (by rw [hk,e])
  ·exact Q09 ho h.mach.box h2 (by rw [hk,e])
 have hf0:Fam w wB.heap.size ((V.bW,S.back.words) :: Q2b V.GB):=by
  refine h.fam.sub ?_
  unfold Q45
  rw [if_pos ha]
  exact List.sublist_append_right _ _
 have hws:=hf0.at_ (i:=0) rfl
 have hsz:=h.ext.size
 refine ⟨⟨⟨?_,Q5d h.mach.sn T (hown h.mach.sn (by decide) (by decide)),Q5d hws T (hown hws (by decide) (by decide)),Q5d h.mach.bs T (hown h.mach.bs (by decide) (by decide)),by show S.back.regs.length=10;rw [← hrg];exact h.ten,h.mach.hg⟩,?_,?_,?_,hp,fun e=>(by cases e),h.ten,h.scr,?_,h.hr,?_⟩,?_⟩
 ·rw [hrg] at hmx ⊢
  exact hmx
 ·have e2:V.bb=some (V.bb.getD 0):=by rw [hb1];rfl
  have e3:((Q2n g V S).toArray.setIfInBounds 3 (.bool false)).setIfInBounds 2 (.map (some (V.bb.getD 0)))=(Q2n g { V with vW:=V.bW,G:=V.GB,bm:=V.bb.getD 0 } { S with ahead:=false,pl:=S.back }).toArray:=rfl
  rw [← e3,← e2]
  exact hbx
 ·unfold Q45
  rw [if_neg (by simp),List.append_nil]
  exact hf0.turn T (fun x hx' k hk=>hown (hf0.own x hx') (by decide) (by decide) k hk)
 ·have:=hb2.turn T (by
   rintro (e | e)
   ·exact hb2.ne_blk h.box e
   ·exact hb2.ne_blk h.mach.box e)
  rw [hb1] at this ⊢
  exact this
 ·exact Below.trans h.ext (T.below hsz (by
   rintro j (e | e)
   ·rw [e];exact h.hr
   ·rw [e];exact h.mach.hg))
 ·show wB.heap.size≤V.bb.getD 0
  rw [hb1]
  exact hb4
 ·refine fun k t cs hk hn=>hk.turn T ?_
  rintro (e | e)
  ·exact Blk.ne_ hk h.box (fun e=>hn (by rw [e];exact Qe8)) e
  ·exact Blk.ne_ hk h.mach.box (fun e=>hn (by rw [e];exact Qe9)) e
end
theorem Qph {w:World} {N n b:Nat} {G:Grp} {past:List (List Int)} (hM:MapG w b (Q1a G)) (hP:Q81 N G past) (hp:∀ l ∈ past,l.length≤n):∀ x ∈ G,x.2.2.length≤n:=by
 intro x hx
 have h1:=Qc9 (Qbx hM) hx
 have h2:=hP.get x.1 (hP.lt x hx)
 unfold Q3j at h2
 rw [h1] at h2
 simp only [Option.map_some,Option.getD_some] at h2
 have h3:x.1 < past.length:=by rw [hP.len];exact hP.lt x hx
 rw [← h2]
 have:past.getD x.1 []=past[x.1]:=by simp [h3]
 rw [this]
 exact hp _ (List.getElem_mem h3)
def Qw0 (wB w:World) (N g r:Nat) (vR vC vB:Value) (bases:List Int) (G:Grp) (S':Spc) (e:Ending) (w':World):Prop:=e=.returned (.tuple #[])∧∃ V',QSt wB w' N g r vR vC vB bases V' S'∧Q1h w w'∧V'.G=G
section
variable {wB w : World} {N g r : Nat} {vR vC vB : Value} {bases : List Int} {V : QV} {S : Spc}
set_option maxHeartbeats 4000000 in
set_option maxRecDepth 100000 in
theorem Qhe {p:Q00} {n:Nat} (h:QSt wB w N g r vR vC vB bases V S) (hp:PlOk p n S.pl) (ht:Q2a p≤1000000) (hn:n≤1000000) :
  Calls Tryz.prog 89 #[.pointer (some ⟨r,0,none⟩)] w (Qw0 wB w N g r vR vC vB bases V.G S.leave):=by
 have hrl:=h.box.lt
 have g3:w.cell? ⟨r,3,none⟩=some (.bool S.ahead)∧w.frozen? ⟨r,3,none⟩=false:=⟨by rw [h.box.cell];rfl,h.box.frozen _⟩
 have H:=zh h
 cases ha:S.ahead
 ·have g4:w.cell? ⟨r,4,none⟩=some (.int .i64 V.lf)∧w.frozen? ⟨r,4,none⟩=false:=⟨by rw [h.box.cell];rfl,h.box.frozen _⟩
  rw [ha] at g3
  have Ha:=zh ha
  have b1:=(h.box.set_ 3 (.bool true)).set_ 4 (.int .i64 13)
  have m1:=(h.mach.box.far (p:=⟨r,3,none⟩) (Ne.symm h.rg) (.bool true)).far (p:=⟨r,4,none⟩) (Ne.symm h.rg) (.int .i64 13)
  have T0:Turn (fun j=>j=r) w ((w.setCell ⟨r,3,none⟩ (.bool true)).setCell ⟨r,4,none⟩ (.int .i64 13)):=(Turn.set w ⟨r,3,none⟩ (.bool true)).trans (Turn.set _ ⟨r,4,none⟩ (.int .i64 13)) (fun _ _ e=>e)
  have hown:∀ {B:Nat} {e:TypeId} {s n:Nat} {v:Value} {xs:List Value},w.ownsRow B e s v n xs→e≠84 → ∀ k,v.ownBlock=some k→¬ (k=r):=fun ho he k hk e=>Q09 ho h.box he (by rw [hk,e])
  have hws:=Q5d h.mach.ws T0 (hown h.mach.ws (by decide))
  have hmp:=h.map.turn T0 (h.map.ne_blk h.box)
  have hGo:∀ x ∈ V.G,((w.setCell ⟨r,3,none⟩ (.bool true)).setCell ⟨r,4,none⟩ (.int .i64 13)).ownsRow wB.heap.size 2 1 x.2.1 x.2.2.length (x.2.2.map (Value.int .i64)):=fun x hx=>by
   have hx':(x.2.1,x.2.2) ∈ Q45 V S:=by
    unfold Q45
    refine List.mem_append_left _ (List.mem_cons_of_mem _ ?_)
    unfold Q2b
    exact List.mem_map.2 ⟨x,hx,rfl⟩
   have ho:=h.fam.own _ hx'
   exact Q5d ho T0 (hown ho (by decide))
  have HL:=zh (Qph h.map h.past (n:=n) (fun l hl=>(hp.past l hl).1))
  have Hws:=zh hws
  have Hmp:=zh hmp
  have HGo:=zh hGo
  have BB:=zh b1
  have MM:=zh m1
  have Hp:=zh hp
  have hm10:S.pl.regs.length=10:=h.mach.len
  have H10:=zh hm10
  have HLD:Hid (∀ j v,(stL S.pl.regs V.vW S.pl.at_)[j]? = some v→(Q0z vR vC S.fin S.value S.steps V.vS (.slice none 0 0) S.pl.regs V.vW S.pl.at_ vB).toArray[7+j]? = some v):=zh Qqx
  have hinfo:=Q12
  have hsl:(stL S.pl.regs V.vW S.pl.at_).length=12:=Q6w hm10 _ _
  rw [← hsl] at hinfo
  have Hinfo:=zh hinfo
  clear h ha b1 m1 T0 hown hws hmp hGo hp hinfo hsl hm10
  go_enter Tryz.func89,Tryz.ntmps89
  go_upto_region 3 with fail
  generalize hw0:(w.setCell ⟨r,3,none⟩ (.bool true)).setCell ⟨r,4,none⟩ (.int .i64 13)=w0 at *
  have hs0:w0.heap.size=w.heap.size:=by rw [← hw0];simp
  have q0:w0.cell? ⟨r,0,none⟩=some (.pointer (some ⟨g,0,none⟩)):=by rw [BB.out.cell];rfl
  have q2:w0.cell? ⟨r,2,none⟩=some (.map (some V.bm)):=by rw [BB.out.cell];rfl
  have k0:∀ Wx,Ext w0 Wx→Wx.cell? ⟨r,0,none⟩=some (.pointer (some ⟨g,0,none⟩)):=fun _ h=>h.kept q0
  have k2:∀ Wx,Ext w0 Wx→Wx.cell? ⟨r,2,none⟩=some (.map (some V.bm)):=fun _ h=>h.kept q2
  have hgl:=MM.out.lt
  have Hw0:=zh hw0
  clear g3 g4 hw0 q0 q2
  refine Q23 [9,14,15,16,17,18,19,20] 2 (by kernel_rfl) (by kernel_rfl) ?_
  repeat (first | (refine Q1x ?_ ?_;(decide)) | (refine Qf6 MM.out 7 (stL S.pl.regs V.vW S.pl.at_) HLD.out Tryz.underlying74 rfl Hinfo.out ?_ ?_ ?_ ?_;(decide);(first | rfl | (focus (go_simp;done)));exact ⟨_,rfl,rfl⟩;go_simp) | (refine Q1o ?_ ?_ ?_;(decide);(first | rfl | (focus (go_simp;done)));apply Exists.intro;refine ⟨fun wc hE=>?_,?_⟩;(go_simp;exact rfl);go_simp) | (refine Q1v ?_ ?_ ?_;(decide);(focus (go_simp;done));go_simp))
  refine Q1w ?_
  intro w3 hx
  have X3:=zh hx
  have hs3:=hx.size
  clear k0 k2 hx
  refine Q01 rfl ?_
  go_wp2_with fail
  have C:=Qmp S.pl.regs H10.out S.pl.at_ S.pl.words V.vW w3 (Q19 Hws.out X3.out) (by rw [Hp.out.wlen];exact ht)
  (with_reducible refine C.mono ?_)
  clear C
  rintro e w4 ⟨u,rfl,hO,hx4⟩
  obtain ⟨ou,cu,rfl⟩:=Q02 hO
  have X4:=zh (X3.out.trans hx4)
  have HO:=zh hO
  have hs4:=hx4.size
  clear hO hx4
  go_wp2
  refine ⟨X4.out,?_⟩
  refine Q01 rfl ?_
  go_wp2_with fail
  have C:=Qpg (B:=wB.heap.size) V.G V.bm w4 (Hmp.out.ext X4.out) (fun x hx=>Q19 (HGo.out x hx) X4.out) (fun x hx=>Nat.le_trans (HL.out x hx) hn)
  (with_reducible refine C.mono ?_)
  clear C
  rintro e w5 ⟨bb,GB,rfl,hM,hF,hfind,hkeys,hx5,hbb⟩
  have X5:=zh (X4.out.trans hx5)
  have hs5:=hx5.size
  have hfw:Fam w4 w.heap.size [(Value.slice ou S.pl.words.length cu,S.pl.words)]:=⟨fun x hx=>by
   simp only [List.mem_singleton] at hx
   subst hx
   exact own_mono' HO.out (by omega),List.pairwise_singleton _ _⟩
  have hfam:=(hfw.ext hx5).app hF (by omega) (fun x hx k hk=>(hfw.size hx k hk).2)
  have hPI:Q81 N GB S.pl.past:=⟨H.out.past.len,fun x hx=>by
   obtain ⟨y,hy,e⟩:=hkeys x hx
   rw [← e]
   exact H.out.past.lt y hy,fun m hm=>by rw [hfind m];exact H.out.past.get m hm⟩
  have hx5w:=X5.out
  rw [← Hw0.out] at hx5w
  obtain ⟨h2,T2⟩:=H.out.leave_ Ha.out hx5w hfam hM (by omega) hPI
  have H2:=zh h2
  have T2:=zh T2
  have b5:=BB.out.ext X5.out
  have hbsz:5+(stL S.pl.regs (.slice ou S.pl.words.length cu) S.pl.at_).length≤(((Q2n g V S).toArray.setIfInBounds 3 (.bool true)).setIfInBounds 4 (.int .i64 13)).size:=by
   rw [Q6w H10.out]
   simp [Q2n,H.out.ten]
  have hinf:(Tryz.prog.info? 74).map (·.size)=some (stL S.pl.regs (.slice ou S.pl.words.length cu) S.pl.at_).length:=by rw [Q6w H10.out];exact Q12
  have B6:=zh (b5.setCells (stL S.pl.regs (.slice ou S.pl.words.length cu) S.pl.at_) 5)
  have B5:=zh b5
  have Hbsz:=zh hbsz
  have Hinf:=zh hinf
  have Hone:=zh (Qcu S.pl.regs ou S.pl.words.length cu S.pl.at_)
  have HC17:Hid ((w5.setCells r 5 (stL S.pl.regs (.slice ou S.pl.words.length cu) S.pl.at_)).cell? ⟨r,17,none⟩=some (.map V.bb)):=zh (by
   rw [B6.out.cell]
   have e1:(((Q2n g V S).toArray.setIfInBounds 3 (.bool true)).setIfInBounds 4 (.int .i64 13))=(Q2n g { V with lf:=13 } { S with ahead:=true }).toArray:=rfl
   rw [e1,Qgt (V:={ V with lf:=13 }) H.out.ten H10.out]
   simp [Q2n,H10.out])
  clear hM hF hfind hkeys hx5 hfw hfam hPI hx5w h2 b5 hbsz hinf
  go_wp2
  refine ⟨X5.out,?_⟩
  refine Q1q (Q0c rfl (Q0c rfl (Q0c rfl (Q0c rfl (Q0c rfl (Q0c rfl (Q22))))))) ?_
  have hb6:=B6.out.lt
  have hb5:=B5.out.lt
  have c17:(w5.setCells r 5 (stL S.pl.regs (.slice ou S.pl.words.length cu) S.pl.at_)).cell? ⟨r,17,none⟩=some (.map V.bb)∧(w5.setCells r 5 (stL S.pl.regs (.slice ou S.pl.words.length cu) S.pl.at_)).frozen? ⟨r,17,none⟩=false:=⟨HC17.out,B6.out.frozen _⟩
  simp only [List.getElem_toArray,List.getElem_cons_succ,List.getElem_cons_zero]
  go_wp2_with (first | ((with_reducible refine Qcs B5.out 5 (stL S.pl.regs (.slice ou S.pl.words.length cu) S.pl.at_) Hbsz.out Hinf.out Hone.out ?_ ?_ ?_);rfl;rfl;(generalize w5.setCells r 5 (stL S.pl.regs (.slice ou S.pl.words.length cu) S.pl.at_)=w6 at *)))
  refine bodyPost_end (results_none rfl _ _ _) rfl ?_
  exact ⟨rfl,_,H2.out,T2.out,rfl⟩
 ·have hs:S.leave=S:=by unfold Spc.leave;rw [if_pos ha]
  have Hs:=zh hs
  rw [ha] at g3
  clear h ha hs
  go_enter Tryz.func89,Tryz.ntmps89
  go_wp2
  refine bodyPost_end (results_none rfl _ _ _) rfl ?_
  rw [Hs.out]
  exact ⟨rfl,V,H.out,Q1h.refl _,rfl⟩
theorem Qhd {p:Q00} {n:Nat} (h:QSt wB w N g r vR vC vB bases V S) (hp:PlOk p n S.pl) (ht:Q2a p≤1000000) (hn:n≤1000000) :
  Calls Tryz.prog 89 #[.pointer (some ⟨r,0,none⟩)] w (Q80 wB w N g r vR vC vB bases S.leave (.tuple #[])) :=
 (Qhe h hp ht hn).mono fun e w' ⟨h1,V',h2,h3,_⟩=>⟨h1,V',h2,h3⟩
theorem Qbj (h:QSt wB w N g r vR vC vB bases V S) (kind a b:Int) (hl:S.seen.length≤1000000) :
  Calls Tryz.prog 51 #[.pointer (some ⟨g,0,none⟩),.int .i64 kind,.int .i64 a,.int .i64 b] w (Q80 wB w N g r vR vC vB bases { S with seen:=S.seen ++ [⟨kind,a,b⟩] } (.tuple #[])):=by
 refine (Q62 w h.mach kind a b hl).mono ?_
 rintro e w' ⟨rfl,vS',hm,ht,-⟩
 obtain ⟨h1,h2⟩:=h.turn (S':={ S with seen:=S.seen ++ [⟨kind,a,b⟩] }) hm ht rfl rfl rfl rfl rfl rfl
 exact ⟨rfl,_,h1,h2⟩
set_option maxRecDepth 100000 in
set_option maxHeartbeats 4000000 in
theorem Qdk (h:QSt wB w N g r vR vC vB bases V S) (ha:S.ahead=true) (hl:S.seen.length≤1000000) :
  Calls Tryz.prog 29 #[.pointer (some ⟨r,0,none⟩)] w (Q80 wB w N g r vR vC vB bases S.returns (.tuple #[])):=by
 have hrl:=h.box.lt
 have g0:w.cell? ⟨r,0,none⟩=some (.pointer (some ⟨g,0,none⟩)):=by rw [h.box.cell];rfl
 have H:=zh h
 clear h
 go_enter Tryz.func29,Tryz.ntmps29
 go_wp2_with fail
 have C:=Qbj H.out 4 0 0 hl
 (with_reducible refine C.mono ?_)
 clear C
 rintro e w1 ⟨rfl,V1,h1,T1⟩
 clear g0
 have hr1:=h1.box.lt
 have g3:w1.cell? ⟨r,3,none⟩=some (.bool S.ahead)∧w1.frozen? ⟨r,3,none⟩=false:=⟨by rw [h1.box.cell];rfl,h1.box.frozen _⟩
 have hrow:∃ ob cb,V1.bW=.slice ob S.back.words.length cb:=by
  have hf:=h1.fam
  unfold Q45 at hf
  rw [if_pos (show ({ S with seen:=S.seen ++ [⟨4,0,0⟩] }:Spc).ahead=true from ha)] at hf
  exact Q02 (hf.own (V1.bW,S.back.words) (List.mem_append_right _ List.mem_cons_self))
 obtain ⟨ob,cb,eb⟩:=hrow
 have hone:(stL V1.bR V1.bW V1.bA).toArray.all (·.oneCell')=true:=by rw [eb];exact Qcu _ _ _ _ _
 have b1:=h1.box.set_ 3 (.bool false)
 have e1:(Q2n g V1 { S with seen:=S.seen ++ [⟨4,0,0⟩] }).toArray.setIfInBounds 3 (.bool false)=(Q2n g V1 { S with ahead:=false }).toArray:=rfl
 rw [e1] at b1
 have m1:Blk (w1.setCell ⟨r,3,none⟩ (.bool false)) g 76 (Q0z vR vC S.fin S.value S.steps V1.vS (.slice none 0 0) S.pl.regs V1.vW S.pl.at_ vB).toArray:=h1.mach.box.far (p:=⟨r,3,none⟩) (Ne.symm h1.rg) (.bool false)
 have hinf:(Tryz.prog.info? 74).map (·.size)=some (stL V1.bR V1.bW V1.bA).length:=by rw [Q6w h1.ten];exact Q12
 have hms:7+(stL V1.bR V1.bW V1.bA).length≤(Q0z vR vC S.fin S.value S.steps V1.vS (.slice none 0 0) S.pl.regs V1.vW S.pl.at_ vB).toArray.size:=by
  have h10:S.pl.regs.length=10:=h1.mach.len
  rw [Q6w h1.ten,Qis h10]
  omega
 have B1:=zh b1
 have M1:=zh m1
 have Hms:=zh hms
 have Hinf:=zh hinf
 have Hone:=zh hone
 have Heb:=zh eb
 have H1:=zh h1
 have T1:=zh T1
 have HLD:Hid (∀ j v,(stL V1.bR V1.bW V1.bA)[j]? = some v→(Q2n g V1 { S with ahead:=false }).toArray[5+j]? = some v):=zh Qgs
 clear h1 eb hone b1 m1 e1 hinf hms
 go_upto_region 3 with fail
 generalize hw2:w1.setCell ⟨r,3,none⟩ (.bool false)=w2 at *
 have Hw2:=zh hw2
 have q0:w2.cell? ⟨r,0,none⟩=some (.pointer (some ⟨g,0,none⟩)):=by rw [B1.out.cell];rfl
 have q17:w2.cell? ⟨r,17,none⟩=some (.map V1.bb):=by
  rw [B1.out.cell]
  obtain ⟨x0,x1,x2,x3,x4,x5,x6,x7,x8,x9,ex⟩:=Q9d H1.out.ten
  have ex:V1.bR=[x0,x1,x2,x3,x4,x5,x6,x7,x8,x9]:=ex
  unfold Q2n
  rw [ex]
  rfl
 have hr2:=B1.out.lt
 have hg2:=M1.out.lt
 have k0:∀ Wx,Ext w2 Wx→Wx.cell? ⟨r,0,none⟩=some (.pointer (some ⟨g,0,none⟩)):=fun _ h=>h.kept q0
 have k17:∀ Wx,Ext w2 Wx→Wx.cell? ⟨r,17,none⟩=some (.map V1.bb):=fun _ h=>h.kept q17
 clear g3 q0 q17 hw2
 refine Q23 [13,14,15,16,17,18] 0 (by kernel_rfl) (by kernel_rfl) ?_
 repeat (first | (refine Q1x ?_ ?_;(decide)) | (refine Qf6 B1.out 5 (stL V1.bR V1.bW V1.bA) HLD.out Tryz.underlying74 rfl Hinf.out ?_ ?_ ?_ ?_;(decide);(first | rfl | (focus (go_simp;done)));exact ⟨_,rfl,rfl⟩;go_simp) | (refine Q1o ?_ ?_ ?_;(decide);(first | rfl | (focus (go_simp;done)));apply Exists.intro;refine ⟨fun wc hE=>?_,?_⟩;(go_simp;exact rfl);go_simp) | (refine Q1v ?_ ?_ ?_;(decide);(focus (go_simp;done));go_simp))
 refine Q1w ?_
 intro w3 hx
 have b2:=B1.out.ext hx
 have B2:=zh (b2.farCells (stL V1.bR V1.bW V1.bA) H1.out.rg 7)
 have M2:=zh (M1.out.ext hx)
 have hr3:=b2.lt
 have hg3:=M2.out.lt
 have hr4:=B2.out.lt
 have c2:(w3.setCells g 7 (stL V1.bR V1.bW V1.bA)).cell? ⟨r,2,none⟩=some (.map (some V1.bm))∧(w3.setCells g 7 (stL V1.bR V1.bW V1.bA)).frozen? ⟨r,2,none⟩=false:=⟨by rw [B2.out.cell];rfl,B2.out.frozen _⟩
 rw [← Hw2.out] at hx
 obtain ⟨h2,T2⟩:=H1.out.back_ ha hx
 have H2:=zh h2
 have T:=zh (T1.out.trans T2)
 clear k0 k17 b2 hx h2 T2
 refine Q1q (Q0c rfl (Q0c rfl (Q0c rfl (Q0c rfl (Q0c rfl (Q0c rfl (Q22))))))) ?_
 simp only [List.getElem_toArray,List.getElem_cons_succ,List.getElem_cons_zero]
 go_wp2_with (first | ((with_reducible refine Qcs M2.out 7 (stL V1.bR V1.bW V1.bA) Hms.out Hinf.out Hone.out ?_ ?_ ?_);rfl;rfl;(generalize w3.setCells g 7 (stL V1.bR V1.bW V1.bA)=w4 at *)))
 refine bodyPost_end (results_none rfl _ _ _) rfl ?_
 exact ⟨rfl,_,H2.out,T.out⟩
end
section
variable {wB w : World} {N g r : Nat} {vR vC vB : Value} {bases : List Int} {V : QV} {S : Spc}
theorem QSt.atCell (h:QSt wB w N g r vR vC vB bases V S):w.cell? ⟨g,18,none⟩=some (.int .i64 (S.pl.at_:Int))∧w.frozen? ⟨g,18,none⟩=false:=by
 obtain ⟨-,-,-,-,-,-,-,-,g18,-⟩:=h.mach.cells
 exact g18
theorem QSt.ptrCell (h:QSt wB w N g r vR vC vB bases V S):w.cell? ⟨r,0,none⟩=some (.pointer (some ⟨g,0,none⟩)):=by rw [h.box.cell];rfl
theorem Q8d (h:QSt wB w N g r vR vC vB bases V S) {a:Int} (ha:okIn 10 a=true):w.cell? ⟨g,7+a.toNat,none⟩=some (.int .i64 (rg S.pl.regs a))∧w.frozen? ⟨g,7+a.toNat,none⟩=false:=h.mach.reg ha
set_option maxRecDepth 100000 in
set_option maxHeartbeats 8000000 in
theorem Qow {p:Q00} {m:Nat} (i:LIns) (h:QSt wB w N g r vR vC vB bases V S) (hp:PlOk p m S.pl) (ht:Q2a p≤1000000) (hm:m≤1000000) (hi:Q04 p 10 i=true) (h8:i.op=8) (hat:S.pl.at_ < p.code.length) (hcl:p.code.length≤1000000) :
  Calls Tryz.prog 59 #[.pointer (some ⟨r,0,none⟩),insV i] w (Q80 wB w N g r vR vC vB bases (Q4j i S) (.tuple #[])):=by
 have Hat:=zh hat
 have Hp:=zh hp
 have H:=zh h
 have HT:Hid (Q4j i S=Q4j i S):=zh rfl
 generalize hT:Q4j i S=T at *
 replace HT:=zh hT
 obtain ⟨op,a,b,c,n⟩:=i
 simp only at h8
 subst h8
 have hn:=(Q4p hi).2.2.2.2.2.2.2.2.2.1 (.inr rfl)
 obtain ⟨ha,hb,-,-⟩:=(Q4p hi).2.2.2.2.2.1 rfl
 simp only at hn ha hb
 have Hn:Hid (n=((n.toNat:Nat):Int)):=zh (by omega)
 have Hnl:Hid (n.toNat < p.code.length):=zh hn.2
 obtain ⟨a0,a1⟩:=Q0l.1 ha
 obtain ⟨b0,b1⟩:=Q0l.1 hb
 have hixr:=Q4a
 unfold insV
 simp only
 have Ha:=zh ha
 have Hb:=zh hb
 have hrl:=h.box.lt
 have hgl:=h.mach.box.lt
 clear h hp hi hT hn ha hb
 go_enter Tryz.func59,Tryz.ntmps59
 go_upto_region 1 with fail
 obtain ⟨w0,e,he,hW,hs0,hx0,c0,c1,c2,c3,c4⟩:=new5 w 41 (.int .i64 8) (.int .i64 a) (.int .i64 b) (.int .i64 c) (.int .i64 n)
 have bI:Blk w0 e 41 #[.int .i64 8,.int .i64 a,.int .i64 b,.int .i64 c,.int .i64 n]:=by rw [← hW,← he];exact Blk.new _ _ _
 rw [hW,he]
 have X:=zh hx0
 have BI:=zh bI
 have hel:=bI.lt
 have P0:=H.out.extend hx0
 have hrl0:=P0.box.lt
 have hgl0:=P0.mach.box.lt
 have k0:∀ W,Ext w0 W→W.cell? ⟨r,0,none⟩=some (.pointer (some ⟨g,0,none⟩)):=fun _ h=>h.kept P0.ptrCell
 have k18:∀ W,Ext w0 W→W.cell? ⟨g,18,none⟩=some (.int .i64 (S.pl.at_:Int)):=fun _ h=>h.kept P0.atCell.1
 have k4:∀ W,Ext w0 W→W.cell? ⟨e,4,none⟩=some (.int .i64 n):=fun _ h=>h.kept (by rw [BI.out.cell];rfl)
 clear hW hs0 hx0 c0 c1 c2 c3 c4 he bI P0 hrl hgl
 go_upto_region 2 with fail
 refine Q0j 13 (by kernel_rfl) (by kernel_rfl) ?_
 simp only [List.take_succ_cons,List.take_zero,List.drop_succ_cons,List.drop_zero]
 repeat (first | (refine Q0d ?_ ?_ ?_;(decide);(first | rfl | (focus (go_simp;done)));apply Exists.intro;refine ⟨fun wc hE=>?_,?_⟩;(go_simp;exact rfl);go_simp) | (refine Q0e ?_ ?_ ?_;(decide);(focus (go_simp;done));go_simp))
 refine Q0f ?_
 intro w1 hx
 have X:=zh (X.out.trans hx)
 have BI:=zh (BI.out.ext hx)
 have P1:=H.out.extend X.out
 have hrl1:=P1.box.lt
 have hgl1:=P1.mach.box.lt
 have hel1:=hx.lt hel
 clear k0 k18 k4 hx hel hrl0 hgl0
 have k0:∀ W,Ext w1 W→W.cell? ⟨r,0,none⟩=some (.pointer (some ⟨g,0,none⟩)):=fun _ h=>h.kept P1.ptrCell
 have k1:∀ W,Ext w1 W→W.cell? ⟨e,1,none⟩=some (.int .i64 a):=fun _ h=>h.kept (by rw [BI.out.cell];rfl)
 have k2:∀ W,Ext w1 W→W.cell? ⟨e,2,none⟩=some (.int .i64 b):=fun _ h=>h.kept (by rw [BI.out.cell];rfl)
 have k3:∀ W,Ext w1 W→W.cell? ⟨e,3,none⟩=some (.int .i64 c):=fun _ h=>h.kept (by rw [BI.out.cell];rfl)
 have ma:∀ W,Ext w1 W→W.cell? ⟨g,7+a.toNat,none⟩=some (.int .i64 (rg S.pl.regs a)):=fun _ h=>h.kept (Q8d P1 Ha.out).1
 have mb:∀ W,Ext w1 W→W.cell? ⟨g,7+b.toNat,none⟩=some (.int .i64 (rg S.pl.regs b)):=fun _ h=>h.kept (Q8d P1 Hb.out).1
 clear P1
 cases hh:Q99 c (rg S.pl.regs a) (rg S.pl.regs b)
 ·have HTs:Hid (T=if S.choice=0 then (S.goTo (S.pl.at_+1)).chosen else ((S.goTo (S.pl.at_+1)).chosen).leave.goTo (n.toNat)):=zh (by
   rw [← HT.out]
   unfold Q4j
   simp only
   rw [hh]
   rfl)
  have C8:∀ W,Calls Tryz.prog 52 #[.int .i64 c,.int .i64 (rg S.pl.regs a),.int .i64 (rg S.pl.regs b)] W fun e w'=>e=.returned (.bool false)∧Ext W w':=fun W=>by
   have:=Qbo c (rg S.pl.regs a) (rg S.pl.regs b) W
   rw [hh] at this
   exact this
  have C8:=zh C8
  clear hh
  go_upto_region 3 with fail
  refine Q0j 25 (by kernel_rfl) (by kernel_rfl) ?_
  simp only [List.take_succ_cons,List.take_zero,List.drop_succ_cons,List.drop_zero]
  repeat (first | (refine Q0d ?_ ?_ ?_;(decide);(first | rfl | (focus (go_simp;done)));apply Exists.intro;refine ⟨fun wc hE=>?_,?_⟩;(go_simp;exact rfl);go_simp) | (refine Q2g ?_ ?_ ?_;(decide);(first | rfl | (focus (go_simp;done)));apply Exists.intro;refine ⟨fun wc hE=>?_,?_⟩;(go_simp;(first | (with_reducible exact Q26 (C8.out _))));go_simp) | (refine Q0e ?_ ?_ ?_;(decide);(focus (go_simp;done));go_simp))
  refine Q0f ?_
  intro w2 hx
  have X:=zh (X.out.trans hx)
  have P2:=H.out.extend X.out
  have g0:=P2.ptrCell
  have g18:=P2.atCell
  have hrl2:=P2.box.lt
  have hgl2:=P2.mach.box.lt
  have P3:=P2.at__ (S.pl.at_+1)
  have T3:=(Q1h.ofExt X.out).trans (P2.stayM 18 (.int .i64 ((S.pl.at_+1:Nat):Int)))
  rw [show ((S.pl.at_+1:Nat):Int)=(S.pl.at_:Int)+1 by omega] at P3 T3
  have P3:=zh P3
  have T3:=zh T3
  have Hpl:=zh (Hp.out.goTo (k:=S.pl.at_+1) (by have:=Hat.out;omega))
  clear k0 k1 k2 k3 ma mb C8 hx P2
  go_wp2_with fail
  have C:=Qdl P3.out
  (with_reducible refine C.mono ?_)
  clear C
  rintro er w4 ⟨rfl,V4,P4,T4⟩
  have hch:(S.goTo (S.pl.at_+1)).choice=S.choice:=rfl
  rw [hch]
  have T4:=zh (T3.out.trans T4)
  have P4:=zh P4
  clear hch g0 g18
  by_cases hz:S.choice=0
  ·rw [hz]
   have HTz:=zh (HTs.out.trans (if_pos hz))
   clear hz
   go_wp2
   refine bodyPost_end (results_none rfl _ _ _) rfl ?_
   rw [HTz.out]
   exact ⟨rfl,_,P4.out,T4.out⟩
  ·have HTz:=zh (HTs.out.trans (if_neg hz))
   have q0:(S.choice != (0:Int))=true:=by simpa using hz
   clear hz HTs
   generalize S.choice=ch at *
   go_wp2_with fail
   have C:=Qhd P4.out Hpl.out ht hm
   (with_reducible refine C.mono ?_)
   clear C
   rintro er w5 ⟨rfl,V5,P5,T5⟩
   have g0:=P5.ptrCell
   have g18:=P5.atCell
   have hrl5:=P5.box.lt
   have hgl5:=P5.mach.box.lt
   have P7:=P5.at__ (n.toNat)
   have T7:=(T4.out.trans T5).trans (P5.stayM 18 (.int .i64 ((n.toNat:Nat):Int)))
   rw [← Hn.out] at P7 T7
   have P7:=zh P7
   have T7:=zh T7
   generalize (((S.goTo (S.pl.at_+1)).chosen).leave).pl.at_=aa at *
   clear P5 T5 q0
   go_wp2
   refine bodyPost_end (results_none rfl _ _ _) rfl ?_
   rw [HTz.out]
   exact ⟨rfl,_,P7.out,T7.out⟩
 ·have HTs:Hid (T=if S.choice=0 then (S.goTo (n.toNat)).chosen else ((S.goTo (n.toNat)).chosen).leave.goTo (S.pl.at_+1)):=zh (by
   rw [← HT.out]
   unfold Q4j
   simp only
   rw [hh]
   rfl)
  have C8:∀ W,Calls Tryz.prog 52 #[.int .i64 c,.int .i64 (rg S.pl.regs a),.int .i64 (rg S.pl.regs b)] W fun e w'=>e=.returned (.bool true)∧Ext W w':=fun W=>by
   have:=Qbo c (rg S.pl.regs a) (rg S.pl.regs b) W
   rw [hh] at this
   exact this
  have C8:=zh C8
  clear hh
  go_upto_region 3 with fail
  refine Q0j 25 (by kernel_rfl) (by kernel_rfl) ?_
  simp only [List.take_succ_cons,List.take_zero,List.drop_succ_cons,List.drop_zero]
  repeat (first | (refine Q0d ?_ ?_ ?_;(decide);(first | rfl | (focus (go_simp;done)));apply Exists.intro;refine ⟨fun wc hE=>?_,?_⟩;(go_simp;exact rfl);go_simp) | (refine Q2g ?_ ?_ ?_;(decide);(first | rfl | (focus (go_simp;done)));apply Exists.intro;refine ⟨fun wc hE=>?_,?_⟩;(go_simp;(first | (with_reducible exact Q26 (C8.out _))));go_simp) | (refine Q0e ?_ ?_ ?_;(decide);(focus (go_simp;done));go_simp))
  refine Q0f ?_
  intro w2 hx
  have X:=zh (X.out.trans hx)
  have P2:=H.out.extend X.out
  have g0:=P2.ptrCell
  have g18:=P2.atCell
  have hrl2:=P2.box.lt
  have hgl2:=P2.mach.box.lt
  have P3:=P2.at__ (n.toNat)
  have T3:=(Q1h.ofExt X.out).trans (P2.stayM 18 (.int .i64 ((n.toNat:Nat):Int)))
  rw [← Hn.out] at P3 T3
  have P3:=zh P3
  have T3:=zh T3
  have Hpl:=zh (Hp.out.goTo (k:=n.toNat) (by have:=Hnl.out;omega))
  clear k0 k1 k2 k3 ma mb C8 hx P2
  go_wp2_with fail
  have C:=Qdl P3.out
  (with_reducible refine C.mono ?_)
  clear C
  rintro er w4 ⟨rfl,V4,P4,T4⟩
  have hch:(S.goTo (n.toNat)).choice=S.choice:=rfl
  rw [hch]
  have T4:=zh (T3.out.trans T4)
  have P4:=zh P4
  clear hch g0 g18
  by_cases hz:S.choice=0
  ·rw [hz]
   have HTz:=zh (HTs.out.trans (if_pos hz))
   clear hz
   go_wp2
   refine bodyPost_end (results_none rfl _ _ _) rfl ?_
   rw [HTz.out]
   exact ⟨rfl,_,P4.out,T4.out⟩
  ·have HTz:=zh (HTs.out.trans (if_neg hz))
   have q0:(S.choice != (0:Int))=true:=by simpa using hz
   clear hz HTs
   generalize S.choice=ch at *
   go_wp2_with fail
   have C:=Qhd P4.out Hpl.out ht hm
   (with_reducible refine C.mono ?_)
   clear C
   rintro er w5 ⟨rfl,V5,P5,T5⟩
   have g0:=P5.ptrCell
   have g18:=P5.atCell
   have hrl5:=P5.box.lt
   have hgl5:=P5.mach.box.lt
   have P7:=P5.at__ (S.pl.at_+1)
   have T7:=(T4.out.trans T5).trans (P5.stayM 18 (.int .i64 ((S.pl.at_+1:Nat):Int)))
   rw [show ((S.pl.at_+1:Nat):Int)=(S.pl.at_:Int)+1 by omega] at P7 T7
   have P7:=zh P7
   have T7:=zh T7
   generalize (((S.goTo (n.toNat)).chosen).leave).pl.at_=aa at *
   clear P5 T5 q0
   go_wp2
   refine bodyPost_end (results_none rfl _ _ _) rfl ?_
   rw [HTz.out]
   exact ⟨rfl,_,P7.out,T7.out⟩
end
theorem Qfr (w:World):(zeroValue 35).run Tryz.prog w=.ok (.slice none 0 0) w:=by kernel_rfl
theorem Qhs:Tryz.prog.underlying 82 = some (.map 3 35):=by kernel_rfl
theorem Qbu {w:World} {B:Nat} {G:Grp} (hF:Fam w B (Q2b G)) (n:Nat):w.ownsRow B 2 1 (Q2s (Q1a G) n (.slice none 0 0)) (Q3j G n).length ((Q3j G n).map (Value.int .i64)):=by
 unfold Q2s Q3j Q1a
 rw [List.find?_map]
 cases he:List.find? ((fun p=>p.1 == n) ∘ fun x:Nat × Value × List Int=>(x.1,x.2.1)) G with
 | none =>
  have he':G.find? (fun x=>x.1 == n)=none:=he
  rw [he']
  exact World.ownsRow_nil _ _ _ _
 | some x =>
  have he':G.find? (fun x=>x.1 == n)=some x:=he
  rw [he']
  have hx:=List.mem_of_find?_eq_some he'
  exact hF.own (x.2.1,x.2.2) (List.mem_map.2 ⟨x,hx,rfl⟩)
theorem Q7m:¬ Q77 41 := by unfold Q77;decide
section
variable {wB w : World} {N g r : Nat} {vR vC vB : Value} {bases : List Int} {V : QV} {S : Spc}
theorem QSt.famG (h:QSt wB w N g r vR vC vB bases V S):Fam w wB.heap.size (Q2b V.G):=by
 refine h.fam.sub ?_
 unfold Q45
 exact (List.sublist_cons_self _ _).trans (List.sublist_append_left _ _)
theorem QSt.pastCell (h:QSt wB w N g r vR vC vB bases V S):w.cell? ⟨r,2,none⟩=some (.map (some V.bm))∧w.frozen? ⟨r,2,none⟩=false:=⟨by rw [h.box.cell];rfl,h.box.frozen _⟩
theorem QSt.wordsCell (h:QSt wB w N g r vR vC vB bases V S):w.cell? ⟨g,17,none⟩=some V.vW:=by
 obtain ⟨-,-,-,-,-,-,-,g17,-,-⟩:=h.mach.cells
 exact g17.1
set_option maxRecDepth 100000 in
set_option maxHeartbeats 8000000 in
theorem Qot {p:Q00} {m:Nat} (i:LIns) (nn:Nat) (h:QSt wB w N g r vR vC vB bases V S) (hp:PlOk p m S.pl) (ht:Q2a p≤1000000) (hm:m≤1000000) (ha:okIn 10 i.a=true) (hn:nn < S.pl.words.length) (hat:S.pl.at_ < p.code.length) (hcl:p.code.length≤1000000) :
  Calls Tryz.prog 90 #[.pointer (some ⟨r,0,none⟩),insV i,.int .i64 (nn:Int)] w (Q80 wB w N g r vR vC vB bases (Q44 i nn S) (.tuple #[])):=by
 have Hat:=zh hat
 have Hp:=zh hp
 have H:=zh h
 have HT:Hid (Q44 i nn S=Q44 i nn S):=zh rfl
 generalize hT:Q44 i nn S=T at *
 replace HT:=zh hT
 have hNn:nn < N:=by rw [← h.past.len,hp.plen,← hp.wlen];exact hn
 have HNn:=zh hNn
 have Hn:=zh hn
 have hnl:nn < 1000000:=by have:=hp.wlen;omega
 have hll:=(hp.row nn).1
 obtain ⟨op,a,b,c,n⟩:=i
 simp only at ha
 obtain ⟨a0,a1⟩:=Q0l.1 ha
 have Ha:=zh ha
 have hixr:=Q4a
 unfold insV
 simp only
 have hrl:=h.box.lt
 have hgl:=h.mach.box.lt
 clear h hp hT ha hn hNn
 go_enter Tryz.func90,Tryz.ntmps90
 go_upto_region 1 with fail
 obtain ⟨w0,e,he,hW,hs0,hx0,c0,c1,c2,c3,c4⟩:=new5 w 41 (.int .i64 op) (.int .i64 a) (.int .i64 b) (.int .i64 c) (.int .i64 n)
 have bI:Blk w0 e 41 #[.int .i64 op,.int .i64 a,.int .i64 b,.int .i64 c,.int .i64 n]:=by rw [← hW,← he];exact Blk.new _ _ _
 rw [hW,he]
 have X:=zh hx0
 have BI:=zh bI
 have P0:=H.out.extend hx0
 have hrl0:=P0.box.lt
 have hgl0:=P0.mach.box.lt
 have g0:=P0.ptrCell
 have g18:=P0.atCell
 have P3:=P0.at__ (S.pl.at_+1)
 have T3:=(Q1h.ofExt X.out).trans (P0.stayM 18 (.int .i64 ((S.pl.at_+1:Nat):Int)))
 have I3:=P0.stayM 18 (.int .i64 ((S.pl.at_+1:Nat):Int)) _ _ _ bI Q7m
 rw [show ((S.pl.at_+1:Nat):Int)=(S.pl.at_:Int)+1 by omega] at P3 T3 I3
 have P3:=zh P3
 have T3:=zh T3
 have I3:=zh I3
 have Hpl:=zh (Hp.out.goTo (k:=S.pl.at_+1) (by have:=Hat.out;omega))
 clear hW hs0 hx0 c0 c1 c2 c3 c4 he bI P0 hrl hgl
 go_wp2_with fail
 have C:=Qdl P3.out
 (with_reducible refine C.mono ?_)
 clear C
 rintro er w4 ⟨rfl,V4,P4,T4⟩
 have hch:(S.goTo (S.pl.at_+1)).choice=S.choice:=rfl
 rw [hch]
 have I4:=T4 _ _ _ I3.out Q7m
 have T4:=zh (T3.out.trans T4)
 have e1:w4.cell? ⟨e,1,none⟩=some (.int .i64 a):=by rw [I4.cell];rfl
 have hel:=I4.lt
 have hrl4:=P4.box.lt
 have hgl4:=P4.mach.box.lt
 obtain ⟨kw,cw,hvw,hkw,hcell⟩:=own_at' P4.mach.ws (by have:=Hn.out;show 0 < S.pl.words.length;omega)
 obtain ⟨rc,-⟩:=hcell nn (.int .i64 (S.pl.words.getD nn 0)) (by have:=Hn.out;exact this) (by
  have:=Hn.out
  show (S.pl.words.map (Value.int .i64))[nn]? = some (.int .i64 (S.pl.words.getD nn 0))
  simp [this])
 have k0:∀ W,Ext w4 W→W.cell? ⟨r,0,none⟩=some (.pointer (some ⟨g,0,none⟩)):=fun _ h=>h.kept P4.ptrCell
 have k17:∀ W,Ext w4 W→W.cell? ⟨g,17,none⟩=some (.slice (some ⟨kw,0,none⟩) S.pl.words.length cw):=fun _ h=>h.kept (by have:=P4.wordsCell;rw [hvw] at this;exact this)
 have k1:∀ W,Ext w4 W→W.cell? ⟨e,1,none⟩=some (.int .i64 a):=fun _ h=>h.kept e1
 have kc:∀ W,Ext w4 W→W.cell? ⟨kw,nn,none⟩=some (.int .i64 (S.pl.words.getD nn 0)):=fun _ h=>h.kept rc
 have HR64:=zh (Hp.out.w64 nn)
 generalize hxv:S.pl.words.getD nn 0=x at *
 have Hxv:=zh hxv
 clear hxv
 have hkl:=Q0k rc
 simp only at hkl
 have hix:∀ W,(Instr.indexAt 35 (.slice (some ⟨kw,0,none⟩) S.pl.words.length cw) (.int .i64 (nn:Int))).run Tryz.prog W=.ok (.pointer (some ⟨kw,nn,none⟩)) W:=fun W=>by
  have:=Q72 W kw S.pl.words.length cw (nn:Int) (by omega) (by have:=Hn.out;omega)
  simpa using this
 have P4:=zh P4
 have I4:=zh I4
 clear hch g0 g18 hvw hcell rc e1 hrl0 hgl0
 go_upto_region 4 with fail
 refine Q23 [21] 0 (by kernel_rfl) (by kernel_rfl) ?_
 repeat (first | (refine Q1x ?_ ?_;(decide)) | (refine Q1o ?_ ?_ ?_;(decide);(first | rfl | (focus (go_simp;done)));apply Exists.intro;refine ⟨fun wc hE=>?_,?_⟩;(go_simp;exact rfl);go_simp) | (refine Q1v ?_ ?_ ?_;(decide);(focus (go_simp;done));go_simp))
 refine Q1w ?_
 intro w5 hx
 have P5:=P4.out.extend hx
 have gA:=Q8d P5 Ha.out
 have hrl5:=P5.box.lt
 have hgl5:=P5.mach.box.lt
 have P6:=P5.reg_ Ha.out x
 have T6:=zh ((T4.out.ext hx).trans (P5.stayM (7+a.toNat) (.int .i64 x)))
 have I6:=zh (P5.stayM (7+a.toNat) (.int .i64 x) _ _ _ (I4.out.ext hx) Q7m)
 have hfd:Q3j V4.G nn=S.pl.past.getD nn []:=(P4.out.past.get nn HNn.out).symm
 have hrow:=Qbu P6.famG nn
 rw [hfd] at hrow
 obtain ⟨ol,cl,hl⟩:=Q02 hrow
 have Hl:=zh hl
 have Hfd:=zh hfd
 have HM:=zh P6.map
 have gp:=P5.pastCell.1
 have hrg:=P5.rg
 have hgr:=Ne.symm P5.rg
 have P6:=zh P6
 have Hpl2:=zh (Hpl.out.reg a HR64.out)
 have hz:=Qfr
 have hpu:=Qhs
 clear k0 k17 k1 kc hix hx P5 hl hfd hrow hrl4 hgl4 hel hkl
 by_cases hA:0 < S.choice∧S.choice≤(S.pl.past.getD nn []).length
 ·have HTs:Hid (T=(((S.goTo (S.pl.at_+1)).chosen).put_ a x).leave.put_ a ((S.pl.past.getD nn []).getD ((S.pl.past.getD nn []).length - S.choice.toNat) 0)):=zh (by
   rw [← HT.out]
   unfold Q44
   simp only
   rw [if_pos hA,Hxv.out])
  obtain ⟨hA0,hA1⟩:=hA
  generalize S.choice=ch at *
  generalize hlv:S.pl.past.getD nn []=l at *
  have hl1:(l.length:Int)≤1000000:=by omega
  refine Q1q (Q0c rfl (Q22)) ?_
  go_wp2_with (refine Qco rfl (.tmp 46) (.tmp 47) 82 3 35 rfl hpu Tryz.underlying3 (hz _) rfl HM.out nn rfl ?_;rw [Hl.out])
  have C:=Qhe P6.out Hpl2.out ht hm
  (with_reducible refine C.mono ?_)
  clear C
  rintro er w8 ⟨rfl,V8,P8,T8,hG⟩
  have hrow8:=Qbu P8.famG nn
  have hG4:V8.G=V4.G:=hG
  rw [hG4,Hfd.out,Hl.out] at hrow8
  obtain ⟨kl,cl8,hvl,hkl8,hcell8⟩:=own_at' hrow8 (by omega)
  simp only [Value.slice.injEq,true_and] at hvl
  obtain ⟨rfl,rfl⟩:=hvl
  have hin:l.length - ch.toNat < l.length:=by omega
  obtain ⟨rc,-⟩:=hcell8 (l.length - ch.toNat) (.int .i64 (l.getD (l.length - ch.toNat) 0)) hin (by simp [hin])
  have hkl:=Q0k rc
  simp only at hkl
  have I8:=T8 _ _ _ I6.out Q7m
  have k0:∀ W,Ext w8 W→W.cell? ⟨r,0,none⟩=some (.pointer (some ⟨g,0,none⟩)):=fun _ h=>h.kept P8.ptrCell
  have k1:∀ W,Ext w8 W→W.cell? ⟨e,1,none⟩=some (.int .i64 a):=fun _ h=>h.kept (by rw [I8.cell];rfl)
  have kc:∀ W,Ext w8 W→W.cell? ⟨kl,l.length - ch.toNat,none⟩=some (.int .i64 (l.getD (l.length - ch.toNat) 0)):=fun _ h=>h.kept rc
  have hix:∀ W,(Instr.indexAt 35 (.slice (some ⟨kl,0,none⟩) l.length cl) (.int .i64 ((l.length:Int) - ch))).run Tryz.prog W=.ok (.pointer (some ⟨kl,l.length - ch.toNat,none⟩)) W:=fun W=>by
   have:=Q72 W kl l.length cl ((l.length:Int) - ch) (by omega) (by omega)
   rw [this,show ((l.length:Int) - ch).toNat=l.length - ch.toNat by omega]
  have hwr:IntKind.i64.wrap ((l.length:Int) - ch)=(l.length:Int) - ch:=Go.IntWalk.i64_in _ (by omega)
  have hel8:=I8.lt
  have hrl8:=P8.box.lt
  have hgl8:=P8.mach.box.lt
  have P8:=zh P8
  have T8:=zh (T6.out.trans T8)
  clear hrow8 hG hG4 hcell8 rc I8 gA gp hin hrl5 hgl5
  generalize l.getD (l.length - ch.toNat) 0=was at *
  generalize l.length - ch.toNat=jj at *
  go_upto_region 8 with fail
  refine Q23 [17] 0 (by kernel_rfl) (by kernel_rfl) ?_
  repeat (first | (refine Q1x ?_ ?_;(decide)) | (refine Q1o ?_ ?_ ?_;(decide);(first | rfl | (focus (go_simp;done)));apply Exists.intro;refine ⟨fun wc hE=>?_,?_⟩;(go_simp;exact rfl);go_simp) | (refine Q1v ?_ ?_ ?_;(decide);(focus (go_simp;done));go_simp))
  refine Q1w ?_
  intro w9 hx
  have P9:=P8.out.extend hx
  have gA:=Q8d P9 Ha.out
  have hgl9:=P9.mach.box.lt
  have P10:=zh (P9.reg_ Ha.out was)
  have T10:=zh ((T8.out.ext hx).trans (P9.stayM (7+a.toNat) (.int .i64 was)))
  generalize rg _ a=ra at gA
  clear k0 k1 kc hix hx P9
  refine Q1q (Q0c rfl (Q22)) ?_
  go_wp2
  refine bodyPost_end (results_none rfl _ _ _) rfl ?_
  rw [HTs.out]
  exact ⟨rfl,_,P10.out,T10.out⟩
 ·have HTs:Hid (T=((S.goTo (S.pl.at_+1)).chosen).put_ a x):=zh (by
   rw [← HT.out]
   unfold Q44
   simp only
   rw [if_neg hA,Hxv.out])
  generalize S.choice=ch at *
  generalize hlv:S.pl.past.getD nn []=l at *
  have hl1:(l.length:Int)≤1000000:=by omega
  by_cases hB:0 < ch
  ·have hC:(l.length:Int) < ch:=by
    rcases Int.lt_or_le (l.length:Int) ch with h | h
    ·exact h
    ·exact absurd ⟨hB,h⟩ hA
   have hC2:decide (ch≤(l.length:Int))=false:=by simp;omega
   clear hA
   refine Q1q (Q0c rfl (Q22)) ?_
   go_wp2_with (refine Qco rfl (.tmp 46) (.tmp 47) 82 3 35 rfl hpu Tryz.underlying3 (hz _) rfl HM.out nn rfl ?_;rw [Hl.out])
   refine bodyPost_end (results_none rfl _ _ _) rfl ?_
   rw [HTs.out]
   exact ⟨rfl,_,P6.out,T6.out⟩
  ·have hC2:decide (0 < ch)=false:=by simp;omega
   clear hA
   refine Q1q (Q0c rfl (Q22)) ?_
   go_wp2_with (refine Qco rfl (.tmp 46) (.tmp 47) 82 3 35 rfl hpu Tryz.underlying3 (hz _) rfl HM.out nn rfl ?_;rw [Hl.out])
   refine bodyPost_end (results_none rfl _ _ _) rfl ?_
   rw [HTs.out]
   exact ⟨rfl,_,P6.out,T6.out⟩
end
def Q5c (G:Grp) (k:Nat) (v:Value) (l:List Int):Grp:=if (G.find? fun x=>x.1 == k).isSome then G.map (fun x=>if x.1 == k then (k,v,l) else x) else G ++ [(k,v,l)]
theorem Qsd (G:Grp) (k:Nat) (v:Value) (l:List Int):Q1a (Q5c G k v l)=putG (Q1a G) k v:=by
 unfold Q5c putG Q1a
 rw [List.find?_map]
 have e:((fun p:Nat × Value=>p.1 == k) ∘ fun x:Nat × Value × List Int=>(x.1,x.2.1))=fun x=>x.1 == k:=rfl
 rw [e]
 cases he:G.find? (fun x=>x.1 == k) with
 | none=>simp
 | some y =>
  simp only [Option.isSome_some,Option.map_some,if_true,List.map_map]
  apply List.map_congr_left
  intro x hx
  simp only [Function.comp_apply]
  by_cases hk:(x.1 == k)=true <;> simp [hk]
theorem Qu0 (G:Grp) (k:Nat) (v:Value) (l:List Int) (n:Nat):Q3j (Q5c G k v l) n=if n=k then l else Q3j G n:=by
 unfold Q5c Q3j
 cases he:G.find? (fun x=>x.1 == k) with
 | none =>
  simp only [Option.isSome_none,Bool.false_eq_true,if_false]
  rw [List.find?_append]
  by_cases hn:n=k
  ·subst hn
   rw [he]
   simp
  ·rw [if_neg hn]
   have:List.find? (fun x:Nat × Value × List Int=>x.1 == n) [(k,v,l)]=none:=by simp;omega
   rw [this,Option.or_none]
 | some y =>
  simp only [Option.isSome_some,if_true]
  rw [List.find?_map]
  have e:((fun x:Nat × Value × List Int=>x.1 == n) ∘ fun x:Nat × Value × List Int=>if (x.1 == k)=true then (k,v,l) else x)=fun x=>x.1 == n:=by
   funext x
   simp only [Function.comp_apply]
   by_cases hk:(x.1 == k)=true
   ·rw [if_pos hk,beq_iff_eq.1 hk]
   ·rw [if_neg hk]
  rw [e]
  by_cases hn:n=k
  ·subst hn
   rw [he,if_pos rfl]
   have hy:(y.1 == n)=true:=List.find?_some (p:=fun x:Nat × Value × List Int=>x.1 == n) he
   simp only [Option.map_some,Option.getD_some]
   rw [if_pos hy]
  ·rw [if_neg hn]
   cases he2:G.find? (fun x=>x.1 == n) with
   | none=>rfl
   | some z =>
    have hz:(z.1 == n)=true:=List.find?_some (p:=fun x:Nat × Value × List Int=>x.1 == n) he2
    have hz':(z.1 == k)=false:=by
     rw [beq_iff_eq] at hz
     rw [hz]
     simpa using hn
    simp only [Option.map_some,Option.getD_some]
    rw [if_neg (by rw [hz'];simp)]
theorem Q81.put {N:Nat} {G:Grp} {past:List (List Int)} (h:Q81 N G past) {k:Nat} (hk:k < N) (v:Value) (l:List Int):Q81 N (Q5c G k v l) (past.set k l):=by
 refine ⟨by rw [List.length_set];exact h.len,fun x hx=>?_,fun n hn=>?_⟩
 ·unfold Q5c at hx
  split at hx
  ·obtain ⟨y,hy,e⟩:=List.mem_map.1 hx
   by_cases hyk:(y.1 == k)=true
   ·rw [if_pos hyk] at e
    subst e
    exact hk
   ·rw [if_neg hyk] at e
    subst e
    exact h.lt y hy
  ·rcases List.mem_append.1 hx with hx | hx
   ·exact h.lt x hx
   ·simp only [List.mem_singleton] at hx
    subst hx
    exact hk
 ·rw [Qu0]
  by_cases hnk:n=k
  ·subst hnk
   rw [if_pos rfl]
   simp [h.len,hn]
  ·rw [if_neg hnk,← h.get n hn]
   simp [List.getD_eq_getElem?_getD,List.getElem?_set,Ne.symm hnk]
theorem Fam.insert_nil {w:World} {B:Nat} {L1 L2:List (Value × List Int)} (h:Fam w B (L1 ++ L2)):Fam w B (L1 ++ (.slice none 0 0,[]) :: L2):=by
 refine ⟨fun x hx=>?_,?_⟩
 ·rcases List.mem_append.1 hx with hx | hx
  ·exact h.own x (List.mem_append_left _ hx)
  ·rcases List.mem_cons.1 hx with rfl | hx
   ·exact World.ownsRow_nil _ _ _ _
   ·exact h.own x (List.mem_append_right _ hx)
 ·have:=h.apart
  rw [List.pairwise_append] at this ⊢
  obtain ⟨p1,p2,p3⟩:=this
  refine ⟨p1,List.Pairwise.cons (fun x hx=>by intro k hk;cases hk) p2,fun x hx y hy=>?_⟩
  rcases List.mem_cons.1 hy with rfl | hy
  ·intro k _ hk'
   cases hk'
  ·exact p3 x hx y hy
theorem Qtq (G:Grp) (k:Nat) (hd:(G.map (·.1)).Nodup):∃ G1 G2:Grp,(∀ v l,Q5c G k v l=G1 ++ (k,v,l) :: G2) ∧
  ((∃ x,x.1=k∧G=G1 ++ x :: G2∧Q2s (Q1a G) k (.slice none 0 0)=x.2.1∧Q3j G k=x.2.2)∨(G=G1∧G2=[]∧Q2s (Q1a G) k (.slice none 0 0)=.slice none 0 0∧Q3j G k=[])):=by
 unfold Q2s Q3j Q1a
 rw [List.find?_map]
 have e:((fun p:Nat × Value=>p.1 == k) ∘ fun x:Nat × Value × List Int=>(x.1,x.2.1))=fun x=>x.1 == k:=rfl
 rw [e]
 cases he:G.find? (fun x=>x.1 == k) with
 | none=>exact ⟨G,[],fun v l=>by unfold Q5c;rw [he];rfl,.inr ⟨rfl,rfl,rfl,rfl⟩⟩
 | some x =>
  have hx:=List.mem_of_find?_eq_some he
  have hk:x.1=k:=beq_iff_eq.1 (List.find?_some (p:=fun x:Nat × Value × List Int=>x.1 == k) he)
  obtain ⟨G1,G2,hG⟩:=List.append_of_mem hx
  refine ⟨G1,G2,fun v l=>?_,.inl ⟨x,hk,hG,rfl,rfl⟩⟩
  have h1:∀ y ∈ G1,y.1≠k:=fun y hy ey=>by
   rw [hG,List.map_append,List.nodup_append] at hd
   exact hd.2.2 y.1 (List.mem_map.2 ⟨y,hy,rfl⟩) x.1 (by simp) (by rw [ey,hk])
  have h2:∀ y ∈ G2,y.1≠k:=fun y hy ey=>by
   rw [hG,List.map_append,List.nodup_append] at hd
   have:=hd.2.1
   rw [List.map_cons,List.nodup_cons] at this
   exact this.1 (List.mem_map.2 ⟨y,hy,by rw [ey,hk]⟩)
  unfold Q5c
  rw [he]
  simp only [Option.isSome_some,if_true]
  rw [hG,List.map_append,List.map_cons]
  have a1:G1.map (fun y=>if (y.1 == k)=true then (k,v,l) else y)=G1:=by
   rw [List.map_congr_left (g:=id) (fun y hy=>by simp [h1 y hy]),List.map_id]
  have a2:G2.map (fun y=>if (y.1 == k)=true then (k,v,l) else y)=G2:=by
   rw [List.map_congr_left (g:=id) (fun y hy=>by simp [h2 y hy]),List.map_id]
  rw [a1,a2,if_pos (by simpa using hk)]
section
variable {wB w w1 w2 : World} {N g r : Nat} {vR vC vB : Value} {bases : List Int} {V V' : QV} {S S' : Spc}
theorem QSt.push (h:QSt wB w N g r vR vC vB bases V S) {nn:Nat} (hn:nn < N) {v':Value} {l':List Int} (hg1:w.grownBy w1 (Q2s (Q1a V.G) nn (.slice none 0 0)).ownBlock)
  (ho:w1.ownsRow wB.heap.size 2 1 v' l'.length (l'.map (Value.int .i64))) (hat:∀ k,v'.ownBlock=some k→(Q2s (Q1a V.G) nn (.slice none 0 0)).ownBlock=some k∨w.heap.size≤k)
  (hm:MapG w2 V.bm (putG (Q1a V.G) nn v')) (hg2:w1.grownBy w2 (some V.bm)) :
  QSt wB w2 N g r vR vC vB bases { V with G:=Q5c V.G nn v' l' } { S with pl:={ S.pl with past:=S.pl.past.set nn l' } }∧Q1h w w2:=by
 have hr0:=Qbu h.famG nn
 have hf:Fam w wB.heap.size ([(V.vW,S.pl.words)] ++ Q2b V.G ++ (if S.ahead=true then (V.bW,S.back.words) :: Q2b V.GB else [])):=h.fam
 have hm1:MapG w1 V.bm (Q1a V.G):=h.map.kept hg1 (h.map.ne_own hr0)
 have hblk:∀ {k:Nat} {t:TypeId} {cs:Array Value},Blk w k t cs→2 ≠ t→Blk w2 k t cs:=fun hb hne =>
  have h1:=hb.grown hg1 (Q09 hr0 hb hne)
  h1.grown hg2 (fun e=>hm1.ne_blk h1 (Option.some.inj e).symm)
 have hown:∀ {B:Nat} {e:TypeId} {s n:Nat} {v:Value} {xs:List Value},w.ownsRow B e s v n xs→2 ≠ e→w2.ownsRow B e s v n xs:=fun ho hne =>
  have h1:=Q27 ho hg1 (fun k hk=>Q2c hr0 ho hne k hk)
  Q27 h1 hg2 (fun k hk e=>hm1.ne_own h1 (by rw [e,hk]))
 obtain ⟨G1,G2,hput,hcase⟩:=Qtq V.G nn (Qbx h.map)
 have hf2:Fam w1 wB.heap.size ([(V.vW,S.pl.words)] ++ Q2b (Q5c V.G nn v' l') ++ (if S.ahead=true then (V.bW,S.back.words) :: Q2b V.GB else [])):=by
  have hL:Fam w wB.heap.size (([(V.vW,S.pl.words)] ++ Q2b G1) ++ (Q2s (Q1a V.G) nn (.slice none 0 0),Q3j V.G nn) :: (Q2b G2 ++ (if S.ahead=true then (V.bW,S.back.words) :: Q2b V.GB else []))):=by
   rcases hcase with ⟨x,-,e1,e2,e3⟩ | ⟨e1,e2,e3,e4⟩
   ·rw [e2,e3]
    rw [e1] at hf
    unfold Q2b at hf ⊢
    simpa using hf
   ·rw [e3,e4]
    apply Fam.insert_nil
    rw [e1] at hf
    rw [e2]
    simpa [Q2b] using hf
  have hi:(([(V.vW,S.pl.words)] ++ Q2b G1) ++ (Q2s (Q1a V.G) nn (.slice none 0 0),Q3j V.G nn) :: (Q2b G2 ++ (if S.ahead=true then (V.bW,S.back.words) :: Q2b V.GB else [])))[([(V.vW,S.pl.words)] ++ Q2b G1).length]? = some (Q2s (Q1a V.G) nn (.slice none 0 0),Q3j V.G nn):=by
   rw [List.getElem?_append_right (Nat.le_refl _)]
   simp
  have:=hL.set_ hi hg1 ho hat
  rw [List.set_append_right _ _ (Nat.le_refl _),Nat.sub_self,List.set_cons_zero] at this
  rw [hput]
  unfold Q2b at this ⊢
  simpa using this
 have hf3:Fam w2 wB.heap.size ([(V.vW,S.pl.words)] ++ Q2b (Q5c V.G nn v' l') ++ (if S.ahead=true then (V.bW,S.back.words) :: Q2b V.GB else [])):=hf2.kept hg2 (fun x hx k hk e=>hm1.ne_own (hf2.own x hx) (by rw [e,hk]))
 have hws:=hf3.at_ (i:=0) rfl
 have hsz:=h.ext.size
 refine ⟨⟨⟨hblk h.mach.box (by decide),hown h.mach.sn (by decide),hws,hown h.mach.bs (by decide),h.mach.len,h.mach.hg⟩,hblk h.box (by decide),hf3,?_,h.past.put hn v' l',fun ea=>?_,h.ten,h.scr,?_,h.hr,h.hm⟩,fun k t cs hk hn=>hblk hk (fun e=>hn (by rw [← e];exact Q6a))⟩
 ·rw [Qsd]
  exact hm
 ·obtain ⟨⟨bb,b1,b2,b3,b4⟩,b5,b6,b7,b8⟩:=(h.back ea).grown hr0 hg1
  exact ⟨⟨bb,b1,b2.kept hg2 (fun e=>b3 (Option.some.inj e).symm),b3,b4⟩,b5,b6,b7,b8⟩
 ·exact Q6c (Q6c h.ext hg1 hsz (Q17 hr0)) hg2 (by have:=hg1.size;omega) (fun k hk=>by
   simp only [Option.some.injEq] at hk
   rw [← hk]
   exact h.hm)
end
theorem Qua {P:Program} {o:Oper} {a:Act} {w:World} {b:Nat} {G:List (Nat × Value)} {t kt et:TypeId} {z:Value} {m x:Operand} {kk:Nat} (hM:MapG w b G) (ht:P.underlying t=some (.map kt et)) (hd:P.underlying kt=some (.int .i64)) (hz:(zeroValue et).run P w=.ok z w)
  (hop:o.op=.lookup t m x false) (hm:a.eval m=.map (some b)) (hx:a.eval x=.int .i64 (kk:Int)):(execOp a.eval o).run P w=.ok (.value (Q2s G kk z)) w:=by
 have hrun:=Qio hM ht hd hz kk
 simp [execOp,hop,hm,hx,hrun,Result.andThen]
theorem Qv3 {P:Program} {ops:Array Oper} {rest:List Oper} {a:Act} {R:World→World→Prop} {W:World} {hs:List Nat} {Zc:Act→Prop} {k:Nat} {o:Oper} {b:Nat} {G:List (Nat × Value)} {t kt et:TypeId} {z v:Value} {kk:Nat} (hM:∀ w,R W w→MapG w b G) (ht:P.underlying t=some (.map kt et)) (hd:P.underlying kt=some (.int .i64)) (hz:∀ w,(zeroValue et).run P w=.ok z w)
  (hv:Q2s G kk z=v) (hh:hs.contains k=false) (hw:Region.wanted o (yielded ops a.tmps)=true) (ho:∃ m x,o.op=.lookup t m x false∧a.eval m=.map (some b)∧a.eval x=.int .i64 (kk:Int))
  (h:Q4c R P ops W hs Zc (k+1) rest (a.put o.dst v)):Q4c R P ops W hs Zc k (o :: rest) a:=by
 obtain ⟨m,x,ho,hm,hx⟩:=ho
 subst hv
 exact Qks hh hw ⟨_,fun w hE=>Qua (hM w hE) ht hd (hz w) ho hm hx,h⟩
theorem Qvv {w:World} {B:Nat} {v:Value} {l:List Int} {G:Grp} {L:List (Value × List Int)} (h:Fam w B ((v,l) :: Q2b G ++ L)) (n:Nat):∀ k,(Q2s (Q1a G) n (.slice none 0 0)).ownBlock=some k→v.ownBlock≠some k:=by
 intro k hk hv
 unfold Q2s Q1a at hk
 rw [List.find?_map] at hk
 cases he:List.find? ((fun p=>p.1 == n) ∘ fun x:Nat × Value × List Int=>(x.1,x.2.1)) G with
 | none =>
  rw [he] at hk
  cases hk
 | some x =>
  rw [he] at hk
  have hx:=List.mem_of_find?_eq_some he
  have hp:=h.apart
  rw [List.cons_append,List.pairwise_cons] at hp
  exact hp.1 (x.2.1,x.2.2) (List.mem_append_left _ (List.mem_map.2 ⟨x,hx,rfl⟩)) k hv hk
section
variable {wB w : World} {N g r : Nat} {vR vC vB : Value} {V : QV} {S : Spc}
def badQ (p:Q00) (i:LIns) (S:Spc):Bool := !Q3u p i (Q1u S.pl.regs i) && !S.ahead
theorem QSt.aheadCell {bases:List Int} (h:QSt wB w N g r vR vC vB bases V S):w.cell? ⟨r,3,none⟩=some (.bool S.ahead)∧w.frozen? ⟨r,3,none⟩=false:=⟨by rw [h.box.cell];rfl,h.box.frozen _⟩
theorem QSt.basesCell {bases:List Int} (h:QSt wB w N g r vR vC vB bases V S):w.cell? ⟨g,19,none⟩=some vB:=by
 obtain ⟨-,-,-,-,-,-,-,-,-,g19⟩:=h.mach.cells
 exact g19.1
set_option maxRecDepth 100000 in
set_option maxHeartbeats 8000000 in
theorem Qok {p:Q00} {M:Nat} (i:LIns) (hw:i.op=3∨i.op=4∨i.op=5∨i.op=6) (hi:Q04 p 10 i=true) (hfi:i.fits) (hr:Q0p p.regs=true) (hp:Q6g wB vR p.regs) (hm:SMid p M S) (hM:M≤1000000)
  (hat:S.pl.at_ < p.code.length) (hcl:p.code.length≤1000000) (hsn:S.seen.length≤900000) (h:QSt wB w N g r vR vC vB (Q1g p) V S) :
  Calls Tryz.prog 60 #[.pointer (some ⟨r,0,none⟩),insV i] w (Q80 wB w N g r vR vC vB (Q1g p) (if badQ p i S=true then S else Q3h p i S) (.bool (!badQ p i S))):=by
 obtain ⟨ha,hb,hc0,hc1⟩:=Qfw hi hw
 have hbe:=Qch p i.c.toNat hc1
 have htt:=Q9w hr
 have hlen:=Q4g hr
 have HP:=zh hp
 have Hm:=zh hm
 have H:=zh h
 have Hr:=zh hr
 have Ha:=zh ha
 have Hb:=zh hb
 have Hc1:=zh hc1
 have Hsn:=zh hsn
 have Hat:=zh hat
 have Hw:=zh hw
 have HIn:Hid (∀ x,Q3u p i x=(decide (0≤x) && decide (x < (Q0t (p.regs.getD i.c.toNat default):Nat)))):=zh fun x=>rfl
 have HB0:Hid (badQ p i S=(!Q3u p i (Q1u S.pl.regs i) && !S.ahead)):=zh rfl
 generalize hT:Q3h p i S=T at *
 have HT:=zh hT
 generalize hbq:badQ p i S=bq at *
 generalize hSR:(if bq=true then S else T)=SR at *
 generalize hbr:(!bq)=br at *
 have HSR:=zh hSR
 have Hbr:=zh hbr
 obtain ⟨op,a,b,c,n⟩:=i
 simp only at ha hb hc0 hc1 hbe
 obtain ⟨a0,a1⟩:=Q0l.1 ha
 have hrl:=h.box.lt
 have hgl:=h.mach.box.lt
 unfold insV
 simp only
 clear hi hr hfi hw hm h hsn hT hp hbq hSR hbr
 go_enter Tryz.func60,Tryz.ntmps60
 go_upto_region 1 with fail
 obtain ⟨w0,e,he,hW,hs0,hx0,c0,c1,c2,c3,c4⟩:=new5 w 41 (.int .i64 op) (.int .i64 a) (.int .i64 b) (.int .i64 c) (.int .i64 n)
 have bI:Blk w0 e 41 #[.int .i64 op,.int .i64 a,.int .i64 b,.int .i64 c,.int .i64 n]:=by rw [← hW,← he];exact Blk.new _ _ _
 rw [hW,he]
 have X:=zh hx0
 have P0:=H.out.extend hx0
 have hrl0:=P0.box.lt
 have hgl0:=P0.mach.box.lt
 have hel0:=bI.lt
 have k0:∀ Wx,Ext w0 Wx→Wx.cell? ⟨r,0,none⟩=some (.pointer (some ⟨g,0,none⟩)):=fun _ h=>h.kept P0.ptrCell
 have q0:∀ Wx,Ext w0 Wx→Wx.cell? ⟨e,0,none⟩=some (.int .i64 op):=fun _ h=>h.kept c0
 have q1:∀ Wx,Ext w0 Wx→Wx.cell? ⟨e,1,none⟩=some (.int .i64 a):=fun _ h=>h.kept c1
 have q2:∀ Wx,Ext w0 Wx→Wx.cell? ⟨e,2,none⟩=some (.int .i64 b):=fun _ h=>h.kept c2
 have q3:∀ Wx,Ext w0 Wx→Wx.cell? ⟨e,3,none⟩=some (.int .i64 c):=fun _ h=>h.kept c3
 have q4:∀ Wx,Ext w0 Wx→Wx.cell? ⟨e,4,none⟩=some (.int .i64 n):=fun _ h=>h.kept c4
 have CI:∀ Wx,Ext w0 Wx→Hid (Calls Tryz.prog 85 #[.pointer (some ⟨g,0,none⟩),.agg #[.int .i64 op,.int .i64 a,.int .i64 b,.int .i64 c,.int .i64 n]] Wx fun e w'=>e=.returned (.int .i64 (Q1u S.pl.regs ⟨op,a,b,c,n⟩))∧Ext Wx w'):=fun Wx hE=>zh (Q1n Wx (P0.mach.ext hE) ⟨op,a,b,c,n⟩ Hb.out)
 clear hW hs0 hx0 c0 c1 c2 c3 c4 hrl hgl P0
 generalize hx:Q1u S.pl.regs ⟨op,a,b,c,n⟩=x at *
 go_upto_region 2 with fail
 refine Q0j 7 (by kernel_rfl) (by kernel_rfl) ?_
 simp only [List.take_succ_cons,List.take_zero,List.drop_succ_cons,List.drop_zero]
 repeat (first | (refine Q0d ?_ ?_ ?_;(decide);(first | rfl | (focus (go_simp;done)));apply Exists.intro;refine ⟨fun wc hE=>?_,?_⟩;(go_simp;exact rfl);go_simp) | (refine Q2g ?_ ?_ ?_;(decide);(first | rfl | (focus (go_simp;done)));apply Exists.intro;refine ⟨fun wc hE=>?_,?_⟩;(go_simp;(first | (with_reducible exact Q26 ((CI _ hE).out))));go_simp) | (refine Q0e ?_ ?_ ?_;(decide);(focus (go_simp;done));go_simp))
 refine Q0f ?_
 intro w1 hx1
 have X:=zh (X.out.trans hx1)
 have bI:=bI.ext hx1
 have P1:=H.out.extend X.out
 have hrl1:=P1.box.lt
 have hgl1:=P1.mach.box.lt
 clear k0 q0 q1 q2 q3 q4 CI hx1 hrl0 hgl0 hel0
 have hel1:=bI.lt
 have HInx:=zh (HIn.out x)
 try simp only at HInx
 generalize hrr:p.regs.getD c.toNat default=rr at *
 have CN:∀ Wx,Ext w1 Wx→Hid (Calls Tryz.prog 86 #[.pointer (some ⟨g,0,none⟩),.int .i64 c,.int .i64 x] Wx fun e w'=>e=.returned (.bool (decide (0≤x) && decide (x < (Q0t rr:Nat))))∧Ext Wx w'):=fun Wx hE=>zh (by
  rw [← hrr]
  exact Qjo Wx (P1.mach.ext hE) p (HP.out.ext ((P1.ext).trans hE)) Hr.out c x hc0 Hc1.out)
 have k0:∀ Wx,Ext w1 Wx→Wx.cell? ⟨r,0,none⟩=some (.pointer (some ⟨g,0,none⟩)):=fun _ h=>h.kept P1.ptrCell
 have q3:∀ Wx,Ext w1 Wx→Wx.cell? ⟨e,3,none⟩=some (.int .i64 c):=fun _ h=>h.kept (by rw [bI.cell];rfl)
 rw [← HInx.out] at CN
 clear hrr P1
 go_upto_region 3 with fail
 refine Q0j 9 (by kernel_rfl) (by kernel_rfl) ?_
 simp only [List.take_succ_cons,List.take_zero,List.drop_succ_cons,List.drop_zero]
 repeat (first | (refine Q0d ?_ ?_ ?_;(decide);(first | rfl | (focus (go_simp;done)));apply Exists.intro;refine ⟨fun wc hE=>?_,?_⟩;(go_simp;exact rfl);go_simp) | (refine Q2g ?_ ?_ ?_;(decide);(first | rfl | (focus (go_simp;done)));apply Exists.intro;refine ⟨fun wc hE=>?_,?_⟩;(go_simp;(first | (with_reducible exact Q26 ((CN _ hE).out))));go_simp) | (refine Q0e ?_ ?_ ?_;(decide);(focus (go_simp;done));go_simp))
 refine Q0f ?_
 intro w2 hx2
 have X:=zh (X.out.trans hx2)
 have bI:=bI.ext hx2
 have hel2:=bI.lt
 have BI:=zh bI
 have P2:=zh (H.out.extend X.out)
 have hrl2:=P2.out.box.lt
 have hgl2:=P2.out.mach.box.lt
 have g3:=P2.out.aheadCell
 clear k0 q3 CN hx2 bI hrl1 hgl1 hel1
 have Hxx:=zh hx
 clear hx
 generalize hins:Q3u p ⟨op,a,b,c,n⟩ x=ins at *
 have HInx0:=zh hins
 clear hins
 by_cases hbad:ins=false∧S.ahead=false
 ·obtain ⟨rfl,ha⟩:=hbad
  rw [ha] at g3
  obtain rfl:bq=true:=by rw [HB0.out,ha];rfl
  have HXX:=zh (Q1h.ofExt X.out)
  clear ha HB0
  go_wp2
  go_ret
  rw [← HSR.out,← Hbr.out]
  exact ⟨rfl,V,P2.out,HXX.out⟩
 ·obtain rfl:bq=false:=by
   rw [HB0.out]
   cases ins <;> cases hh:S.ahead <;> simp_all
  have hnf:(!ins && !S.ahead)=false:=by
   cases ins <;> cases hh:S.ahead <;> simp_all
  have HTr:Hid (T=Q6i ⟨op,a,b,c,n⟩ S (wrap64 ((Q0n p c.toNat:Nat)+x))):=zh (by
   rw [← HT.out,Qlq (by rw [Hxx.out,HInx0.out];exact hnf),Hxx.out])
  have hcnd:(ins=true)∨(ins=false∧S.ahead=true):=by
   cases ins <;> cases hh:S.ahead <;> simp_all
  obtain ⟨kb,capb,hvb,hkb,hbs⟩:=own_at' P2.out.mach.bs (show 0 < (Q1g p).length by rw [Q74];omega)
  obtain ⟨b19,-⟩:=hbs c.toNat _ (by rw [Q74];exact Hc1.out) (Qff p Hc1.out)
  have hvb':=hvb
  rw [Q74] at hvb'
  have hbl:=Q0k b19
  simp only at hbl
  have hcl2:c < (p.regs.length:Int):=by have:=Hc1.out;omega
  have hixb:=Q2k (oa:=some ⟨kb,0,none⟩) (n:=p.regs.length) (b:=kb) (o:=0) (cap:=capb) (fun _=>rfl)
  have k0:∀ Wx,Ext w2 Wx→Wx.cell? ⟨r,0,none⟩=some (.pointer (some ⟨g,0,none⟩)):=fun _ h=>h.kept P2.out.ptrCell
  have k19:∀ Wx,Ext w2 Wx→Wx.cell? ⟨g,19,none⟩=some (.slice (some ⟨kb,0,none⟩) p.regs.length capb):=fun _ h=>h.kept (by have:=P2.out.basesCell;rw [hvb'] at this;exact this)
  have kb0:∀ Wx,Ext w2 Wx→Wx.cell? ⟨kb,c.toNat,none⟩=some (.int .i64 (Q0n p c.toNat:Nat)):=fun _ h=>h.kept b19
  have q3:∀ Wx,Ext w2 Wx→Wx.cell? ⟨e,3,none⟩=some (.int .i64 c):=fun _ h=>h.kept (by rw [BI.out.cell];rfl)
  generalize hbo:Q0n p c.toNat=bo at *
  have hwc:IntKind.i64.wrap (x+(bo:Int))=wrap64 ((bo:Int)+x):=by rw [Int.add_comm];exact Q8o _
  generalize wrap64 ((bo:Int)+x)=m at *
  clear hvb hvb' hbs b19 hnf hbad HB0
  rcases hcnd with rfl | ⟨rfl,ha⟩
  all_goals
   try rw [ha] at g3
   try clear ha
   go_upto_region 6 with fail
   refine Q0j 14 (by kernel_rfl) (by kernel_rfl) ?_
   simp only [List.take_succ_cons,List.take_zero,List.drop_succ_cons,List.drop_zero]
   repeat (first | (refine Q0d ?_ ?_ ?_;(decide);(first | rfl | (focus (go_simp;done)));apply Exists.intro;refine ⟨fun wc hE=>?_,?_⟩;(go_simp;exact rfl);go_simp) | (refine Q0e ?_ ?_ ?_;(decide);(focus (go_simp;done));go_simp))
   refine Q0f ?_
   intro w3 hx3
   have X3:=zh (X.out.trans hx3)
   have P3:=H.out.extend X3.out
   have bI3:=BI.out.ext hx3
   have hrl3:=P3.box.lt
   have hgl3:=P3.mach.box.lt
   have hel3:=bI3.lt
   have c0:w3.cell? ⟨e,0,none⟩=some (.int .i64 op):=by rw [bI3.cell];rfl
   have c1:w3.cell? ⟨e,1,none⟩=some (.int .i64 a):=by rw [bI3.cell];rfl
   have c2:w3.cell? ⟨e,2,none⟩=some (.int .i64 b):=by rw [bI3.cell];rfl
   have c3:w3.cell? ⟨e,3,none⟩=some (.int .i64 c):=by rw [bI3.cell];rfl
   have c4:w3.cell? ⟨e,4,none⟩=some (.int .i64 n):=by rw [bI3.cell];rfl
   have BI3:=zh bI3
   clear k0 k19 kb0 q3 hx3 P3 bI3 hwc hrl2 hgl2 hel2 g3
   go_wp2_with fail
   have CP:=Q8f ⟨op,a,b,c,n⟩ w3
   simp only [insV] at CP
   (with_reducible refine CP.mono ?_)
   clear CP
   rintro er w4 ⟨rfl,hx4⟩
   have X4:=zh (X3.out.trans hx4)
   have BI4:=zh (BI3.out.ext hx4)
   have P4:=zh (H.out.extend X4.out)
   have g0:=P4.out.ptrCell
   have hrl4:=P4.out.box.lt
   have hgl4:=P4.out.mach.box.lt
   clear c0 c1 c2 c3 c4 hx4 hrl3 hgl3 hel3
   cases hput:Q0q ⟨op,a,b,c,n⟩
   ·have Hput:=zh hput
    clear hput
    go_wp2_with fail
    have C:=Qbj P4.out 2 m 0 (Nat.le_trans Hsn.out (by omega))
    (with_reducible refine C.mono ?_)
    clear C
    rintro er w5 ⟨rfl,V5,P5,T5⟩
    clear g0
    have BI5:=T5 _ _ _ BI4.out Q7m
    have T5:=zh ((Q1h.ofExt X4.out).trans T5)
    have hrl5:=P5.box.lt
    have hgl5:=P5.mach.box.lt
    have hel5:=BI5.lt
    obtain ⟨ow,cw,hvW⟩:=Q02 P5.mach.ws
    have hvW:V5.vW=.slice ow S.pl.words.length cw:=hvW
    have g0:=P5.ptrCell
    have g17:w5.cell? ⟨g,17,none⟩=some (.slice ow S.pl.words.length cw):=by rw [P5.wordsCell,hvW]
    have c0:w5.cell? ⟨e,0,none⟩=some (.int .i64 op):=by rw [BI5.cell];rfl
    have c1:w5.cell? ⟨e,1,none⟩=some (.int .i64 a):=by rw [BI5.cell];rfl
    have c2:w5.cell? ⟨e,2,none⟩=some (.int .i64 b):=by rw [BI5.cell];rfl
    have c3:w5.cell? ⟨e,3,none⟩=some (.int .i64 c):=by rw [BI5.cell];rfl
    have c4:w5.cell? ⟨e,4,none⟩=some (.int .i64 n):=by rw [BI5.cell];rfl
    have g18:=P5.atCell
    have g18:w5.cell? ⟨g,18,none⟩=some (.int .i64 (S.pl.at_:Int))∧w5.frozen? ⟨g,18,none⟩=false:=g18
    have BI5:=zh BI5
    have hcw:(S.pl.at_:Int)+1≤1000000:=by omega
    have hwl:(S.pl.words.length:Int)≤384:=by have:=Hm.out.pl.wlen;omega
    have hrg:=P5.rg
    have hgr:=Ne.symm hrg
    have P5:=zh P5
    have hq2:m < 0∨(0≤m∧(S.pl.words.length:Int)≤m)∨(0≤m∧m < (S.pl.words.length:Int)):=by omega
    rcases hq2 with m0 | ⟨m0,m1⟩ | ⟨m0,m1⟩
    rotate_right 1
    ·have hmw:0≤m∧m < (S.pl.words.length:Int):=⟨m0,m1⟩
     have HTo:=zh (HTr.out.trans (Qo5 Hput.out hmw))
     have hmn:m.toNat < S.pl.words.length:=by omega
     have C:=Qot (m:=M) ⟨op,a,b,c,n⟩ m.toNat P5.out Hm.out.pl (by omega) hM Ha.out hmn Hat.out hcl
     rw [show ((m.toNat:Nat):Int)=m by omega] at C
     simp only [insV] at C
     have C:=zh C
     clear hmw
     go_wp2_with fail
     (with_reducible refine C.out.mono ?_)
     clear C
     rintro er w6 ⟨rfl,V6,P6,T6⟩
     have P6:=zh P6
     have T6:=zh (T5.out.trans T6)
     clear g0 g17 c0 c1 c2 c3 c4 g18
     go_wp2
     go_ret
     obtain rfl:br=true:=Hbr.out.symm
     have hSRT:SR=T:=by rw [← HSR.out];rfl
     rw [hSRT,HTo.out]
     exact ⟨rfl,_,P6.out,T6.out⟩
    all_goals
     have HTo:=zh (HTr.out.trans (Qo7 Hput.out (by omega)))
     try (have hd:decide ((0:Int)≤m)=false:=by simp;omega)
     try (have hd2:decide (m < (S.pl.words.length:Int))=false:=by simp;omega)
     have k0:∀ Wx,Ext w5 Wx→Wx.cell? ⟨r,0,none⟩=some (.pointer (some ⟨g,0,none⟩)):=fun _ h=>h.kept g0
     have k1:∀ Wx,Ext w5 Wx→Wx.cell? ⟨e,1,none⟩=some (.int .i64 a):=fun _ h=>h.kept c1
     have hixr:=Q4a
     go_upto_region 20 with fail
     clear g0 g17 c0 c1 c2 c3 c4 g18
     refine Q23 [10] 0 (by kernel_rfl) (by kernel_rfl) ?_
     repeat (first | (refine Q1x ?_ ?_;(decide)) | (refine Q1o ?_ ?_ ?_;(decide);(first | rfl | (focus (go_simp;done)));apply Exists.intro;refine ⟨fun wc hE=>?_,?_⟩;(go_simp;exact rfl);go_simp) | (refine Q1v ?_ ?_ ?_;(decide);(focus (go_simp;done));go_simp))
     refine Q1w ?_
     intro w6 hx6
     have P6:=P5.out.extend hx6
     have gA:=Q8d P6 Ha.out
     have hrl6:=P6.box.lt
     have hgl6:=P6.mach.box.lt
     have g0:=P6.ptrCell
     have g18:w6.cell? ⟨g,18,none⟩=some (.int .i64 (S.pl.at_:Int))∧w6.frozen? ⟨g,18,none⟩=false:=P6.atCell
     have P7:=P6.reg_ Ha.out 0
     have T7:=(T5.out.ext hx6).trans (P6.stayM (7+a.toNat) (.int .i64 0))
     have P8:=P7.at__ (S.pl.at_+1)
     have T8:=T7.trans (P7.stayM 18 (.int .i64 ((S.pl.at_+1:Nat):Int)))
     rw [show ((S.pl.at_+1:Nat):Int)=(S.pl.at_:Int)+1 by omega] at P8 T8
     have P8:=zh P8
     have T8:=zh T8
     have hne18:7+a.toNat≠18:=by omega
     generalize rg _ a=ra at gA
     clear k0 k1 hx6 P6 P7 T7
     refine Q1q (Q0c rfl (Q22)) ?_
     go_wp2
     go_ret
     obtain rfl:br=true:=Hbr.out.symm
     have hSRT:SR=T:=by rw [← HSR.out];rfl
     rw [hSRT,HTo.out]
     exact ⟨rfl,_,P8.out,T8.out⟩
   ·have Hput:=zh hput
    clear hput
    go_wp2_with fail
    have C:=Qbj P4.out 2 m 1 (Nat.le_trans Hsn.out (by omega))
    (with_reducible refine C.mono ?_)
    clear C
    rintro er w5 ⟨rfl,V5,P5,T5⟩
    clear g0
    have BI5:=T5 _ _ _ BI4.out Q7m
    have T5:=zh ((Q1h.ofExt X4.out).trans T5)
    have hrl5:=P5.box.lt
    have hgl5:=P5.mach.box.lt
    have hel5:=BI5.lt
    obtain ⟨ow,cw,hvW⟩:=Q02 P5.mach.ws
    have hvW:V5.vW=.slice ow S.pl.words.length cw:=hvW
    have g0:=P5.ptrCell
    have g17:w5.cell? ⟨g,17,none⟩=some (.slice ow S.pl.words.length cw):=by rw [P5.wordsCell,hvW]
    have c0:w5.cell? ⟨e,0,none⟩=some (.int .i64 op):=by rw [BI5.cell];rfl
    have c1:w5.cell? ⟨e,1,none⟩=some (.int .i64 a):=by rw [BI5.cell];rfl
    have c2:w5.cell? ⟨e,2,none⟩=some (.int .i64 b):=by rw [BI5.cell];rfl
    have c3:w5.cell? ⟨e,3,none⟩=some (.int .i64 c):=by rw [BI5.cell];rfl
    have c4:w5.cell? ⟨e,4,none⟩=some (.int .i64 n):=by rw [BI5.cell];rfl
    have g18:=P5.atCell
    have g18:w5.cell? ⟨g,18,none⟩=some (.int .i64 (S.pl.at_:Int))∧w5.frozen? ⟨g,18,none⟩=false:=g18
    have BI5:=zh BI5
    have hcw:(S.pl.at_:Int)+1≤1000000:=by omega
    have hwl:(S.pl.words.length:Int)≤384:=by have:=Hm.out.pl.wlen;omega
    have hrg:=P5.rg
    have hgr:=Ne.symm hrg
    have P5:=zh P5
    have hq2:m < 0∨(0≤m∧(S.pl.words.length:Int)≤m)∨(0≤m∧m < (S.pl.words.length:Int)):=by omega
    rcases hq2 with m0 | ⟨m0,m1⟩ | ⟨m0,m1⟩
    rotate_right 1
    ·have hmw:0≤m∧m < (S.pl.words.length:Int):=⟨m0,m1⟩
     have HTo:=zh (HTr.out.trans (Qo6 Hput.out hmw))
     obtain ⟨mn,rfl⟩:∃ mn:Nat,m=(mn:Int):=⟨m.toNat,by omega⟩
     have hmn:mn < S.pl.words.length:=by omega
     have Hmn:=zh hmn
     have hN:mn < N:=by rw [← P5.out.past.len];show mn < S.pl.past.length;rw [Hm.out.pl.plen,← Hm.out.pl.wlen];exact hmn
     have HN:=zh hN
     have hd0:decide ((0:Int)≤(mn:Int))=true:=by simp
     have hd1:decide ((mn:Int) < (S.pl.words.length:Int))=true:=by simpa using hmn
     obtain ⟨i0,hi0,hz0,hz1,hz2⟩:=info_parts Q42
     obtain ⟨kw,cw',hvW',hkw,hcell⟩:=own_at' P5.out.mach.ws (show 0 < S.pl.words.length by omega)
     obtain ⟨rfl,rfl⟩:ow=some ⟨kw,0,none⟩∧cw=cw':=by
      have e:=hvW.symm.trans hvW'
      simpa using e
     obtain ⟨rc,-⟩:=hcell mn (.int .i64 (S.pl.words.getD mn 0)) hmn (by
      show (S.pl.words.map (Value.int .i64))[mn]? = some (.int .i64 (S.pl.words.getD mn 0))
      simp [hmn])
     have hkl5:=Q0k rc
     simp only at hkl5
     have hfd:Q3j V5.G mn=S.pl.past.getD mn []:=(P5.out.past.get mn hN).symm
     have hrow5:=Qbu P5.out.famG mn
     rw [hfd] at hrow5
     obtain ⟨ol,cl,hl⟩:=Q02 hrow5
     rw [hl] at hrow5
     have HL:=zh hl
     have Hrow5:=zh hrow5
     have hll:=(Hm.out.pl.row mn).1
     have hix:∀ W,(Instr.indexAt 35 (.slice (some ⟨kw,0,none⟩) S.pl.words.length cw) (.int .i64 (mn:Int))).run Tryz.prog W=.ok (.pointer (some ⟨kw,mn,none⟩)) W:=fun W=>by
      have:=Q72 W kw S.pl.words.length cw (mn:Int) (by omega) (by omega)
      simpa using this
     have hap:=Qvv P5.out.fam mn
     rw [hl] at hap
     have hnr:(Value.slice ol (S.pl.past.getD mn []).length cl).ownBlock≠some r:=fun e=>Q09 hrow5 P5.out.box (by decide) e.symm
     have hng:(Value.slice ol (S.pl.past.getD mn []).length cl).ownBlock≠some g:=fun e=>Q09 hrow5 P5.out.mach.box (by decide) e.symm
     have hnw:(Value.slice ol (S.pl.past.getD mn []).length cl).ownBlock≠some kw:=fun e=>hap kw e (by rw [hvW];rfl)
     have hnm:(Value.slice ol (S.pl.past.getD mn []).length cl).ownBlock≠some V5.bm:=P5.out.map.ne_own hrow5
     have HE:=zh (Q09 hrow5 BI5.out (by decide))
     generalize hxv:S.pl.words.getD mn 0=x0 at *
     generalize hlv:S.pl.past.getD mn []=l at *
     have Hxv:=zh hxv
     have Hlv:=zh hlv
     have k0:∀ Wx,Off (.slice ol l.length cl) w5 Wx→Wx.cell? ⟨r,0,none⟩=some (.pointer (some ⟨g,0,none⟩)):=fun _ h=>h.kept g0 hnr
     have k2:∀ Wx,Off (.slice ol l.length cl) w5 Wx→Wx.cell? ⟨r,2,none⟩=some (.map (some V5.bm)):=fun _ h=>h.kept P5.out.pastCell.1 hnr
     have k17:∀ Wx,Off (.slice ol l.length cl) w5 Wx→Wx.cell? ⟨g,17,none⟩=some (.slice (some ⟨kw,0,none⟩) S.pl.words.length cw):=fun _ h=>h.kept g17 hng
     have kc:∀ Wx,Off (.slice ol l.length cl) w5 Wx→Wx.cell? ⟨kw,mn,none⟩=some (.int .i64 x0):=fun _ h=>h.kept rc hnw
     have hpu:=Qhs
     have hz:=Qfr
     have HM5:Hid (∀ w,Off (.slice ol l.length cl) w5 w→MapG w V5.bm (Q1a V5.G)):=zh fun w h=>P5.out.map.turn h hnm
     have hbB:=P5.out.ext.size
     clear hmw hxv hlv hvW hvW' hcell rc hfd hl hrow5 hap
     go_upto_region 17 with fail
     clear g0 g17 c0 c1 c2 c3 c4 g18 hd0 hd1
     refine Qo9 (R:=Off (.slice ol l.length cl)) [22,23,24] 2 (Turn.refl _) (Turn.ofExt (Ext.refl _).drew) (by kernel_rfl) (by kernel_rfl) ?_
     repeat (first | (refine Qv4 ?_ ?_;(decide)) | (refine Qv3 (kk:=mn) HM5.out hpu Tryz.underlying3 hz HL.out ?_ ?_ ?_ ?_;(decide);(first | rfl | (focus (go_simp;done)));exact ⟨_,_,rfl,rfl,rfl⟩;go_simp) | (refine Qks ?_ ?_ ?_;(decide);(first | rfl | (focus (go_simp;done)));apply Exists.intro;refine ⟨fun wc hE=>?_,?_⟩;(go_simp;exact rfl);go_simp) | (refine Qv1 ?_ ?_ ?_;(decide);(focus (go_simp;done));go_simp))
     refine Qv2 ?_
     clear k0 k2 k17 kc
     have HX6:=zh ((Ext.refl w5).drew)
     have h56:=HX6.out.size
     generalize w5.drew=w6 at *
     refine Qfu rfl ?_
     go_wp2
     refine ⟨Turn.ofExt (HX6.out.alloc _),?_⟩
     refine Qfu rfl ?_
     have hx7:=HX6.out.alloc (.cells #[.int .i64 x0] 2)
     refine Q1b _ rfl (.tmp 94) (.tmp 106) 35 rfl wB.heap.size 2 i0 _ 1 8 Tryz.underlying35 hi0 hz0 hz1 hz2 rfl (by decide) _ l.length (l.map (Value.int .i64)) rfl (Q19 Hrow5.out hx7) (some ⟨w6.heap.size,0,none⟩) 1 1 [.int .i64 x0] rfl ?d1 ?d3 ?d4 ?d5 ?_
     case d1=>exact Q1y (size:=1) (Blk.new w6 2 #[.int .i64 x0]) rfl (by simp [Value.oneCell'])
     case d3=>unfold maxLen;omega
     case d4=>omega
     case d5=>simp;omega
     intro v8 w8 hown hgrow hat
     obtain ⟨o8,c8,rfl⟩:=Q02 hown
     have hgrow:(w6.alloc (.cells #[.int .i64 x0] 2)).grownBy w8 (Value.slice ol l.length cl).ownBlock:=hgrow
     have HOff:Hid (Off (.slice ol l.length cl) w5 w8):=zh ((Turn.ofExt (S:=fun j=>(Value.slice ol l.length cl).ownBlock=some j) hx7).trans (Turn.grown hgrow) (fun j _ e=>e))
     have P7:=P5.out.extend hx7
     have hown':w8.ownsRow wB.heap.size 2 1 (.slice o8 (l.length+1) c8) (l ++ [x0]).length ((l ++ [x0]).map (Value.int .i64)):=by simpa using hown
     have hat':∀ k,(Value.slice o8 (l.length+1) c8).ownBlock=some k→(Q2s (Q1a V5.G) mn (.slice none 0 0)).ownBlock=some k∨(w6.alloc (.cells #[.int .i64 x0] 2)).heap.size≤k:=fun k hk=>by
      rw [HL.out]
      rcases hat with e | e
      ·left;rw [e] at hk;exact hk
      ·right;rw [e] at hk;exact Nat.le_of_eq (Option.some.inj hk)
     have HPush:Hid (∀ w9,MapG w9 V5.bm (putG (Q1a V5.G) mn (.slice o8 (l.length+1) c8))→w8.grownBy w9 (some V5.bm)→QSt wB w9 N g r vR vC vB (Q1g p) { V5 with G:=Q5c V5.G mn (.slice o8 (l.length+1) c8) (l ++ [x0]) } { S with seen:=S.seen ++ [⟨2,mn,1⟩],pl:={ S.pl with past:=S.pl.past.set mn (l ++ [x0]) } }∧Q1h (w6.alloc (.cells #[.int .i64 x0] 2)) w9):=zh fun w9 h1 h2=>P7.push HN.out (by rw [HL.out];exact hgrow) hown' hat' h1 h2
     have HM8:=zh (P7.map.kept hgrow (by exact hnm))
     have bI8:=((BI5.out.ext hx7).grown hgrow HE.out)
     have hbm8:V5.bm≠e:=HM8.out.ne_blk bI8
     have BI8:=zh bI8
     have T7:=zh (T5.out.ext hx7)
     clear hown hgrow hat hx7 P7 hown' hat' bI8
     go_wp2
     refine ⟨HOff.out,?_⟩
     refine Qld (Q0c rfl (Q22)) ?_
     refine Qft rfl (.tmp 87) (.tmp 88) (.tmp 107) 82 3 35 rfl hpu Tryz.underlying3 rfl HM8.out mn rfl (.slice o8 (l.length+1) c8) rfl ?_
     intro w9 hm9 hg9
     obtain ⟨P9,T9⟩:=HPush.out w9 hm9 hg9
     have T9:=zh (T7.out.trans T9)
     have BI9:=zh (BI8.out.grown hg9 (fun e=>hbm8 (Option.some.inj e).symm))
     clear hm9 hg9
     obtain ⟨kw9,cw9,hvW9,hkw9,hcell9⟩:=own_at' P9.mach.ws (show 0 < S.pl.words.length by have:=Hmn.out;omega)
     have hvW9:V5.vW=.slice (some ⟨kw9,0,none⟩) S.pl.words.length cw9:=hvW9
     obtain ⟨rc9,rf9⟩:=hcell9 mn (.int .i64 x0) Hmn.out (by
      show (S.pl.words.map (Value.int .i64))[mn]? = some (.int .i64 x0)
      rw [← Hxv.out]
      simp [Hmn.out])
     have hkl9:=Q0k rc9
     simp only at hkl9
     have hra:=Q8d P9 Ha.out
     have hra:w9.cell? ⟨g,7+a.toNat,none⟩=some (.int .i64 (rg S.pl.regs a))∧w9.frozen? ⟨g,7+a.toNat,none⟩=false:=hra
     generalize hzv:rg S.pl.regs a=z0 at *
     have Hzv:=zh hzv
     have k0:∀ Wx,Ext w9 Wx→Wx.cell? ⟨r,0,none⟩=some (.pointer (some ⟨g,0,none⟩)):=fun _ h=>h.kept P9.ptrCell
     have k17:∀ Wx,Ext w9 Wx→Wx.cell? ⟨g,17,none⟩=some (.slice (some ⟨kw9,0,none⟩) S.pl.words.length cw9):=fun _ h=>h.kept (by have:=P9.wordsCell;rw [hvW9] at this;exact this)
     have ka:∀ Wx,Ext w9 Wx→Wx.cell? ⟨g,7+a.toNat,none⟩=some (.int .i64 z0):=fun _ h=>h.kept hra.1
     have k1:∀ Wx,Ext w9 Wx→Wx.cell? ⟨e,1,none⟩=some (.int .i64 a):=fun _ h=>h.kept (by rw [BI9.out.cell];rfl)
     have hix9:∀ W,(Instr.indexAt 35 (.slice (some ⟨kw9,0,none⟩) S.pl.words.length cw9) (.int .i64 (mn:Int))).run Tryz.prog W=.ok (.pointer (some ⟨kw9,mn,none⟩)) W:=fun W=>by
      have:=Q72 W kw9 S.pl.words.length cw9 (mn:Int) (by omega) (by have:=Hmn.out;omega)
      simpa using this
     have hixr:=Q4a
     have hrl9:=P9.box.lt
     have hgl9:=P9.mach.box.lt
     have hel9:=BI9.out.lt
     have P9:=zh P9
     have HvW9:=zh hvW9
     have Rc9:=zh (show w9.cell? ⟨kw9,mn,none⟩=some (.int .i64 x0)∧w9.frozen? ⟨kw9,mn,none⟩=false from ⟨rc9,rf9⟩)
     clear hzv hra hcell9 rc9 rf9 hvW9 hix hnr hng hnw hnm hz hpu
     go_upto_region 18 with fail
     refine Q23 [21] 0 (by kernel_rfl) (by kernel_rfl) ?_
     repeat (first | (refine Q1x ?_ ?_;(decide)) | (refine Q1o ?_ ?_ ?_;(decide);(first | rfl | (focus (go_simp;done)));apply Exists.intro;refine ⟨fun wc hE=>?_,?_⟩;(go_simp;exact rfl);go_simp) | (refine Q1v ?_ ?_ ?_;(decide);(focus (go_simp;done));go_simp))
     refine Q1w ?_
     intro w10 hx10
     have P10:=P9.out.extend hx10
     obtain ⟨P11,T11⟩:=P10.word (x:=mn) HvW9.out z0
     have T11:=(T9.out.ext hx10).trans T11
     have gw:=Q0i hx10 Rc9.out
     have hkl10:=Q0k gw.1
     simp only at hkl10
     have hrl11:=P11.box.lt
     have hgl11:=P11.mach.box.lt
     have g0:=P11.ptrCell
     have g18:_∧_:=P11.atCell
     have P12:=P11.at__ (S.pl.at_+1)
     have T12:=T11.trans (P11.stayM 18 (.int .i64 ((S.pl.at_+1:Nat):Int)))
     rw [show ((S.pl.at_+1:Nat):Int)=(S.pl.at_:Int)+1 by omega] at P12 T12
     have P12:=zh P12
     have T12:=zh T12
     clear k0 k17 ka k1 hix9 hx10 P10 P11 T11
     refine Q1q (Q0c rfl (Q22)) ?_
     go_upto_region 21 with fail
     generalize w10.setCell ⟨kw9,mn,none⟩ (.int .i64 z0)=w11 at *
     clear gw
     go_wp2
     go_ret
     obtain rfl:br=true:=Hbr.out.symm
     have hSRT:SR=T:=by rw [← HSR.out];rfl
     rw [hSRT,HTo.out]
     simp only [Int.toNat_natCast]
     rw [Hlv.out,Hxv.out]
     exact ⟨rfl,_,P12.out,T12.out⟩
    all_goals
     have HTo:=zh (HTr.out.trans (Qo8 Hput.out (by omega)))
     try (have hd:decide ((0:Int)≤m)=false:=by simp;omega)
     try (have hd2:decide (m < (S.pl.words.length:Int))=false:=by simp;omega)
     have P8:=P5.out.at__ (S.pl.at_+1)
     have T8:=T5.out.trans (P5.out.stayM 18 (.int .i64 ((S.pl.at_+1:Nat):Int)))
     rw [show ((S.pl.at_+1:Nat):Int)=(S.pl.at_:Int)+1 by omega] at P8 T8
     have P8:=zh P8
     have T8:=zh T8
     go_wp2
     go_ret
     obtain rfl:br=true:=Hbr.out.symm
     have hSRT:SR=T:=by rw [← HSR.out];rfl
     rw [hSRT,HTo.out]
     exact ⟨rfl,_,P8.out,T8.out⟩
end
end Go.Proofs.YtiafchefbehfbaaGreatDoor
