/- Laid together from: MapR. -/
import Derived.Maps.RangeWalk
import Derived.Test.YtiafchefbehfbaaGreatDoorDriveTellsB12

namespace Go.Proofs.YtiafchefbehfbaaGreatDoor
open Go.RowKit Go.MapKept
open Go.ChangeMaps (setBlock)
set_option linter.unusedVariables false
set_option linter.unusedSimpArgs false
theorem grown_trans' {w w1 w2:World} {row:Option Nat} (h:w.grownBy w1 row) (k:w1.grownBy w2 row):w.grownBy w2 row :=
 ⟨k.os.trans h.os,k.tape.trans h.tape,k.output.trans h.output,Nat.le_trans h.size k.size,fun j hj hne=>(k.block j (Nat.lt_of_lt_of_le hj h.size) hne).trans (h.block j hj hne)⟩
theorem ext_grown' {w w':World} (h:Ext w w') (row:Option Nat):w.grownBy w' row:=⟨h.os,h.tape,h.output,h.size,fun j hj _=>Below.block h j hj⟩
theorem Qkc {α β γ:Type} {g:α→γ} {g':β→γ} {f:α→Bool} {h:β→Bool}:∀ (L:List α) (M:List β),L.map g=M.map g'→(∀ a ∈ L,∀ b ∈ M,g a=g' b→f a=h b)→(L.filter f).map g=(M.filter h).map g'
 | [],[],_,_=>rfl
 | [],b :: M,e,_=>by simp at e
 | a :: L,[],e,_=>by simp at e
 | a :: L,b :: M,e,k=>by
  simp only [List.map_cons,List.cons.injEq] at e
  have i:=Qkc L M e.2 (fun x hx y hy=>k x (List.mem_cons_of_mem _ hx) y (List.mem_cons_of_mem _ hy))
  have hab:=k a (by simp) b (by simp) e.1
  rw [List.filter_cons,List.filter_cons,hab]
  split
  ·simp only [List.map_cons,List.cons.injEq]
   exact ⟨e.1,i⟩
  ·exact i
def Q3y (w:World) (b it:Nat) (G left:List (Nat × Value)):Prop :=
 ∃ es clock since seen c0,w.heap[b]? = some (.map es clock)∧Stamped es clock∧es.toList.map (fun x=>(x.key,x.val))=G.map (fun p=>(keyI p.1,p.2))∧w.heap[it]? = some (.mapIter (some b) since seen c0)∧(∀ x ∈ es.toList,x.born < since)∧since≤c0∧since≤clock ∧
  (leftOf es seen).toList.map (fun x=>(x.key,x.val))=left.map (fun p=>(keyI p.1,p.2))
section
variable {P : Program} {w w' : World} {b it : Nat} {G left : List (Nat × Value)}
theorem Q3y.map (h:Q3y w b it G left):MapG w b G:=by
 obtain ⟨es,clock,since,seen,c0,h1,h2,h3,-⟩:=h
 exact ⟨es,clock,h1,h2,h3⟩
theorem Q3y.kept (h:Q3y w b it G left) {row:Option Nat} (hg:w.grownBy w' row) (h1:row≠some b) (h2:row≠some it):Q3y w' b it G left:=by
 obtain ⟨es,clock,since,seen,c0,a1,a2,a3,a4,a5⟩:=h
 exact ⟨es,clock,since,seen,c0,(hg.block b (Array.getElem?_eq_some_iff.1 a1).1 (Ne.symm h1)).trans a1,a2,a3,(hg.block it (Array.getElem?_eq_some_iff.1 a4).1 (Ne.symm h2)).trans a4,a5⟩
theorem Q3y.ext (h:Q3y w b it G left) (hx:Ext w w'):Q3y w' b it G left:=by
 obtain ⟨es,clock,since,seen,c0,a1,a2,a3,a4,a5⟩:=h
 exact ⟨es,clock,since,seen,c0,(Below.block hx b (Array.getElem?_eq_some_iff.1 a1).1).trans a1,a2,a3,(Below.block hx it (Array.getElem?_eq_some_iff.1 a4).1).trans a4,a5⟩
theorem Qoi (h:MapG w b G) {t kt et:TypeId} (hm:P.underlying t=some (.map kt et)) :
  ∃ w',(Instr.range t (.map (some b))).run P w=.ok (.pointer (some ⟨w.heap.size,0,none⟩)) w'∧Q3y w' b w.heap.size G G∧Ext w w'∧w'.heap.size=w.heap.size+1:=by
 obtain ⟨es,clock,h1,h2,h3⟩:=h
 have hx:Ext w (w.alloc (.mapIter (some b) clock #[] clock)):=(Ext.refl w).alloc _
 have hlt:b < w.heap.size:=(Array.getElem?_eq_some_iff.1 h1).1
 refine ⟨_,run_range_map w t kt et b es clock hm h1,⟨es,clock,clock,#[],clock,(Below.block hx b hlt).trans h1,h2,h3,heap_alloc_new w _,h2.1,Nat.le_refl _,Nat.le_refl _,?_⟩,hx,by simp⟩
 have:leftOf es #[]=es:=by unfold leftOf;simp
 rw [this]
 exact h3
theorem Qnj (w:World) (r:Nat) (o:Obj):w.grownBy (setBlock w r o) (some r):=⟨rfl,rfl,rfl,by simp [setBlock],fun k hk hne=>by
 simp only [setBlock]
 rw [Array.getElem?_setIfInBounds_ne (fun e=>hne (by rw [e]))]⟩
theorem Qqi (h:Q3y w b it G left) (hbi:b≠it) (ty:TypeId) :
  (left=[]∧(Instr.next (.pointer (some ⟨it,0,none⟩)) false ty).run P w=.ok (.tuple #[.bool false]) w) ∨
  ∃ k v w',(k,v) ∈ left∧(Instr.next (.pointer (some ⟨it,0,none⟩)) false ty).run P w=.ok (.tuple #[.bool true,.int .i64 (k:Int),v]) w'∧Q3y w' b it G (left.filter fun p=>p.1 != k) ∧
   (Instr.entry (.pointer (some ⟨it,0,none⟩))).run P w'=.ok (.tuple #[.int .i64 (k:Int),v]) w'∧w.grownBy w' (some it)∧w'.heap.size=w.heap.size:=by
 obtain ⟨es,clock,since,seen,c0,h1,h2,h3,h4,h5,h6,h7,h8⟩:=h
 rcases run_next_at (P:=P) w ty it b since c0 seen es clock h4 h1 h5 h6 with ⟨e1,e2⟩ | ⟨e,he,w1,hw1,e2⟩
 ·left
  refine ⟨?_,e2⟩
  have:(leftOf es seen).toList=[]:=by
   rw [← List.length_eq_zero_iff,Array.length_toList,e1]
  rw [this] at h8
  cases left with
  | nil=>rfl
  | cons x l=>simp at h8
 ·right
  have hel:(e.key,e.val) ∈ (leftOf es seen).toList.map (fun x=>(x.key,x.val)):=List.mem_map.2 ⟨e,he,rfl⟩
  rw [h8] at hel
  obtain ⟨⟨k,v⟩,hkv,hke⟩:=List.mem_map.1 hel
  simp only [Prod.mk.injEq] at hke
  have hes:e ∈ es.toList:=by
   unfold leftOf at he
   simp at he ⊢
   exact he.1
  have hw1h:w1.heap=w.heap:=by rcases hw1 with rfl | rfl <;> rfl
  have hsz:(setBlock w1 it (.mapIter (some b) since (seen.push e.born) clock)).heap.size=w.heap.size:=by simp [setBlock,hw1h]
  have hitl:it < w.heap.size:=(Array.getElem?_eq_some_iff.1 h4).1
  have hgr:w.grownBy (setBlock w1 it (.mapIter (some b) since (seen.push e.born) clock)) (some it):=by
   have hx:Ext w w1:=by
    rcases hw1 with rfl | rfl
    ·exact Ext.refl _
    ·exact (Ext.refl _).drew
   exact grown_trans' (ext_grown' hx _) (Qnj w1 it _)
  have hb':(setBlock w1 it (.mapIter (some b) since (seen.push e.born) clock)).heap[b]? = some (.map es clock):=by
   rw [hgr.block b (Array.getElem?_eq_some_iff.1 h1).1 (fun e=>hbi (Option.some.inj e))]
   exact h1
  have hi':(setBlock w1 it (.mapIter (some b) since (seen.push e.born) clock)).heap[it]? = some (.mapIter (some b) since (seen.push e.born) clock):=by
   simp only [setBlock,hw1h]
   rw [Array.getElem?_setIfInBounds_self_of_lt hitl]
  have hkey:e.key=.int .i64 (k:Int):=hke.1.symm
  have hen:=run_entry_at (P:=P) _ it b since seen es clock e hi' hb' hes h2.2.1
  rw [hkey,← hke.2] at e2 hen
  refine ⟨k,v,_,hkv,e2,⟨es,clock,since,seen.push e.born,clock,hb',h2,h3,hi',h5,h7,h7,?_⟩,hen,hgr,hsz⟩
  have hl:(leftOf es (seen.push e.born)).toList=(leftOf es seen).toList.filter fun x=>x.born != e.born:=by
   unfold leftOf
   simp only [Array.toList_filter,List.filter_filter]
   congr 1
   funext x
   simp only [Array.contains_push,Bool.not_or]
   rw [Bool.and_comm]
   rfl
  rw [hl]
  refine Qkc _ _ h8 fun x hx p hp hxp=>?_
  simp only [Prod.mk.injEq] at hxp
  have hxe:x ∈ es.toList:=by
   unfold leftOf at hx
   simp at hx ⊢
   exact hx.1
  have hxk:x.key=keyI p.1:=hxp.1
  by_cases hpk:p.1=k
  ·have hxx:x=e:=by
    obtain ⟨i,hi,rfl⟩:=List.getElem_of_mem hxe
    obtain ⟨j,hj,hje⟩:=List.getElem_of_mem hes
    have hkk:=List.pairwise_iff_getElem.1 h2.2.2
    have hkx:es.toList[i].key=e.key:=by rw [hxk,hpk,hkey];rfl
    rcases Nat.lt_trichotomy i j with hl | hl | hl
    ·exact absurd (by rw [List.getElem_map,List.getElem_map];exact hkx.trans (congrArg MapEntry.key hje.symm)) (hkk i j (by simpa using hi) (by simpa using hj) hl)
    ·subst hl;exact hje
    ·exact absurd (by rw [List.getElem_map,List.getElem_map];exact (congrArg MapEntry.key hje).trans hkx.symm) (hkk j i (by simpa using hj) (by simpa using hi) hl)
   rw [hxx]
   simp [hpk]
  ·have hxb:x.born≠e.born:=by
    intro hb
    obtain ⟨i,hi,rfl⟩:=List.getElem_of_mem hxe
    obtain ⟨j,hj,hje⟩:=List.getElem_of_mem hes
    have hkk:=List.pairwise_iff_getElem.1 h2.2.1
    rcases Nat.lt_trichotomy i j with hl | hl | hl
    ·exact absurd (by rw [List.getElem_map,List.getElem_map];exact hb.trans (congrArg MapEntry.born hje.symm)) (hkk i j (by simpa using hi) (by simpa using hj) hl)
    ·subst hl
     rw [hje] at hxk
     exact hpk (Qby (hxk.symm.trans hkey))
    ·exact absurd (by rw [List.getElem_map,List.getElem_map];exact (congrArg MapEntry.born hje).trans hb.symm) (hkk j i (by simpa using hj) (by simpa using hi) hl)
   have a1:(x.born != e.born)=true:=by simpa using hxb
   have a2:(p.1 != k)=true:=by simpa using hpk
   rw [a1,a2]
variable {ops : Array Oper} {rest : List Oper} {o : Oper} {a : Act} {Q : Exit → Act → World → Prop}
theorem Qco (hg:o.guard=none) (m x:Operand) (t kt et:TypeId) (hop:o.op=Op.lookup t m x false) (ht:P.underlying t=some (.map kt et)) (hd:P.underlying kt=some (.int .i64)) {z:Value} (hz:(zeroValue et).run P w=.ok z w)
  (hm:a.eval m=.map (some b)) (h:MapG w b G) (k:Nat) (hx:a.eval x=.int .i64 (k:Int)) (hK:wpList P ops Q rest (a.put o.dst (Q2s G k z)) w):wpList P ops Q (o :: rest) a w:=by
 refine wpList_plain hg fun K' hK'=>?_
 have hrun:=Qio h ht hd hz k
 unfold Oper.wp
 simp [execOp,hop,hm,hx,hrun,Result.andThen]
 exact hK' _ _ hK
theorem Qft (hg:o.guard=none) (m x u:Operand) (t kt et:TypeId) (hop:o.op=Op.mapUpdate t m x u) (ht:P.underlying t=some (.map kt et)) (hd:P.underlying kt=some (.int .i64))
  (hm:a.eval m=.map (some b)) (h:MapG w b G) (k:Nat) (hx:a.eval x=.int .i64 (k:Int)) (v:Value) (hu:a.eval u=v) (hK:∀ w',MapG w' b (putG G k v)→w.grownBy w' (some b)→wpList P ops Q rest (a.put o.dst undef) w'):wpList P ops Q (o :: rest) a w:=by
 refine wpList_plain hg fun K' hK'=>?_
 obtain ⟨w',hrun,h1,h2⟩:=Qqw (P:=P) h ht hd k v
 unfold Oper.wp
 simp [execOp,hop,hm,hx,hu,hrun,Result.andThen]
 exact hK' _ _ (hK w' h1 h2)
theorem Qla (hg:o.guard=none) (m:Operand) (t kt et:TypeId) (hop:o.op=Op.range t m) (ht:P.underlying t=some (.map kt et)) (hm:a.eval m=.map (some b)) (h:MapG w b G)
  (hK:∀ w',Q3y w' b w.heap.size G G→Ext w w'→w'.heap.size=w.heap.size+1→wpList P ops Q rest (a.put o.dst (.pointer (some ⟨w.heap.size,0,none⟩))) w'):wpList P ops Q (o :: rest) a w:=by
 refine wpList_plain hg fun K' hK'=>?_
 obtain ⟨w',hrun,h1,h2,h3⟩:=Qoi (P:=P) h ht
 unfold Oper.wp
 simp [execOp,hop,hm,hrun,Result.andThen]
 exact hK' _ _ (hK w' h1 h2 h3)
theorem Qlb (hg:o.guard=none) (i:Operand) (hop:o.op=Op.next i false) (hi:a.eval i=.pointer (some ⟨it,0,none⟩)) (h:Q3y w b it G left) (hbi:b≠it)
  (hDone:left=[]→wpList P ops Q rest (a.put o.dst (.tuple #[.bool false])) w)
  (hMore:∀ k v w',(k,v) ∈ left→Q3y w' b it G (left.filter fun p=>p.1 != k)→(Instr.entry (.pointer (some ⟨it,0,none⟩))).run P w'=.ok (.tuple #[.int .i64 (k:Int),v]) w'→w.grownBy w' (some it)→w'.heap.size=w.heap.size →
   wpList P ops Q rest (a.put o.dst (.tuple #[.bool true,.int .i64 (k:Int),v])) w'):wpList P ops Q (o :: rest) a w:=by
 refine wpList_plain hg fun K' hK'=>?_
 unfold Oper.wp
 rcases Qqi (P:=P) h hbi o.type with ⟨h0,hrun⟩ | ⟨k,v,w',hkv,hrun,h1,h2,h3,h4⟩
 ·simp [execOp,hop,hi,hrun,Result.andThen]
  exact hK' _ _ (hDone h0)
 ·simp [execOp,hop,hi,hrun,Result.andThen]
  exact hK' _ _ (hMore k v w' hkv h1 h2 h3 h4)
end
end Go.Proofs.YtiafchefbehfbaaGreatDoor
