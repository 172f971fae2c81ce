/- Laid together from: Base, Form, Mem, Upd. -/
import Derived.WalkKit
import Derived.ProofKit
import Derived.OpenShut
import Derived.Below
import Derived.ChangeSame
import Derived.Deep.Draws
import Derived.Lib.Hide
import Derived.Deep.MidRow
import Derived.Laws.OwnMore
import Derived.Laws.ResultCell
import Derived.Test.YtiafchefbehfbaaGreatDoorDriveTellsB1

namespace Go.Proofs.YtiafchefbehfbaaGreatDoor
open Go.RowKit Go.WideShapes Go.ChangeShapes
theorem zh {p:Prop} (h:p):Hid p:=h
theorem Q5r {k:IntKind} {a b:Int} (h:a=b):Ending.returned (.int k a)=.returned (.int k b):=by rw [h]
theorem Q1z {a b:Bool} (h:a=b):Ending.returned (.bool a)=.returned (.bool b):=by rw [h]
def Ext (w w':World):Prop:=Below w.heap.size w w'
section
variable {a w w' w'' : World}
theorem Ext.refl (w:World):Ext w w:=Below.refl _ w
theorem Ext.size (h:Ext w w'):w.heap.size≤w'.heap.size:=Below.size h
theorem Ext.trans (h:Ext w w') (k:Ext w' w''):Ext w w'':=Below.trans h (Below.mono k h.size)
theorem Ext.drew (h:Ext a w):Ext a w.drew:=Below.drew h
theorem Ext.drewN (h:Ext a w) (n:Nat):Ext a (w.drewN n):=⟨h.os,h.tape,h.output,h.size,h.block⟩
theorem Ext.alloc (h:Ext a w) (o:Obj):Ext a (w.alloc o):=Below.alloc h h.size o
theorem Ext.setCell (h:Ext a w) {p:Addr} (hp:a.heap.size≤p.block) (u:Value):Ext a (w.setCell p u):=Below.setCell h hp u
theorem Ext.cell (h:Ext w w') {p:Addr} (hp:p.block < w.heap.size):w'.cell? p=w.cell? p:=Below.cell h hp
theorem Ext.frozen (h:Ext w w') {p:Addr} (hp:p.block < w.heap.size):w'.frozen? p=w.frozen? p:=Below.frozen h hp
theorem Q0k {p:Addr} {v:Value} (h:w.cell? p=some v):p.block < w.heap.size:=block_lt_of_cell h
theorem Ext.kept (h:Ext w w') {p:Addr} {v:Value} (hc:w.cell? p=some v):w'.cell? p=some v:=by rw [h.cell (Q0k hc)];exact hc
theorem Ext.lt (h:Ext w w') {k:Nat} (hk:k < w.heap.size):k < w'.heap.size:=Nat.lt_of_lt_of_le hk h.size
theorem Ext.grown (h:Ext a w) {row:Option Nat} (hg:w.grownBy w' row) (hr:∀ k,row=some k→a.heap.size≤k):Ext a w':=Below.grown h hg h.size hr
end
def Blk (w:World) (g:Nat) (t:TypeId) (cs:Array Value):Prop:=w.heap[g]? = some (.cells cs t (0,0))
def Q4e (cs:Array Value):Nat→List Value→Array Value
 | _,[]=>cs
 | o,v :: r=>Q4e (cs.setIfInBounds o v) (o+1) r
theorem Qnk (vs:List Value):∀ (cs:Array Value) (o j:Nat),(Q4e cs o vs)[j]? = if o≤j∧j < o+vs.length∧j < cs.size then vs[j - o]? else cs[j]? := by
 induction vs with
 | nil=>intro cs o j;simp [Q4e];intro h1 h2;omega
 | cons v r ih =>
  intro cs o j
  rw [Q4e,ih]
  simp only [Array.size_setIfInBounds,List.length_cons]
  by_cases h1:o+1≤j∧j < o+1+r.length∧j < cs.size
  ·rw [if_pos h1,if_pos ⟨by omega,by omega,h1.2.2⟩,show j - o=(j - (o+1))+1 by omega,List.getElem?_cons_succ]
  ·rw [if_neg h1]
   by_cases h2:j=o
   ·subst h2
    by_cases h3:j < cs.size
    ·rw [if_pos ⟨Nat.le_refl _,by omega,h3⟩];simp [h3]
    ·rw [if_neg (by omega)];simp [h3]
   ·rw [if_neg (by omega),Array.getElem?_setIfInBounds_ne (by omega)]
theorem Qnl (cs:Array Value) (vs:List Value) (h:vs.length=cs.size):Q4e cs 0 vs=vs.toArray:=by
 apply Array.ext_getElem?
 intro j
 rw [Qnk]
 by_cases hj:j < cs.size
 ·rw [if_pos ⟨by omega,by omega,hj⟩];simp
 ·rw [if_neg (by omega),Array.getElem?_eq_none (by omega),Array.getElem?_eq_none (by simp;omega)]
section
variable {w w' : World} {g : Nat} {t : TypeId} {cs : Array Value}
theorem Blk.lt (h:Blk w g t cs):g < w.heap.size:=by
 rcases Nat.lt_or_ge g w.heap.size with hlt | hge
 ·exact hlt
 ·unfold Blk at h;rw [Array.getElem?_eq_none hge] at h;cases h
theorem Blk.cell (h:Blk w g t cs) (i:Nat):w.cell? ⟨g,i,none⟩=cs[i]? := cell_of_row w g i cs t (0,0) h
theorem Blk.frozen (h:Blk w g t cs) (i:Nat):w.frozen? ⟨g,i,none⟩=false:=by
 unfold Blk at h
 simp [World.frozen?,h]
theorem Blk.new (w:World) (t:TypeId) (cs:Array Value):Blk (w.alloc (.cells cs t)) w.heap.size t cs:=heap_alloc_new w _
theorem Blk.drew (h:Blk w g t cs):Blk w.drew g t cs:=h
theorem Blk.drewN (h:Blk w g t cs) (n:Nat):Blk (w.drewN n) g t cs:=h
theorem Blk.alloc (h:Blk w g t cs) (o:Obj):Blk (w.alloc o) g t cs:=(Below.heap_alloc w o g h.lt).trans h
theorem Blk.set_ (h:Blk w g t cs) (i:Nat) (u:Value):Blk (w.setCell ⟨g,i,none⟩ u) g t (cs.setIfInBounds i u):=by
 unfold Blk at h ⊢
 simp [World.setCell,Array.getElem?_modify,h]
theorem Blk.far (h:Blk w g t cs) {p:Addr} (hp:g≠p.block) (u:Value):Blk (w.setCell p u) g t cs:=(Below.heap_setCell w p u g hp).trans h
theorem Blk.ext (h:Blk w g t cs) (hb:Ext w w'):Blk w' g t cs:=(Below.block hb g h.lt).trans h
theorem Blk.below {B:Nat} (h:Blk w g t cs) (hb:Below B w w') (hg:g < B):Blk w' g t cs:=(hb.block g hg).trans h
theorem Blk.setCells (vs:List Value):∀ {w:World} {cs:Array Value} (_:Blk w g t cs) (o:Nat),Blk (w.setCells g o vs) g t (Q4e cs o vs):=by
 induction vs with
 | nil=>intro w cs h o;exact h
 | cons v r ih=>intro w cs h o;exact ih (h.set_ o v) (o+1)
theorem Blk.setCells_all (h:Blk w g t cs) (vs:List Value) (hl:vs.length=cs.size):Blk (w.setCells g 0 vs) g t vs.toArray:=by
 have:=Blk.setCells (t:=t) vs h 0
 rwa [Qnl cs vs hl] at this
theorem Blk.farCells (vs:List Value):∀ {w:World} (_:Blk w g t cs) {b:Nat} (_:g≠b) (o:Nat),Blk (w.setCells b o vs) g t cs:=by
 induction vs with
 | nil=>intro w h b hb o;exact h
 | cons v r ih=>intro w h b hb o;exact ih (h.far (p:=⟨b,o,none⟩) hb v) hb (o+1)
theorem Blk.there (h:Blk w g t cs) (o n:Nat) (hn:o+n≤cs.size):w.there g o n:=fun j hj=>by
 refine ⟨?_,h.frozen _⟩
 rw [h.cell]
 simp;omega
theorem Blk.range (h:Blk w g t cs) (o:Nat) (l:List Value) (hl:∀ j v,l[j]? = some v→cs[o+j]? = some v):w.rangeAt g o l:=fun j v hv=>by
 rw [h.cell];exact hl j v hv
theorem Ext.setCells (vs:List Value):∀ {a w:World} (_:Ext a w) {b:Nat} (_:a.heap.size≤b) (o:Nat),Ext a (w.setCells b o vs):=by
 induction vs with
 | nil=>intro a w h b hb o;exact h
 | cons v r ih=>intro a w h b hb o;exact ih (h.setCell (p:=⟨b,o,none⟩) hb v) hb (o+1)
end
section
variable {P : Program} {ops : Array Oper} {rest : List Oper} {a : Act} {w : World} {Q : Exit → Act → World → Prop} {g : Nat} {t : TypeId} {cs : Array Value} {dst : Option Tmp} {T : TypeId} {pos : String} {after : Array Edge}
theorem Q8i (h:Blk w g t cs) (o:Nat) (l:List Value) {ty:TypeId} {x:Operand} {d:TypeDesc} (hx:a.eval x=.pointer (some ⟨g,o,none⟩))
  (hl:∀ j v,l[j]? = some v→cs[o+j]? = some v) (hu:P.underlying ty=some d) (hd:d.isRow=true) (hi:(P.info? ty).map (·.size)=some l.length)
  (k:wpList P ops Q rest (a.put dst (.agg l.toArray)) w):wpList P ops Q (⟨dst,.load ty x,T,pos,after,none⟩ :: rest) a w :=
 wpList_load_mid rfl ty x rfl g o hx l d (h.range o l hl) hu hd hi k
theorem Q3c (h:Blk w g t cs) {ty:TypeId} {x:Operand} {d:TypeDesc} (hx:a.eval x=.pointer (some ⟨g,0,none⟩))
  (hu:P.underlying ty=some d) (hd:d.isRow=true) (hi:(P.info? ty).map (·.size)=some cs.size)
  (k:wpList P ops Q rest (a.put dst (.agg cs)) w):wpList P ops Q (⟨dst,.load ty x,T,pos,after,none⟩ :: rest) a w :=
 Q8i h 0 cs.toList hx (fun j v hv=>by simpa using hv) hu hd (by simpa using hi) (by simpa using k)
theorem Q61 (h:Blk w g t cs) (cs':Array Value) {ty:TypeId} {x y:Operand} (hx:a.eval x=.pointer (some ⟨g,0,none⟩)) (hy:a.eval y=.agg cs')
  (hs:cs'.size=cs.size) (hi:(P.info? ty).map (·.size)=some cs'.size) (h1:cs'.all (·.oneCell')=true)
  (k:wpList P ops Q rest (a.put dst undef) (w.setCells g 0 cs'.toList)):wpList P ops Q (⟨dst,.store ty x y,T,pos,after,none⟩ :: rest) a w :=
 wpList_store_mid rfl ty x y rfl g 0 cs' hx hy (h.there 0 _ (by omega)) hi h1 k
theorem Q3t {p q:Addr} {v u:Value} (hne:q≠p) (h:w.cell? p=some v∧w.frozen? p=false):(w.setCell q u).cell? p=some v∧(w.setCell q u).frozen? p=false :=
 ⟨(World.cell?_setCell_other w q p u hne).trans h.1,(World.frozen?_setCell w q p u).trans h.2⟩
theorem Q7b {p q:Addr} {u:Value} (h:(w.cell? p).isSome=true):((w.setCell q u).cell? p).isSome=true:=by
 obtain ⟨v,hv⟩:=Option.isSome_iff_exists.1 h
 by_cases e:q=p
 ·subst e;rw [World.cell?_setCell_same _ _ _ hv];rfl
 ·rw [World.cell?_setCell_other _ _ _ _ e,hv];rfl
theorem Q7c {p:Addr} {v:Value} (h:w.cell? p=some v∧w.frozen? p=false):(w.cell? p).isSome=true:=by rw [h.1];rfl
theorem Qbc {fn:Func} {p:Tmp} {ty:TypeId} {d:TypeDesc} {v0 v1:Value} (h0:(w.cell? ⟨g,0,none⟩).isSome=true) (h1:(w.cell? ⟨g,1,none⟩).isSome=true)
  (hr:fn.results=#[.cell p ty]) (tmps:Array Value) (hp:tmps.getD p undef=.pointer (some ⟨g,0,none⟩)) (hu:P.underlying ty=some d) (hd:d.isRow=true) (hi:(P.info? ty).map (·.size)=some 2) :
  (results fn tmps).run P ((w.setCell ⟨g,0,none⟩ v0).setCell ⟨g,1,none⟩ v1)=.ok (.agg #[v0,v1]) ((w.setCell ⟨g,0,none⟩ v0).setCell ⟨g,1,none⟩ v1):=by
 have hp':tmps[p]?.getD undef=.pointer (some ⟨g,0,none⟩):=by simpa using hp
 obtain ⟨a0,h0⟩:=Option.isSome_iff_exists.1 h0
 obtain ⟨a1,h1⟩:=Option.isSome_iff_exists.1 h1
 have c0:((w.setCell ⟨g,0,none⟩ v0).setCell ⟨g,1,none⟩ v1).cell? ⟨g,0,none⟩=some v0 :=
  (World.cell?_setCell_other _ _ _ _ (by simp)).trans (World.cell?_setCell_same _ _ _ h0)
 have c1:((w.setCell ⟨g,0,none⟩ v0).setCell ⟨g,1,none⟩ v1).cell? ⟨g,1,none⟩=some v1 :=
  World.cell?_setCell_same _ _ _ ((World.cell?_setCell_other _ _ _ _ (by simp)).trans h1)
 have hc:((w.setCell ⟨g,0,none⟩ v0).setCell ⟨g,1,none⟩ v1).rangeAt g 0 [v0,v1]:=fun j v hv=>by
  match j,hv with
  | 0,hv=>simp at hv;subst hv;exact c0
  | 1,hv=>simp at hv;subst hv;exact c1
 simp [results,hr,hp',asAddr,run_loadVar_mid _ g 0 ty [v0,v1] d hc hu hd hi]
theorem Blk.stored (h:Blk w g t cs) (cs':Array Value) (hs:cs'.size=cs.size):Blk (w.setCells g 0 cs'.toList) g t cs':=by
 have:=h.setCells_all cs'.toList (by simpa using hs)
 simpa using this
theorem Q4f {fn:Func} {p:Tmp} {ty:TypeId} {d:TypeDesc} (h:Blk w g t cs) (hr:fn.results=#[.cell p ty]) (tmps:Array Value) (hp:tmps.getD p undef=.pointer (some ⟨g,0,none⟩))
  (hu:P.underlying ty=some d) (hd:(match d with | .struct _ | .array _ _=>true | _=>false)=true) (hi:(P.info? ty).map (·.size)=some cs.size) :
  (results fn tmps).run P w=.ok (.agg cs) w :=
 results_cell_row hr tmps w g t cs (0,0) d hp h hu hd hi
end
section
variable {H : Type} {enc : TypeId × Value → H} {P : Program}
theorem Qp1 {f:Func} {s:ChangeSpec} {apart fresh handsOn again:Bool} {W W':World} {args:Array Value} {v:Value} {ds gs:List (DataW H)} {before pa pv:List MemPlace}
  (hW:DataW.Whole enc P f.params.toList s.vars apart W args.toList ds gs before)
  (hres:∀ (b:Nat) (sp:Nat→Bool) (hd:Bool),DataW.TrodAll enc P W' b sp hd f.resultTypes.toList (v.resultList f.resultTypes.size) (s.fn H (ds ++ gs)).results [])
  (hargs:∀ sp:Nat→Bool,(∀ p ∈ before,sp p.block=true)→DataW.TrodAll enc P W' 0 sp true f.params.toList args.toList (s.fn H (ds ++ gs)).args pa)
  (hvars:∀ sp:Nat→Bool,(∀ p ∈ before,sp p.block=true)→DataW.TrodVars enc P W' sp s.vars (s.fn H (ds ++ gs)).vars pv)
  (hps:before=pa ++ pv) (hb:Ext W W')
  (hok:∀ (j:Nat) (t:TypeId) (r:Value),f.resultTypes[j]? = some t→(v.resultList f.resultTypes.size)[j]? = some r→Value.okWide P W' .any 0 t r) :
  s.post enc P f apart fresh handsOn again W args v W':=by
 have hlt:∀ p ∈ before,p.block < W.heap.size:=fun p hp=>hW.lt p hp
 have hold:∀ p ∈ before,(fun b=>decide (b < W.heap.size)) p.block=true:=fun p hp=>by simpa using hlt p hp
 refine ⟨ds,gs,before,[],pa,pv,hW,hres _ _ _,hargs _ hold,hvars _ hold,World.keptBut_mono (fun p hp=>⟨hp,?_⟩) (hb.frame (· ∈ before)),fun _=>?_⟩
 ·rw [hps,List.mem_append] at hp
  exact Or.inr hp
 ·obtain ⟨_,_,_,_,_,hz,hn⟩:=hW
  refine ⟨hok,_,_,([] ++ pa) ++ pv,⟨[] ++ pa,pv,trodAll_append (hargs _ (fun _ _=>rfl)) (hres _ _ _),hvars _ (fun _ _=>rfl),rfl,?_,?_⟩,?_⟩
  ·intro b off hp
   have hin:MemPlace.cell b off ∈ before:=by rw [hps];simpa using hp
   rw [Below.frozen hb (hlt _ hin)]
   exact hz b off hin
  ·intro ha
   have:=hn ha
   rw [hps] at this
   simpa using this
  ·intro p hp _
   rw [hps]
   simpa using hp
theorem Ql2 (hl:laidOutB P=true) {W W':World} {sp:Nat→Bool} (hb:Ext W W'):∀ {ts:List TypeId} {vs:List Value} {ds:List (DataW H)} {ps:List MemPlace},
  ts.all (fun t=>P.readableRec t && decide (t < P.types.size))=true→DataW.TrodAll enc P W 0 (fun _=>true) true ts vs ds ps→(∀ x ∈ ps,x.block < W.heap.size)→(∀ x ∈ ps,sp x.block=true)→DataW.TrodAll enc P W' 0 sp true ts vs ds ps
 | [],[],[],_,_,h,_,_=>h
 | t :: ts,v :: vs,d :: ds,ps,hr,⟨p,q,h1,h2,e⟩,hlt,hs=>by
  simp only [List.all_cons,Bool.and_eq_true,decide_eq_true_eq] at hr
  exact ⟨p,q,WideElems.Trod_stays hl hr.1.1 hr.1.2 h1 (fun x hx=>Below.same hb (hlt x (by rw [e];exact List.mem_append_left _ hx))) (fun x hx=>hs x (by rw [e];exact List.mem_append_left _ hx)),
   Ql2 hl hb hr.2 h2 (fun x hx=>hlt x (by rw [e];exact List.mem_append_right _ hx)) (fun x hx=>hs x (by rw [e];exact List.mem_append_right _ hx)),e⟩
 | [],_ :: _,_,_,_,h,_,_=>h.elim
 | [],[],_ :: _,_,_,h,_,_=>h.elim
 | _ :: _,[],_,_,_,h,_,_=>h.elim
 | _ :: _,_ :: _,[],_,_,h,_,_=>h.elim
theorem Qrq {f:Func} {s:ChangeSpec} {apart fresh handsOn again:Bool} {W W':World} {args:Array Value} {ds gs:List (DataW H)} {before:List MemPlace} {tb:TypeId}
  (hl:laidOutB P=true) (hr:f.params.toList.all (fun t=>P.readableRec t && decide (t < P.types.size))=true)
  (hW:DataW.Whole enc P f.params.toList s.vars apart W args.toList ds gs before) (hv:s.vars=[]) (hrt:f.resultTypes=#[tb]) (ht:P.underlying tb=some .bool)
  (hfn:(s.fn H (ds ++ gs)).results=[.lit (.bool true)]) (hfa:(s.fn H (ds ++ gs)).args=ds) (hfv:(s.fn H (ds ++ gs)).vars=[]) (hb:Ext W W') :
  s.post enc P f apart fresh handsOn again W args (.bool true) W':=by
 have hW':=hW
 have hlt:∀ p ∈ before,p.block < W.heap.size:=fun p hp=>hW.lt p hp
 obtain ⟨p,q,hA,hV,rfl,hfz,hnd⟩:=hW
 rw [hv] at hV
 obtain ⟨rfl,rfl⟩:=trodVars_none hV
 simp only [List.append_nil] at hW' hlt
 refine Qp1 (pa:=p) (pv:=[]) (by simpa using hW') ?_ ?_ ?_ (by simp) hb (ok_one hrt rfl (okWide_bool_mk ht _))
 ·intro b sp hd
  rw [hfn,hrt]
  exact trodAll_cons_mk (shut_bool ht _) trodAll_mk0
 ·intro sp hs
  rw [hfa]
  exact Ql2 hl hb hr hA hlt (fun x hx=>hs x (by simpa using hx))
 ·intro sp hs
  rw [hfv,hv]
  rfl
end
end Go.Proofs.YtiafchefbehfbaaGreatDoor

namespace Go.Proofs.YtiafchefbehfbaaGreatDoor
open Go.RowKit
structure Rows (w:World) (oa:Option Addr) (b o n c:Nat) (f:Nat→Nat→Value):Prop where
 at_:0 < n→oa=some ⟨b,o,none⟩
 cell:∀ i j,i < n→j < c→w.cell? ⟨b,o+i * c+j,none⟩=some (f i j)
theorem Rows.ext {w w':World} {oa:Option Addr} {b o n c:Nat} {f:Nat→Nat→Value} (h:Rows w oa b o n c f) (hx:Ext w w'):Rows w' oa b o n c f :=
 ⟨h.at_,fun i j hi hj=>hx.kept (h.cell i j hi hj)⟩
def Q2v (r:LReg):Nat→Value
 | 0=>.int .i64 r.log
 | _=>.bool r.secret
def Q1e (i:LIns):Nat→Value
 | 0=>.int .i64 i.op
 | 1=>.int .i64 i.a
 | 2=>.int .i64 i.b
 | 3=>.int .i64 i.c
 | _=>.int .i64 i.n
def LIns.fits (i:LIns):Prop:=R64 i.op∧R64 i.a∧R64 i.b∧R64 i.c∧R64 i.n
def Q6g (w:World) (v:Value) (l:List LReg):Prop :=
 (∀ r ∈ l,R64 r.log)∧∃ oa cap b o,v=.slice oa l.length cap∧l.length≤cap∧cap≤maxLen∧Rows w oa b o l.length 2 fun i=>Q2v (l.getD i default)
def Q9t (w:World) (v:Value) (l:List LIns):Prop :=
 (∀ i ∈ l,i.fits)∧∃ oa cap b o,v=.slice oa l.length cap∧l.length≤cap∧cap≤maxLen∧Rows w oa b o l.length 5 fun i=>Q1e (l.getD i default)
def Q29 (w:World) (v:Value) (p:Q00):Prop := ∃ v1 v2,v=.agg #[v1,v2]∧Q6g w v1 p.regs∧Q9t w v2 p.code
def Q2z (w:World) (v:Value) (l:List Int):Prop :=
 (∀ x ∈ l,R64 x)∧∃ oa cap b o,v=.slice oa l.length cap∧l.length≤cap∧cap≤maxLen∧Rows w oa b o l.length 1 fun i _=>.int .i64 (l.getD i default)
def Q4q (w:World) (v:Value) (m:List (List Int)):Prop :=
 ∃ oa cap b o,v=.slice oa m.length cap∧m.length≤cap∧cap≤maxLen∧∃ vs:Nat→Value,Rows w oa b o m.length 1 (fun i _=>vs i)∧∀ i,i < m.length→Q2z w (vs i) (m.getD i default)
theorem Q6g.ext {w w':World} {v:Value} {l:List LReg} (h:Q6g w v l) (hx:Ext w w'):Q6g w' v l:=by
 obtain ⟨h0,oa,cap,b,o,h1,h2,h3,h4⟩:=h
 exact ⟨h0,oa,cap,b,o,h1,h2,h3,h4.ext hx⟩
theorem Q9t.ext {w w':World} {v:Value} {l:List LIns} (h:Q9t w v l) (hx:Ext w w'):Q9t w' v l:=by
 obtain ⟨h0,oa,cap,b,o,h1,h2,h3,h4⟩:=h
 exact ⟨h0,oa,cap,b,o,h1,h2,h3,h4.ext hx⟩
theorem Q29.ext {w w':World} {v:Value} {p:Q00} (h:Q29 w v p) (hx:Ext w w'):Q29 w' v p:=by
 obtain ⟨v1,v2,h1,h2,h3⟩:=h
 exact ⟨v1,v2,h1,h2.ext hx,h3.ext hx⟩
theorem Q2z.ext {w w':World} {v:Value} {l:List Int} (h:Q2z w v l) (hx:Ext w w'):Q2z w' v l:=by
 obtain ⟨h0,oa,cap,b,o,h1,h2,h3,h4⟩:=h
 exact ⟨h0,oa,cap,b,o,h1,h2,h3,h4.ext hx⟩
theorem Q4q.ext {w w':World} {v:Value} {m:List (List Int)} (h:Q4q w v m) (hx:Ext w w'):Q4q w' v m:=by
 obtain ⟨oa,cap,b,o,h1,h2,h3,vs,h4,h5⟩:=h
 exact ⟨oa,cap,b,o,h1,h2,h3,vs,h4.ext hx,fun i hi=>(h5 i hi).ext hx⟩
theorem Rows.reg {w:World} {oa:Option Addr} {b o:Nat} {l:List LReg} (h:Rows w oa b o l.length 2 fun i=>Q2v (l.getD i default)) (k:Nat) (hk:k < l.length) :
  w.cell? ⟨b,o+k * 2,none⟩=some (.int .i64 (l.getD k default).log)∧w.cell? ⟨b,o+k * 2+1,none⟩=some (.bool (l.getD k default).secret) :=
 ⟨h.cell k 0 hk (by omega),h.cell k 1 hk (by omega)⟩
theorem Rows.ins {w:World} {oa:Option Addr} {b o:Nat} {l:List LIns} (h:Rows w oa b o l.length 5 fun i=>Q1e (l.getD i default)) (k:Nat) (hk:k < l.length) :
  w.cell? ⟨b,o+k * 5,none⟩=some (.int .i64 (l.getD k default).op)∧w.cell? ⟨b,o+k * 5+1,none⟩=some (.int .i64 (l.getD k default).a)∧w.cell? ⟨b,o+k * 5+2,none⟩=some (.int .i64 (l.getD k default).b) ∧
   w.cell? ⟨b,o+k * 5+3,none⟩=some (.int .i64 (l.getD k default).c)∧w.cell? ⟨b,o+k * 5+4,none⟩=some (.int .i64 (l.getD k default).n) :=
 ⟨h.cell k 0 hk (by omega),h.cell k 1 hk (by omega),h.cell k 2 hk (by omega),h.cell k 3 hk (by omega),h.cell k 4 hk (by omega)⟩
theorem Rows.one {w:World} {oa:Option Addr} {b o n:Nat} {f:Nat→Value} (h:Rows w oa b o n 1 fun i _=>f i) (k:Nat) (hk:k < n) :
  w.cell? ⟨b,o+k,none⟩=some (f k):=by
 have:=h.cell k 0 hk (by omega)
 simpa using this
theorem Q25 {α:Type} [Inhabited α] {l:List α} {k:Nat} (hk:k < l.length):l.getD k default ∈ l:=by
 simp [hk]
theorem Q5h {n cap:Nat} (h:n≤cap) (hn:cap≤maxLen):(n:Int)≤9223372036854775807:=by
 unfold maxLen at hn
 omega
end Go.Proofs.YtiafchefbehfbaaGreatDoor

namespace Go.Proofs.YtiafchefbehfbaaGreatDoor
open Go.ChangeShapes Go.WideShapes Go.ChangeAt Go.RowKit
theorem Q0i {w w':World} {p:Addr} {v:Value} (hx:Ext w w') (h:w.cell? p=some v∧w.frozen? p=false):w'.cell? p=some v∧w'.frozen? p=false :=
 ⟨hx.kept h.1,(hx.frozen (Q0k h.1)).trans h.2⟩
theorem Q87 {w:World} {p:Addr} {v u:Value} (h:w.cell? p=some v∧w.frozen? p=false):(w.setCell p u).cell? p=some u∧(w.setCell p u).frozen? p=false :=
 ⟨World.cell?_setCell_same _ _ _ h.1,(World.frozen?_setCell w p p u).trans h.2⟩
theorem Qi5 (w:World) (T:TypeId) (a0 a1:Value):((w.alloc (.cells #[a0,a1] T)).cell? ⟨w.heap.size,0,none⟩=some a0∧(w.alloc (.cells #[a0,a1] T)).frozen? ⟨w.heap.size,0,none⟩=false) ∧
  ((w.alloc (.cells #[a0,a1] T)).cell? ⟨w.heap.size,1,none⟩=some a1∧(w.alloc (.cells #[a0,a1] T)).frozen? ⟨w.heap.size,1,none⟩=false):=by
 have h0:=Blk.new w T #[a0,a1]
 exact ⟨⟨by rw [h0.cell];rfl,h0.frozen 0⟩,⟨by rw [h0.cell];rfl,h0.frozen 1⟩⟩
theorem new2 (w:World) (T:TypeId) (v0 v1:Value):∃ W g,w.heap.size=g∧w.alloc (.cells #[v0,v1] T)=W∧Ext w W∧(W.cell? ⟨g,0,none⟩=some v0∧W.frozen? ⟨g,0,none⟩=false)∧(W.cell? ⟨g,1,none⟩=some v1∧W.frozen? ⟨g,1,none⟩=false) :=
 ⟨_,_,rfl,rfl,(Ext.refl _).alloc _,(Qi5 w T v0 v1).1,(Qi5 w T v0 v1).2⟩
theorem Q14 (w:World) (A B:Array Value) (S T:TypeId):∃ W g,w.heap.size=g∧(w.alloc (.cells A S)).alloc (.cells B T)=W∧Ext w W∧Blk W g S A∧Blk W (g+1) T B:=by
 have h0:=(Blk.new w S A).alloc (.cells B T)
 have h1:=Blk.new (w.alloc (.cells A S)) T B
 simp only [World.size_alloc] at h1
 exact ⟨_,_,rfl,rfl,((Ext.refl w).alloc _).alloc _,h0,h1⟩
theorem Qkz (w:World) (A B C:Array Value) (S T U:TypeId):∃ W g,w.heap.size=g∧((w.alloc (.cells A S)).alloc (.cells B T)).alloc (.cells C U)=W∧Ext w W∧Blk W g S A∧Blk W (g+1) T B∧Blk W (g+1+1) U C:=by
 have h0:=((Blk.new w S A).alloc (.cells B T)).alloc (.cells C U)
 have h1:=(Blk.new (w.alloc (.cells A S)) T B).alloc (.cells C U)
 have h2:=Blk.new ((w.alloc (.cells A S)).alloc (.cells B T)) U C
 simp only [World.size_alloc] at h1 h2
 exact ⟨_,_,rfl,rfl,(((Ext.refl w).alloc _).alloc _).alloc _,h0,h1,h2⟩
theorem ins5 {w:World} {g:Nat} {t:TypeId} {a b c d e:Int} (h:Blk w g t #[.int .i64 a,.int .i64 b,.int .i64 c,.int .i64 d,.int .i64 e]):w.cell? ⟨g,0,none⟩=some (.int .i64 a)∧w.cell? ⟨g,1,none⟩=some (.int .i64 b)∧w.cell? ⟨g,2,none⟩=some (.int .i64 c)∧w.cell? ⟨g,3,none⟩=some (.int .i64 d)∧w.cell? ⟨g,4,none⟩=some (.int .i64 e) :=
 ⟨by rw [h.cell];rfl,by rw [h.cell];rfl,by rw [h.cell];rfl,by rw [h.cell];rfl,by rw [h.cell];rfl⟩
end Go.Proofs.YtiafchefbehfbaaGreatDoor

namespace Go.Proofs.YtiafchefbehfbaaGreatDoor
open Go.RowKit
theorem Qtj (w:World) (p:Addr) (v v':Value) (b:Nat):((w.setCell p v).setCell p v').heap[b]? = (w.setCell p v').heap[b]? := by
 simp only [World.setCell,Array.getElem?_modify]
 by_cases h:p.block=b
 ·simp only [h,if_true]
  cases w.heap[b]? with
  | none=>rfl
  | some o=>cases o <;> simp <;> split <;> simp
 ·simp only [h,if_false]
theorem Q3v (w:World) (p:Addr) (v:Value):(w.setCell p v).heap.size=w.heap.size:=by simp [World.setCell]
theorem Qgm {w w':World} (p:Addr) (v:Value) (b:Nat) (h:w'.heap[b]? = w.heap[b]?):(w'.setCell p v).heap[b]? = (w.setCell p v).heap[b]? := by
 simp only [World.setCell,Array.getElem?_modify,h]
theorem Q30 {w w1 w2:World} {p:Addr} {v v':Value} (h:Ext (w.setCell p v) w1) (k:Ext (w1.setCell p v') w2):Ext (w.setCell p v') w2:=by
 have hs:w.heap.size≤w1.heap.size:=by have:=h.size;rwa [Q3v] at this
 refine ⟨k.os.trans (h.os),k.tape.trans h.tape,k.output.trans h.output,?_,fun b hb=>?_⟩
 ·have:=k.size
  rw [Q3v] at this ⊢
  omega
 ·rw [Q3v] at hb
  rw [k.block b (by rw [Q3v];omega),Qgm p v' b (h.block b (by rw [Q3v];exact hb)),Qtj]
theorem Q84 {w w':World} {p:Addr} {v:Value} (hc:w.cell? p=some v) (h:Ext w w'):Ext (w.setCell p v) w':=by
 refine ⟨h.os,h.tape,h.output,by rw [Q3v];exact h.size,fun b hb=>?_⟩
 rw [Q3v] at hb
 rw [h.block b hb]
 simp only [World.setCell,Array.getElem?_modify]
 by_cases e:p.block=b
 ·subst e
  simp only [if_true]
  unfold World.cell? at hc
  cases hx:w.heap[p.block]? with
  | none=>rfl
  | some o =>
   rw [hx] at hc
   cases o with
   | cells c t fz =>
    simp only at hc
    by_cases hsp:p.spot.isSome=true
    ·simp [hsp] at hc
    ·simp only [hsp,Bool.false_eq_true,if_false] at hc
     have:c.setIfInBounds p.off v=c:=by
      apply Array.ext_getElem?
      intro j
      by_cases hj:p.off=j
      ·subst hj
       rw [Array.getElem?_setIfInBounds_self_of_lt (Array.getElem?_eq_some_iff.1 hc).1,hc]
      ·rw [Array.getElem?_setIfInBounds_ne hj]
     simp [hsp,this]
   | _=>rfl
 ·simp [e]
theorem Q43 {w w1 w2:World} {p:Addr} {v:Value} (h:Ext w w1) (k:Ext (w1.setCell p v) w2):Ext (w.setCell p v) w2:=by
 refine ⟨k.os.trans h.os,k.tape.trans h.tape,k.output.trans h.output,?_,fun b hb=>?_⟩
 ·have:=k.size
  have:=h.size
  rw [Q3v] at *
  omega
 ·rw [Q3v] at hb
  rw [k.block b (by rw [Q3v];exact h.lt hb),Qgm p v b (h.block b hb)]
theorem Q9u {w w':World} {p:Addr} {v u:Value} (h:Ext (w.setCell p v) w') (hc:w.cell? p=some u∧w.frozen? p=false):w'.cell? p=some v∧w'.frozen? p=false:=by
 have:=Q87 (u:=v) hc
 exact ⟨h.kept this.1,(h.frozen (by rw [Q3v];exact Q0k hc.1)).trans this.2⟩
theorem Q3q {w w':World} {p q:Addr} {v u:Value} (h:Ext (w.setCell p v) w') (hne:p≠q) (hc:w.cell? q=some u):w'.cell? q=some u :=
 h.kept ((World.cell?_setCell_other w p q v hne).trans hc)
theorem Qlu {w0 w w':World} {p:Addr} {v:Value} (h:Ext (w.setCell p v) w') (h0:Ext w0 w) (hp:w0.heap.size≤p.block):Ext w0 w':=(h0.setCell hp v).trans h
end Go.Proofs.YtiafchefbehfbaaGreatDoor
