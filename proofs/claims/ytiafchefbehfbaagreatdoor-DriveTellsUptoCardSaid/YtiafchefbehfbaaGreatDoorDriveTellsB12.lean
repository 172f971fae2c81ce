/- Laid together from: MapG. -/
import Derived.MapKept
import Derived.Test.YtiafchefbehfbaaGreatDoorDriveTellsB11

namespace Go.Proofs.YtiafchefbehfbaaGreatDoor
open Go.RowKit Go.MapKept
set_option linter.unusedVariables false
set_option linter.unusedSimpArgs false
def keyI (n:Nat):Value:=.int .i64 n
theorem Qby {a b:Nat} (h:keyI a=keyI b):a=b:=by
 simp only [keyI,Value.int.injEq,true_and] at h
 omega
def MapG (w:World) (b:Nat) (G:List (Nat × Value)):Prop :=
 ∃ es clock,w.heap[b]? = some (.map es clock)∧Stamped es clock∧es.toList.map (fun x=>(x.key,x.val))=G.map fun p=>(keyI p.1,p.2)
def Q2s (G:List (Nat × Value)) (k:Nat) (z:Value):Value:=((G.find? fun p=>p.1 == k).map (·.2)).getD z
def putG (G:List (Nat × Value)) (k:Nat) (v:Value):List (Nat × Value):=if (G.find? fun p=>p.1 == k).isSome then G.map (fun p=>if p.1 == k then (k,v) else p) else G ++ [(k,v)]
section
variable {P : Program} {w w' : World} {b : Nat} {G : List (Nat × Value)}
theorem MapG.kept (h:MapG w b G) {row:Option Nat} (hg:w.grownBy w' row) (hne:row≠some b):MapG w' b G:=by
 obtain ⟨es,clock,hb,h1,h2⟩:=h
 have hlt:b < w.heap.size:=(Array.getElem?_eq_some_iff.1 hb).1
 exact ⟨es,clock,(hg.block b hlt (Ne.symm hne)).trans hb,h1,h2⟩
theorem MapG.ext (h:MapG w b G) (hx:Ext w w'):MapG w' b G:=by
 obtain ⟨es,clock,hb,h1,h2⟩:=h
 have hlt:b < w.heap.size:=(Array.getElem?_eq_some_iff.1 hb).1
 exact ⟨es,clock,(Below.block hx b hlt).trans hb,h1,h2⟩
theorem MapG.lt (h:MapG w b G):b < w.heap.size:=by
 obtain ⟨es,clock,hb,h1,h2⟩:=h
 exact (Array.getElem?_eq_some_iff.1 hb).1
theorem MapG.keys (h:MapG w b G):(G.map (·.1)).Nodup:=by
 obtain ⟨es,clock,hb,h1,h2⟩:=h
 have h3:es.toList.map (·.key)=(G.map (·.1)).map keyI:=by
  have:=congrArg (List.map Prod.fst) h2
  simpa [List.map_map,Function.comp_def] using this
 have h4:=h1.2.2
 rw [h3] at h4
 exact (List.pairwise_map.1 h4).imp fun hne e=>hne (congrArg keyI e)
theorem Qkk {es:Array MapEntry} (h:es.toList.map (fun x=>(x.key,x.val))=G.map fun p=>(keyI p.1,p.2)):∀ x ∈ es.toList,IsKey (.int .i64) x.key:=fun x hx=>by
 have:(x.key,x.val) ∈ es.toList.map (fun x=>(x.key,x.val)):=List.mem_map.2 ⟨x,hx,rfl⟩
 rw [h] at this
 obtain ⟨p,-,hp⟩:=List.mem_map.1 this
 simp only [Prod.mk.injEq] at hp
 rw [← hp.1]
 rfl
theorem Qf2:∀ (l:List MapEntry) (G:List (Nat × Value)) (k:Nat),l.map (fun x=>(x.key,x.val))=G.map (fun p=>(keyI p.1,p.2)) →
  ((∀ x ∈ l,x.key≠keyI k)→G.find? (fun p=>p.1 == k)=none)∧(∀ (j:Nat) (e:MapEntry),l[j]? = some e→e.key=keyI k→(G.map (·.1)).Nodup→G.find? (fun p=>p.1 == k)=some (k,e.val))
 | [],[],k,_=>⟨fun _=>rfl,fun j e h=>by simp at h⟩
 | [],p :: G,k,h=>by simp at h
 | x :: l,[],k,h=>by simp at h
 | x :: l,p :: G,k,h=>by
  simp only [List.map_cons,List.cons.injEq,Prod.mk.injEq] at h
  obtain ⟨⟨h1,h2⟩,h3⟩:=h
  obtain ⟨i1,i2⟩:=Qf2 l G k h3
  refine ⟨fun hn=>?_,fun j e he hk hd=>?_⟩
  ·have hx:=hn x (by simp)
   rw [h1] at hx
   have hpk:(p.1 == k)=false:=by
    rw [Bool.eq_false_iff]
    intro e
    exact hx (by rw [beq_iff_eq.1 e])
   rw [List.find?_cons,hpk]
   exact i1 fun y hy=>hn y (List.mem_cons_of_mem _ hy)
  ·simp only [List.map_cons,List.nodup_cons] at hd
   cases j with
   | zero =>
    simp only [List.getElem?_cons_zero,Option.some.injEq] at he
    subst he
    have hpk:p.1=k:=Qby (h1.symm.trans hk)
    rw [List.find?_cons,show (p.1 == k)=true by simpa using hpk]
    simp only [Option.some.injEq]
    rw [← hpk,h2]
   | succ j =>
    simp only [List.getElem?_cons_succ] at he
    have hi:=i2 j e he hk hd.2
    have hpk:(p.1 == k)=false:=by
     rw [Bool.eq_false_iff]
     intro e'
     have:=beq_iff_eq.1 e'
     apply hd.1
     rw [this]
     exact List.mem_map.2 ⟨_,List.mem_of_find?_eq_some hi,rfl⟩
    rw [List.find?_cons,hpk]
    exact hi
theorem Qio (h:MapG w b G) {t kt et:TypeId} {z:Value} (hm:P.underlying t=some (.map kt et)) (hd:P.underlying kt=some (.int .i64)) (hz:(zeroValue et).run P w=.ok z w) (k:Nat) :
  (Instr.lookup t (.map (some b)) (.int .i64 (k:Int)) false).run P w=.ok (Q2s G k z) w:=by
 have hkd:=h.keys
 obtain ⟨es,clock,hb,h1,h2⟩:=h
 have hk:IsKey (.int .i64) (keyI k):=rfl
 have hks:=Qkk h2
 obtain ⟨f1,f2⟩:=Qf2 es.toList G k h2
 rcases findNow_spec hk es.toList 0 hks with ⟨g1,g2⟩ | ⟨j,e,g1,g2,g3⟩
 ·have hl:Q2s G k z=z:=by unfold Q2s;rw [f1 g2];rfl
  rw [hl]
  have hk':(Value.int .i64 (k:Int))=keyI k:=rfl
  rw [hk']
  simp [Instr.lookup,run_underlying hm,MapKept.run_getObj_map hb,MapKept.run_checkKey hd hk,MapKept.run_findKey hd g1,Result.andThen,hz]
 ·have hl:Q2s G k z=e.val:=by unfold Q2s;rw [f2 j e g2 g3 hkd];rfl
  rw [hl]
  have hk':(Value.int .i64 (k:Int))=keyI k:=rfl
  rw [hk']
  simp [Instr.lookup,run_underlying hm,MapKept.run_getObj_map hb,MapKept.run_checkKey hd hk,MapKept.run_findKey hd g1,Result.andThen]
theorem Qqw (h:MapG w b G) {t kt et:TypeId} (hm:P.underlying t=some (.map kt et)) (hd:P.underlying kt=some (.int .i64)) (k:Nat) (v:Value) :
  ∃ w',(Instr.mapUpdate t (.map (some b)) (.int .i64 (k:Int)) v).run P w=.ok () w'∧MapG w' b (putG G k v)∧w.grownBy w' (some b):=by
 have hkd:=h.keys
 obtain ⟨es,clock,hb,h1,h2⟩:=h
 have hk:IsKey (.int .i64) (keyI k):=rfl
 have hks:=Qkk h2
 obtain ⟨f1,f2⟩:=Qf2 es.toList G k h2
 have hk':(Value.int .i64 (k:Int))=keyI k:=rfl
 have hgrow:∀ o,w.grownBy { w with heap:=w.heap.setIfInBounds b o } (some b):=fun o=>⟨rfl,rfl,rfl,by simp,fun j hj hne=>(heap_set hb).2 j (fun e=>hne (by rw [e]))⟩
 rw [hk']
 rcases findNow_spec hk es.toList 0 hks with ⟨g1,g2⟩ | ⟨j,e,g1,g2,g3⟩
 ·refine ⟨{ w with heap:=w.heap.setIfInBounds b (.map (es.push { key:=keyI k,val:=v,born:=clock }) (clock+1)) },?_,⟨_,_,(heap_set hb).1,stamped_push h1 g2,?_⟩,hgrow _⟩
  ·simp [Instr.mapUpdate,run_underlying hm,MapKept.run_getObj_map hb,MapKept.run_checkKey hd hk,MapKept.run_findKey hd g1,MapKept.run_setObj_map _ hb,Result.andThen]
  ·unfold putG
   rw [f1 g2]
   simp [h2]
 ·have hj:es[j]? = some e:=by simpa using g2
  have hkey:∀ e',es[j]? = some e'→({ e' with key:=keyI k,val:=v }:MapEntry).key=e'.key:=fun e' he'=>by rw [hj] at he';cases he';exact g3.symm
  refine ⟨{ w with heap:=w.heap.setIfInBounds b (.map (es.modify j fun e=>{ e with key:=keyI k,val:=v }) clock) },?_,⟨_,_,(heap_set hb).1,stamped_modify h1 _ _ (fun _ _=>rfl) (fun e' _ he'=>hkey e' he'),?_⟩,hgrow _⟩
  ·simp [Instr.mapUpdate,run_underlying hm,MapKept.run_getObj_map hb,MapKept.run_checkKey hd hk,MapKept.run_findKey hd g1,hj,g3,MapKept.run_keyThatStays hk,MapKept.run_setObj_map _ hb,Result.andThen]
  ·unfold putG
   rw [f2 j e g2 g3 hkd]
   simp only [Option.isSome_some,if_true]
   apply List.ext_getElem?
   intro i
   have hi:(es.toList.map (fun x=>(x.key,x.val)))[i]? = (G.map fun p=>(keyI p.1,p.2))[i]? := by rw [h2]
   simp only [List.getElem?_map,Array.getElem?_toList,Array.getElem?_modify] at hi ⊢
   by_cases hij:j=i
   ·subst hij
    rw [hj] at hi ⊢
    simp only [Option.map_some] at hi ⊢
    cases hGi:G[j]? with
    | none=>rw [hGi] at hi;simp at hi
    | some p =>
     rw [hGi] at hi
     simp only [Option.map_some,Option.some.injEq,Prod.mk.injEq] at hi
     have hpk:p.1=k:=Qby (hi.1.symm.trans g3)
     simp [hpk]
   ·rw [if_neg hij]
    rw [hi]
    cases hGi:G[i]? with
    | none=>rfl
    | some p =>
     have hpk:(p.1 == k)=false:=by
      rw [Bool.eq_false_iff]
      intro e'
      have hpe:=beq_iff_eq.1 e'
      have hjj:(G.map (·.1))[j]? = some k:=by
       have:(G.map fun p=>(keyI p.1,p.2))[j]? = some (keyI k,e.val):=by
        rw [← h2]
        simp [hj,g3]
       simp only [List.getElem?_map] at this ⊢
       cases hGj:G[j]? with
       | none=>rw [hGj] at this;simp at this
       | some q =>
        rw [hGj] at this
        simp only [Option.map_some,Option.some.injEq,Prod.mk.injEq] at this ⊢
        exact Qby this.1
      have hii:(G.map (·.1))[i]? = some k:=by simp [hGi,hpe]
      obtain ⟨a1,a2⟩:=List.getElem?_eq_some_iff.1 hjj
      obtain ⟨b1,b2⟩:=List.getElem?_eq_some_iff.1 hii
      have hp:=List.pairwise_iff_getElem.1 hkd
      rcases Nat.lt_or_gt_of_ne hij with hl | hl
      ·exact hp j i a1 b1 hl (a2.trans b2.symm)
      ·exact hp i j b1 a1 hl (b2.trans a2.symm)
     have hpk':¬ p.1=k:=by simpa using hpk
     simp [hpk']
end
end Go.Proofs.YtiafchefbehfbaaGreatDoor
