/- Laid together from: DrM. -/
import Derived.Test.YtiafchefbehfbaaGreatDoorDriveTellsB28
import Derived.Test.YtiafchefbehfbaaGreatDoorDriveTellsB19
import Derived.Test.YtiafchefbehfbaaGreatDoorDriveTellsB10

namespace Go.Proofs.YtiafchefbehfbaaGreatDoor
open Go.ChangeShapes Go.WideShapes Go.ChangeAt Go.RowKit
set_option linter.unusedVariables false
set_option linter.unusedSimpArgs false
theorem Qhz {w:World} {B:Nat} {e:TypeId} {v:Value} {n:Nat} {V:List Value} (h:w.ownsRow B e 1 v n V) (hn:V.length=n):∃ oa cap b,v=.slice oa n cap∧n≤cap∧cap≤maxLen∧Rows w oa b 0 n 1 (fun i _=>V.getD i default):=by
 subst hn
 have hs:V=V.flatMap fun x=>[x]:=by
  induction V with
  | nil=>rfl
  | cons x l ih=>simp
 have h2:w.ownsRow B e 1 v V.length (V.flatMap fun x=>[x]):=by rw [← hs];exact h
 obtain ⟨oa,cap,b,e1,e2,e3,e4,-⟩:=Q7j (c:=1) (f:=fun x:Value=>[x]) (g:=fun x _=>x) (by omega) (fun _=>rfl) (fun x j hj=>by
  obtain rfl:j=0:=by omega
  rfl) h2
 exact ⟨oa,cap,b,e1,e2,e3,e4⟩
structure PlSt (w0 wr:World) (B g T:Nat) (vR vC vM:Value) (p:Q00) (L:List (Value × List Int)):Prop where
 box:Blk wr g T #[vR,vC,vM]
 rg:wr.ownsRow B 67 2 vR p.regs.length (p.regs.flatMap Q40)
 cd:wr.ownsRow B 41 5 vC p.code.length (p.code.flatMap Q21)
 mo:wr.ownsRow B 35 1 vM L.length (L.map (·.1))
 fam:Fam wr B L
 ext:Ext w0 wr
 hg:B≤g
 hB:w0.heap.size≤B
 nr:67 ≠ T
 ni:41 ≠ T
 nm:35 ≠ T
 nf:2 ≠ T
 fr:∀ r ∈ p.regs,R64 r.log
 fc:∀ i ∈ p.code,i.fits
 f64:∀ x ∈ L,∀ z ∈ x.2,R64 z
section
variable {w0 wr w' : World} {B g T : Nat} {vR vC vM : Value} {p : Q00} {L : List (Value × List Int)}
theorem PlSt.size (h:PlSt w0 wr B g T vR vC vM p L):B≤wr.heap.size:=by have:=h.box.lt;have:=h.hg;omega
theorem PlSt.extend (h:PlSt w0 wr B g T vR vC vM p L) (hx:Ext wr w'):PlSt w0 w' B g T vR vC vM p L :=
 ⟨h.box.ext hx,Q19 h.rg hx,Q19 h.cd hx,Q19 h.mo hx,h.fam.ext hx,h.ext.trans hx,h.hg,h.hB,h.nr,h.ni,h.nm,h.nf,h.fr,h.fc,h.f64⟩
theorem PlSt.cells (h:PlSt w0 wr B g T vR vC vM p L):(wr.cell? ⟨g,0,none⟩=some vR∧wr.frozen? ⟨g,0,none⟩=false)∧(wr.cell? ⟨g,1,none⟩=some vC∧wr.frozen? ⟨g,1,none⟩=false)∧(wr.cell? ⟨g,2,none⟩=some vM∧wr.frozen? ⟨g,2,none⟩=false) :=
 ⟨⟨by rw [h.box.cell];rfl,h.box.frozen _⟩,⟨by rw [h.box.cell];rfl,h.box.frozen _⟩,⟨by rw [h.box.cell];rfl,h.box.frozen _⟩⟩
theorem PlSt.regs_ (h:PlSt w0 wr B g T vR vC vM p L) {vR':Value} {rs:List LReg} (hg:wr.grownBy w' vR.ownBlock) (ho:w'.ownsRow B 67 2 vR' rs.length (rs.flatMap Q40)) (hf:∀ r ∈ rs,R64 r.log):PlSt w0 (w'.setCell ⟨g,0,none⟩ vR') B g T vR' vC vM ⟨rs,p.code⟩ L:=by
 have hb:=h.box.grown hg (Q09 h.rg h.box h.nr)
 have hc:=Q27 h.cd hg (fun k hk he=>Q2c h.rg h.cd (by decide) k hk he)
 have hm:=Q27 h.mo hg (fun k hk he=>Q2c h.rg h.mo (by decide) k hk he)
 have hF:=h.fam.other h.rg (by decide) hg
 exact ⟨hb.set_ 0 vR',Q0r ho (Q09 ho hb h.nr) _,Q0r hc (Q09 hc hb h.ni) _,Q0r hm (Q09 hm hb h.nm) _,hF.far hb h.nf 0 vR',
  (Q6c h.ext hg h.ext.size (fun k hk=>Nat.le_trans h.hB (Q17 h.rg k hk))).setCell (p:=⟨g,0,none⟩) (Nat.le_trans h.hB h.hg) _,h.hg,h.hB,h.nr,h.ni,h.nm,h.nf,hf,h.fc,h.f64⟩
theorem PlSt.code_ (h:PlSt w0 wr B g T vR vC vM p L) {vC':Value} {cs:List LIns} (hg:wr.grownBy w' vC.ownBlock) (ho:w'.ownsRow B 41 5 vC' cs.length (cs.flatMap Q21)) (hf:∀ i ∈ cs,i.fits):PlSt w0 (w'.setCell ⟨g,1,none⟩ vC') B g T vR vC' vM ⟨p.regs,cs⟩ L:=by
 have hb:=h.box.grown hg (Q09 h.cd h.box h.ni)
 have hr:=Q27 h.rg hg (fun k hk he=>Q2c h.cd h.rg (by decide) k hk he)
 have hm:=Q27 h.mo hg (fun k hk he=>Q2c h.cd h.mo (by decide) k hk he)
 have hF:=h.fam.other h.cd (by decide) hg
 exact ⟨hb.set_ 1 vC',Q0r hr (Q09 hr hb h.nr) _,Q0r ho (Q09 ho hb h.ni) _,Q0r hm (Q09 hm hb h.nm) _,hF.far hb h.nf 1 vC',
  (Q6c h.ext hg h.ext.size (fun k hk=>Nat.le_trans h.hB (Q17 h.cd k hk))).setCell (p:=⟨g,1,none⟩) (Nat.le_trans h.hB h.hg) _,h.hg,h.hB,h.nr,h.ni,h.nm,h.nf,h.fr,hf,h.f64⟩
theorem PlSt.rows_ (h:PlSt w0 wr B g T vR vC vM p L) {w1:World} {v vM':Value} {l:List Int} (hx:Ext wr w1) (hv:w1.ownsRow B 2 1 v l.length (l.map (Value.int .i64))) (hat:∀ k,v.ownBlock=some k→wr.heap.size≤k)
  (hg:w1.grownBy w' vM.ownBlock) (ho:w'.ownsRow B 35 1 vM' (L ++ [(v,l)]).length ((L ++ [(v,l)]).map (·.1))) (hf:∀ z ∈ l,R64 z):PlSt w0 (w'.setCell ⟨g,2,none⟩ vM') B g T vR vC vM' p (L ++ [(v,l)]):=by
 have h1:=h.extend hx
 have hb:=h1.box.grown hg (Q09 h1.mo h1.box h.nm)
 have hr:=Q27 h1.rg hg (fun k hk he=>Q2c h1.mo h1.rg (by decide) k hk he)
 have hc:=Q27 h1.cd hg (fun k hk he=>Q2c h1.mo h1.cd (by decide) k hk he)
 have hF1:Fam w1 B (L ++ [(v,l)]):=by
  refine ⟨fun x hx'=>?_,?_⟩
  ·rcases List.mem_append.1 hx' with k | k
   ·exact h1.fam.own x k
   ·rw [List.mem_singleton.1 k];exact hv
  ·rw [List.pairwise_append]
   refine ⟨h1.fam.apart,by simp,fun a ha b hb' k hk hk'=>?_⟩
   rw [List.mem_singleton.1 hb'] at hk'
   have:=hat k hk'
   have:=(h.fam.size ha k hk).2
   omega
 have hF:=hF1.other h1.mo (by decide) hg
 exact ⟨hb.set_ 2 vM',Q0r hr (Q09 hr hb h.nr) _,Q0r hc (Q09 hc hb h.ni) _,Q0r ho (Q09 ho hb h.nm) _,hF.far hb h.nf 2 vM',
  (Q6c h1.ext hg h1.ext.size (fun k hk=>Nat.le_trans h.hB (Q17 h1.mo k hk))).setCell (p:=⟨g,2,none⟩) (Nat.le_trans h.hB h.hg) _,h.hg,h.hB,h.nr,h.ni,h.nm,h.nf,h.fr,h.fc,fun x hx' z hz=>by
   rcases List.mem_append.1 hx' with k | k
   ·exact h.f64 x k z hz
   ·rw [List.mem_singleton.1 k] at hz;exact hf z hz⟩
theorem PlSt.row_ (h:PlSt w0 wr B g T vR vC vM p L) {i:Nat} {v:Value} {l l':List Int} (hi:L[i]? = some (v,l)) (hg:wr.grownBy w' v.ownBlock) (ho:w'.ownsRow B 2 1 v l'.length (l'.map (Value.int .i64))) (hf:∀ z ∈ l',R64 z) :
  PlSt w0 w' B g T vR vC vM p (L.set i (v,l')):=by
 have hrow:=h.fam.at_ hi
 have hb:=h.box.grown hg (Q09 hrow h.box h.nf)
 have hr:=Q27 h.rg hg (fun k hk he=>Q2c hrow h.rg (by decide) k hk he)
 have hc:=Q27 h.cd hg (fun k hk he=>Q2c hrow h.cd (by decide) k hk he)
 have hm:=Q27 h.mo hg (fun k hk he=>Q2c hrow h.mo (by decide) k hk he)
 have hF:=h.fam.set_ hi hg ho (fun k hk=>.inl hk)
 have hi1:=(List.getElem?_eq_some_iff.1 hi)
 have hmap:(L.set i (v,l')).map (·.1)=L.map (·.1):=by
  rw [List.map_set]
  apply List.ext_getElem (by simp)
  intro j h1 h2
  rw [List.getElem_set]
  split
  ·rename_i e
   subst e
   obtain ⟨hlt,e2⟩:=hi1
   simp [e2]
  ·rfl
 refine ⟨hb,hr,hc,by rw [hmap,List.length_set];exact hm,hF,Q6c h.ext hg h.ext.size (fun k hk=>Nat.le_trans h.hB (Q17 hrow k hk)),h.hg,h.hB,h.nr,h.ni,h.nm,h.nf,h.fr,h.fc,fun x hx z hz=>?_⟩
 rcases List.mem_or_eq_of_mem_set hx with k | rfl
 ·exact h.f64 x k z hz
 ·exact hf z hz
theorem PlSt.prog_ (h:PlSt w0 wr B g T vR vC vM p L) {w1:World} {vR' vC':Value} {q:Q00} (hx:Ext wr w1) (hr:w1.ownsRow B 67 2 vR' q.regs.length (q.regs.flatMap Q40)) (hc:w1.ownsRow B 41 5 vC' q.code.length (q.code.flatMap Q21))
  (hfr:∀ r ∈ q.regs,R64 r.log) (hfc:∀ i ∈ q.code,i.fits):PlSt w0 ((w1.setCell ⟨g,0,none⟩ vR').setCell ⟨g,1,none⟩ vC') B g T vR' vC' vM q L:=by
 have h1:=h.extend hx
 have hb:=h1.box
 have hb1:=hb.set_ 0 vR'
 have hb2:=hb1.set_ 1 vC'
 exact ⟨hb2,Q0r (Q0r hr (Q09 hr hb h.nr) _) (Q09 hr hb h.nr) _,Q0r (Q0r hc (Q09 hc hb h.ni) _) (Q09 hc hb h.ni) _,Q0r (Q0r h1.mo (Q09 h1.mo hb h.nm) _) (Q09 h1.mo hb h.nm) _,(h1.fam.far hb h.nf 0 vR').far hb1 h.nf 1 vC',
  (h1.ext.setCell (p:=⟨g,0,none⟩) (Nat.le_trans h.hB h.hg) _).setCell (p:=⟨g,1,none⟩) (Nat.le_trans h.hB h.hg) _,h.hg,h.hB,h.nr,h.ni,h.nm,h.nf,hfr,hfc,h.f64⟩
theorem PlSt.prog (h:PlSt w0 wr B g T vR vC vM p L):Q29 wr (.agg #[vR,vC]) p:=⟨_,_,rfl,Qdf h.rg h.fr,Qcd h.cd h.fc⟩
theorem PlSt.mem (h:PlSt w0 wr B g T vR vC vM p L):Q4q wr vM (L.map (·.2)):=by
 obtain ⟨oa,cap,b,e1,e2,e3,e4⟩:=Qhz h.mo (by simp)
 have hl2:(L.map (·.2)).length=L.length:=by simp
 refine ⟨oa,cap,b,0,by rw [hl2];exact e1,by rw [hl2];exact e2,e3,fun i=>(L.map (·.1)).getD i default,by rw [hl2];exact e4,fun i hi=>?_⟩
 rw [hl2] at hi
 have hL:L[i]? = some (L[i].1,L[i].2):=by simp [hi]
 have h6:=h.fam.at_ hL
 have g1:(L.map (·.1)).getD i default=L[i].1:=by simp [hi]
 have g2:(L.map (·.2)).getD i default=L[i].2:=by simp [hi]
 show Q2z wr ((L.map (·.1)).getD i default) _
 rw [g1,g2]
 exact Q32 h6 (h.f64 _ (List.getElem_mem hi))
theorem PlSt.at_ (h:PlSt w0 wr B g T vR vC vM p L) {i:Nat} {v:Value} {l:List Int} (hi:L[i]? = some (v,l)):∃ ko co,vM=.slice (some ⟨ko,0,none⟩) L.length co∧ko < wr.heap.size∧wr.cell? ⟨ko,i,none⟩=some v∧wr.ownsRow B 2 1 v l.length (l.map (Value.int .i64)):=by
 have hi1:=(List.getElem?_eq_some_iff.1 hi).1
 obtain ⟨k,cap,hv,-,hc⟩:=own_at' h.mo (by omega)
 have:=(hc i v hi1 (by rw [List.getElem?_map,hi];rfl)).1
 exact ⟨k,cap,hv,Q0k this,this,h.fam.at_ hi⟩
end
end Go.Proofs.YtiafchefbehfbaaGreatDoor
