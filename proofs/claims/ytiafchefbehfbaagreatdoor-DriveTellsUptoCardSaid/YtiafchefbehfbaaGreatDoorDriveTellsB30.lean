/- Laid together from: Spc1, Spc2. -/
import Derived.Test.YtiafchefbehfbaaGreatDoorDriveTellsB12
import Derived.Test.YtiafchefbehfbaaGreatDoorDriveTellsB28

namespace Go.Proofs.YtiafchefbehfbaaGreatDoor
open Go.ChangeShapes Go.WideShapes Go.ChangeAt Go.RowKit
set_option linter.unusedVariables false
set_option linter.unusedSimpArgs false
abbrev Grp:=List (Nat × Value × List Int)
def Q2b (G:Grp):List (Value × List Int):=G.map fun x=>(x.2.1,x.2.2)
def Q1a (G:Grp):List (Nat × Value):=G.map fun x=>(x.1,x.2.1)
def Q3j (G:Grp) (n:Nat):List Int:=((G.find? fun x=>x.1 == n).map (·.2.2)).getD []
structure Q81 (N:Nat) (G:Grp) (past:List (List Int)):Prop where
 len:past.length=N
 lt:∀ x ∈ G,x.1 < N
 get:∀ n,n < N→past.getD n []=Q3j G n
structure QV where
 (vS vW vX bW:Value)
 (G GB:Grp)
 (bm:Nat)
 (bb:Option Nat)
 (bR:List Int)
 (bA lf:Int)
def Q2f (S:Spc):Mach:=⟨S.pl.regs,S.pl.words,S.pl.at_,S.fin,S.value,S.steps,S.seen⟩
def Q2n (g:Nat) (V:QV) (S:Spc):List Value :=
 [.pointer (some ⟨g,0,none⟩),V.vX,.map (some V.bm),.bool S.ahead,.int .i64 V.lf] ++ (V.bR.map (Value.int .i64) ++ [V.bW,.int .i64 V.bA,.map V.bb])
def Q45 (V:QV) (S:Spc):List (Value × List Int):=((V.vW,S.pl.words) :: Q2b V.G) ++ (if S.ahead=true then (V.bW,S.back.words) :: Q2b V.GB else [])
structure Q5y (wB w:World) (N:Nat) (V:QV) (S:Spc):Prop where
 map:∃ bb,V.bb=some bb∧MapG w bb (Q1a V.GB)∧bb≠V.bm∧wB.heap.size≤bb
 past:Q81 N V.GB S.back.past
 regs:V.bR=S.back.regs
 at_:V.bA=S.back.at_
 left:V.lf=12 - S.since
structure QSt (wB w:World) (N g r:Nat) (vR vC vB:Value) (bases:List Int) (V:QV) (S:Spc):Prop where
 mach:MSt w wB.heap.size g vR vC (.slice none 0 0) vB V.vS V.vW bases (Q2f S)
 box:Blk w r 84 (Q2n g V S).toArray
 fam:Fam w wB.heap.size (Q45 V S)
 map:MapG w V.bm (Q1a V.G)
 past:Q81 N V.G S.pl.past
 back:S.ahead=true→Q5y wB w N V S
 ten:V.bR.length=10
 scr:Q2z wB V.vX S.script
 ext:Ext wB w
 hr:wB.heap.size≤r
 hm:wB.heap.size≤V.bm
section
variable {w : World} {b : Nat} {G : List (Nat × Value)} {g : Nat} {t : TypeId} {cs : Array Value}
theorem MapG.ne_blk (h:MapG w b G) (hb:Blk w g t cs):b≠g:=by
 rintro rfl
 obtain ⟨es,clock,h1,-⟩:=h
 unfold Blk at hb
 rw [h1] at hb
 cases hb
theorem MapG.ne_own (h:MapG w b G) {B:Nat} {e:TypeId} {s n:Nat} {v:Value} {xs:List Value} (ho:w.ownsRow B e s v n xs):v.ownBlock≠some b:=by
 intro hk
 obtain ⟨es,clock,h1,-⟩:=h
 rcases ho.2 with ⟨rfl,-⟩ | ⟨k,cap,cur,rfl,-,h2,-⟩
 ·cases hk
 ·have e:k=b:=by simpa [Value.ownBlock] using hk
  rw [← e,h2] at h1
  cases h1
theorem MapG.far (h:MapG w b G) (hb:Blk w g t cs) (i:Nat) (u:Value):MapG (w.setCell ⟨g,i,none⟩ u) b G:=h.kept (Q92 w ⟨g,i,none⟩ u) (fun e=>h.ne_blk hb (by simpa using (Option.some.inj e).symm))
theorem Q5y.ext {wB w':World} {N:Nat} {V:QV} {S:Spc} (h:Q5y wB w N V S) (hx:Ext w w'):Q5y wB w' N V S:=by
 obtain ⟨bb,h1,h2,h3,h4⟩:=h.map
 exact ⟨⟨bb,h1,h2.ext hx,h3,h4⟩,h.past,h.regs,h.at_,h.left⟩
theorem Q5y.far {wB:World} {N:Nat} {V:QV} {S:Spc} (h:Q5y wB w N V S) (hb:Blk w g t cs) (i:Nat) (u:Value):Q5y wB (w.setCell ⟨g,i,none⟩ u) N V S:=by
 obtain ⟨bb,h1,h2,h3,h4⟩:=h.map
 exact ⟨⟨bb,h1,h2.far hb i u,h3,h4⟩,h.past,h.regs,h.at_,h.left⟩
theorem Q5y.grown {wB w':World} {N:Nat} {V:QV} {S:Spc} (h:Q5y wB w N V S) {B:Nat} {e:TypeId} {s n:Nat} {v:Value} {xs:List Value} (ho:w.ownsRow B e s v n xs) (hg:w.grownBy w' v.ownBlock):Q5y wB w' N V S:=by
 obtain ⟨bb,h1,h2,h3,h4⟩:=h.map
 exact ⟨⟨bb,h1,h2.kept hg (h2.ne_own ho),h3,h4⟩,h.past,h.regs,h.at_,h.left⟩
end
section
variable {wB w w' : World} {N g r : Nat} {vR vC vB : Value} {bases : List Int} {V V' : QV} {S S' : Spc}
theorem QSt.extend (h:QSt wB w N g r vR vC vB bases V S) (hx:Ext w w'):QSt wB w' N g r vR vC vB bases V S :=
 ⟨h.mach.ext hx,h.box.ext hx,h.fam.ext hx,h.map.ext hx,h.past,fun e=>(h.back e).ext hx,h.ten,h.scr,h.ext.trans hx,h.hr,h.hm⟩
theorem QSt.rg (h:QSt wB w N g r vR vC vB bases V S):r≠g:=Blk.ne_ h.box h.mach.box (by decide)
theorem QSt.putM (h:QSt wB w N g r vR vC vB bases V S) (i:Nat) (u:Value) (hm:MSt (w.setCell ⟨g,i,none⟩ u) wB.heap.size g vR vC (.slice none 0 0) vB V.vS V.vW bases (Q2f S'))
  (h1:S'.pl.words=S.pl.words) (h2:S'.pl.past=S.pl.past) (h3:S'.ahead=S.ahead) (h4:S'.back=S.back) (h5:S'.since=S.since) (h6:S'.script=S.script):QSt wB (w.setCell ⟨g,i,none⟩ u) N g r vR vC vB bases V S':=by
 have hf:=h.fam.far h.mach.box (by decide) i u
 refine ⟨hm,?_,?_,h.map.far h.mach.box i u,by rw [h2];exact h.past,fun e=>?_,h.ten,by rw [h6];exact h.scr,h.ext.setCell h.mach.hg u,h.hr,h.hm⟩
 ·have:=h.box.far (p:=⟨g,i,none⟩) h.rg u
  unfold Q2n at this ⊢
  rw [h3]
  exact this
 ·unfold Q45 at hf ⊢
  rw [h1,h3,h4]
  exact hf
 ·rw [h3] at e
  have hb:=(h.back e).far h.mach.box i u
  exact ⟨hb.map,by rw [h4];exact hb.past,by rw [h4];exact hb.regs,by rw [h4];exact hb.at_,by rw [h5];exact hb.left⟩
theorem QSt.at__ (h:QSt wB w N g r vR vC vB bases V S) (k:Nat):QSt wB (w.setCell ⟨g,18,none⟩ (.int .i64 (k:Int))) N g r vR vC vB bases V (S.goTo k):=h.putM 18 _ (h.mach.at__ k) rfl rfl rfl rfl rfl rfl
theorem QSt.fin_ (h:QSt wB w N g r vR vC vB bases V S) (x:Int):QSt wB (w.setCell ⟨g,2,none⟩ (.int .i64 x)) N g r vR vC vB bases V { S with fin:=x }:=h.putM 2 _ (h.mach.fin_ x) rfl rfl rfl rfl rfl rfl
theorem QSt.value_ (h:QSt wB w N g r vR vC vB bases V S) (x:Int):QSt wB (w.setCell ⟨g,3,none⟩ (.int .i64 x)) N g r vR vC vB bases V { S with value:=x }:=h.putM 3 _ (h.mach.value_ x) rfl rfl rfl rfl rfl rfl
theorem QSt.steps_ (h:QSt wB w N g r vR vC vB bases V S) (k:Nat):QSt wB (w.setCell ⟨g,4,none⟩ (.int .i64 (k:Int))) N g r vR vC vB bases V { S with steps:=k }:=h.putM 4 _ (h.mach.steps_ k) rfl rfl rfl rfl rfl rfl
theorem QSt.reg_ (h:QSt wB w N g r vR vC vB bases V S) {a:Int} (ha:okIn 10 a=true) (x:Int):QSt wB (w.setCell ⟨g,7+a.toNat,none⟩ (.int .i64 x)) N g r vR vC vB bases V (S.put_ a x):=h.putM _ _ (h.mach.reg_ ha x) rfl rfl rfl rfl rfl rfl
end
def Q77 (t:TypeId):Prop:=t=84 ∨ t=76 ∨ t=2 ∨ t=147
def Q1h (w w':World):Prop := ∀ k t cs,Blk w k t cs→¬ Q77 t→Blk w' k t cs
section
variable {w w' w'' : World}
theorem Q1h.refl (w:World):Q1h w w:=fun _ _ _ h _=>h
theorem Q1h.ofExt (h:Ext w w'):Q1h w w':=fun _ _ _ hb _=>hb.ext h
theorem Q1h.trans (h:Q1h w w') (k:Q1h w' w''):Q1h w w'':=fun i t cs hb ht=>k i t cs (h i t cs hb ht) ht
theorem Q1h.ext (h:Q1h w w') (k:Ext w' w''):Q1h w w'':=h.trans (Q1h.ofExt k)
theorem Q1h.set_ {g:Nat} {t:TypeId} {cs:Array Value} (hb:Blk w g t cs) (ht:Q77 t) (i:Nat) (u:Value):Q1h w (w.setCell ⟨g,i,none⟩ u):=fun k t' cs' hk hn =>
 hk.far (p:=⟨g,i,none⟩) (Blk.ne_ hk hb (fun e=>hn (by rw [e];exact ht))) u
theorem Q1h.grown {B:Nat} {e:TypeId} {s n:Nat} {v:Value} {xs:List Value} (h:w.ownsRow B e s v n xs) (he:Q77 e) (hg:w.grownBy w' v.ownBlock):Q1h w w':=fun k t' cs' hk hn =>
 hk.grown hg (Q09 h hk (fun e'=>hn (by rw [← e'];exact he)))
theorem Q1h.map {b:Nat} {G:List (Nat × Value)} (h:MapG w b G) (hg:w.grownBy w' (some b)):Q1h w w':=fun k t' cs' hk hn =>
 hk.grown hg (fun e=>h.ne_blk hk (Option.some.inj e).symm)
end
section
variable {wB w w' : World} {N g r : Nat} {vR vC vB : Value} {bases : List Int} {V V' : QV} {S S' : Spc}
theorem Qe9:Q77 76 := .inr (.inl rfl)
theorem Qe8:Q77 84 := .inl rfl
theorem Q6a:Q77 2 := .inr (.inr (.inl rfl))
theorem Qsa:Q77 147 := .inr (.inr (.inr rfl))
theorem QSt.stayM (h:QSt wB w N g r vR vC vB bases V S) (i:Nat) (u:Value):Q1h w (w.setCell ⟨g,i,none⟩ u):=Q1h.set_ h.mach.box Qe9 i u
theorem QSt.stayR (h:QSt wB w N g r vR vC vB bases V S) (i:Nat) (u:Value):Q1h w (w.setCell ⟨r,i,none⟩ u):=Q1h.set_ h.box Qe8 i u
theorem QSt.turn (h:QSt wB w N g r vR vC vB bases V S) {vS':Value} (hm:MSt w' wB.heap.size g vR vC (.slice none 0 0) vB vS' V.vW bases (Q2f S')) (ht:Turn (fun j=>j=g∨V.vS.ownBlock=some j) w w')
  (h1:S'.pl.words=S.pl.words) (h2:S'.pl.past=S.pl.past) (h3:S'.ahead=S.ahead) (h4:S'.back=S.back) (h5:S'.since=S.since) (h6:S'.script=S.script) :
  QSt wB w' N g r vR vC vB bases { V with vS:=vS' } S'∧Q1h w w':=by
 have hrow:∀ {B:Nat} {e:TypeId} {s n:Nat} {v:Value} {xs:List Value},w.ownsRow B e s v n xs→e≠76 → e≠147 → w'.ownsRow B e s v n xs:=fun ho a1 a2 =>
  Q5d ho ht (fun k hk hS=>by
   rcases hS with rfl | hS
   ·exact Q09 ho h.mach.box a1 hk.symm
   ·exact Q2c ho h.mach.sn a2 k hk hS)
 have hblk:∀ {k:Nat} {t:TypeId} {cs:Array Value},Blk w k t cs→t≠76 → t≠147 → Blk w' k t cs:=fun hb a1 a2=>hb.turn ht (by
  rintro (rfl | hS)
  ·exact Blk.ne_ hb h.mach.box a1 rfl
  ·exact Q09 h.mach.sn hb (fun e=>a2 e.symm) hS.symm)
 have hmap:∀ {b:Nat} {G:List (Nat × Value)},MapG w b G→MapG w' b G:=fun {b G} hb=>by
  obtain ⟨es,clock,e1,e2,e3⟩:=hb
  have hlt:b < w.heap.size:=(Array.getElem?_eq_some_iff.1 e1).1
  refine ⟨es,clock,(ht.block b hlt ?_).trans e1,e2,e3⟩
  rintro (rfl | hS)
  ·exact MapG.ne_blk ⟨es,clock,e1,e2,e3⟩ h.mach.box rfl
  ·exact MapG.ne_own ⟨es,clock,e1,e2,e3⟩ h.mach.sn hS
 have hf:Fam w' wB.heap.size (Q45 V S):=⟨fun x hx=>hrow (h.fam.own x hx) (by decide) (by decide),h.fam.apart⟩
 have hbx:=hblk h.box (by decide) (by decide)
 refine ⟨⟨hm,?_,?_,hmap h.map,by rw [h2];exact h.past,fun e=>?_,h.ten,by rw [h6];exact h.scr,?_,h.hr,h.hm⟩,fun k t cs hk hn=>hblk hk (fun e=>hn (by rw [e];exact Qe9)) (fun e=>hn (by rw [e];exact Qsa))⟩
 ·unfold Q2n at hbx ⊢
  rw [h3]
  exact hbx
 ·unfold Q45 at hf ⊢
  rw [h1,h3,h4]
  exact hf
 ·rw [h3] at e
  obtain ⟨⟨bb,k1,k2,k3,k4⟩,p2,p3,p4,p5⟩:=h.back e
  exact ⟨⟨bb,k1,hmap k2,k3,k4⟩,by rw [h4];exact p2,by rw [h4];exact p3,by rw [h4];exact p4,by rw [h5];exact p5⟩
 ·exact Below.trans h.ext (ht.below h.ext.size (by
   rintro j (rfl | hS)
   ·exact h.mach.hg
   ·exact Q17 h.mach.sn j hS))
theorem QSt.putR (h:QSt wB w N g r vR vC vB bases V S) (i:Nat) (u:Value) (hc:(Q2n g V S).toArray.setIfInBounds i u=(Q2n g V' S').toArray)
  (hk:∀ w',MSt w' wB.heap.size g vR vC (.slice none 0 0) vB V.vS V.vW bases (Q2f S)→MSt w' wB.heap.size g vR vC (.slice none 0 0) vB V'.vS V'.vW bases (Q2f S'))
  (hr:∀ w',Fam w' wB.heap.size (Q45 V S)→Fam w' wB.heap.size (Q45 V' S')) (hG:V'.bm=V.bm∧V'.G=V.G) (hp:S'.pl.past=S.pl.past)
  (hb:S'.ahead=true→S.ahead=true∧∀ w',Q5y wB w' N V S→Q5y wB w' N V' S') (ht:V'.bR.length=10) (hs:Q2z wB V'.vX S'.script):QSt wB (w.setCell ⟨r,i,none⟩ u) N g r vR vC vB bases V' S':=by
 have hmne:=h.rg
 have hm:MSt (w.setCell ⟨r,i,none⟩ u) wB.heap.size g vR vC (.slice none 0 0) vB V.vS V.vW bases (Q2f S) :=
  ⟨h.mach.box.far (p:=⟨r,i,none⟩) (Ne.symm hmne) u,Q0r (p:=⟨r,i,none⟩) h.mach.sn (Q09 h.mach.sn h.box (by decide)) u,Q0r (p:=⟨r,i,none⟩) h.mach.ws (Q09 h.mach.ws h.box (by decide)) u,Q0r (p:=⟨r,i,none⟩) h.mach.bs (Q09 h.mach.bs h.box (by decide)) u,h.mach.len,h.mach.hg⟩
 refine ⟨hk _ hm,by rw [← hc];exact h.box.set_ i u,hr _ (h.fam.far h.box (by decide) i u),?_,?_,fun e=>?_,ht,hs,h.ext.setCell h.hr u,h.hr,by rw [hG.1];exact h.hm⟩
 ·rw [hG.1,hG.2]
  exact h.map.far h.box i u
 ·rw [hG.2,hp]
  exact h.past
 ·obtain ⟨e1,e2⟩:=hb e
  exact e2 _ ((h.back e1).far h.box i u)
theorem QSt.script_ (h:QSt wB w N g r vR vC vB bases V S) {u:Value} {l:List Int} (hu:Q2z wB u l):QSt wB (w.setCell ⟨r,1,none⟩ u) N g r vR vC vB bases { V with vX:=u } { S with script:=l } :=
 h.putR 1 u rfl (fun _ m=>m) (fun _ f=>f) ⟨rfl,rfl⟩ rfl (fun e=>⟨e,fun _ b=>⟨b.map,b.past,b.regs,b.at_,b.left⟩⟩) h.ten hu
theorem QSt.left_ (h:QSt wB w N g r vR vC vB bases V S) {x:Int} (hx:S.ahead=true→x=V.lf - 1):QSt wB (w.setCell ⟨r,4,none⟩ (.int .i64 x)) N g r vR vC vB bases { V with lf:=x } { S with since:=S.since+1 } :=
 h.putR 4 _ rfl (fun _ m=>m) (fun _ f=>f) ⟨rfl,rfl⟩ rfl (fun e=>⟨e,fun _ b=>⟨b.map,b.past,b.regs,b.at_,by
  have h1:=b.left
  have h2:=hx e
  show x=12 - (S.since+1)
  omega⟩⟩) h.ten h.scr
theorem QSt.word (h:QSt wB w N g r vR vC vB bases V S) {k cap x:Nat} (hv:V.vW=.slice (some ⟨k,0,none⟩) S.pl.words.length cap) (z:Int) :
  QSt wB (w.setCell ⟨k,x,none⟩ (.int .i64 z)) N g r vR vC vB bases V { S with pl:={ S.pl with words:=S.pl.words.set x z } }∧Q1h w (w.setCell ⟨k,x,none⟩ (.int .i64 z)):=by
 have hw:=h.mach.ws
 have hset:=Q92 w ⟨k,x,none⟩ (.int .i64 z)
 have e:V.vW.ownBlock=some k:=by rw [hv];rfl
 rw [← e] at hset
 have hm:=h.mach.word (x:=x) hv z
 have hi:(Q45 V S)[0]? = some (.slice (some ⟨k,0,none⟩) S.pl.words.length cap,S.pl.words):=by rw [← hv];rfl
 have hf:=h.fam.put (x:=x) hi z
 have hk:=Q17 hw k e
 refine ⟨⟨hm,h.box.grown hset (Q09 hw h.box (by decide)),?_,h.map.kept hset (h.map.ne_own hw),h.past,fun ea=>⟨((h.back ea).grown hw hset).map,(h.back ea).past,(h.back ea).regs,(h.back ea).at_,(h.back ea).left⟩,h.ten,h.scr,Q6c h.ext hset h.ext.size (Q17 hw),h.hr,h.hm⟩,Q1h.grown hw Q6a hset⟩
 rw [← hv] at hf
 exact hf
end
end Go.Proofs.YtiafchefbehfbaaGreatDoor
