/- Laid together from: SpcD. -/
import Derived.Test.YtiafchefbehfbaaGreatDoorDriveTellsB35
import Derived.Test.YtiafchefbehfbaaGreatDoorDriveTellsB28
import Derived.Shelf.Abstract

namespace Go.Proofs.YtiafchefbehfbaaGreatDoor
open Go.ChangeShapes Go.WideShapes Go.ChangeAt Go.RowKit
set_option linter.unusedVariables false
set_option linter.unusedSimpArgs false
def negs (l:List Int):Bool:=l.any fun x=>decide (x < 0)
theorem Qd3 (l:List Int):Q6l l=(decide (l.length≤2000) && !negs l):=by
 unfold Q6l negs
 congr 1
 induction l with
 | nil=>rfl
 | cons x l ih =>
  rw [List.all_cons,List.any_cons,ih]
  by_cases h:x < 0
  ·have:¬ 0≤x:=by omega
   simp [h,this]
  ·have:0≤x:=by omega
   simp [h,this]
theorem Qqk {l:List Int} (h:∀ k,k < l.length→0≤l.getD k default):negs l=false:=by
 unfold negs
 rw [List.any_eq_false]
 intro x hx
 obtain ⟨k,hk,rfl⟩:=List.getElem_of_mem hx
 have:=h k hk
 simp only [List.getD_eq_getElem?_getD,List.getElem?_eq_getElem hk,Option.getD_some] at this
 simpa using this
theorem Qqj {l:List Int} {k:Nat} (hk:k < l.length) (h:l.getD k default < 0):negs l=true:=by
 unfold negs
 rw [List.any_eq_true]
 exact ⟨_,Q25 hk,by simpa using h⟩
theorem Q9a (x:Int) (w:World):Calls Tryz.prog 27 #[.int .i64 x] w fun e w'=>e=.returned (.bool (decide (x < 0)))∧w=w':=by
 go_enter Tryz.func27,Tryz.ntmps27
 go_wp2
 go_ret
 exact ⟨rfl,rfl⟩
def Qw7 (l:List Int) (w:World) (e:Ending) (w':World):Prop := ∃ x:Int,e=.returned (.int .i64 x)∧decide (0≤x)=negs l∧Ext w w'
set_option maxHeartbeats 2000000 in
theorem Qth (l:List Int) (v:Value) (w:World) (h:Q2z w v l) :
  Calls Tryz.prog 58 #[v,.func (.func 27) #[] #[]] w (Qw7 l w):=by
 obtain ⟨h64,oa,cap,b,o,rfl,hc1,hc2,hrow⟩:=h
 have hix:=Q2k (cap:=cap) hrow.at_
 have hlen:=Q5h hc1 hc2
 have Hrow:=zh hrow
 have eg:∀ args w,(callFunc 27 args).run Tryz.prog w=.ok (.enter 27 args) w:=enters_of Tryz.func27 (by kernel_rfl) rfl
 clear hrow h64
 go_enter Tryz.func58,Tryz.ntmps58
 go_wp2_with fail
 go_loopw [5,8] (fun _ i wr => ∃ j:Nat,j≤l.length∧i=.int .i64 j∧(∀ k,k < j→0≤l.getD k default)∧Ext w wr) (fun _ i _=>l.length - (intOf i).toNat)
 case atStart=>exact ⟨0,by omega,rfl,fun k hk=>by omega,Ext.refl _⟩
 case round =>
  obtain ⟨j,hj,rfl,hall,hE⟩:=hrel
  have Hall:=zh hall
  have X:=zh hE
  clear hall
  by_cases hlt:j < l.length
  ·have e0:=(Hrow.out.ext hE).one j hlt
   have hbl:=Q0k e0
   simp only at hbl
   clear hE
   by_cases hn:l.getD j default < 0
   ·have Ho:=zh (Qqj hlt hn)
    have hd2:decide (l.getD j default < 0)=true:=by simpa using hn
    generalize l.getD j default=x at *
    have C:=Q9a x wr
    rw [hd2] at C
    go_wp2_with (go_at_fn 27;refine C.mono ?_;rintro e w' ⟨rfl,rfl⟩)
    go_ret
    exact ⟨_,rfl,by rw [Ho.out];simp,X.out⟩
   ·have hd2:decide (l.getD j default < 0)=false:=by simpa using hn
    have Hn:Hid (0≤l.getD j default):=zh (by omega)
    generalize hx:l.getD j default=x at *
    have Hx:=zh hx
    have C:=Q9a x wr
    rw [hd2] at C
    clear hn hx
    go_wp2_with (go_at_fn 27;refine C.mono ?_;rintro e w' ⟨rfl,rfl⟩)
    go_roundw
    case rel=>exact ⟨j+1,by omega,by go_num,fun k hk=>by
     rcases Nat.lt_or_ge k j with h | h
     ·exact Hall.out k h
     ·obtain rfl:k=j:=by omega
      rw [Hx.out];exact Hn.out,X.out⟩
    case measure=>first | (simp [intOf];done) | (simp [intOf];omega)
  ·have hje:j=l.length:=by omega
   subst hje
   have Ho:=zh (Qqk Hall.out)
   have hlt2:decide ((l.length:Int) < (l.length:Int))=false:=by simp
   go_wp2
   go_ret
   exact ⟨_,rfl,by rw [Ho.out];rfl,X.out⟩
theorem Qv8 (l:List Int) (v:Value) (w:World) (h:Q2z w v l) :
  Calls Tryz.prog 26 #[v,.func (.func 27) #[] #[]] w fun e w'=>e=.returned (.bool (negs l))∧Ext w w':=by
 have H:=zh h
 obtain ⟨h64,oa,cap,b,o,rfl,hc1,hc2,hrow⟩:=h
 clear hrow h64 hc1 hc2
 go_enter Tryz.func26,Tryz.ntmps26
 go_wp2_with fail
 have C:=Qth l _ w H.out
 (with_reducible refine C.mono ?_)
 clear C
 rintro e w1 ⟨x,rfl,hn,hx⟩
 have X:=zh hx
 have Hn:=zh hn
 clear hx hn
 go_wp2
 go_ret
 exact ⟨by rw [← Hn.out];rfl,X.out⟩
def begV (vW vX:Value) (bm:Nat):QV:=⟨.slice none 0 0,vW,vX,.slice none 0 0,[],[],bm,none,List.replicate 10 0,0,0⟩
theorem Qov {wB w2:World} {g N:Nat} {vR vC vB vW vX:Value} {bases ws script:List Int} (h:MSt w2 wB.heap.size g vR vC (.slice none 0 0) vB (.slice none 0 0) vW bases (Q0a ws)) (hx:Ext wB w2) (hN:ws.length=N) (hs:Q2z wB vX script) :
  QSt wB ((w2.alloc (.map #[] 0)).alloc (.cells (Q2n g (begV vW vX w2.heap.size) (Q1l ws script)).toArray 84)) N g (w2.heap.size+1) vR vC vB bases (begV vW vX w2.heap.size) (Q1l ws script):=by
 have X3:Ext w2 ((w2.alloc (.map #[] 0)).alloc (.cells (Q2n g (begV vW vX w2.heap.size) (Q1l ws script)).toArray 84)):=((Ext.refl _).alloc _).alloc _
 have hbx:=Blk.new (w2.alloc (.map #[] 0)) 84 (Q2n g (begV vW vX w2.heap.size) (Q1l ws script)).toArray
 rw [show (w2.alloc (.map #[] 0)).heap.size=w2.heap.size+1 by simp] at hbx
 have hsz:=hx.size
 refine ⟨h.ext X3,hbx,⟨fun x hx'=>?_,List.pairwise_singleton _ _⟩,(Qir w2).ext ((Ext.refl _).alloc _),⟨?_,fun x hx'=>(by cases hx'),fun n hn=>?_⟩,fun e=>(by cases e),rfl,hs,hx.trans X3,by omega,hsz⟩
 ·simp only [Q45,Q2b,begV,Q1l,List.map_nil,Bool.false_eq_true,if_false,List.append_nil,List.mem_singleton] at hx'
  subst hx'
  exact Q19 h.ws X3
 ·simp [Q1l,hN]
 ·simp [Q1l,Q3j,begV,hN,hn]
theorem QSt.end_ {wB w w2:World} {N g r:Nat} {vR vC vB:Value} {bases:List Int} {V:QV} {S:Spc} (h:QSt wB w N g r vR vC vB bases V S) (ha:S.ahead=true) (hx:Ext w w2) :
  MSt (w2.setCells g 7 (stL V.bR V.bW V.bA)) wB.heap.size g vR vC (.slice none 0 0) vB V.vS V.bW bases (Q2f (endS S))∧Ext wB (w2.setCells g 7 (stL V.bR V.bW V.bA)) ∧
   (w2.setCells g 7 (stL V.bR V.bW V.bA)).cell? ⟨r,0,none⟩=some (.pointer (some ⟨g,0,none⟩)):=by
 obtain ⟨⟨bb,hb1,hb2,hb3,hb4⟩,hp,hrg,hat,hlf⟩:=h.back ha
 have T:Turn (fun j=>j=g) w (w2.setCells g 7 (stL V.bR V.bW V.bA)):=(Turn.ofExt (S:=fun j=>j=g) hx).trans (Turn.cells (stL V.bR V.bW V.bA) _ g 7) (fun _ _ e=>e)
 have hmx:=(h.mach.box.ext hx).setCells (stL V.bR V.bW V.bA) 7
 have hbx:=(h.box.ext hx).farCells (stL V.bR V.bW V.bA) h.rg 7
 have e0:Q4e (Q0z vR vC (Q2f S).fin (Q2f S).value (Q2f S).steps V.vS (.slice none 0 0) (Q2f S).regs V.vW (Q2f S).at_ vB).toArray 7 (stL V.bR V.bW V.bA)=(Q0z vR vC (Q2f S).fin (Q2f S).value (Q2f S).steps V.vS (.slice none 0 0) V.bR V.bW S.back.at_ vB).toArray:=by
  rw [hat]
  exact Qbt h.mach.len h.ten
 rw [e0] at hmx
 have hf0:Fam w wB.heap.size ((V.bW,S.back.words) :: Q2b V.GB):=by
  refine h.fam.sub ?_
  unfold Q45
  rw [if_pos ha]
  exact List.sublist_append_right _ _
 have hws:=hf0.at_ (i:=0) rfl
 have hown:∀ {B:Nat} {e:TypeId} {s n:Nat} {v:Value} {xs:List Value},w.ownsRow B e s v n xs→e≠76 → ∀ k,v.ownBlock=some k→¬ (k=g):=by
  rintro B e s n v xs ho h2 k hk e
  exact Q09 ho h.mach.box h2 (by rw [hk,e])
 have hE:endS S={ S with pl:=S.back }:=by unfold endS;rw [if_pos ha]
 refine ⟨?_,Below.trans h.ext (T.below h.ext.size (by
   rintro j rfl
   exact h.mach.hg)),by rw [hbx.cell];rfl⟩
 rw [hE]
 refine ⟨?_,Q5d h.mach.sn T (hown h.mach.sn (by decide)),Q5d hws T (hown hws (by decide)),Q5d h.mach.bs T (hown h.mach.bs (by decide)),by show S.back.regs.length=10;rw [← hrg];exact h.ten,h.mach.hg⟩
 rw [hrg] at hmx
 rw [hrg]
 exact hmx
theorem Que {p:Q00} {S:Spc} (h:SOk p S):MOk p (Q2f (endS S)):=by
 unfold endS
 split
 ·rename_i ha
  have b:=h.mid.back ha
  exact ⟨b.len,b.r64,b.wlen,b.w64⟩
 ·have b:=h.mid.pl
  exact ⟨b.len,b.r64,b.wlen,b.w64⟩
def Q8e (w:World) (g r fuel:Nat):Nat:=2 * (fuel - Q7k w g)+(match w.cell? ⟨r,3,none⟩ with | some (.bool true)=>1 | _=>0)
theorem Qdm {wB w:World} {N g r:Nat} {vR vC vB:Value} {bases:List Int} {V:QV} {S:Spc} (h:QSt wB w N g r vR vC vB bases V S) (fuel:Nat):Q8e w g r fuel=2 * (fuel - S.steps)+bN S.ahead:=by
 have g3:w.cell? ⟨r,3,none⟩=some (.bool S.ahead):=by rw [h.box.cell];rfl
 have e:=Qe1 h.mach
 unfold Q8e
 rw [e,g3]
 show 2 * (fuel - S.steps)+_=_
 cases S.ahead <;> simp [bN]
end Go.Proofs.YtiafchefbehfbaaGreatDoor
