/- Laid together from: Spc3, Spc4. -/
import Derived.Test.YtiafchefbehfbaaGreatDoorDriveTellsB30
import Derived.Test.YtiafchefbehfbaaGreatDoorDriveTellsB16
import Derived.Test.YtiafchefbehfbaaGreatDoorDriveTellsB28

namespace Go.Proofs.YtiafchefbehfbaaGreatDoor
open Go.ChangeShapes Go.WideShapes Go.ChangeAt Go.RowKit
set_option linter.unusedVariables false
set_option linter.unusedSimpArgs false
def Q80 (wB w:World) (N g r:Nat) (vR vC vB:Value) (bases:List Int) (S':Spc) (rv:Value) (e:Ending) (w':World):Prop:=e=.returned rv∧∃ V',QSt wB w' N g r vR vC vB bases V' S'∧Q1h w w'
section
variable {wB w : World} {N g r : Nat} {vR vC vB : Value} {bases : List Int} {V : QV} {S : Spc}
set_option maxHeartbeats 2000000 in
theorem Qdl (h:QSt wB w N g r vR vC vB bases V S) :
  Calls Tryz.prog 88 #[.pointer (some ⟨r,0,none⟩)] w (Q80 wB w N g r vR vC vB bases S.chosen (.int .i64 S.choice)):=by
 have hgl:=h.box.lt
 have P:=zh h
 obtain ⟨h64,oa,cap,b,o,hv,hc1,hc2,hrow⟩:=h.scr
 have g1:w.cell? ⟨r,1,none⟩=some (.slice oa S.script.length cap)∧w.frozen? ⟨r,1,none⟩=false:=⟨by rw [h.box.cell,← hv];rfl,h.box.frozen 1⟩
 have hrow2:=hrow.ext h.ext
 have hix:=Q2k (cap:=cap) hrow.at_
 have Hrow:=zh hrow
 have H64:=zh h64
 clear h hv h64
 cases hs:S.script with
 | nil =>
  have Hs:=zh hs
  rw [hs] at g1
  clear hrow hrow2 hix hs hc1
  go_enter Tryz.func88,Tryz.ntmps88
  go_wp2
  go_ret
  have e:S.chosen=S:=by unfold Spc.chosen;rw [Hs.out,List.tail_nil,← Hs.out]
  have P2:=P.out
  rw [← e] at P2
  exact ⟨Q5r (by unfold Spc.choice;rw [Hs.out];rfl),V,P2,Q1h.refl _⟩
 | cons x l =>
  have Hs:=zh hs
  have c0:w.cell? ⟨b,o,none⟩=some (.int .i64 x):=by
   have:=hrow2.one 0 (by rw [hs];simp)
   rw [hs] at this
   simpa using this
  have hbl:=Q0k c0
  rw [hs] at g1 hix hc1
  simp only [List.length_cons] at g1 hix hc1
  obtain rfl:oa=some ⟨b,o,none⟩:=hrow.at_ (by rw [hs];simp)
  by_cases hcap:cap=1
  ·subst hcap
   obtain rfl:l=[]:=by
    cases l with
    | nil=>rfl
    | cons y l=>simp at hc1
   have HU:Hid (Q2z wB (.slice (some ⟨b,o,none⟩) 0 0) []):=zh ⟨fun y hy=>by simp at hy,_,0,b,o,rfl,by simp,by decide,⟨fun _=>rfl,fun i j hi hj=>by simp at hi⟩⟩
   have PP:=zh (P.out.script_ HU.out)
   have HT:=zh (P.out.stayR 1 (.slice (some ⟨b,o,none⟩) 0 0))
   clear hrow hrow2 hs
   go_enter Tryz.func88,Tryz.ntmps88
   go_wp2
   go_ret
   have e:S.chosen={ S with script:=[] }:=by unfold Spc.chosen;rw [Hs.out];rfl
   have P2:=PP.out
   rw [← e] at P2
   exact ⟨Q5r (by unfold Spc.choice;rw [Hs.out];rfl),_,P2,HT.out⟩
  ·have HU:Hid (Q2z wB (.slice (some ⟨b,o+1,none⟩) l.length (cap - 1)) l):=zh ⟨fun y hy=>H64.out y (by rw [Hs.out];exact List.mem_cons_of_mem _ hy),_,cap - 1,b,o+1,rfl,by omega,by omega,⟨fun _=>rfl,fun i j hi hj=>by
    obtain rfl:j=0:=by omega
    have:=Hrow.out.cell (i+1) 0 (by rw [Hs.out];simp;omega) (by omega)
    rw [Hs.out] at this
    simpa [Nat.add_comm,Nat.add_left_comm,Nat.add_assoc] using this⟩⟩
   have PP:=zh (P.out.script_ HU.out)
   have HT:=zh (P.out.stayR 1 (.slice (some ⟨b,o+1,none⟩) l.length (cap - 1)))
   have hc0:cap - 1≠0:=by omega
   clear hrow hrow2 hs
   go_enter Tryz.func88,Tryz.ntmps88
   go_wp2
   go_ret
   have e:S.chosen={ S with script:=l }:=by unfold Spc.chosen;rw [Hs.out];rfl
   have P2:=PP.out
   rw [← e] at P2
   exact ⟨Q5r (by unfold Spc.choice;rw [Hs.out];rfl),_,P2,HT.out⟩
end
def Qfq (l:List Int) (w:World) (e:Ending) (w':World):Prop := ∃ u,e=.returned u∧w'.ownsRow w.heap.size 2 1 u l.length (l.map (Value.int .i64))∧Ext w w'
theorem Qmw {w:World} {B:Nat} {E:TypeId} {oa:Option Addr} {n cap:Nat} {l:List Int} (h:w.ownsRow B E 1 (.slice oa n cap) n (l.map (Value.int .i64))):Src w 1 oa n (l.map (Value.int .i64)):=by
 have hl:l.length=n:=by have:=h.1;simpa using this
 subst hl
 rw [← Qc6] at h
 obtain ⟨oa',cap',b,hv,h2,h3,h4,-⟩:=Q7j (c:=1) (f:=fun x=>[Value.int .i64 x]) (g:=fun x _=>Value.int .i64 x) (by omega) (fun _=>rfl) (fun x j hj=>by
  obtain rfl:j=0:=by omega
  rfl) h
 simp only [Value.slice.injEq] at hv
 obtain ⟨rfl,-,rfl⟩:=hv
 exact Qgd .i64 h4
theorem Qqd (w:World):(binOp .eql 35 (.slice none 0 0) (.slice none 0 0)).run Tryz.prog w=.ok (.bool true) w:=by kernel_rfl
theorem Qn2 (k n c:Nat) (w:World):(binOp .eql 35 (.slice (some ⟨k,0,none⟩) n c) (.slice none 0 0)).run Tryz.prog w=.ok (.bool false) w:=by kernel_rfl
set_option maxHeartbeats 2000000 in
theorem Qgp {B:Nat} (l:List Int) (v:Value) (w:World) (h:w.ownsRow B 2 1 v l.length (l.map (Value.int .i64))) (hl:l.length≤1000000) :
  Calls Tryz.prog 57 #[v] w (Qfq l w):=by
 obtain ⟨i0,hi0,hz0,hz1,hz2⟩:=info_parts Q42
 have H:=zh h
 rcases h.2 with ⟨rfl,h0⟩ | ⟨k,cap,cur,rfl,h1,h2,h3,h4,h5⟩
 ·obtain rfl:l=[]:=by simpa using h0
  clear h
  have hq:=Qqd
  go_enter Tryz.func57,Tryz.ntmps57
  go_wp2
  go_ret
  exact ⟨_,rfl,World.ownsRow_nil _ _ _ _,Ext.refl _⟩
 ·have Hs:=zh (Qmw h)
  clear h h2 h5
  have hq:=Qn2 k l.length cap
  go_enter Tryz.func57,Tryz.ntmps57
  go_wp2_with (at_builtin;refine Q1b _ rfl (.tmp 5) (.tmp 6) 35 rfl w.heap.size 2 i0 _ 1 8 Tryz.underlying35 hi0 hz0 hz1 hz2 rfl (by decide) _ 0 [] rfl ?c0 (some ⟨k,0,none⟩) l.length cap (l.map (Value.int .i64)) rfl ?c1 ?c3 ?c4 ?c5 ?_)
  case c0 =>
   have h:=World.ownsRow_lit (base:=w.heap.size) (e:=2) (size:=1) w #[] 0 (Nat.le_refl _) (by decide) rfl
   simpa [Act.eval] using h
  case c1=>exact Hs.out.ext ((Ext.refl _).alloc _)
  case c3=>unfold maxLen;omega
  case c4=>omega
  case c5=>simp
  intro v1 w1 hown hgrow hat
  have X1:Hid (Ext w w1):=zh (((Ext.refl w).alloc _).grown hgrow (by
   intro k hk
   simp [Act.eval,Value.ownBlock] at hk
   omega))
  have HO:Hid (w1.ownsRow w.heap.size 2 1 v1 l.length (l.map (Value.int .i64))):=zh (by simpa using hown)
  clear hown hgrow hat
  go_wp2
  go_ret
  exact ⟨_,rfl,HO.out,X1.out⟩
theorem Qhy {w:World} {B k:Nat} {e:TypeId} {s n:Nat} {v:Value} {xs:List Value} (h:w.ownsRow B e s v n xs) (hk:k < B):some k≠v.ownBlock:=fun e=>by
 have:=Q17 h k e.symm
 omega
theorem Qi0 {B b:Nat} {e:TypeId} {s n:Nat} {v:Value} {xs:List Value}:∀ (vs:List Value) {w:World} (_:w.ownsRow B e s v n xs) (_:some b≠v.ownBlock) (o:Nat),(w.setCells b o vs).ownsRow B e s v n xs
 | [],_,h,_,_=>h
 | u :: vs,w,h,hne,o=>by
  rw [World.setCells]
  exact Qi0 vs (Q0r (p:=⟨b,o,none⟩) h hne u) hne _
set_option maxRecDepth 100000 in
set_option maxHeartbeats 4000000 in
theorem Qmq {B:Nat} (x0 x1 x2 x3 x4 x5 x6 x7 x8 x9 at_:Int) (l:List Int) (vW:Value) (w:World) (h:w.ownsRow B 2 1 vW l.length (l.map (Value.int .i64))) (hl:l.length≤1000000) :
  Calls Tryz.prog 106 #[.agg #[.int .i64 x0,.int .i64 x1,.int .i64 x2,.int .i64 x3,.int .i64 x4,.int .i64 x5,.int .i64 x6,.int .i64 x7,.int .i64 x8,.int .i64 x9,vW,.int .i64 at_]] w fun e w' => ∃ u,e=.returned (.agg #[.int .i64 x0,.int .i64 x1,.int .i64 x2,.int .i64 x3,.int .i64 x4,.int .i64 x5,.int .i64 x6,.int .i64 x7,.int .i64 x8,.int .i64 x9,u,.int .i64 at_])∧w'.ownsRow w.heap.size 2 1 u l.length (l.map (Value.int .i64))∧Ext w w':=by
 have H:=zh h
 obtain ⟨ov,cv,rfl⟩:=Q02 h
 clear h
 go_enter Tryz.func106,Tryz.ntmps106
 go_upto_region 1 with fail
 obtain ⟨W,gb,hg,hW,hx,bA,bZ⟩:=Q14 w #[.int .i64 x0,.int .i64 x1,.int .i64 x2,.int .i64 x3,.int .i64 x4,.int .i64 x5,.int .i64 x6,.int .i64 x7,.int .i64 x8,.int .i64 x9,.slice ov l.length cv,.int .i64 at_] #[.int .i64 0,.int .i64 0,.int .i64 0,.int .i64 0,.int .i64 0,.int .i64 0,.int .i64 0,.int .i64 0,.int .i64 0,.int .i64 0,.slice none 0 0,.int .i64 0] 74 74
 rw [hW,hg]
 have X:=zh hx
 have hgw:w.heap.size≤gb:=by omega
 have c10:W.cell? ⟨gb,10,none⟩=some (.slice ov l.length cv)∧W.frozen? ⟨gb,10,none⟩=false:=⟨by rw [bA.cell];rfl,bA.frozen _⟩
 have hgb:=bA.lt
 have hgz:=bZ.lt
 have BA:=zh bA
 have BZ:=zh bZ
 clear hW hx bA bZ
 go_wp2_with fail
 have C:=Qgp l _ W (Q19 H.out X.out) hl
 (with_reducible refine C.mono ?_)
 clear C
 rintro e w1 ⟨u,rfl,hO,hx1⟩
 obtain ⟨ou,cu,rfl⟩:=Q02 hO
 have hs1:=X.out.size
 have hneA:=Qhy hO hgb
 have hneZ:=Qhy hO hgz
 have c10:=Q0i hx1 c10
 have hgb1:=hx1.lt hgb
 have bA2:Blk (w1.setCell ⟨gb,10,none⟩ (.slice ou l.length cu)) gb 74 #[.int .i64 x0,.int .i64 x1,.int .i64 x2,.int .i64 x3,.int .i64 x4,.int .i64 x5,.int .i64 x6,.int .i64 x7,.int .i64 x8,.int .i64 x9,.slice ou l.length cu,.int .i64 at_]:=(BA.out.ext hx1).set_ 10 (.slice ou l.length cu)
 have bZ2:=(BZ.out.ext hx1).far (p:=⟨gb,10,none⟩) (by simp) (.slice ou l.length cu)
 have HO:=zh (Q0r (p:=⟨gb,10,none⟩) hO hneA (.slice ou l.length cu))
 have X1:=zh ((X.out.trans hx1).setCell (p:=⟨gb,10,none⟩) hgw (.slice ou l.length cu))
 have HneZ:=zh hneZ
 clear hO hx1
 go_upto_region 2 with fail
 generalize w1.setCell ⟨gb,10,none⟩ (.slice ou l.length cu)=w2 at *
 clear c10
 have bZ3:=zh (bZ2.stored #[.int .i64 x0,.int .i64 x1,.int .i64 x2,.int .i64 x3,.int .i64 x4,.int .i64 x5,.int .i64 x6,.int .i64 x7,.int .i64 x8,.int .i64 x9,.slice ou l.length cu,.int .i64 at_] rfl)
 have hinfo:(Tryz.prog.info? 74).map (·.size)=some 12:=by kernel_rfl
 go_wp2_with (first | ((with_reducible refine Q3c bA2 ?_ Tryz.underlying74 ?_ ?_ ?_);rfl;rfl;exact hinfo) | ((with_reducible refine Q61 bZ2 #[.int .i64 x0,.int .i64 x1,.int .i64 x2,.int .i64 x3,.int .i64 x4,.int .i64 x5,.int .i64 x6,.int .i64 x7,.int .i64 x8,.int .i64 x9,.slice ou l.length cu,.int .i64 at_] ?_ ?_ ?_ ?_ ?_ ?_);rfl;rfl;rfl;exact hinfo;(simp [Value.oneCell'])))
 exact bodyPost_ret (Q4f bZ3.out rfl _ rfl Tryz.underlying74 rfl (by kernel_rfl)) rfl ⟨_,rfl,own_mono' (Qi0 _ HO.out HneZ.out 0) (by omega),X1.out.setCells _ (Nat.le_succ_of_le hgw) 0⟩
end Go.Proofs.YtiafchefbehfbaaGreatDoor
