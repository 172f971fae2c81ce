/- Laid together from: Seq5, Seq6, Seq7, Play5, Play6, SeqR. -/
import Derived.Test.YteiknefajlocoaaFindNothingB30
import Derived.Test.YteiknefajlocoaaFindNothingB10
import Derived.Test.YteiknefajlocoaaFindNothingB23
import Derived.Test.YteiknefajlocoaaFindNothingB25
import Derived.Test.YteiknefajlocoaaFindNothingB29

namespace Go.Proofs.Yteiknefajlocoaa
open Go.ChangeShapes Go.WideShapes Go.ChangeAt Go.RowKit
set_option linter.unusedVariables false
set_option linter.unusedSimpArgs false
theorem Qkx (ad:Addr) (n cap:Nat) (w:World):(binOp .eql 71 (.slice (some ad) n cap) (.slice none 0 0)).run Try.prog w=.ok (.bool false) w:=by
 first | (kernel_rfl;done) | (go_simp;done)
theorem Q9j:(Try.prog.info? 3).map (fun i=>(i.zero,i.size,i.bytes))=some (some (.int .i64 0),1,8):=by kernel_rfl
set_option maxRecDepth 100000 in
theorem Q78 {w:World} {ad:Addr} {n cap:Nat} {news:List Value} (hs:Src w 1 (some ad) n news) (hn:n≤1000000) :
  Calls Try.prog 111 #[.slice (some ad) n cap] w fun e w' => ∃ v',e=.returned v'∧w'.ownsRow w.heap.size 2 1 v' n news∧Ext w w':=by
 obtain ⟨i0,hi0,hz0,hz1,hz2⟩:=info_parts Qb0
 have Hs:=Lib.hid hs
 have hnil:=Qkx ad n cap
 clear hs
 go_enter Try.func111,Try.ntmps111
 go_wp2_with (at_builtin;refine Q3g _ rfl _ _ 71 rfl w.heap.size 2 i0 _ 1 8 Try.underlying71 hi0 hz0 hz1 hz2 rfl (by decide) _ 0 [] rfl ?c0 (some ad) n cap news rfl ?c1 ?c3 ?c4 ?c5 ?_)
 case c0 =>
  have h:=World.ownsRow_lit (base:=w.heap.size) (e:=2) (size:=1) w #[] 0 (Nat.le_refl _) (by decide) rfl
  simpa [Act.eval] using h
 case c1=>exact Hs.out.ext ((Ext.refl _).alloc _)
 case c3=>unfold maxLen;omega
 case c4=>omega
 case c5=>simp
 intro v1 w1 hown hgrow hat
 have X:Ext w w1:=((Ext.refl w).alloc _).grown hgrow (by
  intro k hk
  simp [Act.eval,Value.ownBlock] at hk
  omega)
 have Hown:=Lib.hid hown
 have X:=Lib.hid X
 clear hown hgrow hat
 go_wp2
 go_ret
 exact ⟨_,rfl,by simpa using Hown.out,X.out⟩
section
variable {w w' : World} {B g : Nat} {vR vC vM vB vS vW : Value} {bases : List Int} {M : Mach}
theorem MSt.bases_ (h:MSt w B g vR vC vM vB vS vW bases M) {vB':Value} {bs:List Int} (hg:w.grownBy w' vB.ownBlock) (ho:w'.ownsRow B 3 1 vB' bs.length (bs.map (Value.int .i64))) :
  MSt (w'.setCell ⟨g,19,none⟩ vB') B g vR vC vM vB' vS vW bs M:=by
 have hb:=h.box.grown hg h.gb
 have hne:some g≠vB'.ownBlock:=Q0j ho hb (by decide)
 have hw:=Q2j h.ws hg (fun k hk he=>Q30 h.bs h.ws (by decide) k hk he)
 have hs:=Q2j h.sn hg (fun k hk he=>Q30 h.bs h.sn (by decide) k hk he)
 exact ⟨by rw [← Qpv h.len (u:=vB')];exact hb.set_ 19 vB',Q1k hs h.gs _,Q1k hw h.gw _,Q1k ho hne _,h.len,h.hg⟩
theorem MSt.words_ (h:MSt w B g vR vC vM vB vS vW bases M) {vW':Value} {ws:List Int} (hg:w.grownBy w' vW.ownBlock) (ho:w'.ownsRow B 2 1 vW' ws.length (ws.map (Value.int .i64))) :
  MSt (w'.setCell ⟨g,17,none⟩ vW') B g vR vC vM vB vS vW' bases { M with words:=ws }:=by
 have hb:=h.box.grown hg h.gw
 have hne:some g≠vW'.ownBlock:=Q0j ho hb (by decide)
 have hbs:=Q2j h.bs hg (fun k hk he=>Q30 h.ws h.bs (by decide) k hk he)
 have hs:=Q2j h.sn hg (fun k hk he=>Q30 h.ws h.sn (by decide) k hk he)
 exact ⟨by rw [← Qpo h.len (u:=vW')];exact hb.set_ 17 vW',Q1k hs h.gs _,Q1k ho hne _,Q1k hbs h.gb _,h.len,h.hg⟩
end
def Qtw (p:Q00) (m:List (List Int)) (vR vC:Value) (w:World) (e:Ending) (w':World):Prop :=
 ∃ g vB vW,e=.returned (.pointer (some ⟨g,0,none⟩))∧MSt w' w.heap.size g vR vC (.slice none 0 0) vB (.slice none 0 0) vW (Q2p p) (Q05 m.flatten)∧Ext w w'
def bsTo (p:Q00) (j:Nat):List Int:=(List.range j).map fun k=>(Q13 p k:Int)
set_option maxRecDepth 100000 in
set_option maxHeartbeats 4000000 in
theorem Qtf (p:Q00) (m:List (List Int)) (vR vC vm:Value) (w:World) (hm:Q2w w vm m) (hf:Q2f p m=true) (hr:Q02 p.regs=true) :
  Calls Try.prog 70 #[.agg #[vR,vC],vm] w (Qtw p m vR vC w):=by
 obtain ⟨hl1,hl2⟩:=Q8k hf
 have hlen:=Q3o hr
 have htt:=Q8x hr
 have Hft:=Lib.hid (Qdt hf)
 obtain ⟨oa,cap,b,o,rfl,hc1,hc2,vs0,hrow,hin⟩:=hm
 have hix:=index_mem' (cap:=cap) hrow.at_
 have Hrow:=Lib.hid hrow
 have Hin:=Lib.hid hin
 have Hl2:=Lib.hid hl2
 have Hr:=Lib.hid hr
 have Hl1:=Lib.hid hl1
 have hm6:m.length≤6:=by omega
 obtain ⟨i0,hi0,hz0,hz1,hz2⟩:=info_parts Qb0
 obtain ⟨j0,hj0,hy0,hy1,hy2⟩:=info_parts Q9j
 clear hrow hin hc1 hc2 hl2 hr hl1 hlen
 go_enter Try.func70,Try.ntmps70
 go_wp2_with fail
 obtain ⟨W,gp,hg,hW,hx,bP,bM⟩:=Q0i w #[vR,vC] #[vR,vC,.int .i64 0,.int .i64 0,.int .i64 0,.slice none 0 0,.slice none 0 0,.int .i64 0,.int .i64 0,.int .i64 0,.int .i64 0,.int .i64 0,.int .i64 0,.int .i64 0,.int .i64 0,.int .i64 0,.int .i64 0,.slice none 0 0,.int .i64 0,.slice none 0 0] 25 110
 rw [hW,hg]
 have X:=Lib.hid hx
 have P0:MSt W w.heap.size (gp+1) vR vC (.slice none 0 0) (.slice none 0 0) (.slice none 0 0) (.slice none 0 0) (bsTo p 0) { Q05 [] with words:=(m.take 0).flatten } :=
  ⟨bM,World.ownsRow_nil _ _ _ _,World.ownsRow_nil _ _ _ _,World.ownsRow_nil _ _ _ _,rfl,by omega⟩
 clear hW hg hx bP bM
 generalize gp+1=g at *
 go_loopw [13] (fun i wr => ∃ (j:Nat) (vB vW:Value),j≤m.length∧i=.int .i64 j∧MSt wr w.heap.size g vR vC (.slice none 0 0) vB (.slice none 0 0) vW (bsTo p j) { Q05 [] with words:=(m.take j).flatten }∧Ext w wr) (fun i _=>m.length - (intOf i).toNat)
 case atStart=>exact ⟨0,_,_,by omega,rfl,P0,X.out⟩
 case round =>
  obtain ⟨j,vB,vW,hj,rfl,P,hE⟩:=hrel
  have X:=Lib.hid hE
  have PP:=Lib.hid P
  have hgl:=P.box.lt
  have hwl:((m.take j).flatten).length=Q13 p j:=Hft.out j (by rw [← Hl1.out];omega)
  have hbl:=Qti p j
  clear hE P
  by_cases hlt:j < m.length
  ·have e0:=(Hrow.out.ext X.out).one j hlt
   have h1:=Hin.out j hlt
   have hlj:=Hl2.out j (by rw [← Hl1.out];omega)
   have hw6:Q0e (p.regs.getD j default)≤64:=Q6u _ (Q66 Hr.out _ (Q2b (by rw [← Hl1.out];omega))).2
   have Hnext:Hid ((m.take (j+1)).flatten=(m.take j).flatten ++ m.getD j default):=Lib.hid (by
    rw [List.take_succ_eq_append_getElem hlt,List.flatten_append]
    simp [hlt])
   have Hbs:Hid (bsTo p (j+1)=bsTo p j ++ [(Q13 p j:Int)]):=Lib.hid (by simp [bsTo,List.range_succ])
   have hbsl:(bsTo p j).length=j:=by simp [bsTo]
   generalize m.getD j default=l at *
   generalize vs0 j=vl at *
   obtain ⟨-,ol,lcap,lb,lo,rfl,hl3,hl4,hlr⟩:=h1
   have Hlr:=Lib.hid hlr
   rw [hlj] at e0
   generalize Q0e (p.regs.getD j default)=L at *
   obtain ⟨-,-,-,-,-,-,-,g17,-,g19⟩:=PP.out.cells
   obtain ⟨ob,obc,rfl⟩:=Q1e PP.out.bs
   obtain ⟨ow,owc,rfl⟩:=Q1e PP.out.ws
   have Hwl:=Lib.hid hwl
   rw [hbsl] at g19
   simp only [hwl] at g17
   clear hlr hl3 hl4
   go_upto_region 5 with fail
   have k17:∀ W,Ext wr W→W.cell? ⟨g,17,none⟩=some (.slice ow (Q13 p j) owc):=fun _ h=>h.kept g17.1
   have k19:∀ W,Ext wr W→W.cell? ⟨g,19,none⟩=some (.slice ob j obc):=fun _ h=>h.kept g19.1
   refine Q2d [11,12,13,14,15] 1 (by kernel_rfl) (by kernel_rfl) ?_
   repeat (first | (refine Q2o ?_ ?_;(decide)) | (refine Q2i ?_ ?_ ?_;(decide);(first | rfl | (focus (go_simp;done)));apply Exists.intro;refine ⟨fun wc hE=>?_,?_⟩;(go_simp;exact rfl);go_simp) | (refine Q2m ?_ ?_ ?_;(decide);(focus (go_simp;done));go_simp))
   refine Q2n ?_
   intro w2 hx
   have X2:=Lib.hid hx
   clear k17 k19
   refine Q39 rfl ?_
   go_wp2
   have PB:=PP.out.ext (X2.out.alloc (.cells #[.int .i64 (Q13 p j:Int)] 3))
   have X3:=Lib.hid (X.out.trans (X2.out.alloc (.cells #[.int .i64 (Q13 p j:Int)] 3)))
   refine ⟨X2.out.alloc _,?_⟩
   refine Q23 (Q10 rfl (Q10 rfl (Q10 rfl (Q10 rfl (Q2a))))) ?_
   have hbo:=PB.bs
   rw [hbsl] at hbo
   refine Q3g _ rfl _ _ 51 rfl w.heap.size 3 j0 _ 1 8 Try.underlying51 hj0 hy0 hy1 hy2 rfl (by decide) _ _ _ rfl hbo (some ⟨w2.heap.size,0,none⟩) 1 1 [.int .i64 (Q13 p j:Int)] rfl ?c1 ?c3 ?c4 ?c5 ?_
   case c1=>exact Q5a (size:=1) (Blk.new w2 3 #[.int .i64 (Q13 p j:Int)]) rfl (by simp [Value.oneCell'])
   case c3=>unfold maxLen;omega
   case c4=>omega
   case c5=>exact X3.out.size
   intro v1 w3 hown hgrow hat
   clear hat
   obtain ⟨o3,c3,rfl⟩:=Q1e hown
   have hgrow:(w2.alloc (.cells #[.int .i64 (Q13 p j:Int)] 3)).grownBy w3 (Value.slice ob (bsTo p j).length obc).ownBlock:=by
    rw [hbsl];exact hgrow
   have hb3:=PB.box.grown hgrow PB.gb
   have p19:w3.cell? ⟨g,19,none⟩=some (.slice ob j obc)∧w3.frozen? ⟨g,19,none⟩=false:=⟨by rw [hb3.cell];simp [Q18,Q05,hbsl],hb3.frozen 19⟩
   have p17:w3.cell? ⟨g,17,none⟩=some (.slice ow (Q13 p j) owc)∧w3.frozen? ⟨g,17,none⟩=false:=⟨by rw [hb3.cell];simp [Q18,Q05,Hwl.out],hb3.frozen 17⟩
   have P3:=PB.bases_ (bs:=bsTo p j ++ [(Q13 p j:Int)]) (vB':=.slice o3 (j+1) c3) hgrow (by simpa [hbsl] using hown)
   have X3:=Lib.hid (((X3.out.grown hgrow (Q47 PB.bs))).setCell (p:=⟨g,19,none⟩) PB.hg (.slice o3 (j+1) c3))
   have hwo:(w3.setCell ⟨g,19,none⟩ (.slice o3 (j+1) c3)).ownsRow w.heap.size 2 1 (.slice ow (Q13 p j) owc) (Q13 p j) (((m.take j).flatten).map (Value.int .i64)):=by
    have:=P3.ws
    simp only [Hwl.out] at this
    exact this
   have P3:=Lib.hid P3
   have Hsrc:Hid (Src (w3.setCell ⟨g,19,none⟩ (.slice o3 (j+1) c3)) 1 ol L (l.map (Value.int .i64))):=Lib.hid (by
    have:=Qf5 .i64 (Hlr.out.ext X3.out)
    rw [hlj] at this
    exact this)
   clear g17 g19 hb3 hown hgrow PB hbo
   have hg3:=P3.out.box.lt
   go_wp2_with (at_builtin;refine Q3g _ rfl _ _ 71 rfl w.heap.size 2 i0 _ 1 8 Try.underlying71 hi0 hz0 hz1 hz2 rfl (by decide) _ _ _ rfl hwo ol L lcap (l.map (Value.int .i64)) rfl ?d1 ?d3 ?d4 ?d5 ?_)
   case d1=>exact Hsrc.out
   case d3=>unfold maxLen;omega
   case d4=>omega
   case d5=>exact X3.out.size
   intro v2 w4 hown2 hgrow2 hat2
   clear hat2
   obtain ⟨o4,c4,rfl⟩:=Q1e hown2
   have hgr:(w3.setCell ⟨g,19,none⟩ (.slice o3 (j+1) c3)).grownBy w4 (Value.slice ow ({ Q05 [] with words:=(m.take j).flatten }:Mach).words.length owc).ownBlock:=by
    simp only [Hwl.out];exact hgrow2
   have hb4:=P3.out.box.grown hgr P3.out.gw
   have q17:w4.cell? ⟨g,17,none⟩=some (.slice ow (Q13 p j) owc)∧w4.frozen? ⟨g,17,none⟩=false:=⟨by rw [hb4.cell];simp [Q18,Q05,Hwl.out],hb4.frozen 17⟩
   have P4:=Lib.hid (P3.out.words_ (ws:=(m.take j).flatten ++ l) (vW':=.slice o4 (Q13 p j+L) c4) hgr (by simpa [Hwl.out,hlj] using hown2))
   have X4:=Lib.hid ((X3.out.grown hgrow2 (Q47 hwo)).setCell (p:=⟨g,17,none⟩) P3.out.hg (.slice o4 (Q13 p j+L) c4))
   clear hb4 hgr hown2 hgrow2 hwo p17 p19
   go_wp2
   go_roundw
   case rel=>exact ⟨j+1,_,_,by omega,by go_num,by rw [Hbs.out,Hnext.out];exact P4.out,X4.out⟩
   case measure=>first | (simp [intOf];done) | (simp [intOf];omega)
  ·have hje:j=m.length:=by omega
   subst hje
   have hlt2:decide ((m.length:Int) < (m.length:Int))=false:=by simp
   have HB:Hid (bsTo p m.length=Q2p p):=Lib.hid (by rw [Hl1.out];rfl)
   have HF:Hid ((m.take m.length).flatten=m.flatten):=Lib.hid (by rw [List.take_length])
   go_wp2
   go_ret
   refine ⟨g,vB,vW,rfl,?_,X.out⟩
   have:=PP.out
   rw [HB.out,HF.out] at this
   exact this
theorem MSt.mem_ {w:World} {B g:Nat} {vR vC vM vB vS vW:Value} {bases:List Int} {M:Mach} (h:MSt w B g vR vC vM vB vS vW bases M) (u:Value):MSt (w.setCell ⟨g,6,none⟩ u) B g vR vC u vB vS vW bases M :=
 ⟨by rw [← Qpt (u:=u)];exact h.box.set_ 6 u,Q1k h.sn h.gs u,Q1k h.ws h.gw u,Q1k h.bs h.gb u,h.len,h.hg⟩
def Q7a (w:World) (B:Nat) (v:Value) (fin value:Int) (steps:Nat) (seen:List LSee) (mem:List (List Int)):Prop :=
 ∃ vs vm U,v=.agg #[.int .i64 fin,.int .i64 value,.int .i64 steps,vs,vm]∧w.ownsRow B 98 3 vs seen.length (seen.flatMap Q6j)∧Q38 w B U 71 2 vm mem
theorem Q7a.at_ {w:World} {B:Nat} {v:Value} {fin value:Int} {steps:Nat} {seen:List LSee} {mem:List (List Int)} (h:Q7a w B v fin value steps seen mem) (h64:∀ l ∈ mem,∀ x ∈ l,R64 x):Q5m w v fin value steps seen mem:=by
 obtain ⟨vs,vm,U,rfl,h1,h2⟩:=h
 exact ⟨vs,vm,rfl,Qlj h1,h2.mem h64⟩
theorem Q7a.far {w:World} {B:Nat} {v:Value} {fin value:Int} {steps:Nat} {seen:List LSee} {mem:List (List Int)} (h:Q7a w B v fin value steps seen mem) {p:Addr} (hp:p.block < B) (u:Value):Q7a (w.setCell p u) B v fin value steps seen mem:=by
 obtain ⟨vs,vm,U,rfl,h1,h2⟩:=h
 exact ⟨vs,vm,U,rfl,Q1k h1 (fun e=>by have:=Q47 h1 _ e.symm;omega) u,h2.far hp u⟩
theorem Q71 {w:World} {b b':Nat} {e:TypeId} {s n:Nat} {v:Value} {xs:List Value} (h:w.ownsRow b e s v n xs) (hb:b'≤b):w.ownsRow b' e s v n xs:=by
 refine ⟨h.1,?_⟩
 rcases h.2 with h | ⟨g,cap,cur,rfl,h1,h2,h3⟩
 ·exact .inl h
 ·exact .inr ⟨g,cap,cur,rfl,by omega,h2,h3⟩
theorem Q38.mono {w:World} {B B' U:Nat} {T E:TypeId} {v:Value} {m:List (List Int)} (h:Q38 w B U T E v m) (hb:B'≤B):Q38 w B' U T E v m:=by
 obtain ⟨vs,h1,h2,h3,h4,h5⟩:=h
 exact ⟨vs,h1,Q71 h2 hb,h3,fun i hi=>⟨Q71 (h4 i hi).1 hb,(h4 i hi).2⟩,h5⟩
def Qtv (p:Q00) (M:Mach) (wB:World) (e:Ending) (w':World):Prop :=
 ∃ u,e=.returned u∧Q7a w' wB.heap.size u M.fin M.value M.steps M.seen (Q1j p M.words)∧Ext wB w'
theorem Qkd {α:Type} [Inhabited α] {l:List α} {j:Nat} (h:j < l.length):l.take (j+1)=l.take j ++ [l.getD j default]:=by
 rw [List.take_succ_eq_append_getElem h];simp [h]
theorem Qsl {p:Q00} {M:Mach} {wB w1:World} {D g r:Nat} {vR vC vM vB vS vW x0 x1 x2 x3 x4:Value} (P:MSt w1 wB.heap.size g vR vC vM vB vS vW (Q2p p) M) (hM:Q38 w1 D w1.heap.size 71 2 vM (Q1j p M.words)) (hBD:wB.heap.size≤D)
  (hR:Blk w1 r 36 #[x0,x1,x2,x3,x4]) (hrB:wB.heap.size≤r) (hrD:r < D) (hx:Ext wB w1) {w2:World}
  (hw:w2=((((w1.setCell ⟨r,0,none⟩ (.int .i64 M.fin)).setCell ⟨r,1,none⟩ (.int .i64 M.value)).setCell ⟨r,2,none⟩ (.int .i64 M.steps)).setCell ⟨r,3,none⟩ vS).setCell ⟨r,4,none⟩ vM) :
  Blk w2 r 36 #[.int .i64 M.fin,.int .i64 M.value,.int .i64 M.steps,vS,vM]∧Q7a w2 wB.heap.size (.agg #[.int .i64 M.fin,.int .i64 M.value,.int .i64 M.steps,vS,vM]) M.fin M.value M.steps M.seen (Q1j p M.words)∧Ext wB w2:=by
 subst hw
 have hne:=Q0j P.sn hR (by decide)
 refine ⟨((((hR.set_ 0 _).set_ 1 _).set_ 2 _).set_ 3 _).set_ 4 _,⟨vS,vM,w1.heap.size,rfl,Q1k (Q1k (Q1k (Q1k (Q1k P.sn hne _) hne _) hne _) hne _) hne _,?_⟩,?_⟩
 ·exact (((((hM.far (p:=⟨r,0,none⟩) hrD _).far (p:=⟨r,1,none⟩) hrD _).far (p:=⟨r,2,none⟩) hrD _).far (p:=⟨r,3,none⟩) hrD _).far (p:=⟨r,4,none⟩) hrD _).mono hBD
 ·exact ((((hx.setCell hrB _).setCell hrB _).setCell hrB _).setCell hrB _).setCell hrB _
theorem Qkp {w w2:World} {k:Nat} {ws l:List Int} {base L:Nat} (h:∀ j x,j < ws.length→(ws.map (Value.int .i64))[j]? = some x→w.cell? ⟨k,j,none⟩=some x∧w.frozen? ⟨k,j,none⟩=false) (hl:l=(ws.drop base).take L) (hL:l.length=L) (hb:base+L≤ws.length) (hx:Ext w w2) :
  Src w2 1 (some ⟨k,base,none⟩) L (l.map (Value.int .i64)):=by
 refine ⟨by rw [List.length_map,hL,Nat.mul_one],(fun h=>by cases h),fun ad ha q u hu=>?_,fun u hu=>?_⟩
 ·obtain rfl:=Option.some.inj ha
  rw [Addr.add_lit]
  have hq:q < L:=by
   have:=(List.getElem?_eq_some_iff.1 hu).1
   rw [List.length_map,hL] at this
   exact this
  refine hx.kept (h (base+q) u (by omega) ?_).1
  rw [← hu,hl,List.getElem?_map,List.getElem?_map,List.getElem?_take_of_lt hq,List.getElem?_drop]
 ·simp only [List.mem_map] at hu
  obtain ⟨y,-,rfl⟩:=hu
  rfl
theorem MSt.grown_mem {w w':World} {B D g n:Nat} {vR vC vM vB vS vW u:Value} {bases:List Int} {M:Mach} {xs:List Value} (h:MSt w B g vR vC vM vB vS vW bases M) (hu:w.ownsRow D 71 1 u n xs) (hg:w.grownBy w' u.ownBlock):MSt w' B g vR vC vM vB vS vW bases M :=
 ⟨h.box.grown hg (Q0j hu h.box (by decide)),Q2j h.sn hg (fun k hk he=>Q30 hu h.sn (by decide) k hk he),Q2j h.ws hg (fun k hk he=>Q30 hu h.ws (by decide) k hk he),Q2j h.bs hg (fun k hk he=>Q30 hu h.bs (by decide) k hk he),h.len,h.hg⟩
theorem Qcr {w:World} {B k n cap:Nat} {e:TypeId} {s:Nat} {xs:List Value} (h:w.ownsRow B e s (.slice (some ⟨k,0,none⟩) n cap) n xs):n≤cap∧cap≤maxLen:=by
 rcases h.2 with ⟨h0,-⟩ | ⟨k',cap',cur,hh,a1,a2,a3,a4,-⟩
 ·cases h0
 ·simp only [Value.slice.injEq,Option.some.injEq,Addr.mk.injEq,and_true,true_and] at hh
  obtain ⟨rfl,rfl⟩:=hh
  exact ⟨a3,a4⟩
set_option maxRecDepth 100000 in
set_option maxHeartbeats 4000000 in
theorem Qsm (p:Q00) {wB:World} {g:Nat} {vR vC vB vS vW:Value} {M:Mach} (hr:Q02 p.regs=true) (hok:MOk p M) (w:World) (hp:Q0b wB (.agg #[vR,vC]) p) (hbx:Ext wB w) (h:MSt w wB.heap.size g vR vC (.slice none 0 0) vB vS vW (Q2p p) M) :
  Calls Try.prog 72 #[.pointer (some ⟨g,0,none⟩)] w (Qtv p M wB):=by
 have hlen:=Q3o hr
 have htt:=Q8x hr
 have hwl:=hok.wlen
 have H64:=Lib.hid hok.w64
 have Hr:=Lib.hid hr
 have H:=Lib.hid h
 have HX:=Lib.hid hbx
 have hgl:=h.box.lt
 have Hgl:=Lib.hid hgl
 have HR:Hid (∀ W,Ext wB W→Q5n W vR p.regs):=Lib.hid (by
  obtain ⟨v1,v2,hv,hR,-⟩:=hp
  simp only [Value.agg.injEq,Array.mk.injEq,List.cons.injEq,and_true] at hv
  obtain ⟨rfl,-⟩:=hv
  exact fun W hW=>hR.ext hW)
 obtain ⟨oa,cap,rfl⟩:∃ a c,vR=.slice a p.regs.length c:=by
  obtain ⟨-,oa,cap,b,o,hv,-⟩:=HR.out wB (Ext.refl _)
  exact ⟨oa,cap,hv⟩
 obtain ⟨j0,hj0,hy0,hy1,hy2⟩:=info_parts Qrm
 obtain ⟨ob,obc,rfl⟩:=Q1e h.bs
 have hbl:=Q8r p
 obtain ⟨-,-,-,-,-,-,-,-,-,g19⟩:=h.cells
 simp only [hbl] at g19
 clear hok hr h hbx hp
 go_enter Try.func72,Try.ntmps72
 go_wp2_with fail
 obtain ⟨W0,r,hrr,hW,hx,bR⟩:=Q1f w #[.int .i64 0,.int .i64 0,.int .i64 0,.slice none 0 0,.slice none 0 0] 36
 rw [hW,hrr]
 have hWs:W0.heap.size=r+1:=by rw [← hW,← hrr];simp
 have hgr:g≠r:=by omega
 have Hgr:Hid (g < r):=Lib.hid (by omega)
 have hBr:wB.heap.size≤r:=by have:=HX.out.size;omega
 have P0:=H.out.ext hx
 have X0:=HX.out.trans hx
 have BR:=Lib.hid bR
 have HBr:=Lib.hid hBr
 clear hW hrr hx bR g19 hgl
 have HW0:=Lib.hid hWs
 go_loopw [11] (fun i wr => ∃ (j:Nat) (vM:Value),j≤p.regs.length∧i=.int .i64 j∧MSt wr wB.heap.size g (.slice oa p.regs.length cap) vC vM (.slice ob (Q2p p).length obc) vS vW (Q2p p) M∧Q38 wr W0.heap.size wr.heap.size 71 2 vM ((Q1j p M.words).take j)∧Ext wB wr∧Blk wr r 36 #[.int .i64 0,.int .i64 0,.int .i64 0,.slice none 0 0,.slice none 0 0]∧W0.heap.size≤wr.heap.size) (fun i _=>p.regs.length - (intOf i).toNat)
 case atStart=>exact ⟨0,_,by omega,rfl,P0,by simpa using Q5i _ _ _ _ _,X0,BR.out,Nat.le_refl _⟩
 case round =>
  obtain ⟨j,vM,hj,rfl,P,hMo,hE,bR,hWr⟩:=hrel
  have X:=Lib.hid hE
  have PP:=Lib.hid P
  have bR:=Lib.hid bR
  have hMo:=Lib.hid hMo
  have hgl:=P.box.lt
  by_cases hlt:j < p.regs.length
  ·have hR:=HR.out wr hE
   obtain ⟨-,oa',cap',b,o,hv,hc1,hc2,hrow⟩:=hR
   simp only [Value.slice.injEq,true_and] at hv
   obtain ⟨rfl,rfl⟩:=hv
   have hix:=Q33 (cap:=cap) hrow.at_
   obtain ⟨e0,e1⟩:=hrow.reg j hlt
   have hlog:=Q66 Hr.out _ (Q2b hlt)
   have hbe:=Qbe p j hlt
   have hw6:Q0e (p.regs.getD j default)≤64:=Q6u _ hlog.2
   have hw1:0 < Q0e (p.regs.getD j default):=Qem _
   have Hrl:=Lib.hid (Q9w (ws:=M.words) hwl hlt)
   have Hrg:=Lib.hid (Qbv (p:=p) M.words hlt)
   have Htk:=Lib.hid (Qkd (l:=Q1j p M.words) (j:=j) (by rw [Q9x];exact hlt))
   have Htl:Hid (((Q1j p M.words).take j).length=j):=Lib.hid (by rw [List.length_take,Q9x];omega)
   obtain ⟨g0,-,-,-,-,-,g6,g17,-,g19⟩:=P.cells
   obtain ⟨kb,capb,hvb,hkb,hbs⟩:=Q48 P.bs (show 0 < (Q2p p).length by rw [Q8r];omega)
   obtain ⟨b19,-⟩:=hbs j _ (by rw [Q8r];omega) (Qj7 p hlt)
   simp only [Value.slice.injEq,true_and] at hvb
   obtain ⟨rfl,rfl⟩:=hvb
   have hixb:=Qrq kb p.regs.length obc
   generalize p.regs.getD j default=rg0 at *
   clear hE P hrow hc1 hc2 hbs
   go_wp2_with fail
   (with_reducible refine (Q7e rg0 hlog.1 hlog.2 wr).mono ?_)
   rintro e w1 ⟨rfl,hx⟩
   generalize Q0e rg0=L at *
   have X:=Lib.hid (X.out.trans hx)
   have PP:=Lib.hid (PP.out.ext hx)
   have bR:=Lib.hid (bR.out.ext hx)
   have hMo:=Lib.hid (hMo.out.below (Below.mono hx (Nat.le_refl _)))
   have g6:=Q0a hx g6
   have g17:=Q0a hx g17
   have hWr1:=hx.size
   obtain ⟨kw,capw,hvw,hkw,hws⟩:=Q48 PP.out.ws (show 0 < M.words.length by omega)
   subst hvw
   have hcapw:=Qcr PP.out.ws
   obtain ⟨vs,q1,q2,q3,q4,q5⟩:=hMo.out
   rw [Htl.out] at q2
   obtain ⟨om,omc,rfl⟩:=Q1e q2
   have hBW:wB.heap.size≤W0.heap.size:=by omega
   have hwr:IntKind.i64.wrap ((Q13 p j:Int)+(L:Int))=(Q13 p j:Int)+(L:Int):=Go.IntWalk.i64_in _ (by omega)
   have Hws:=Lib.hid hws
   have hsA:0≤(Q13 p j:Int)+(L:Int):=by omega
   have hsB:(Q13 p j:Int)+(L:Int)≤(capw:Int):=by have:=hcapw.1;omega
   have hsC:((Q13 p j:Int)+(L:Int)).toNat=Q13 p j+L:=by omega
   have hsD:¬ capw=Q13 p j:=by have:=hcapw.1;omega
   clear hx e0 e1 g0 g19 b19 hws
   go_upto_region 5 with fail
   have k6:∀ W,Ext w1 W→W.cell? ⟨g,6,none⟩=some (.slice om j omc):=fun _ h=>h.kept g6.1
   have k17:∀ W,Ext w1 W→W.cell? ⟨g,17,none⟩=some (.slice (some ⟨kw,0,none⟩) M.words.length capw):=fun _ h=>h.kept g17.1
   refine Q2d [16,17,18,19,20,21,22] 2 (by kernel_rfl) (by kernel_rfl) ?_
   repeat (first | (refine Q2o ?_ ?_;(decide)) | (refine Q2i ?_ ?_ ?_;(decide);(first | rfl | (focus (go_simp;done)));apply Exists.intro;refine ⟨fun wc hE=>?_,?_⟩;(go_simp;exact rfl);go_simp) | (refine Q2m ?_ ?_ ?_;(decide);(focus (go_simp;done));go_simp))
   refine Q2n ?_
   intro w2 hx
   clear k6 k17
   have X2:=X.out.trans hx
   have hsrc:=Qkp Hws.out Hrg.out Hrl.out (show Q13 p j+L≤M.words.length by omega) hx
   have Hsrc:=Lib.hid hsrc
   refine Q39 rfl ?_
   go_wp2_with fail
   (with_reducible refine (Q78 Hsrc.out (by omega)).mono ?_)
   rintro e w3 ⟨v',rfl,hv',hx3⟩
   obtain ⟨o3,c3,rfl⟩:=Q1e hv'
   have hx13:=hx.trans hx3
   have hat1:∀ b,(Value.slice o3 L c3).ownBlock=some b→w1.heap.size≤b:=fun b hb=>Nat.le_trans hx.size (Q47 hv' b hb)
   have hv':=Q71 hv' (show W0.heap.size≤w2.heap.size by have:=hx.size;omega)
   go_wp2
   try refine ⟨hx13,?_⟩
   refine Q39 rfl ?_
   go_wp2
   try refine ⟨hx13.alloc _,?_⟩
   refine Q23 (Q10 rfl (Q10 rfl (Q10 rfl (Q10 rfl (Q10 rfl (Q2a)))))) ?_
   refine Q3g _ rfl _ _ 31 rfl W0.heap.size 71 j0 _ 1 24 Try.underlying31 hj0 hy0 hy1 hy2 rfl (by decide) _ _ _ rfl (Q4y (Q3p q2 hx13)) (some ⟨w3.heap.size,0,none⟩) 1 1 [.slice o3 L c3] rfl ?c1 ?c3 ?c4 ?c5 ?_
   case c1=>exact Q5a (size:=1) (Blk.new w3 71 #[.slice o3 L c3]) rfl (by simp [Value.oneCell'])
   case c3=>unfold maxLen;omega
   case c4=>omega
   case c5=>have:=hx13.size;simp;omega
   intro v2' w4 hown hgrow hat
   clear hat
   obtain ⟨o5,c5,rfl⟩:=Q1e hown
   obtain ⟨v2,hv2⟩:∃ v2,v2=Value.slice o5 (j+1) c5:=⟨_,rfl⟩
   rw [← hv2] at hown
   have hgrow:(w3.alloc (.cells #[.slice o3 L c3] 71)).grownBy w4 (Value.slice om j omc).ownBlock:=hgrow
   have hxa:=hx13.alloc (.cells #[.slice o3 L c3] 71)
   have q2a:(w3.alloc (.cells #[.slice o3 L c3] 71)).ownsRow W0.heap.size 71 1 (.slice om j omc) j vs:=Q3p q2 hxa
   have HM4:Hid (Q38 w4 W0.heap.size w4.heap.size 71 2 v2 ((Q1j p M.words).take (j+1))):=Lib.hid (by
    rw [Htk.out]
    exact Qpd (wr:=w1) (w1:=w3) (out:=.slice om j omc) (by decide) q1 (by rw [Htl.out];exact q2) (fun i hi=>(q4 i hi).1) q5 hxa (Q4y (by rw [Hrl.out];exact hv')) hat1 (by rw [Htl.out];exact hown) hgrow)
   have P4:=(PP.out.ext hxa).grown_mem q2a hgrow
   have bR4:=(bR.out.ext hxa).grown hgrow (Q0j q2a (bR.out.ext hxa) (by decide))
   have X4:=(X.out.trans hxa).grown hgrow (fun k hk=>Nat.le_trans hBW (Q47 q2a k hk))
   have hWr4:W0.heap.size≤w4.heap.size:=by have:=hgrow.size;have:=hxa.size;omega
   obtain ⟨-,-,-,-,-,-,g6,-,-,-⟩:=P4.cells
   have hg4:=P4.box.lt
   have P5:=Lib.hid (P4.mem_ v2)
   have bR5:=Lib.hid (bR4.far (p:=⟨g,6,none⟩) hgr.symm v2)
   have X5:=Lib.hid (X4.setCell (p:=⟨g,6,none⟩) PP.out.hg v2)
   have HM5:Hid (Q38 (w4.setCell ⟨g,6,none⟩ v2) W0.heap.size (w4.setCell ⟨g,6,none⟩ v2).heap.size 71 2 v2 ((Q1j p M.words).take (j+1))):=Lib.hid (by
    rw [Q4d]
    exact HM4.out.far (p:=⟨g,6,none⟩) (by have:=Hgr.out;have:=HW0.out;simp only;omega) v2)
   have hWr5:W0.heap.size≤(w4.setCell ⟨g,6,none⟩ v2).heap.size:=by rw [Q4d];exact hWr4
   have HWr5:=Lib.hid hWr5
   subst hv2
   clear hown hgrow hxa q2a P4 bR4 X4 hWr4 hWr5 hx hx3 hx13 hv' hat1
   go_wp2
   go_roundw
   case rel=>exact ⟨j+1,_,by omega,by go_num,P5.out,HM5.out,X5.out,bR5.out,HWr5.out⟩
   case measure=>first | (simp [intOf];done) | (simp [intOf];omega)
  ·have hje:j=p.regs.length:=by omega
   subst hje
   have hlt2:decide ((p.regs.length:Int) < (p.regs.length:Int))=false:=by simp
   have hMo:Hid (Q38 wr W0.heap.size wr.heap.size 71 2 vM (Q1j p M.words)):=Lib.hid (by
    have:=hMo.out
    rw [List.take_of_length_le (by rw [Q9x];omega)] at this
    exact this)
   obtain ⟨-,-,g2,g3,g4,g5,g6,-,-,-⟩:=P.cells
   have r0:wr.cell? ⟨r,0,none⟩=some (.int .i64 0)∧wr.frozen? ⟨r,0,none⟩=false:=⟨by rw [bR.out.cell];rfl,bR.out.frozen _⟩
   have r1:wr.cell? ⟨r,1,none⟩=some (.int .i64 0)∧wr.frozen? ⟨r,1,none⟩=false:=⟨by rw [bR.out.cell];rfl,bR.out.frozen _⟩
   have r2:wr.cell? ⟨r,2,none⟩=some (.int .i64 0)∧wr.frozen? ⟨r,2,none⟩=false:=⟨by rw [bR.out.cell];rfl,bR.out.frozen _⟩
   have r3:wr.cell? ⟨r,3,none⟩=some (.slice none 0 0)∧wr.frozen? ⟨r,3,none⟩=false:=⟨by rw [bR.out.cell];rfl,bR.out.frozen _⟩
   have r4:wr.cell? ⟨r,4,none⟩=some (.slice none 0 0)∧wr.frozen? ⟨r,4,none⟩=false:=⟨by rw [bR.out.cell];rfl,bR.out.frozen _⟩
   have hrl:=bR.out.lt
   obtain ⟨ov,ovc,rfl⟩:=Q1e P.sn
   obtain ⟨om,omc,rfl⟩:∃ a c,vM=.slice a (Q1j p M.words).length c:=by
    obtain ⟨vs,h1,h2,-⟩:=hMo.out
    exact Q1e h2
   clear P hE hlt
   go_wp2
   have hE:=Qsl (PP.out) hMo.out (show wB.heap.size≤W0.heap.size by have:=HW0.out;have:=HBr.out;omega) bR.out HBr.out (show r < W0.heap.size by have:=HW0.out;omega) X.out rfl
   have HE:=Lib.hid hE
   clear hE
   exact bodyPost_ret (Q1y (HE.out.1) rfl _ rfl Try.underlying36 rfl (by kernel_rfl)) rfl ⟨_,rfl,HE.out.2⟩
def mayE (p:Q00) (m:List (List Int)) (fuel:Int):Int:=if (Q5e p && Q2f p m)=false then 2 else if fuel < 0∨40000 < fuel then 3 else 0
theorem Qph {p:Q00} {m:List (List Int)} {fuel:Int} (h:mayE p m fuel=0):Q5e p=true∧Q2f p m=true∧0≤fuel∧fuel≤40000:=by
 unfold mayE at h
 split at h
 ·cases h
 ·rename_i h1
  split at h
  ·cases h
  ·rename_i h2
   simp only [Bool.not_eq_false,Bool.and_eq_true] at h1
   exact ⟨h1.1,h1.2,by omega,by omega⟩
set_option maxHeartbeats 1000000 in
theorem Qpi (p:Q00) (m:List (List Int)) (fuel:Int) (v vm:Value) (w:World) (hp:Q0b w v p) (hm:Q2w w vm m) (hf:R64 fuel) :
  Calls Try.prog 69 #[v,vm,.int .i64 fuel] w fun e w'=>e=.returned (.int .i64 (mayE p m fuel))∧Ext w w':=by
 have HP:=Lib.hid hp
 have HM:=Lib.hid hm
 obtain ⟨a0,a1,a2,b0,b1,b2,rfl⟩:=Qg6 hp
 have hf0:=hf.1
 have hf1:=hf.2
 clear hp hm
 go_enter Try.func69,Try.ntmps69
 go_wp2_with fail
 obtain ⟨W,g,hg,hW,hx,bA⟩:=Q1f w #[.slice a0 a1 a2,.slice b0 b1 b2] 25
 rw [hW,hg]
 have X:=Lib.hid hx
 clear hW hg hx
 have C:=Qry p _ W (HP.out.ext X.out)
 cases hh:Q5e p
 ·rw [hh] at C
  have Hh:=Lib.hid hh
  clear hh
  (with_reducible refine C.mono ?_)
  rintro e w1 ⟨rfl,h1⟩
  have X:=Lib.hid (X.out.trans h1)
  clear h1 C
  go_wp2
  go_ret
  exact ⟨Q4x (by unfold mayE;simp [Hh.out]),X.out⟩
 rw [hh] at C
 have Hh:=Lib.hid hh
 clear hh
 (with_reducible refine C.mono ?_)
 rintro e w1 ⟨rfl,h1⟩
 have bA:=bA.ext h1
 have X:=Lib.hid (X.out.trans h1)
 have c0:w1.cell? ⟨g,0,none⟩=some (.slice a0 a1 a2):=by rw [bA.cell];rfl
 have c1:w1.cell? ⟨g,1,none⟩=some (.slice b0 b1 b2):=by rw [bA.cell];rfl
 clear h1 C
 go_wp2_with fail
 have C:=Qqq p _ m vm w1 (HP.out.ext X.out) (HM.out.ext X.out)
 cases hh:Q2f p m
 ·rw [hh] at C
  have Hf:=Lib.hid hh
  clear hh
  (with_reducible refine C.mono ?_)
  rintro e w2 ⟨rfl,h1⟩
  have X:=Lib.hid (X.out.trans h1)
  clear h1 C
  go_wp2
  go_ret
  exact ⟨Q4x (by unfold mayE;simp [Hf.out]),X.out⟩
 rw [hh] at C
 have Hf:=Lib.hid hh
 clear hh
 (with_reducible refine C.mono ?_)
 rintro e w2 ⟨rfl,h1⟩
 have X:=Lib.hid (X.out.trans h1)
 clear h1 C c0 c1
 by_cases q0:fuel < 0
 ·have Q:=Lib.hid q0
  go_wp2
  go_ret
  exact ⟨Q4x (by unfold mayE;simp [Hh.out,Hf.out,Q.out]),X.out⟩
 have q0d:decide (fuel < 0)=false:=by simpa using q0
 by_cases q1:40000 < fuel
 ·have Q:=Lib.hid q1
  go_wp2
  go_ret
  exact ⟨Q4x (by unfold mayE;simp [Hh.out,Hf.out,Q.out]),X.out⟩
 have q1d:decide (40000 < fuel)=false:=by simpa using q1
 have Q:=Lib.hid (show ¬ (fuel < 0∨40000 < fuel) by omega)
 go_wp2
 go_ret
 exact ⟨Q4x (by unfold mayE;rw [if_neg (by simp [Hh.out,Hf.out]),if_neg Q.out]),X.out⟩
theorem Qa5 {P:Program} {w:World} {g:Nat} {T t p ty:Nat} {cs:Array Value} {fn:Func} {d:TypeDesc} {v:Value} (h:Blk w g T cs) (hr:fn.results=#[.cell p ty,.tmp t]) (tmps:Array Value) (ht:tmps.getD t undef=v) (hp:tmps.getD p undef=.pointer (some ⟨g,0,none⟩))
  (hu:P.underlying ty=some d) (hd:d.isRow=true) (hi:(P.info? ty).map (·.size)=some cs.size):(results fn tmps).run P w=.ok (.tuple #[.agg cs,v]) w:=by
 have hp':tmps[p]?.getD undef=.pointer (some ⟨g,0,none⟩):=by simpa using hp
 have ht':tmps[t]?.getD undef=v:=by simpa using ht
 have hc:w.rangeAt g 0 cs.toList:=h.range 0 cs.toList (fun j v hv=>by simpa using hv)
 have:=run_loadVar_mid w g 0 ty cs.toList d hc hu hd (by simpa using hi)
 simp only [Array.toArray_toList] at this
 simp [results,hr,hp',ht',asAddr,this]
def Q9f (w:World) (g:Nat):Nat:=match w.cell? ⟨g,4,none⟩ with
 | some (.int _ n)=>n.toNat
 | _=>0
theorem Qpy {w:World} {B g:Nat} {vR vC vM vB vS vW:Value} {bases:List Int} {M:Mach} (h:MSt w B g vR vC vM vB vS vW bases M):Q9f w g=M.steps:=by
 unfold Q9f
 rw [h.cells.2.2.2.2.1.1]
 simp
theorem Qpe (w:World):Q2w w (.slice none 0 0) []:=⟨none,0,0,0,rfl,by simp,by decide,fun _=>undef,⟨fun h=>by simp at h,fun i j hi hj=>by simp at hi⟩,fun i hi=>by simp at hi⟩
theorem Qbz (w:World):Q5m w (.agg #[.int .i64 0,.int .i64 0,.int .i64 0,.slice none 0 0,.slice none 0 0]) 0 0 0 [] []:=⟨_,_,rfl,Qlk w,Qpe w⟩
theorem Ql0 {p:Q00} {F:Mach} {wB w0 w1:World} {r:Nat} {vs vm x0 x1 x2 x3 x4:Value} (hS:Q7a w1 wB.heap.size (.agg #[.int .i64 F.fin,.int .i64 F.value,.int .i64 F.steps,vs,vm]) F.fin F.value F.steps F.seen (Q1j p F.words)) (h64:Q1w F.words)
  (hR:Blk w1 r 36 #[x0,x1,x2,x3,x4]) (hr:r < wB.heap.size) (hr0:w0.heap.size≤r) (hx:Ext w0 wB) (hx1:Ext wB w1) {w2:World}
  (hw:w2=((((w1.setCell ⟨r,0,none⟩ (.int .i64 F.fin)).setCell ⟨r,1,none⟩ (.int .i64 F.value)).setCell ⟨r,2,none⟩ (.int .i64 F.steps)).setCell ⟨r,3,none⟩ vs).setCell ⟨r,4,none⟩ vm) :
  Blk w2 r 36 #[.int .i64 F.fin,.int .i64 F.value,.int .i64 F.steps,vs,vm]∧Q5m w2 (.agg #[.int .i64 F.fin,.int .i64 F.value,.int .i64 F.steps,vs,vm]) F.fin F.value F.steps F.seen (Q1j p F.words)∧Ext w0 w2:=by
 subst hw
 refine ⟨((((hR.set_ 0 _).set_ 1 _).set_ 2 _).set_ 3 _).set_ 4 _,?_,?_⟩
 ·exact (((((hS.far (p:=⟨r,0,none⟩) hr _).far (p:=⟨r,1,none⟩) hr _).far (p:=⟨r,2,none⟩) hr _).far (p:=⟨r,3,none⟩) hr _).far (p:=⟨r,4,none⟩) hr _).at_ (Qjp p _ R64 h64.mem)
 ·exact (((((hx.trans hx1).setCell hr0 _).setCell hr0 _).setCell hr0 _).setCell hr0 _).setCell hr0 _
section
variable {wB w w' : World} {g : Nat} {vG vC : Value} {V : RV} {S : Spc}
end
section
variable {wB w w' : World} {g : Nat} {vG vC vM : Value} {V : RV} {S : Spc} {ms : List (List Int)} {us : List Value}
end
def Q3u (l:List Int):Bool:=decide (l.length≤2000) && l.all fun x=>decide (0≤x)
set_option maxHeartbeats 2000000 in
theorem Qms (l:List Int) (v:Value) (w:World) (h:Q3c w v l) :
  Calls Try.prog 40 #[v] w fun e w'=>e=.returned (.bool (Q3u l))∧Ext w w':=by
 obtain ⟨h64,oa,cap,b,o,rfl,hc1,hc2,hrow⟩:=h
 have hix:=Q6b (cap:=cap) hrow.at_
 have Hrow:=Lib.hid hrow
 clear hrow h64
 by_cases hl:2000 < l.length
 ·have Ho:Hid (Q3u l=false):=Lib.hid (by unfold Q3u;simp;omega)
  have hd:decide ((2000:Int) < (l.length:Int))=true:=by simp;omega
  go_enter Try.func40,Try.ntmps40
  go_wp2
  go_ret
  rw [Ho.out]
  exact ⟨rfl,Ext.refl _⟩
 have hd:decide ((2000:Int) < (l.length:Int))=false:=by simp;omega
 go_enter Try.func40,Try.ntmps40
 go_wp2_with fail
 go_loopw [3] (fun i wr => ∃ j:Nat,j≤l.length∧i=.int .i64 j∧(∀ k,k < j→0≤l.getD k default)∧Ext w wr) (fun i _=>l.length - (intOf i).toNat)
 case atStart=>exact ⟨0,by omega,rfl,fun k hk=>by omega,Ext.refl _⟩
 case round =>
  obtain ⟨j,hj,rfl,hall,hE⟩:=hrel
  have Hall:=Lib.hid hall
  have X:=Lib.hid hE
  clear hall
  by_cases hlt:j < l.length
  ·have e0:=(Hrow.out.ext hE).one j hlt
   have hbl:=Q09 e0
   simp only at hbl
   clear hE
   by_cases hn:l.getD j default < 0
   ·have Ho:Hid (Q3u l=false):=Lib.hid (by
     unfold Q3u
     rw [Bool.and_eq_false_iff]
     right
     rw [Bool.eq_false_iff]
     intro h
     have:=List.all_eq_true.1 h _ (Q2b hlt)
     simp only [decide_eq_true_eq] at this
     omega)
    have hd2:decide (l.getD j default < 0)=true:=by simpa using hn
    generalize l.getD j default=x at *
    go_wp2
    go_ret
    rw [Ho.out]
    exact ⟨rfl,X.out⟩
   ·have hd2:decide (l.getD j default < 0)=false:=by simpa using hn
    have Hn:Hid (0≤l.getD j default):=Lib.hid (by omega)
    generalize hx:l.getD j default=x at *
    have Hx:=Lib.hid hx
    clear hn hx
    go_wp2
    go_roundw
    case rel=>exact ⟨j+1,by omega,by go_num,fun k hk=>by
     rcases Nat.lt_or_ge k j with h | h
     ·exact Hall.out k h
     ·obtain rfl:k=j:=by omega
      rw [Hx.out];exact Hn.out,X.out⟩
    case measure=>first | (simp [intOf];done) | (simp [intOf];omega)
  ·have hje:j=l.length:=by omega
   subst hje
   have Ho:Hid (Q3u l=true):=Lib.hid (by
    unfold Q3u
    simp only [Bool.and_eq_true,decide_eq_true_eq,List.all_eq_true]
    refine ⟨by omega,fun x hx=>?_⟩
    obtain ⟨k,hk,rfl⟩:=List.getElem_of_mem hx
    have:=Hall.out k hk
    simpa [hk] using this)
   have hlt2:decide ((l.length:Int) < (l.length:Int))=false:=by simp
   go_wp2
   go_ret
   rw [Ho.out]
   exact ⟨rfl,X.out⟩
theorem Qfc {w:World} {v:Value} {fin value:Int} {steps:Nat} {seen:List LSee} {mem:List (List Int)} (h:Q5m w v fin value steps seen mem) :
  ∃ a c b d,v=.agg #[.int .i64 fin,.int .i64 value,.int .i64 steps,.slice a seen.length c,.slice b mem.length d]:=by
 obtain ⟨vs,vm,rfl,⟨oa,cap,b,o,rfl,-⟩,⟨ob,capb,b2,o2,rfl,-⟩⟩:=h
 exact ⟨_,_,_,_,rfl⟩
end Go.Proofs.Yteiknefajlocoaa
