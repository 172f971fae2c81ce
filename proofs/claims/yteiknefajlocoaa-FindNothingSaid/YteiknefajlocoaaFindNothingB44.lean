/- Laid together from: SpcA, SpcB. -/
import Derived.Test.YteiknefajlocoaaFindNothingB43
import Derived.Test.YteiknefajlocoaaFindNothingB30

namespace Go.Proofs.Yteiknefajlocoaa
open Go.ChangeShapes Go.WideShapes Go.ChangeAt Go.RowKit
set_option linter.unusedVariables false
set_option linter.unusedSimpArgs false
def Q5b (G:Grp) (k:Nat) (v:Value) (l:List Int):Grp:=if (G.find? fun x=>x.1 == k).isSome then G.map (fun x=>if x.1 == k then (k,v,l) else x) else G ++ [(k,v,l)]
theorem Qr0 (G:Grp) (k:Nat) (v:Value) (l:List Int):Q1m (Q5b G k v l)=putG (Q1m G) k v:=by
 unfold Q5b putG Q1m
 rw [List.find?_map]
 have e:((fun p:Nat × Value=>p.1 == k) ∘ fun x:Nat × Value × List Int=>(x.1,x.2.1))=fun x=>x.1 == k:=rfl
 rw [e]
 cases he:G.find? (fun x=>x.1 == k) with
 | none=>simp
 | some y =>
  simp only [Option.isSome_some,Option.map_some,if_true,List.map_map]
  apply List.map_congr_left
  intro x hx
  simp only [Function.comp_apply]
  by_cases hk:(x.1 == k)=true <;> simp [hk]
theorem Qs9 (G:Grp) (k:Nat) (v:Value) (l:List Int) (n:Nat):Q3e (Q5b G k v l) n=if n=k then l else Q3e G n:=by
 unfold Q5b Q3e
 cases he:G.find? (fun x=>x.1 == k) with
 | none =>
  simp only [Option.isSome_none,Bool.false_eq_true,if_false]
  rw [List.find?_append]
  by_cases hn:n=k
  ·subst hn
   rw [he]
   simp
  ·rw [if_neg hn]
   have:List.find? (fun x:Nat × Value × List Int=>x.1 == n) [(k,v,l)]=none:=by simp;omega
   rw [this,Option.or_none]
 | some y =>
  simp only [Option.isSome_some,if_true]
  rw [List.find?_map]
  have e:((fun x:Nat × Value × List Int=>x.1 == n) ∘ fun x:Nat × Value × List Int=>if (x.1 == k)=true then (k,v,l) else x)=fun x=>x.1 == n:=by
   funext x
   simp only [Function.comp_apply]
   by_cases hk:(x.1 == k)=true
   ·rw [if_pos hk,beq_iff_eq.1 hk]
   ·rw [if_neg hk]
  rw [e]
  by_cases hn:n=k
  ·subst hn
   rw [he,if_pos rfl]
   have hy:(y.1 == n)=true:=List.find?_some (p:=fun x:Nat × Value × List Int=>x.1 == n) he
   simp only [Option.map_some,Option.getD_some]
   rw [if_pos hy]
  ·rw [if_neg hn]
   cases he2:G.find? (fun x=>x.1 == n) with
   | none=>rfl
   | some z =>
    have hz:(z.1 == n)=true:=List.find?_some (p:=fun x:Nat × Value × List Int=>x.1 == n) he2
    have hz':(z.1 == k)=false:=by
     rw [beq_iff_eq] at hz
     rw [hz]
     simpa using hn
    simp only [Option.map_some,Option.getD_some]
    rw [if_neg (by rw [hz'];simp)]
theorem Q7c.put {N:Nat} {G:Grp} {past:List (List Int)} (h:Q7c N G past) {k:Nat} (hk:k < N) (v:Value) (l:List Int):Q7c N (Q5b G k v l) (past.set k l):=by
 refine ⟨by rw [List.length_set];exact h.len,fun x hx=>?_,fun n hn=>?_⟩
 ·unfold Q5b at hx
  split at hx
  ·obtain ⟨y,hy,e⟩:=List.mem_map.1 hx
   by_cases hyk:(y.1 == k)=true
   ·rw [if_pos hyk] at e
    subst e
    exact hk
   ·rw [if_neg hyk] at e
    subst e
    exact h.lt y hy
  ·rcases List.mem_append.1 hx with hx | hx
   ·exact h.lt x hx
   ·simp only [List.mem_singleton] at hx
    subst hx
    exact hk
 ·rw [Qs9]
  by_cases hnk:n=k
  ·subst hnk
   rw [if_pos rfl]
   simp [h.len,hn]
  ·rw [if_neg hnk,← h.get n hn]
   simp [List.getD_eq_getElem?_getD,List.getElem?_set,Ne.symm hnk]
theorem Fam.insert_nil {w:World} {B:Nat} {L1 L2:List (Value × List Int)} (h:Fam w B (L1 ++ L2)):Fam w B (L1 ++ (.slice none 0 0,[]) :: L2):=by
 refine ⟨fun x hx=>?_,?_⟩
 ·rcases List.mem_append.1 hx with hx | hx
  ·exact h.own x (List.mem_append_left _ hx)
  ·rcases List.mem_cons.1 hx with rfl | hx
   ·exact World.ownsRow_nil _ _ _ _
   ·exact h.own x (List.mem_append_right _ hx)
 ·have:=h.apart
  rw [List.pairwise_append] at this ⊢
  obtain ⟨p1,p2,p3⟩:=this
  refine ⟨p1,List.Pairwise.cons (fun x hx=>by intro k hk;cases hk) p2,fun x hx y hy=>?_⟩
  rcases List.mem_cons.1 hy with rfl | hy
  ·intro k _ hk'
   cases hk'
  ·exact p3 x hx y hy
theorem Qs5 (G:Grp) (k:Nat) (hd:(G.map (·.1)).Nodup):∃ G1 G2:Grp,(∀ v l,Q5b G k v l=G1 ++ (k,v,l) :: G2) ∧
  ((∃ x,x.1=k∧G=G1 ++ x :: G2∧Q2g (Q1m G) k (.slice none 0 0)=x.2.1∧Q3e G k=x.2.2)∨(G=G1∧G2=[]∧Q2g (Q1m G) k (.slice none 0 0)=.slice none 0 0∧Q3e G k=[])):=by
 unfold Q2g Q3e Q1m
 rw [List.find?_map]
 have e:((fun p:Nat × Value=>p.1 == k) ∘ fun x:Nat × Value × List Int=>(x.1,x.2.1))=fun x=>x.1 == k:=rfl
 rw [e]
 cases he:G.find? (fun x=>x.1 == k) with
 | none=>exact ⟨G,[],fun v l=>by unfold Q5b;rw [he];rfl,.inr ⟨rfl,rfl,rfl,rfl⟩⟩
 | some x =>
  have hx:=List.mem_of_find?_eq_some he
  have hk:x.1=k:=beq_iff_eq.1 (List.find?_some (p:=fun x:Nat × Value × List Int=>x.1 == k) he)
  obtain ⟨G1,G2,hG⟩:=List.append_of_mem hx
  refine ⟨G1,G2,fun v l=>?_,.inl ⟨x,hk,hG,rfl,rfl⟩⟩
  have h1:∀ y ∈ G1,y.1≠k:=fun y hy ey=>by
   rw [hG,List.map_append,List.nodup_append] at hd
   exact hd.2.2 y.1 (List.mem_map.2 ⟨y,hy,rfl⟩) x.1 (by simp) (by rw [ey,hk])
  have h2:∀ y ∈ G2,y.1≠k:=fun y hy ey=>by
   rw [hG,List.map_append,List.nodup_append] at hd
   have:=hd.2.1
   rw [List.map_cons,List.nodup_cons] at this
   exact this.1 (List.mem_map.2 ⟨y,hy,by rw [ey,hk]⟩)
  unfold Q5b
  rw [he]
  simp only [Option.isSome_some,if_true]
  rw [hG,List.map_append,List.map_cons]
  have a1:G1.map (fun y=>if (y.1 == k)=true then (k,v,l) else y)=G1:=by
   rw [List.map_congr_left (g:=id) (fun y hy=>by simp [h1 y hy]),List.map_id]
  have a2:G2.map (fun y=>if (y.1 == k)=true then (k,v,l) else y)=G2:=by
   rw [List.map_congr_left (g:=id) (fun y hy=>by simp [h2 y hy]),List.map_id]
  rw [a1,a2,if_pos (by simpa using hk)]
section
variable {wB w w1 w2 : World} {N g r : Nat} {vR vC vB : Value} {bases : List Int} {V V' : QV} {S S' : Spc}
theorem QSt.push (h:QSt wB w N g r vR vC vB bases V S) {nn:Nat} (hn:nn < N) {v':Value} {l':List Int} (hg1:w.grownBy w1 (Q2g (Q1m V.G) nn (.slice none 0 0)).ownBlock)
  (ho:w1.ownsRow wB.heap.size 2 1 v' l'.length (l'.map (Value.int .i64))) (hat:∀ k,v'.ownBlock=some k→(Q2g (Q1m V.G) nn (.slice none 0 0)).ownBlock=some k∨w.heap.size≤k)
  (hm:MapG w2 V.bm (putG (Q1m V.G) nn v')) (hg2:w1.grownBy w2 (some V.bm)) :
  QSt wB w2 N g r vR vC vB bases { V with G:=Q5b V.G nn v' l' } { S with pl:={ S.pl with past:=S.pl.past.set nn l' } }∧Q1r w w2:=by
 have hr0:=Qar h.famG nn
 have hf:Fam w wB.heap.size ([(V.vW,S.pl.words)] ++ Q21 V.G ++ (if S.ahead=true then (V.bW,S.back.words) :: Q21 V.GB else [])):=h.fam
 have hm1:MapG w1 V.bm (Q1m V.G):=h.map.kept hg1 (h.map.ne_own hr0)
 have hblk:∀ {k:Nat} {t:TypeId} {cs:Array Value},Blk w k t cs→2 ≠ t→Blk w2 k t cs:=fun hb hne =>
  have h1:=hb.grown hg1 (Q0j hr0 hb hne)
  h1.grown hg2 (fun e=>hm1.ne_blk h1 (Option.some.inj e).symm)
 have hown:∀ {B:Nat} {e:TypeId} {s n:Nat} {v:Value} {xs:List Value},w.ownsRow B e s v n xs→2 ≠ e→w2.ownsRow B e s v n xs:=fun ho hne =>
  have h1:=Q2j ho hg1 (fun k hk=>Q30 hr0 ho hne k hk)
  Q2j h1 hg2 (fun k hk e=>hm1.ne_own h1 (by rw [e,hk]))
 obtain ⟨G1,G2,hput,hcase⟩:=Qs5 V.G nn (Qav h.map)
 have hf2:Fam w1 wB.heap.size ([(V.vW,S.pl.words)] ++ Q21 (Q5b V.G nn v' l') ++ (if S.ahead=true then (V.bW,S.back.words) :: Q21 V.GB else [])):=by
  have hL:Fam w wB.heap.size (([(V.vW,S.pl.words)] ++ Q21 G1) ++ (Q2g (Q1m V.G) nn (.slice none 0 0),Q3e V.G nn) :: (Q21 G2 ++ (if S.ahead=true then (V.bW,S.back.words) :: Q21 V.GB else []))):=by
   rcases hcase with ⟨x,-,e1,e2,e3⟩ | ⟨e1,e2,e3,e4⟩
   ·rw [e2,e3]
    rw [e1] at hf
    unfold Q21 at hf ⊢
    simpa using hf
   ·rw [e3,e4]
    apply Fam.insert_nil
    rw [e1] at hf
    rw [e2]
    simpa [Q21] using hf
  have hi:(([(V.vW,S.pl.words)] ++ Q21 G1) ++ (Q2g (Q1m V.G) nn (.slice none 0 0),Q3e V.G nn) :: (Q21 G2 ++ (if S.ahead=true then (V.bW,S.back.words) :: Q21 V.GB else [])))[([(V.vW,S.pl.words)] ++ Q21 G1).length]? = some (Q2g (Q1m V.G) nn (.slice none 0 0),Q3e V.G nn):=by
   rw [List.getElem?_append_right (Nat.le_refl _)]
   simp
  have:=hL.set_ hi hg1 ho hat
  rw [List.set_append_right _ _ (Nat.le_refl _),Nat.sub_self,List.set_cons_zero] at this
  rw [hput]
  unfold Q21 at this ⊢
  simpa using this
 have hf3:Fam w2 wB.heap.size ([(V.vW,S.pl.words)] ++ Q21 (Q5b V.G nn v' l') ++ (if S.ahead=true then (V.bW,S.back.words) :: Q21 V.GB else [])):=hf2.kept hg2 (fun x hx k hk e=>hm1.ne_own (hf2.own x hx) (by rw [e,hk]))
 have hws:=hf3.at_ (i:=0) rfl
 have hsz:=h.ext.size
 refine ⟨⟨⟨hblk h.mach.box (by decide),hown h.mach.sn (by decide),hws,hown h.mach.bs (by decide),h.mach.len,h.mach.hg⟩,hblk h.box (by decide),hf3,?_,h.past.put hn v' l',fun ea=>?_,h.ten,h.scr,?_,h.hr,h.hm⟩,fun k t cs hk hn=>hblk hk (fun e=>hn (by rw [← e];exact Q5v))⟩
 ·rw [Qr0]
  exact hm
 ·obtain ⟨⟨bb,b1,b2,b3,b4⟩,b5,b6,b7,b8⟩:=(h.back ea).grown hr0 hg1
  exact ⟨⟨bb,b1,b2.kept hg2 (fun e=>b3 (Option.some.inj e).symm),b3,b4⟩,b5,b6,b7,b8⟩
 ·exact Q8j (Q8j h.ext hg1 hsz (Q47 hr0)) hg2 (by have:=hg1.size;omega) (fun k hk=>by
   simp only [Option.some.injEq] at hk
   rw [← hk]
   exact h.hm)
end
theorem Qsg {P:Program} {o:Oper} {a:Act} {w:World} {b:Nat} {G:List (Nat × Value)} {t kt et:TypeId} {z:Value} {m x:Operand} {kk:Nat} (hM:MapG w b G) (ht:P.underlying t=some (.map kt et)) (hd:P.underlying kt=some (.int .i64)) (hz:(zeroValue et).run P w=.ok z w)
  (hop:o.op=.lookup t m x false) (hm:a.eval m=.map (some b)) (hx:a.eval x=.int .i64 (kk:Int)):(execOp a.eval o).run P w=.ok (.value (Q2g G kk z)) w:=by
 have hrun:=Qh2 hM ht hd hz kk
 simp [execOp,hop,hm,hx,hrun,Result.andThen]
theorem Qsp {P:Program} {ops:Array Oper} {rest:List Oper} {a:Act} {R:World→World→Prop} {W:World} {hs:List Nat} {Zc:Act→Prop} {k:Nat} {o:Oper} {b:Nat} {G:List (Nat × Value)} {t kt et:TypeId} {z v:Value} {kk:Nat} (hM:∀ w,R W w→MapG w b G) (ht:P.underlying t=some (.map kt et)) (hd:P.underlying kt=some (.int .i64)) (hz:∀ w,(zeroValue et).run P w=.ok z w)
  (hv:Q2g G kk z=v) (hh:hs.contains k=false) (hw:Region.wanted o (yielded ops a.tmps)=true) (ho:∃ m x,o.op=.lookup t m x false∧a.eval m=.map (some b)∧a.eval x=.int .i64 (kk:Int))
  (h:Q4a R P ops W hs Zc (k+1) rest (a.put o.dst v)):Q4a R P ops W hs Zc k (o :: rest) a:=by
 obtain ⟨m,x,ho,hm,hx⟩:=ho
 subst hv
 exact Qiz hh hw ⟨_,fun w hE=>Qsg (hM w hE) ht hd (hz w) ho hm hx,h⟩
theorem Qtn {w:World} {B:Nat} {v:Value} {l:List Int} {G:Grp} {L:List (Value × List Int)} (h:Fam w B ((v,l) :: Q21 G ++ L)) (n:Nat):∀ k,(Q2g (Q1m G) n (.slice none 0 0)).ownBlock=some k→v.ownBlock≠some k:=by
 intro k hk hv
 unfold Q2g Q1m at hk
 rw [List.find?_map] at hk
 cases he:List.find? ((fun p=>p.1 == n) ∘ fun x:Nat × Value × List Int=>(x.1,x.2.1)) G with
 | none =>
  rw [he] at hk
  cases hk
 | some x =>
  rw [he] at hk
  have hx:=List.mem_of_find?_eq_some he
  have hp:=h.apart
  rw [List.cons_append,List.pairwise_cons] at hp
  exact hp.1 (x.2.1,x.2.2) (List.mem_append_left _ (List.mem_map.2 ⟨x,hx,rfl⟩)) k hv hk
section
variable {wB w : World} {N g r : Nat} {vR vC vB : Value} {V : QV} {S : Spc}
def badQ (p:Q00) (i:LIns) (S:Spc):Bool := !Q2v p i (Q1a S.pl.regs i) && !S.ahead
theorem QSt.aheadCell {bases:List Int} (h:QSt wB w N g r vR vC vB bases V S):w.cell? ⟨r,3,none⟩=some (.bool S.ahead)∧w.frozen? ⟨r,3,none⟩=false:=⟨by rw [h.box.cell];rfl,h.box.frozen _⟩
theorem QSt.basesCell {bases:List Int} (h:QSt wB w N g r vR vC vB bases V S):w.cell? ⟨g,19,none⟩=some vB:=by
 obtain ⟨-,-,-,-,-,-,-,-,-,g19⟩:=h.mach.cells
 exact g19.1
set_option maxRecDepth 100000 in
set_option maxHeartbeats 8000000 in
theorem Qna {p:Q00} {M:Nat} (i:LIns) (hw:i.op=3∨i.op=4∨i.op=5∨i.op=6) (hi:Q01 p 10 i=true) (hfi:i.fits) (hr:Q02 p.regs=true) (hp:Q5n wB vR p.regs) (hm:SMid p M S) (hM:M≤1000000)
  (hat:S.pl.at_ < p.code.length) (hcl:p.code.length≤1000000) (hsn:S.seen.length≤900000) (h:QSt wB w N g r vR vC vB (Q2p p) V S) :
  Calls Try.prog 120 #[.pointer (some ⟨r,0,none⟩),insV i] w (Q7b wB w N g r vR vC vB (Q2p p) (if badQ p i S=true then S else Q3h p i S) (.bool (!badQ p i S))):=by
 obtain ⟨ha,hb,hc0,hc1⟩:=Qjr hi hw
 have hbe:=Qbe p i.c.toNat hc1
 have htt:=Q8x hr
 have hlen:=Q3o hr
 have HP:=Lib.hid hp
 have Hm:=Lib.hid hm
 have H:=Lib.hid h
 have Hr:=Lib.hid hr
 have Ha:=Lib.hid ha
 have Hb:=Lib.hid hb
 have Hc1:=Lib.hid hc1
 have Hsn:=Lib.hid hsn
 have Hat:=Lib.hid hat
 have Hw:=Lib.hid hw
 have HIn:Hid (∀ x,Q2v p i x=(decide (0≤x) && decide (x < (Q0e (p.regs.getD i.c.toNat default):Nat)))):=Lib.hid fun x=>rfl
 have HB0:Hid (badQ p i S=(!Q2v p i (Q1a S.pl.regs i) && !S.ahead)):=Lib.hid rfl
 generalize hT:Q3h p i S=T at *
 have HT:=Lib.hid hT
 generalize hbq:badQ p i S=bq at *
 generalize hSR:(if bq=true then S else T)=SR at *
 generalize hbr:(!bq)=br at *
 have HSR:=Lib.hid hSR
 have Hbr:=Lib.hid hbr
 obtain ⟨op,a,b,c,n⟩:=i
 simp only at ha hb hc0 hc1 hbe
 obtain ⟨a0,a1⟩:=Q08.1 ha
 have hrl:=h.box.lt
 have hgl:=h.mach.box.lt
 unfold insV
 simp only
 clear hi hr hfi hw hm h hsn hT hp hbq hSR hbr
 go_enter Try.func120,Try.ntmps120
 go_upto_region 1 with fail
 obtain ⟨w0,e,he,hW,hs0,hx0,c0,c1,c2,c3,c4⟩:=new5 w 70 (.int .i64 op) (.int .i64 a) (.int .i64 b) (.int .i64 c) (.int .i64 n)
 have bI:Blk w0 e 70 #[.int .i64 op,.int .i64 a,.int .i64 b,.int .i64 c,.int .i64 n]:=by rw [← hW,← he];exact Blk.new _ _ _
 rw [hW,he]
 have X:=Lib.hid hx0
 have P0:=H.out.extend hx0
 have hrl0:=P0.box.lt
 have hgl0:=P0.mach.box.lt
 have hel0:=bI.lt
 have k0:∀ Wx,Ext w0 Wx→Wx.cell? ⟨r,0,none⟩=some (.pointer (some ⟨g,0,none⟩)):=fun _ h=>h.kept P0.ptrCell
 have q0:∀ Wx,Ext w0 Wx→Wx.cell? ⟨e,0,none⟩=some (.int .i64 op):=fun _ h=>h.kept c0
 have q1:∀ Wx,Ext w0 Wx→Wx.cell? ⟨e,1,none⟩=some (.int .i64 a):=fun _ h=>h.kept c1
 have q2:∀ Wx,Ext w0 Wx→Wx.cell? ⟨e,2,none⟩=some (.int .i64 b):=fun _ h=>h.kept c2
 have q3:∀ Wx,Ext w0 Wx→Wx.cell? ⟨e,3,none⟩=some (.int .i64 c):=fun _ h=>h.kept c3
 have q4:∀ Wx,Ext w0 Wx→Wx.cell? ⟨e,4,none⟩=some (.int .i64 n):=fun _ h=>h.kept c4
 have CI:∀ Wx,Ext w0 Wx→Hid (Calls Try.prog 135 #[.pointer (some ⟨g,0,none⟩),.agg #[.int .i64 op,.int .i64 a,.int .i64 b,.int .i64 c,.int .i64 n]] Wx fun e w'=>e=.returned (.int .i64 (Q1a S.pl.regs ⟨op,a,b,c,n⟩))∧Ext Wx w'):=fun Wx hE=>Lib.hid (Q1c Wx (P0.mach.ext hE) ⟨op,a,b,c,n⟩ Hb.out)
 clear hW hs0 hx0 c0 c1 c2 c3 c4 hrl hgl P0
 generalize hx:Q1a S.pl.regs ⟨op,a,b,c,n⟩=x at *
 go_upto_region 2 with fail
 refine Q0z 7 (by kernel_rfl) (by kernel_rfl) ?_
 simp only [List.take_succ_cons,List.take_zero,List.drop_succ_cons,List.drop_zero]
 repeat (first | (refine Q0p ?_ ?_ (fun wc hE=>?_) ?_;(decide);rfl;(focus (go_simp;done));go_simp) | (refine Q0h ?_ ?_ ?_;(decide);(first | rfl | (focus (go_simp;done)));apply Exists.intro;refine ⟨fun wc hE=>?_,?_⟩;(go_simp;exact rfl);go_simp) | (refine Q0q ?_ ?_ ?_;(decide);(first | rfl | (focus (go_simp;done)));apply Exists.intro;refine ⟨fun wc hE=>?_,?_⟩;(go_simp;(first | (with_reducible exact Q1p ((CI _ hE).out))));go_simp) | (refine Q0n ?_ ?_ ?_;(decide);(focus (go_simp;done));go_simp))
 refine Q0o ?_
 intro w1 hx1
 have X:=Lib.hid (X.out.trans hx1)
 have bI:=bI.ext hx1
 have P1:=H.out.extend X.out
 have hrl1:=P1.box.lt
 have hgl1:=P1.mach.box.lt
 clear k0 q0 q1 q2 q3 q4 CI hx1 hrl0 hgl0 hel0
 have hel1:=bI.lt
 have HInx:=Lib.hid (HIn.out x)
 try simp only at HInx
 generalize hrr:p.regs.getD c.toNat default=rr at *
 have CN:∀ Wx,Ext w1 Wx→Hid (Calls Try.prog 136 #[.pointer (some ⟨g,0,none⟩),.int .i64 c,.int .i64 x] Wx fun e w'=>e=.returned (.bool (decide (0≤x) && decide (x < (Q0e rr:Nat))))∧Ext Wx w'):=fun Wx hE=>Lib.hid (by
  rw [← hrr]
  exact Qr8 Wx (P1.mach.ext hE) p (HP.out.ext ((P1.ext).trans hE)) Hr.out c x hc0 Hc1.out)
 have k0:∀ Wx,Ext w1 Wx→Wx.cell? ⟨r,0,none⟩=some (.pointer (some ⟨g,0,none⟩)):=fun _ h=>h.kept P1.ptrCell
 have q3:∀ Wx,Ext w1 Wx→Wx.cell? ⟨e,3,none⟩=some (.int .i64 c):=fun _ h=>h.kept (by rw [bI.cell];rfl)
 rw [← HInx.out] at CN
 clear hrr P1
 go_upto_region 3 with fail
 refine Q0z 9 (by kernel_rfl) (by kernel_rfl) ?_
 simp only [List.take_succ_cons,List.take_zero,List.drop_succ_cons,List.drop_zero]
 repeat (first | (refine Q0p ?_ ?_ (fun wc hE=>?_) ?_;(decide);rfl;(focus (go_simp;done));go_simp) | (refine Q0h ?_ ?_ ?_;(decide);(first | rfl | (focus (go_simp;done)));apply Exists.intro;refine ⟨fun wc hE=>?_,?_⟩;(go_simp;exact rfl);go_simp) | (refine Q0q ?_ ?_ ?_;(decide);(first | rfl | (focus (go_simp;done)));apply Exists.intro;refine ⟨fun wc hE=>?_,?_⟩;(go_simp;(first | (with_reducible exact Q1p ((CN _ hE).out))));go_simp) | (refine Q0n ?_ ?_ ?_;(decide);(focus (go_simp;done));go_simp))
 refine Q0o ?_
 intro w2 hx2
 have X:=Lib.hid (X.out.trans hx2)
 have bI:=bI.ext hx2
 have hel2:=bI.lt
 have BI:=Lib.hid bI
 have P2:=Lib.hid (H.out.extend X.out)
 have hrl2:=P2.out.box.lt
 have hgl2:=P2.out.mach.box.lt
 have g3:=P2.out.aheadCell
 clear k0 q3 CN hx2 bI hrl1 hgl1 hel1
 have Hxx:=Lib.hid hx
 clear hx
 generalize hins:Q2v p ⟨op,a,b,c,n⟩ x=ins at *
 have HInx0:=Lib.hid hins
 clear hins
 by_cases hbad:ins=false∧S.ahead=false
 ·obtain ⟨rfl,ha⟩:=hbad
  rw [ha] at g3
  obtain rfl:bq=true:=by rw [HB0.out,ha];rfl
  have HXX:=Lib.hid (Q1r.ofExt X.out)
  clear ha HB0
  go_wp2
  go_ret
  rw [← HSR.out,← Hbr.out]
  exact ⟨rfl,V,P2.out,HXX.out⟩
 ·obtain rfl:bq=false:=by
   rw [HB0.out]
   cases ins <;> cases hh:S.ahead <;> simp_all
  have hnf:(!ins && !S.ahead)=false:=by
   cases ins <;> cases hh:S.ahead <;> simp_all
  have HTr:Hid (T=Q60 ⟨op,a,b,c,n⟩ S (wrap64 ((Q13 p c.toNat:Nat)+x))):=Lib.hid (by
   rw [← HT.out,Qjt (by rw [Hxx.out,HInx0.out];exact hnf),Hxx.out])
  have hcnd:(ins=true)∨(ins=false∧S.ahead=true):=by
   cases ins <;> cases hh:S.ahead <;> simp_all
  obtain ⟨kb,capb,hvb,hkb,hbs⟩:=own_at' P2.out.mach.bs (show 0 < (Q2p p).length by rw [Q8r];omega)
  obtain ⟨b19,-⟩:=hbs c.toNat _ (by rw [Q8r];exact Hc1.out) (Qj7 p Hc1.out)
  have hvb':=hvb
  rw [Q8r] at hvb'
  have hbl:=Q09 b19
  simp only at hbl
  have hcl2:c < (p.regs.length:Int):=by have:=Hc1.out;omega
  have hixb:=Q6b (oa:=some ⟨kb,0,none⟩) (n:=p.regs.length) (b:=kb) (o:=0) (cap:=capb) (fun _=>rfl)
  have k0:∀ Wx,Ext w2 Wx→Wx.cell? ⟨r,0,none⟩=some (.pointer (some ⟨g,0,none⟩)):=fun _ h=>h.kept P2.out.ptrCell
  have k19:∀ Wx,Ext w2 Wx→Wx.cell? ⟨g,19,none⟩=some (.slice (some ⟨kb,0,none⟩) p.regs.length capb):=fun _ h=>h.kept (by have:=P2.out.basesCell;rw [hvb'] at this;exact this)
  have kb0:∀ Wx,Ext w2 Wx→Wx.cell? ⟨kb,c.toNat,none⟩=some (.int .i64 (Q13 p c.toNat:Nat)):=fun _ h=>h.kept b19
  have q3:∀ Wx,Ext w2 Wx→Wx.cell? ⟨e,3,none⟩=some (.int .i64 c):=fun _ h=>h.kept (by rw [BI.out.cell];rfl)
  generalize hbo:Q13 p c.toNat=bo at *
  have hwc:IntKind.i64.wrap (x+(bo:Int))=wrap64 ((bo:Int)+x):=by rw [Int.add_comm];exact Q9m _
  generalize wrap64 ((bo:Int)+x)=m at *
  clear hvb hvb' hbs b19 hnf hbad HB0
  rcases hcnd with rfl | ⟨rfl,ha⟩
  all_goals
   try rw [ha] at g3
   try clear ha
   go_upto_region 6 with fail
   refine Q0z 14 (by kernel_rfl) (by kernel_rfl) ?_
   simp only [List.take_succ_cons,List.take_zero,List.drop_succ_cons,List.drop_zero]
   repeat (first | (refine Q0p ?_ ?_ (fun wc hE=>?_) ?_;(decide);rfl;(focus (go_simp;done));go_simp) | (refine Q0h ?_ ?_ ?_;(decide);(first | rfl | (focus (go_simp;done)));apply Exists.intro;refine ⟨fun wc hE=>?_,?_⟩;(go_simp;exact rfl);go_simp) | (refine Q0q ?_ ?_ ?_;(decide);(first | rfl | (focus (go_simp;done)));apply Exists.intro;refine ⟨fun wc hE=>?_,?_⟩;(go_simp;(first | fail));go_simp) | (refine Q0n ?_ ?_ ?_;(decide);(focus (go_simp;done));go_simp))
   refine Q0o ?_
   intro w3 hx3
   have X3:=Lib.hid (X.out.trans hx3)
   have P3:=H.out.extend X3.out
   have bI3:=BI.out.ext hx3
   have hrl3:=P3.box.lt
   have hgl3:=P3.mach.box.lt
   have hel3:=bI3.lt
   have c0:w3.cell? ⟨e,0,none⟩=some (.int .i64 op):=by rw [bI3.cell];rfl
   have c1:w3.cell? ⟨e,1,none⟩=some (.int .i64 a):=by rw [bI3.cell];rfl
   have c2:w3.cell? ⟨e,2,none⟩=some (.int .i64 b):=by rw [bI3.cell];rfl
   have c3:w3.cell? ⟨e,3,none⟩=some (.int .i64 c):=by rw [bI3.cell];rfl
   have c4:w3.cell? ⟨e,4,none⟩=some (.int .i64 n):=by rw [bI3.cell];rfl
   have BI3:=Lib.hid bI3
   clear k0 k19 kb0 q3 hx3 P3 bI3 hwc hrl2 hgl2 hel2 g3
   go_wp2_with fail
   have CP:=Qcl ⟨op,a,b,c,n⟩ w3
   simp only [insV] at CP
   (with_reducible refine CP.mono ?_)
   clear CP
   rintro er w4 ⟨rfl,hx4⟩
   have X4:=Lib.hid (X3.out.trans hx4)
   have BI4:=Lib.hid (BI3.out.ext hx4)
   have P4:=Lib.hid (H.out.extend X4.out)
   have g0:=P4.out.ptrCell
   have hrl4:=P4.out.box.lt
   have hgl4:=P4.out.mach.box.lt
   clear c0 c1 c2 c3 c4 hx4 hrl3 hgl3 hel3
   cases hput:Q0s ⟨op,a,b,c,n⟩
   ·have Hput:=Lib.hid hput
    clear hput
    go_wp2_with fail
    have C:=Qaa P4.out 2 m 0 (Nat.le_trans Hsn.out (by omega))
    (with_reducible refine C.mono ?_)
    clear C
    rintro er w5 ⟨rfl,V5,P5,T5⟩
    clear g0
    have BI5:=T5 _ _ _ BI4.out Q74
    have T5:=Lib.hid ((Q1r.ofExt X4.out).trans T5)
    have hrl5:=P5.box.lt
    have hgl5:=P5.mach.box.lt
    have hel5:=BI5.lt
    obtain ⟨ow,cw,hvW⟩:=Q1e P5.mach.ws
    have hvW:V5.vW=.slice ow S.pl.words.length cw:=hvW
    have g0:=P5.ptrCell
    have g17:w5.cell? ⟨g,17,none⟩=some (.slice ow S.pl.words.length cw):=by rw [P5.wordsCell,hvW]
    have c0:w5.cell? ⟨e,0,none⟩=some (.int .i64 op):=by rw [BI5.cell];rfl
    have c1:w5.cell? ⟨e,1,none⟩=some (.int .i64 a):=by rw [BI5.cell];rfl
    have c2:w5.cell? ⟨e,2,none⟩=some (.int .i64 b):=by rw [BI5.cell];rfl
    have c3:w5.cell? ⟨e,3,none⟩=some (.int .i64 c):=by rw [BI5.cell];rfl
    have c4:w5.cell? ⟨e,4,none⟩=some (.int .i64 n):=by rw [BI5.cell];rfl
    have g18:=P5.atCell
    have g18:w5.cell? ⟨g,18,none⟩=some (.int .i64 (S.pl.at_:Int))∧w5.frozen? ⟨g,18,none⟩=false:=g18
    have BI5:=Lib.hid BI5
    have hcw:(S.pl.at_:Int)+1≤1000000:=by omega
    have hwl:(S.pl.words.length:Int)≤384:=by have:=Hm.out.pl.wlen;omega
    have hrg:=P5.rg
    have hgr:=Ne.symm hrg
    have P5:=Lib.hid P5
    have hq2:m < 0∨(0≤m∧(S.pl.words.length:Int)≤m)∨(0≤m∧m < (S.pl.words.length:Int)):=by omega
    rcases hq2 with m0 | ⟨m0,m1⟩ | ⟨m0,m1⟩
    rotate_right 1
    ·have hmw:0≤m∧m < (S.pl.words.length:Int):=⟨m0,m1⟩
     have HTo:=Lib.hid (HTr.out.trans (Qm7 Hput.out hmw))
     have hmn:m.toNat < S.pl.words.length:=by omega
     have C:=Qnj (m:=M) ⟨op,a,b,c,n⟩ m.toNat P5.out Hm.out.pl (by omega) hM Ha.out hmn Hat.out hcl
     rw [show ((m.toNat:Nat):Int)=m by omega] at C
     simp only [insV] at C
     have C:=Lib.hid C
     clear hmw
     go_wp2_with fail
     (with_reducible refine C.out.mono ?_)
     clear C
     rintro er w6 ⟨rfl,V6,P6,T6⟩
     have P6:=Lib.hid P6
     have T6:=Lib.hid (T5.out.trans T6)
     clear g0 g17 c0 c1 c2 c3 c4 g18
     go_wp2
     go_ret
     obtain rfl:br=true:=Hbr.out.symm
     have hSRT:SR=T:=by rw [← HSR.out];rfl
     rw [hSRT,HTo.out]
     exact ⟨rfl,_,P6.out,T6.out⟩
    all_goals
     have HTo:=Lib.hid (HTr.out.trans (Qm9 Hput.out (by omega)))
     try (have hd:decide ((0:Int)≤m)=false:=by simp;omega)
     try (have hd2:decide (m < (S.pl.words.length:Int))=false:=by simp;omega)
     have k0:∀ Wx,Ext w5 Wx→Wx.cell? ⟨r,0,none⟩=some (.pointer (some ⟨g,0,none⟩)):=fun _ h=>h.kept g0
     have k1:∀ Wx,Ext w5 Wx→Wx.cell? ⟨e,1,none⟩=some (.int .i64 a):=fun _ h=>h.kept c1
     have hixr:=Q53
     go_upto_region 20 with fail
     clear g0 g17 c0 c1 c2 c3 c4 g18
     refine Q2d [10] 0 (by kernel_rfl) (by kernel_rfl) ?_
     repeat (first | (refine Q2o ?_ ?_;(decide)) | (refine Q2i ?_ ?_ ?_;(decide);(first | rfl | (focus (go_simp;done)));apply Exists.intro;refine ⟨fun wc hE=>?_,?_⟩;(go_simp;exact rfl);go_simp) | (refine Q2m ?_ ?_ ?_;(decide);(focus (go_simp;done));go_simp))
     refine Q2n ?_
     intro w6 hx6
     have P6:=P5.out.extend hx6
     have gA:=Q7o P6 Ha.out
     have hrl6:=P6.box.lt
     have hgl6:=P6.mach.box.lt
     have g0:=P6.ptrCell
     have g18:w6.cell? ⟨g,18,none⟩=some (.int .i64 (S.pl.at_:Int))∧w6.frozen? ⟨g,18,none⟩=false:=P6.atCell
     have P7:=P6.reg_ Ha.out 0
     have T7:=(T5.out.ext hx6).trans (P6.stayM (7+a.toNat) (.int .i64 0))
     have P8:=P7.at__ (S.pl.at_+1)
     have T8:=T7.trans (P7.stayM 18 (.int .i64 ((S.pl.at_+1:Nat):Int)))
     rw [show ((S.pl.at_+1:Nat):Int)=(S.pl.at_:Int)+1 by omega] at P8 T8
     have P8:=Lib.hid P8
     have T8:=Lib.hid T8
     have hne18:7+a.toNat≠18:=by omega
     generalize rg _ a=ra at gA
     clear k0 k1 hx6 P6 P7 T7
     refine Q23 (Q10 rfl (Q2a)) ?_
     go_wp2
     go_ret
     obtain rfl:br=true:=Hbr.out.symm
     have hSRT:SR=T:=by rw [← HSR.out];rfl
     rw [hSRT,HTo.out]
     exact ⟨rfl,_,P8.out,T8.out⟩
   ·have Hput:=Lib.hid hput
    clear hput
    go_wp2_with fail
    have C:=Qaa P4.out 2 m 1 (Nat.le_trans Hsn.out (by omega))
    (with_reducible refine C.mono ?_)
    clear C
    rintro er w5 ⟨rfl,V5,P5,T5⟩
    clear g0
    have BI5:=T5 _ _ _ BI4.out Q74
    have T5:=Lib.hid ((Q1r.ofExt X4.out).trans T5)
    have hrl5:=P5.box.lt
    have hgl5:=P5.mach.box.lt
    have hel5:=BI5.lt
    obtain ⟨ow,cw,hvW⟩:=Q1e P5.mach.ws
    have hvW:V5.vW=.slice ow S.pl.words.length cw:=hvW
    have g0:=P5.ptrCell
    have g17:w5.cell? ⟨g,17,none⟩=some (.slice ow S.pl.words.length cw):=by rw [P5.wordsCell,hvW]
    have c0:w5.cell? ⟨e,0,none⟩=some (.int .i64 op):=by rw [BI5.cell];rfl
    have c1:w5.cell? ⟨e,1,none⟩=some (.int .i64 a):=by rw [BI5.cell];rfl
    have c2:w5.cell? ⟨e,2,none⟩=some (.int .i64 b):=by rw [BI5.cell];rfl
    have c3:w5.cell? ⟨e,3,none⟩=some (.int .i64 c):=by rw [BI5.cell];rfl
    have c4:w5.cell? ⟨e,4,none⟩=some (.int .i64 n):=by rw [BI5.cell];rfl
    have g18:=P5.atCell
    have g18:w5.cell? ⟨g,18,none⟩=some (.int .i64 (S.pl.at_:Int))∧w5.frozen? ⟨g,18,none⟩=false:=g18
    have BI5:=Lib.hid BI5
    have hcw:(S.pl.at_:Int)+1≤1000000:=by omega
    have hwl:(S.pl.words.length:Int)≤384:=by have:=Hm.out.pl.wlen;omega
    have hrg:=P5.rg
    have hgr:=Ne.symm hrg
    have P5:=Lib.hid P5
    have hq2:m < 0∨(0≤m∧(S.pl.words.length:Int)≤m)∨(0≤m∧m < (S.pl.words.length:Int)):=by omega
    rcases hq2 with m0 | ⟨m0,m1⟩ | ⟨m0,m1⟩
    rotate_right 1
    ·have hmw:0≤m∧m < (S.pl.words.length:Int):=⟨m0,m1⟩
     have HTo:=Lib.hid (HTr.out.trans (Qm8 Hput.out hmw))
     obtain ⟨mn,rfl⟩:∃ mn:Nat,m=(mn:Int):=⟨m.toNat,by omega⟩
     have hmn:mn < S.pl.words.length:=by omega
     have Hmn:=Lib.hid hmn
     have hN:mn < N:=by rw [← P5.out.past.len];show mn < S.pl.past.length;rw [Hm.out.pl.plen,← Hm.out.pl.wlen];exact hmn
     have HN:=Lib.hid hN
     have hd0:decide ((0:Int)≤(mn:Int))=true:=by simp
     have hd1:decide ((mn:Int) < (S.pl.words.length:Int))=true:=by simpa using hmn
     obtain ⟨i0,hi0,hz0,hz1,hz2⟩:=info_parts Qb0
     obtain ⟨kw,cw',hvW',hkw,hcell⟩:=own_at' P5.out.mach.ws (show 0 < S.pl.words.length by omega)
     obtain ⟨rfl,rfl⟩:ow=some ⟨kw,0,none⟩∧cw=cw':=by
      have e:=hvW.symm.trans hvW'
      simpa using e
     obtain ⟨rc,-⟩:=hcell mn (.int .i64 (S.pl.words.getD mn 0)) hmn (by
      show (S.pl.words.map (Value.int .i64))[mn]? = some (.int .i64 (S.pl.words.getD mn 0))
      simp [hmn])
     have hkl5:=Q09 rc
     simp only at hkl5
     have hfd:Q3e V5.G mn=S.pl.past.getD mn []:=(P5.out.past.get mn hN).symm
     have hrow5:=Qar P5.out.famG mn
     rw [hfd] at hrow5
     obtain ⟨ol,cl,hl⟩:=Q1e hrow5
     rw [hl] at hrow5
     have HL:=Lib.hid hl
     have Hrow5:=Lib.hid hrow5
     have hll:=(Hm.out.pl.row mn).1
     have hix:∀ W,(Instr.indexAt 71 (.slice (some ⟨kw,0,none⟩) S.pl.words.length cw) (.int .i64 (mn:Int))).run Try.prog W=.ok (.pointer (some ⟨kw,mn,none⟩)) W:=fun W=>by
      have:=Qb1 W kw S.pl.words.length cw (mn:Int) (by omega) (by omega)
      simpa using this
     have hap:=Qtn P5.out.fam mn
     rw [hl] at hap
     have hnr:(Value.slice ol (S.pl.past.getD mn []).length cl).ownBlock≠some r:=fun e=>Q0j hrow5 P5.out.box (by decide) e.symm
     have hng:(Value.slice ol (S.pl.past.getD mn []).length cl).ownBlock≠some g:=fun e=>Q0j hrow5 P5.out.mach.box (by decide) e.symm
     have hnw:(Value.slice ol (S.pl.past.getD mn []).length cl).ownBlock≠some kw:=fun e=>hap kw e (by rw [hvW];rfl)
     have hnm:(Value.slice ol (S.pl.past.getD mn []).length cl).ownBlock≠some V5.bm:=P5.out.map.ne_own hrow5
     have HE:=Lib.hid (Q0j hrow5 BI5.out (by decide))
     generalize hxv:S.pl.words.getD mn 0=x0 at *
     generalize hlv:S.pl.past.getD mn []=l at *
     have Hxv:=Lib.hid hxv
     have Hlv:=Lib.hid hlv
     have k0:∀ Wx,Off (.slice ol l.length cl) w5 Wx→Wx.cell? ⟨r,0,none⟩=some (.pointer (some ⟨g,0,none⟩)):=fun _ h=>h.kept g0 hnr
     have k2:∀ Wx,Off (.slice ol l.length cl) w5 Wx→Wx.cell? ⟨r,2,none⟩=some (.map (some V5.bm)):=fun _ h=>h.kept P5.out.pastCell.1 hnr
     have k17:∀ Wx,Off (.slice ol l.length cl) w5 Wx→Wx.cell? ⟨g,17,none⟩=some (.slice (some ⟨kw,0,none⟩) S.pl.words.length cw):=fun _ h=>h.kept g17 hng
     have kc:∀ Wx,Off (.slice ol l.length cl) w5 Wx→Wx.cell? ⟨kw,mn,none⟩=some (.int .i64 x0):=fun _ h=>h.kept rc hnw
     have hpu:=Qgd
     have hz:=Qeh
     have HM5:Hid (∀ w,Off (.slice ol l.length cl) w5 w→MapG w V5.bm (Q1m V5.G)):=Lib.hid fun w h=>P5.out.map.turn h hnm
     have hbB:=P5.out.ext.size
     clear hmw hxv hlv hvW hvW' hcell rc hfd hl hrow5 hap
     go_upto_region 17 with fail
     clear g0 g17 c0 c1 c2 c3 c4 g18 hd0 hd1
     refine Qmk (R:=Off (.slice ol l.length cl)) [22,23,24] 2 (Turn.refl _) (Turn.ofExt (Ext.refl _).drew) (by kernel_rfl) (by kernel_rfl) ?_
     repeat (first | (refine Qsq ?_ ?_;(decide)) | (refine Qsp (kk:=mn) HM5.out hpu Try.underlying3 hz HL.out ?_ ?_ ?_ ?_;(decide);(first | rfl | (focus (go_simp;done)));exact ⟨_,_,rfl,rfl,rfl⟩;go_simp) | (refine Qiz ?_ ?_ ?_;(decide);(first | rfl | (focus (go_simp;done)));apply Exists.intro;refine ⟨fun wc hE=>?_,?_⟩;(go_simp;exact rfl);go_simp) | (refine Qsn ?_ ?_ ?_;(decide);(focus (go_simp;done));go_simp))
     refine Qso ?_
     clear k0 k2 k17 kc
     have HX6:=Lib.hid ((Ext.refl w5).drew)
     have h56:=HX6.out.size
     generalize w5.drew=w6 at *
     refine Qel rfl ?_
     go_wp2
     refine ⟨Turn.ofExt (HX6.out.alloc _),?_⟩
     refine Qel rfl ?_
     have hx7:=HX6.out.alloc (.cells #[.int .i64 x0] 2)
     refine Q3g _ rfl (.tmp 94) (.tmp 106) 71 rfl wB.heap.size 2 i0 _ 1 8 Try.underlying71 hi0 hz0 hz1 hz2 rfl (by decide) _ l.length (l.map (Value.int .i64)) rfl (Q3p Hrow5.out hx7) (some ⟨w6.heap.size,0,none⟩) 1 1 [.int .i64 x0] rfl ?d1 ?d3 ?d4 ?d5 ?_
     case d1=>exact Q5a (size:=1) (Blk.new w6 2 #[.int .i64 x0]) rfl (by simp [Value.oneCell'])
     case d3=>unfold maxLen;omega
     case d4=>omega
     case d5=>simp;omega
     intro v8 w8 hown hgrow hat
     obtain ⟨o8,c8,rfl⟩:=Q1e hown
     have hgrow:(w6.alloc (.cells #[.int .i64 x0] 2)).grownBy w8 (Value.slice ol l.length cl).ownBlock:=hgrow
     have HOff:Hid (Off (.slice ol l.length cl) w5 w8):=Lib.hid ((Turn.ofExt (S:=fun j=>(Value.slice ol l.length cl).ownBlock=some j) hx7).trans (Turn.grown hgrow) (fun j _ e=>e))
     have P7:=P5.out.extend hx7
     have hown':w8.ownsRow wB.heap.size 2 1 (.slice o8 (l.length+1) c8) (l ++ [x0]).length ((l ++ [x0]).map (Value.int .i64)):=by simpa using hown
     have hat':∀ k,(Value.slice o8 (l.length+1) c8).ownBlock=some k→(Q2g (Q1m V5.G) mn (.slice none 0 0)).ownBlock=some k∨(w6.alloc (.cells #[.int .i64 x0] 2)).heap.size≤k:=fun k hk=>by
      rw [HL.out]
      rcases hat with e | e
      ·left;rw [e] at hk;exact hk
      ·right;rw [e] at hk;exact Nat.le_of_eq (Option.some.inj hk)
     have HPush:Hid (∀ w9,MapG w9 V5.bm (putG (Q1m V5.G) mn (.slice o8 (l.length+1) c8))→w8.grownBy w9 (some V5.bm)→QSt wB w9 N g r vR vC vB (Q2p p) { V5 with G:=Q5b V5.G mn (.slice o8 (l.length+1) c8) (l ++ [x0]) } { S with seen:=S.seen ++ [⟨2,mn,1⟩],pl:={ S.pl with past:=S.pl.past.set mn (l ++ [x0]) } }∧Q1r (w6.alloc (.cells #[.int .i64 x0] 2)) w9):=Lib.hid fun w9 h1 h2=>P7.push HN.out (by rw [HL.out];exact hgrow) hown' hat' h1 h2
     have HM8:=Lib.hid (P7.map.kept hgrow (by exact hnm))
     have bI8:=((BI5.out.ext hx7).grown hgrow HE.out)
     have hbm8:V5.bm≠e:=HM8.out.ne_blk bI8
     have BI8:=Lib.hid bI8
     have T7:=Lib.hid (T5.out.ext hx7)
     clear hown hgrow hat hx7 P7 hown' hat' bI8
     go_wp2
     refine ⟨HOff.out,?_⟩
     refine Qjk (Q10 rfl (Q2a)) ?_
     refine Qek rfl (.tmp 87) (.tmp 88) (.tmp 107) 130 3 71 rfl hpu Try.underlying3 rfl HM8.out mn rfl (.slice o8 (l.length+1) c8) rfl ?_
     intro w9 hm9 hg9
     obtain ⟨P9,T9⟩:=HPush.out w9 hm9 hg9
     have T9:=Lib.hid (T7.out.trans T9)
     have BI9:=Lib.hid (BI8.out.grown hg9 (fun e=>hbm8 (Option.some.inj e).symm))
     clear hm9 hg9
     obtain ⟨kw9,cw9,hvW9,hkw9,hcell9⟩:=own_at' P9.mach.ws (show 0 < S.pl.words.length by have:=Hmn.out;omega)
     have hvW9:V5.vW=.slice (some ⟨kw9,0,none⟩) S.pl.words.length cw9:=hvW9
     obtain ⟨rc9,rf9⟩:=hcell9 mn (.int .i64 x0) Hmn.out (by
      show (S.pl.words.map (Value.int .i64))[mn]? = some (.int .i64 x0)
      rw [← Hxv.out]
      simp [Hmn.out])
     have hkl9:=Q09 rc9
     simp only at hkl9
     have hra:=Q7o P9 Ha.out
     have hra:w9.cell? ⟨g,7+a.toNat,none⟩=some (.int .i64 (rg S.pl.regs a))∧w9.frozen? ⟨g,7+a.toNat,none⟩=false:=hra
     generalize hzv:rg S.pl.regs a=z0 at *
     have Hzv:=Lib.hid hzv
     have k0:∀ Wx,Ext w9 Wx→Wx.cell? ⟨r,0,none⟩=some (.pointer (some ⟨g,0,none⟩)):=fun _ h=>h.kept P9.ptrCell
     have k17:∀ Wx,Ext w9 Wx→Wx.cell? ⟨g,17,none⟩=some (.slice (some ⟨kw9,0,none⟩) S.pl.words.length cw9):=fun _ h=>h.kept (by have:=P9.wordsCell;rw [hvW9] at this;exact this)
     have ka:∀ Wx,Ext w9 Wx→Wx.cell? ⟨g,7+a.toNat,none⟩=some (.int .i64 z0):=fun _ h=>h.kept hra.1
     have k1:∀ Wx,Ext w9 Wx→Wx.cell? ⟨e,1,none⟩=some (.int .i64 a):=fun _ h=>h.kept (by rw [BI9.out.cell];rfl)
     have hix9:∀ W,(Instr.indexAt 71 (.slice (some ⟨kw9,0,none⟩) S.pl.words.length cw9) (.int .i64 (mn:Int))).run Try.prog W=.ok (.pointer (some ⟨kw9,mn,none⟩)) W:=fun W=>by
      have:=Qb1 W kw9 S.pl.words.length cw9 (mn:Int) (by omega) (by have:=Hmn.out;omega)
      simpa using this
     have hixr:=Q53
     have hrl9:=P9.box.lt
     have hgl9:=P9.mach.box.lt
     have hel9:=BI9.out.lt
     have P9:=Lib.hid P9
     have HvW9:=Lib.hid hvW9
     have Rc9:=Lib.hid (show w9.cell? ⟨kw9,mn,none⟩=some (.int .i64 x0)∧w9.frozen? ⟨kw9,mn,none⟩=false from ⟨rc9,rf9⟩)
     clear hzv hra hcell9 rc9 rf9 hvW9 hix hnr hng hnw hnm hz hpu
     go_upto_region 18 with fail
     refine Q2d [21] 0 (by kernel_rfl) (by kernel_rfl) ?_
     repeat (first | (refine Q2o ?_ ?_;(decide)) | (refine Q2i ?_ ?_ ?_;(decide);(first | rfl | (focus (go_simp;done)));apply Exists.intro;refine ⟨fun wc hE=>?_,?_⟩;(go_simp;exact rfl);go_simp) | (refine Q2m ?_ ?_ ?_;(decide);(focus (go_simp;done));go_simp))
     refine Q2n ?_
     intro w10 hx10
     have P10:=P9.out.extend hx10
     obtain ⟨P11,T11⟩:=P10.word (x:=mn) HvW9.out z0
     have T11:=(T9.out.ext hx10).trans T11
     have gw:=Q0a hx10 Rc9.out
     have hkl10:=Q09 gw.1
     simp only at hkl10
     have hrl11:=P11.box.lt
     have hgl11:=P11.mach.box.lt
     have g0:=P11.ptrCell
     have g18:_∧_:=P11.atCell
     have P12:=P11.at__ (S.pl.at_+1)
     have T12:=T11.trans (P11.stayM 18 (.int .i64 ((S.pl.at_+1:Nat):Int)))
     rw [show ((S.pl.at_+1:Nat):Int)=(S.pl.at_:Int)+1 by omega] at P12 T12
     have P12:=Lib.hid P12
     have T12:=Lib.hid T12
     clear k0 k17 ka k1 hix9 hx10 P10 P11 T11
     refine Q23 (Q10 rfl (Q2a)) ?_
     go_upto_region 21 with fail
     generalize w10.setCell ⟨kw9,mn,none⟩ (.int .i64 z0)=w11 at *
     clear gw
     go_wp2
     go_ret
     obtain rfl:br=true:=Hbr.out.symm
     have hSRT:SR=T:=by rw [← HSR.out];rfl
     rw [hSRT,HTo.out]
     simp only [Int.toNat_natCast]
     rw [Hlv.out,Hxv.out]
     exact ⟨rfl,_,P12.out,T12.out⟩
    all_goals
     have HTo:=Lib.hid (HTr.out.trans (Qma Hput.out (by omega)))
     try (have hd:decide ((0:Int)≤m)=false:=by simp;omega)
     try (have hd2:decide (m < (S.pl.words.length:Int))=false:=by simp;omega)
     have P8:=P5.out.at__ (S.pl.at_+1)
     have T8:=T5.out.trans (P5.out.stayM 18 (.int .i64 ((S.pl.at_+1:Nat):Int)))
     rw [show ((S.pl.at_+1:Nat):Int)=(S.pl.at_:Int)+1 by omega] at P8 T8
     have P8:=Lib.hid P8
     have T8:=Lib.hid T8
     go_wp2
     go_ret
     obtain rfl:br=true:=Hbr.out.symm
     have hSRT:SR=T:=by rw [← HSR.out];rfl
     rw [hSRT,HTo.out]
     exact ⟨rfl,_,P8.out,T8.out⟩
end
end Go.Proofs.Yteiknefajlocoaa
