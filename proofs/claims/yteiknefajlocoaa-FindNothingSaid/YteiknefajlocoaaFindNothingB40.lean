/- Laid together from: CkW, Ref6b. -/
import Derived.Test.YteiknefajlocoaaFindNothingB38
import Derived.Test.YteiknefajlocoaaFindNothingB6
import Derived.Test.YteiknefajlocoaaFindNothingB29
import Derived.Test.YteiknefajlocoaaFindNothingB28
import Derived.Test.YteiknefajlocoaaFindNothingB14
import Derived.Test.YteiknefajlocoaaFindNothingB10
import Derived.Test.YteiknefajlocoaaFindNothingB33
import Derived.Test.YteiknefajlocoaaFindNothingB37

namespace Go.Proofs.Yteiknefajlocoaa
open Go
set_option linter.unusedVariables false
set_option linter.unusedSimpArgs false
structure Work (p:Q00) (T:Tab) (wk:List Int) (D:Nat→Prop):Prop where
 tok:Tok p T
 under:Q6e p T
 first:∃ s,tg T 0=some s∧Sle Q32 s
 elems:∀ x ∈ wk,∃ k:Nat,x=(k:Int)∧k < p.code.length∧∃ s,tg T k=some s
 done:∀ k s,tg T k=some s→¬ D k→(k:Int) ∉ wk→∀ x ∈ Q0f p k s (Q0d p k),Led p T x
structure Q56 (p:Q00) (T:Tab) (wk:List Int) (T':Tab) (wk':List Int):Prop where
 up:Tle T T'
 less:meas T' wk'≤meas T wk
 kept:∀ j s,tg T j=some s→tg T' j=some s∨(j:Int) ∈ wk'
 sub:∀ x ∈ wk,x ∈ wk'
theorem Q56.refl (p:Q00) (T:Tab) (wk:List Int):Q56 p T wk T wk:=⟨Tle.refl T,Nat.le_refl _,fun _ _ h=>.inl h,fun _ h=>h⟩
theorem Q56.trans {p:Q00} {T U V:Tab} {a b c:List Int} (h:Q56 p T a U b) (k:Q56 p U b V c):Q56 p T a V c :=
 ⟨h.up.trans k.up,Nat.le_trans k.less h.less,fun j s hj=>by
  rcases h.kept j s hj with h1 | h1
  ·exact k.kept j s h1
  ·exact .inr (k.sub _ h1),fun x hx=>k.sub x (h.sub x hx)⟩
theorem Work.rise {p:Q00} {T T':Tab} {wk wk':List Int} {D:Nat→Prop} (h:Work p T wk D) (hT:Tok p T') (hU:Q6e p T') (ho:Q56 p T wk T' wk') (hb:∀ j s,tg T' j=some s→tg T j=some s∨(j:Int) ∈ wk')
  (he:∀ x ∈ wk',x ∈ wk∨∃ k:Nat,x=(k:Int)∧k < p.code.length∧∃ s,tg T' k=some s):Work p T' wk' D:=by
 refine ⟨hT,hU,?_,fun x hx=>?_,fun k s hk hd hn x hx=>?_⟩
 ·obtain ⟨s,h1,h2⟩:=h.first
  obtain ⟨t,h3,h4⟩:=ho.up 0 s h1
  exact ⟨t,h3,h2.trans h4⟩
 ·rcases he x hx with h1 | h1
  ·obtain ⟨k,e,h2,s,h3⟩:=h.elems x h1
   obtain ⟨t,h4,-⟩:=ho.up k s h3
   exact ⟨k,e,h2,t,h4⟩
  ·exact h1
 ·rcases hb k s hk with h1 | h1
  ·exact (h.done k s h1 hd (fun h2=>hn (ho.sub _ h2)) x hx).mono ho.up
  ·exact absurd h1 hn
theorem Qqk {p:Q00} {T:Tab} {wk:List Int} {D:Nat→Prop} (h:Work p T wk D) {x:Nat × KSt} (hs:Sok x.2) (hU:x.1 < p.code.length→Q6e p (Q17 T x)) :
  Work p (Q51 p T x.1 x.2) (Q4q p T wk x.1 x.2) D∧Q56 p T wk (Q51 p T x.1 x.2) (Q4q p T wk x.1 x.2)∧Led p (Q51 p T x.1 x.2) x:=by
 unfold Q51 Q4q
 by_cases hn:p.code.length≤x.1
 ·rw [if_pos hn,if_pos hn]
  exact ⟨h,Q56.refl _ _ _,fun hx=>by omega⟩
 ·rw [if_neg hn,if_neg hn]
  have hx:x.1 < p.code.length:=by omega
  have hxT:x.1 < T.length:=by rw [h.tok.len];exact hx
  have hT:=Qhv h.tok hs hx
  have hup:=Qhx h.tok hs hx
  have hled:=Qhw h.tok hs (x:=x)
  have hget:=fun j=>Q9i (T:=T) (x:=x) j hxT
  have hU:=hU hx
  cases ht:tg T x.1 with
  | none =>
   simp only
   have hj:Q17 T x=T.set x.1 (some x.2):=by unfold Q17;rw [ht]
   have hp:=Q98 T x.1 (some x.2) hxT
   rw [ht] at hp
   have hm:meas (Q17 T x) (wk ++ [(x.1:Int)])≤meas T wk:=by
    rw [hj]
    unfold meas
    simp only [ph] at hp
    simp only [List.length_append,List.length_cons,List.length_nil]
    omega
   have ho:Q56 p T wk (Q17 T x) (wk ++ [(x.1:Int)]):=⟨hup,hm,fun j s hjs=>by
    rw [hget j]
    by_cases e:j=x.1
    ·subst e;right;simp
    ·rw [if_neg e];exact .inl hjs,fun y hy=>by simp [hy]⟩
   refine ⟨h.rise hT hU ho (fun j s hjs=>?_) (fun y hy=>?_),ho,hled⟩
   ·rw [hget j] at hjs
    by_cases e:j=x.1
    ·subst e;right;simp
    ·rw [if_neg e] at hjs;exact .inl hjs
   ·simp only [List.mem_append,List.mem_cons,List.not_mem_nil,or_false] at hy
    rcases hy with hy | rfl
    ·exact .inl hy
    ·exact .inr ⟨x.1,rfl,hx,by rw [hget,if_pos rfl];exact ⟨_,rfl⟩⟩
  | some t =>
   simp only
   have hj:Q17 T x=T.set x.1 (some (Q11 x.2 t)):=by unfold Q17;rw [ht]
   have hto:=h.tok.ok _ _ ht
   by_cases e:Q11 x.2 t=t
   ·rw [if_pos e]
    have hjj:Q17 T x=T:=by rw [hj,e];exact Qbq ht hxT
    rw [hjj] at hled ⊢
    exact ⟨h,Q56.refl _ _ _,hled⟩
   ·rw [if_neg e]
    have hp:=Q98 T x.1 (some (Q11 x.2 t)) hxT
    rw [ht] at hp
    have hjo:=Q7i x.2 t
    have hr:=Qcb t (Q11 x.2 t) (by rw [hto.len,hjo.len]) hto.ok hjo.ok (Qbx hto)
    have hlt:rank t < rank (Q11 x.2 t):=by
     rcases Nat.lt_or_ge (rank t) (rank (Q11 x.2 t)) with h1 | h1
     ·exact h1
     ·exact absurd (hr.2 (by omega)).symm e
    have hbd:=Qcc hjo
    have hm:meas (Q17 T x) (wk ++ [(x.1:Int)])≤meas T wk:=by
     rw [hj]
     unfold meas
     simp only [ph] at hp
     simp only [List.length_append,List.length_cons,List.length_nil]
     omega
    have ho:Q56 p T wk (Q17 T x) (wk ++ [(x.1:Int)]):=⟨hup,hm,fun j s hjs=>by
     rw [hget j]
     by_cases e:j=x.1
     ·subst e;right;simp
     ·rw [if_neg e];exact .inl hjs,fun y hy=>by simp [hy]⟩
    refine ⟨h.rise hT hU ho (fun j s hjs=>?_) (fun y hy=>?_),ho,hled⟩
    ·rw [hget j] at hjs
     by_cases e:j=x.1
     ·subst e;right;simp
     ·rw [if_neg e] at hjs;exact .inl hjs
    ·simp only [List.mem_append,List.mem_cons,List.not_mem_nil,or_false] at hy
     rcases hy with hy | rfl
     ·exact .inl hy
     ·exact .inr ⟨x.1,rfl,hx,by rw [hget,if_pos rfl];exact ⟨_,rfl⟩⟩
theorem Qhd {p:Q00} {at_:Nat} {s:KSt} {D:Nat→Prop} (hs:Sok s):∀ (l:List (Nat × KSt)) (T:Tab) (wk:List Int),Work p T wk D→(∃ s',tg T at_=some s'∧Sle s s')→(∀ x ∈ l,x ∈ Q0f p at_ s (Q0d p at_)) →
  Work p (Q4r p l (T,wk)).1 (Q4r p l (T,wk)).2 D∧Q56 p T wk (Q4r p l (T,wk)).1 (Q4r p l (T,wk)).2∧∀ x ∈ l,Led p (Q4r p l (T,wk)).1 x
 | [],T,wk,h,_,_=>⟨h,Q56.refl _ _ _,fun x hx=>by simp at hx⟩
 | x :: l,T,wk,h,hk,hl=>by
  have hx:=hl x (by simp)
  have hxs:=Q8d p at_ hs _ x hx
  obtain ⟨h1,h2,h3⟩:=Qqk h hxs (fun hn=>Qhu h.tok h.under hk hs hx hn)
  obtain ⟨s',e1,e2⟩:=hk
  obtain ⟨t,e3,e4⟩:=h2.up at_ s' e1
  obtain ⟨i1,i2,i3⟩:=Qhd hs l _ _ h1 ⟨t,e3,e2.trans e4⟩ (fun y hy=>hl y (by simp [hy]))
  refine ⟨i1,h2.trans i2,fun y hy=>?_⟩
  simp only [List.mem_cons] at hy
  rcases hy with rfl | hy
  ·exact h3.mono i2.up
  ·exact i3 y hy
theorem Qjl {p:Q00} {T:Tab} {wk:List Int} {at_:Nat} {s:KSt} (h:Work p T (wk ++ [(at_:Int)]) (fun _=>False)) (hs:tg T at_=some s) :
  Work p (Q4r p (Q0f p at_ s (Q0d p at_)) (T,wk)).1 (Q4r p (Q0f p at_ s (Q0d p at_)) (T,wk)).2 (fun _=>False) ∧
  meas (Q4r p (Q0f p at_ s (Q0d p at_)) (T,wk)).1 (Q4r p (Q0f p at_ s (Q0d p at_)) (T,wk)).2 < meas T (wk ++ [(at_:Int)]):=by
 have h0:Work p T wk (fun k=>k=at_):=⟨h.tok,h.under,h.first,fun x hx=>h.elems x (by simp [hx]),fun k s hk hd hn x hx=>h.done k s hk id (by
  simp only [List.mem_append,List.mem_cons,List.not_mem_nil,or_false,not_or]
  exact ⟨hn,fun e=>hd (by omega)⟩) x hx⟩
 obtain ⟨h1,h2,h3⟩:=Qhd (h.tok.ok _ _ hs) _ T wk h0 ⟨s,hs,Sle.refl s⟩ (fun x hx=>hx)
 generalize Q4r p (Q0f p at_ s (Q0d p at_)) (T,wk)=R at *
 refine ⟨⟨h1.tok,h1.under,h1.first,h1.elems,fun k u hk _ hn x hx=>?_⟩,?_⟩
 ·by_cases e:k=at_
  ·subst e
   rcases h2.kept k s hs with h4 | h4
   ·rw [hk] at h4
    obtain rfl:=Option.some.inj h4
    exact h3 x hx
   ·exact absurd h4 hn
  ·exact h1.done k u hk e hn x hx
 ·have:=h2.less
  unfold meas at *
  simp only [List.length_append,List.length_cons,List.length_nil]
  omega
theorem Qjm {p:Q00} {T:Tab} (h:Work p T [] (fun _=>False)):Q5x p T:=⟨⟨h.tok,h.first,fun k s hk x hx=>h.done k s hk id (by simp) x hx⟩,h.under⟩
theorem Qjo (p:Q00) (hp:0 < p.code.length):Work p (Q2z p) [((0:Nat):Int)] (fun _=>False):=by
 refine ⟨Qik p hp,Qij p hp,⟨Q32,by rw [Q8l p hp,if_pos rfl],Sle.refl _⟩,fun x hx=>?_,fun k s hk _ hn x hx=>?_⟩
 ·simp only [List.mem_cons,List.not_mem_nil,or_false] at hx
  exact ⟨0,hx,hp,Q32,by rw [Q8l p hp,if_pos rfl]⟩
 ·rw [Q8l p hp] at hk
  split at hk
  ·rename_i e;subst e;simp at hn
  ·cases hk
theorem Qql (p:Q00) (hp:0 < p.code.length):Q51 p (List.replicate p.code.length none) 0 Q32=Q2z p∧Q4q p (List.replicate p.code.length none) [] 0 Q32=[((0:Nat):Int)]:=by
 have h0:tg (List.replicate p.code.length (none:Option KSt)) 0=none:=by
  unfold tg
  rw [List.getD_eq_getElem?_getD,List.getElem?_replicate,if_pos hp]
  rfl
 unfold Q51 Q4q
 rw [if_neg (by omega),if_neg (by omega),h0]
 refine ⟨?_,rfl⟩
 unfold Q17
 rw [h0]
 rfl
theorem Qpf (p:Q00) (hcl:p.code.length≤200):meas (Q2z p) [((0:Nat):Int)]≤87001:=by
 have:=Qga (Q2z p)
 have hl:(Q2z p).length=p.code.length:=by simp [Q2z]
 unfold meas
 simp only [List.length_cons,List.length_nil]
 omega
theorem Qjn {wk:List Int} (h:0 < wk.length):∃ wk' x,wk=wk' ++ [x]:=by
 refine ⟨wk.dropLast,wk.getLast (by intro e;rw [e] at h;simp at h),?_⟩
 exact (List.dropLast_concat_getLast _).symm
end Go.Proofs.Yteiknefajlocoaa

namespace Go.Proofs.Yteiknefajlocoaa
open Go.ChangeShapes Go.WideShapes Go.ChangeAt Go.RowKit
set_option linter.unusedVariables false
set_option linter.unusedSimpArgs false
theorem Qt8 (w:World) (A B C D:Array Value) (S T U V:TypeId):∃ W g,w.heap.size=g∧(((w.alloc (.cells A S)).alloc (.cells B T)).alloc (.cells C U)).alloc (.cells D V)=W∧Ext w W∧Blk W g S A∧Blk W (g+1) T B∧Blk W (g+1+1) U C∧Blk W (g+1+1+1) V D:=by
 have h0:=(((Blk.new w S A).alloc (.cells B T)).alloc (.cells C U)).alloc (.cells D V)
 have h1:=((Blk.new (w.alloc (.cells A S)) T B).alloc (.cells C U)).alloc (.cells D V)
 have h2:=(Blk.new ((w.alloc (.cells A S)).alloc (.cells B T)) U C).alloc (.cells D V)
 have h3:=Blk.new (((w.alloc (.cells A S)).alloc (.cells B T)).alloc (.cells C U)) V D
 simp only [World.size_alloc] at h1 h2 h3
 exact ⟨_,_,rfl,rfl,((((Ext.refl w).alloc _).alloc _).alloc _).alloc _,h0,h1,h2,h3⟩
theorem Qi6:(Try.prog.info? 78).map (fun i=>(i.zero,i.size,i.bytes))=some (some (.agg #[.int .i64 0,.bool false]),2,16):=by kernel_rfl
theorem Qay:(Try.prog.info? 87).map (·.size)=some 2:=by kernel_rfl
theorem KnAt.src {w:World} {B b cap:Nat} {s:KSt} (h:KnAt w B (.slice (some ⟨b,0,none⟩) 8 cap) s):Src w 2 (some ⟨b,0,none⟩) 8 (s.flatMap Q4t):=by
 obtain ⟨h0,b',cap',R,h1,h2,h3,h4,h5,h6⟩:=h
 simp only [Value.slice.injEq,Option.some.injEq,Addr.mk.injEq,and_true,true_and] at h1
 obtain ⟨rfl,rfl⟩:=h1
 refine ⟨by rw [Qd9,h0],(fun e=>by cases e),fun ad ha j u hu=>?_,fun u hu=>?_⟩
 ·obtain rfl:=Option.some.inj ha
  have hj:j < 16:=by
   have:=(List.getElem?_eq_some_iff.1 hu).1
   rw [Qd9,h0] at this
   omega
  have:=Q3w b 0 j
  rw [show (⟨b,0,none⟩:Addr).add j=⟨b,0+j,none⟩ from this,Nat.zero_add,h5.cell,h6 j hj]
  unfold stV
  simpa using hu
 ·have:=Q6h s
  unfold stV at this
  rw [Array.all_eq_true'] at this
  exact this u (by simpa using hu)
theorem KnAt.ne {w:World} {B b cap:Nat} {s:KSt} (h:KnAt w B (.slice (some ⟨b,0,none⟩) 8 cap) s) {g:Nat} {T:TypeId} {cs:Array Value} (hg:Blk w g T cs) (hT:78 ≠ T):b≠g:=by
 obtain ⟨-,b',cap',R,e1,-,-,-,e5,-⟩:=h
 simp only [Value.slice.injEq,Option.some.injEq,Addr.mk.injEq,and_true,true_and] at e1
 rw [e1.1]
 exact Blk.ne_ e5 hg hT
theorem KnAt.base {w:World} {B b cap:Nat} {s:KSt} (h:KnAt w B (.slice (some ⟨b,0,none⟩) 8 cap) s):B≤b:=by
 obtain ⟨b',cap',e1,-,-,e4⟩:=h.form
 simp only [Value.slice.injEq,Option.some.injEq,Addr.mk.injEq,and_true,true_and] at e1
 omega
def Qbj (w:World) (c:Bool) (s:KSt) (e:Ending) (w':World):Prop :=
 ∃ b cap,e=.returned (.agg #[.bool c,.slice (some ⟨b,0,none⟩) 8 cap])∧KnAt w' w.heap.size (.slice (some ⟨b,0,none⟩) 8 cap) s∧Ext w w'
set_option maxRecDepth 100000 in
set_option maxHeartbeats 4000000 in
theorem Q4k (c:Bool) (b cap:Nat) (s:KSt) (w:World) {B:Nat} (h:KnAt w B (.slice (some ⟨b,0,none⟩) 8 cap) s) :
  Calls Try.prog 95 #[.agg #[.bool c,.slice (some ⟨b,0,none⟩) 8 cap]] w (Qbj w c s):=by
 have Hl:=Lib.hid h.1
 have H:=Lib.hid h
 obtain ⟨i0,hi0,hz0,hz1,hz2⟩:=info_parts Qi6
 clear h
 go_enter Try.func95,Try.ntmps95
 go_upto_region 1 with fail
 obtain ⟨W,g,hg,hW,hx,bA,bB⟩:=Q0i w #[.bool c,.slice (some ⟨b,0,none⟩) 8 cap] #[.bool false,.slice none 0 0] 87 87
 rw [hW,hg]
 have X:=Lib.hid hx
 have HB:=Lib.hid bB
 have k0:∀ Wx,Ext W Wx→Wx.cell? ⟨g,0,none⟩=some (.bool c):=fun _ h=>h.kept (by rw [bA.cell];rfl)
 have k1:∀ Wx,Ext W Wx→Wx.cell? ⟨g,1,none⟩=some (.slice (some ⟨b,0,none⟩) 8 cap):=fun _ h=>h.kept (by rw [bA.cell];rfl)
 have Hg:=Lib.hid hg
 have hgl:=bB.lt
 clear hW hx bA bB hg
 refine Q2d [2,5,6,7] 3 (by kernel_rfl) (by kernel_rfl) ?_
 repeat (first | (refine Q2o ?_ ?_;(decide)) | (refine Q2i ?_ ?_ ?_;(decide);(first | rfl | (focus (go_simp;done)));apply Exists.intro;refine ⟨fun wc hE=>?_,?_⟩;(go_simp;exact rfl);go_simp) | (refine Q2m ?_ ?_ ?_;(decide);(focus (go_simp;done));go_simp))
 refine Q2n ?_
 intro w2 hx
 have X2:=Lib.hid hx
 clear k0 k1
 refine Q39 rfl ?_
 go_wp2
 refine ⟨hx.alloc _,?_⟩
 refine Q39 rfl ?_
 simp only [List.getElem_toArray,List.getElem_cons_succ,List.getElem_cons_zero]
 have H2:=Lib.hid ((H.out.ext (X.out.trans hx)).ext ((Ext.refl w2).alloc (.cells #[] 78)))
 go_wp2_with (at_builtin;refine Q3g _ rfl _ _ 85 rfl w.heap.size 78 i0 _ 2 16 Try.underlying85 hi0 hz0 hz1 hz2 rfl (by decide) _ 0 [] rfl ?c0 (some ⟨b,0,none⟩) 8 cap (s.flatMap Q4t) rfl ?c1 ?c3 ?c4 ?c5 ?_)
 case c0 =>
  have hws:w.heap.size≤w2.heap.size:=(X.out.trans X2.out).size
  have h:=World.ownsRow_lit (base:=w.heap.size) (e:=78) (size:=2) w2 #[] 0 hws (by decide) rfl
  simpa [Act.eval] using h
 case c1=>exact H2.out.src
 case c3=>decide
 case c4=>decide
 case c5=>have:=(X.out.trans X2.out).size;simp;omega
 intro v1 w3 hown hgrow hat
 obtain ⟨o1,c1,rfl⟩:=Q1e hown
 have hx3:Ext W w3:=(X2.out.alloc _).grown hgrow (by
  intro k hk
  simp [Act.eval,Value.ownBlock] at hk
  have:=X2.out.size
  omega)
 have KN:=KnAt.own (B:=w.heap.size) Hl.out hown
 obtain ⟨b1,cap1,hv,hc8,-,hB1⟩:=KN.form
 simp only [Value.slice.injEq,true_and] at hv
 obtain ⟨rfl,rfl⟩:=hv
 have X3:=Lib.hid hx3
 have KN:=Lib.hid KN
 have bB:=HB.out.ext hx3
 have hgl:=bB.lt
 have r0:w3.cell? ⟨g+1,0,none⟩=some (.bool false)∧w3.frozen? ⟨g+1,0,none⟩=false:=⟨by rw [bB.cell];rfl,bB.frozen _⟩
 have r1:w3.cell? ⟨g+1,1,none⟩=some (.slice none 0 0)∧w3.frozen? ⟨g+1,1,none⟩=false:=⟨by rw [bB.cell];rfl,bB.frozen _⟩
 clear hown hgrow hat hx hx3 H2 bB
 go_wp2
 refine ⟨X3.out,?_⟩
 refine Q39 rfl ?_
 go_wp2
 refine ⟨X3.out,?_⟩
 refine Q23 (Q10 rfl (Q2a)) ?_
 go_wp2
 have hB:=((HB.out.ext X3.out).set_ 0 (.bool c)).set_ 1 (.slice (some ⟨b1,0,none⟩) 8 c1)
 have hgw:w.heap.size≤g+1:=by have:=Hg.out;omega
 refine bodyPost_ret (Q1y hB rfl _ rfl Try.underlying87 rfl Qay) rfl ?_
 refine ⟨b1,c1,rfl,?_,((X.out.trans X3.out).setCell (p:=⟨g+1,_,none⟩) hgw _).setCell (p:=⟨g+1,_,none⟩) hgw _⟩
 have b3:=HB.out.ext X3.out
 exact (KN.out.far (p:=⟨g+1,0,none⟩) b3 (by decide) _).far (p:=⟨g+1,1,none⟩) (b3.set_ _ _) (by decide) _
set_option maxHeartbeats 4000000 in
theorem Qdn (k:LKn) (n:Int) (w:World) :
  Calls Try.prog 57 #[.agg #[.int .i64 k.bits,.bool k.sec],.int .i64 n] w fun e w'=>e=.returned (.agg #[.int .i64 (ksum k n).bits,.bool (ksum k n).sec])∧Ext w w':=by
 obtain ⟨b,sc⟩:=k
 simp only
 by_cases hn:n < 0
 ·have Hs:Hid (ksum ⟨b,sc⟩ n=⟨17,sc⟩):=Lib.hid (by simp [ksum,hn])
  go_enter Try.func57,Try.ntmps57
  go_upto_region 1 with fail
  obtain ⟨W,g,hg,hW,hx,bA,bB⟩:=Q0i w #[.int .i64 b,.bool sc] #[.int .i64 0,.bool false] 78 78
  rw [hW,hg]
  have X:=Lib.hid hx
  have HB:=Lib.hid bB
  have hgw:w.heap.size≤g+1:=by omega
  have k1:W.cell? ⟨g,1,none⟩=some (.bool sc):=by rw [bA.cell];rfl
  have r0:W.cell? ⟨g+1,0,none⟩=some (.int .i64 0)∧W.frozen? ⟨g+1,0,none⟩=false:=⟨by rw [bB.cell];rfl,bB.frozen _⟩
  have r1:W.cell? ⟨g+1,1,none⟩=some (.bool false)∧W.frozen? ⟨g+1,1,none⟩=false:=⟨by rw [bB.cell];rfl,bB.frozen _⟩
  have hgl:=bB.lt
  clear hW hg hx bA bB
  go_wp2
  rw [Hs.out]
  have hb:=(HB.out.set_ 0 (.int .i64 17)).set_ 1 (.bool sc)
  exact bodyPost_ret (Q1y hb rfl _ rfl Try.underlying78 rfl Q52) rfl ⟨rfl,(X.out.setCell hgw _).setCell hgw _⟩
 ·have Hs:Hid (ksum ⟨b,sc⟩ n=⟨kop 1 (nrm b) (nrm (kof n)),sc⟩):=Lib.hid (by simp [ksum,hn,kopK,kofK])
  go_enter Try.func57,Try.ntmps57
  go_upto_region 1 with fail
  obtain ⟨W,g,hg,hW,hx,bA,bB⟩:=Q0i w #[.int .i64 b,.bool sc] #[.int .i64 0,.bool false] 78 78
  rw [hW,hg]
  have X:=Lib.hid hx
  have HB:=Lib.hid bB
  have HA:=Lib.hid bA
  have hgw:w.heap.size≤g+1:=by omega
  clear hW hg hx bA bB
  go_wp2_with fail
  have C:=Qcf n W
  (with_reducible refine C.mono ?_)
  clear C
  rintro e w1 ⟨rfl,hx⟩
  have X:=Lib.hid (X.out.trans hx)
  have HB:=Lib.hid (HB.out.ext hx)
  have bA:=HA.out.ext hx
  have HA:=Lib.hid bA
  have k0:w1.cell? ⟨g,0,none⟩=some (.int .i64 b):=by rw [bA.cell];rfl
  have k1:w1.cell? ⟨g,1,none⟩=some (.bool sc):=by rw [bA.cell];rfl
  have hgl:=HB.out.lt
  have hgl0:=bA.lt
  clear hx bA
  go_wp2_with fail
  (with_reducible refine (Qfx 1 b (kof n) sc false _).mono ?_)
  rintro e w2 ⟨rfl,hx⟩
  have X:=Lib.hid ((X.out.alloc _).trans hx)
  have HB:=Lib.hid ((HB.out.alloc _).ext hx)
  have bB:=HB.out
  have r0:w2.cell? ⟨g+1,0,none⟩=some (.int .i64 0)∧w2.frozen? ⟨g+1,0,none⟩=false:=⟨by rw [bB.cell];rfl,bB.frozen _⟩
  have r1:w2.cell? ⟨g+1,1,none⟩=some (.bool false)∧w2.frozen? ⟨g+1,1,none⟩=false:=⟨by rw [bB.cell];rfl,bB.frozen _⟩
  have hgl:=bB.lt
  clear hx bB k0 k1
  go_wp2
  rw [Hs.out]
  have hb:=(HB.out.set_ 0 (.int .i64 (kop 1 (nrm b) (nrm (kof n))))).set_ 1 (.bool sc)
  exact bodyPost_ret (Q1y hb rfl _ rfl Try.underlying78 rfl Q52) rfl ⟨rfl,(X.out.setCell hgw _).setCell hgw _⟩
set_option maxRecDepth 100000 in
set_option maxHeartbeats 4000000 in
theorem Qd0 (c:Bool) (b cap:Nat) (s:KSt) (reg:Int) (x y:LKn) (hr:okIn 8 reg=true) (w:World) {B:Nat} (h:KnAt w B (.slice (some ⟨b,0,none⟩) 8 cap) s) :
  Calls Try.prog 96 #[.agg #[.bool c,.slice (some ⟨b,0,none⟩) 8 cap],.int .i64 reg,.agg #[.int .i64 x.bits,.bool x.sec],.agg #[.int .i64 y.bits,.bool y.sec]] w (Qbj w c (kset s reg (Q0r x y))):=by
 have H:=Lib.hid h
 have Hr:=Lib.hid hr
 obtain ⟨hr0,hr1⟩:=Q08.1 hr
 obtain ⟨xb,xs⟩:=x
 obtain ⟨yb,ys⟩:=y
 simp only
 clear h hr
 go_enter Try.func96,Try.ntmps96
 go_upto_region 1 with fail
 obtain ⟨W,g,hg,hW,hx,bA,bX,bY,bR⟩:=Qt8 w #[.bool c,.slice (some ⟨b,0,none⟩) 8 cap] #[.int .i64 xb,.bool xs] #[.int .i64 yb,.bool ys] #[.bool false,.slice none 0 0] 87 78 78 87
 rw [hW,hg]
 have X:=Lib.hid hx
 have Hg:=Lib.hid hg
 have BX:=Lib.hid bX
 have BY:=Lib.hid bY
 have BR:=Lib.hid bR
 have c0:W.cell? ⟨g,0,none⟩=some (.bool c):=by rw [bA.cell];rfl
 have c1:W.cell? ⟨g,1,none⟩=some (.slice (some ⟨b,0,none⟩) 8 cap):=by rw [bA.cell];rfl
 clear hW hg hx bA bX bY bR
 go_wp2_with fail
 have C:=Q4k c b cap s W (H.out.ext X.out)
 (with_reducible refine C.mono ?_)
 clear C
 rintro e w1 ⟨b1,cap1,rfl,hK,hx⟩
 have K:=Lib.hid hK
 have X1:=Lib.hid hx
 clear hK hx c0 c1
 go_upto_region 2 with fail
 obtain ⟨w2,e,he,hW,hx,bE⟩:=Q1f w1 #[.bool c,.slice (some ⟨b1,0,none⟩) 8 cap1] 87
 rw [hW,he]
 have X2:=Lib.hid hx
 have BE:=Lib.hid bE
 have hWx:=X1.out.trans hx
 have bX:=BX.out.ext hWx
 have bY:=BY.out.ext hWx
 have k1:∀ Wx,Ext w2 Wx→Wx.cell? ⟨e,1,none⟩=some (.slice (some ⟨b1,0,none⟩) 8 cap1):=fun _ h=>h.kept (by rw [bE.cell];rfl)
 have x0:∀ Wx,Ext w2 Wx→Wx.cell? ⟨g+1,0,none⟩=some (.int .i64 xb):=fun _ h=>h.kept (by rw [bX.cell];rfl)
 have x1:∀ Wx,Ext w2 Wx→Wx.cell? ⟨g+1,1,none⟩=some (.bool xs):=fun _ h=>h.kept (by rw [bX.cell];rfl)
 have y0:∀ Wx,Ext w2 Wx→Wx.cell? ⟨g+1+1,0,none⟩=some (.int .i64 yb):=fun _ h=>h.kept (by rw [bY.cell];rfl)
 have y1:∀ Wx,Ext w2 Wx→Wx.cell? ⟨g+1+1,1,none⟩=some (.bool ys):=fun _ h=>h.kept (by rw [bY.cell];rfl)
 clear hW hx he hWx bX bY bE
 refine Q2d [5,6,7] 1 (by kernel_rfl) (by kernel_rfl) ?_
 repeat (first | (refine Q2o ?_ ?_;(decide)) | (refine Q2i ?_ ?_ ?_;(decide);(first | rfl | (focus (go_simp;done)));apply Exists.intro;refine ⟨fun wc hE=>?_,?_⟩;(go_simp;exact rfl);go_simp) | (refine Q2m ?_ ?_ ?_;(decide);(focus (go_simp;done));go_simp))
 refine Q2n ?_
 intro w3 hx
 have X3:=Lib.hid (X2.out.trans hx)
 have BE:=Lib.hid (BE.out.ext hx)
 have X3':=Lib.hid hx
 clear k1 x0 x1 y0 y1 hx
 refine Q39 rfl ?_
 go_wp2_with fail
 (with_reducible refine (Qfw xb yb xs ys w3).mono ?_)
 rintro er w4 ⟨rfl,hx⟩
 have X4:=Lib.hid (X3.out.trans hx)
 have BE:=Lib.hid (BE.out.ext hx)
 have X4':=Lib.hid (X3'.out.trans hx)
 have K4:=K.out.ext X4.out
 obtain ⟨p0,p1⟩:=K4.cell Hr.out
 have hbl:=Q09 p0.1
 simp only at hbl
 have K4:=Lib.hid K4
 have hix:=Q2l b1 cap1
 clear hx
 go_wp2
 refine ⟨X4'.out,?_⟩
 refine Q23 (Q10 rfl (Q10 rfl (Q2a))) ?_
 have BR4:=Lib.hid (BR.out.ext (X1.out.trans X4.out))
 have hne:b1≠e:=K4.out.ne BE.out (by decide)
 have hne2:b1≠g+1+1+1:=K4.out.ne BR4.out (by decide)
 have hne3:¬ e=b1:=fun h=>hne h.symm
 have hel:=BE.out.lt
 have hgl:=BR4.out.lt
 have q0:w4.cell? ⟨e,0,none⟩=some (.bool c):=by rw [BE.out.cell];rfl
 have q1:w4.cell? ⟨e,1,none⟩=some (.slice (some ⟨b1,0,none⟩) 8 cap1):=by rw [BE.out.cell];rfl
 have r0:w4.cell? ⟨g+1+1+1,0,none⟩=some (.bool false)∧w4.frozen? ⟨g+1+1+1,0,none⟩=false:=⟨by rw [BR4.out.cell];rfl,BR4.out.frozen _⟩
 have r1:w4.cell? ⟨g+1+1+1,1,none⟩=some (.slice none 0 0)∧w4.frozen? ⟨g+1+1+1,1,none⟩=false:=⟨by rw [BR4.out.cell];rfl,BR4.out.frozen _⟩
 go_wp2
 have hK5:=K4.out.put Hr.out (Q0r ⟨xb,xs⟩ ⟨yb,ys⟩)
 have hR5:=(BR4.out.far (p:=⟨b1,reg.toNat * 2,none⟩) (fun h=>hne2 h.symm) (.int .i64 (min (nrm xb) (nrm yb)))).far (p:=⟨b1,reg.toNat * 2+1,none⟩) (fun h=>hne2 h.symm) (.bool xs)
 have hB:=(hR5.set_ 0 (.bool c)).set_ 1 (.slice (some ⟨b1,0,none⟩) 8 cap1)
 have hgw:w.heap.size≤g+1+1+1:=by have:=Hg.out;omega
 have hbw:w.heap.size≤b1:=by
  obtain ⟨b',cap',e1,-,-,e4⟩:=K4.out.form
  simp only [Value.slice.injEq,Option.some.injEq,Addr.mk.injEq,and_true,true_and] at e1
  have:=X.out.size
  omega
 refine bodyPost_ret (Q1y hB rfl _ rfl Try.underlying87 rfl Qay) rfl ?_
 refine ⟨b1,cap1,rfl,?_,(((((X.out.trans X1.out).trans X4.out).setCell (p:=⟨b1,_,none⟩) hbw _).setCell (p:=⟨b1,_,none⟩) hbw _).setCell (p:=⟨g+1+1+1,_,none⟩) hgw _).setCell (p:=⟨g+1+1+1,_,none⟩) hgw _⟩
 exact ((hK5.mono X.out.size).far (p:=⟨g+1+1+1,0,none⟩) hR5 (by decide) _).far (p:=⟨g+1+1+1,1,none⟩) (hR5.set_ _ _) (by decide) _
theorem Qp9 (a b:LKn) (w:World):(binOp .neq 78 (.agg #[.int .i64 a.bits,.bool a.sec]) (.agg #[.int .i64 b.bits,.bool b.sec])).run Try.prog w=.ok (.bool (!decide (a=b))) w:=by
 obtain ⟨x,y⟩:=a
 obtain ⟨u,v⟩:=b
 rw [run_neq_struct]
 go_simp
 by_cases h1:x=u <;> by_cases h2:y=v <;> simp [h1,h2]
theorem Qlv (v:Value) (b cap:Nat) (w:World) :
  Calls Try.prog 94 #[.agg #[.bool true,.slice (some ⟨b,0,none⟩) 8 cap],.agg #[.bool false,.slice none 0 0]] w fun e w'=>e=.returned (.bool false)∧Ext w w':=by
 go_enter Try.func94,Try.ntmps94
 go_wp2
 go_ret
 exact ⟨rfl,((Ext.refl _).alloc _).alloc _⟩
theorem Qlu {s t:KSt} {j:Nat} (hs:s.length=8) (ht:t.length=8) (h:∀ r,r < j→s.getD r default=t.getD r default) (hj:8≤j):s=t:=by
 apply List.ext_getElem (by rw [hs,ht])
 intro r h1 h2
 have:=h r (by omega)
 simpa [h1,h2] using this
set_option maxRecDepth 100000 in
set_option maxHeartbeats 4000000 in
theorem Qlw (s t:KSt) (b cap d capd:Nat) {B B':Nat} (w:World) (h:KnAt w B (.slice (some ⟨b,0,none⟩) 8 cap) s) (k:KnAt w B' (.slice (some ⟨d,0,none⟩) 8 capd) t) :
  Calls Try.prog 94 #[.agg #[.bool true,.slice (some ⟨b,0,none⟩) 8 cap],.agg #[.bool true,.slice (some ⟨d,0,none⟩) 8 capd]] w fun e w'=>e=.returned (.bool (decide (s=t)))∧Ext w w':=by
 have H:=Lib.hid h
 have K:=Lib.hid k
 have hix:=Q2l b cap
 have hix2:=Q2l d capd
 have hne:=Qp9
 clear h k
 go_enter Try.func94,Try.ntmps94
 go_upto_region 1 with fail
 obtain ⟨W,g,hg,hW,hx,bA,bB⟩:=Q0i w #[.bool true,.slice (some ⟨b,0,none⟩) 8 cap] #[.bool true,.slice (some ⟨d,0,none⟩) 8 capd] 87 87
 rw [hW,hg]
 have X:=Lib.hid hx
 have BA:=Lib.hid bA
 have BB:=Lib.hid bB
 have a0:W.cell? ⟨g,0,none⟩=some (.bool true):=by rw [bA.cell];rfl
 have a1:W.cell? ⟨g,1,none⟩=some (.slice (some ⟨b,0,none⟩) 8 cap):=by rw [bA.cell];rfl
 have b0:W.cell? ⟨g+1,0,none⟩=some (.bool true):=by rw [bB.cell];rfl
 have b1:W.cell? ⟨g+1,1,none⟩=some (.slice (some ⟨d,0,none⟩) 8 capd):=by rw [bB.cell];rfl
 clear hW hg hx bA bB
 go_wp2_with fail
 go_loopw [5] (fun i wr => ∃ j:Nat,j≤8∧i=.int .i64 j∧(∀ r,r < j→s.getD r default=t.getD r default)∧Ext W wr) (fun i _=>8 - (intOf i).toNat)
 case atStart=>exact ⟨0,by omega,rfl,fun r hr=>by omega,Ext.refl _⟩
 case round =>
  obtain ⟨j,hj,rfl,hjs,hE⟩:=hrel
  have XE:=Lib.hid hE
  have Hjs:=Lib.hid hjs
  have a1:=hE.kept a1
  have b1:=hE.kept b1
  clear hE hjs
  by_cases hlt:j < 8
  ·obtain ⟨⟨x0,-⟩,⟨x1,-⟩⟩:=(H.out.ext (X.out.trans XE.out)).cell (a:=(j:Int)) (Q08.2 ⟨by omega,by omega⟩)
   obtain ⟨⟨y0,-⟩,⟨y1,-⟩⟩:=(K.out.ext (X.out.trans XE.out)).cell (a:=(j:Int)) (Q08.2 ⟨by omega,by omega⟩)
   have e1:kg s (j:Int)=s.getD j default:=by unfold kg;rw [Int.toNat_natCast]
   have e2:kg t (j:Int)=t.getD j default:=by unfold kg;rw [Int.toNat_natCast]
   rw [e1] at x0 x1
   rw [e2] at y0 y1
   simp only [Int.toNat_natCast] at x0 x1 y0 y1
   have Hnext:Hid (s.getD j default=t.getD j default→∀ r,r < j+1→s.getD r default=t.getD r default):=Lib.hid fun he r hr=>by
    by_cases hrj:r=j
    ·rw [hrj];exact he
    ·exact Hjs.out r (by omega)
   have Hdiff:Hid (¬ s.getD j default=t.getD j default→decide (s=t)=false):=Lib.hid fun he=>by
    simp only [decide_eq_false_iff_not]
    intro h
    exact he (by rw [h])
   generalize s.getD j default=x at *
   generalize t.getD j default=y at *
   have k0:∀ Wx,Ext wr Wx→Wx.cell? ⟨b,j * 2,none⟩=some (.int .i64 x.bits):=fun _ h=>h.kept x0
   have k1:∀ Wx,Ext wr Wx→Wx.cell? ⟨b,j * 2+1,none⟩=some (.bool x.sec):=fun _ h=>h.kept x1
   have l0:∀ Wx,Ext wr Wx→Wx.cell? ⟨d,j * 2,none⟩=some (.int .i64 y.bits):=fun _ h=>h.kept y0
   have l1:∀ Wx,Ext wr Wx→Wx.cell? ⟨d,j * 2+1,none⟩=some (.bool y.sec):=fun _ h=>h.kept y1
   have m1:∀ Wx,Ext wr Wx→Wx.cell? ⟨g,1,none⟩=some (.slice (some ⟨b,0,none⟩) 8 cap):=fun _ h=>h.kept a1
   have n1:∀ Wx,Ext wr Wx→Wx.cell? ⟨g+1,1,none⟩=some (.slice (some ⟨d,0,none⟩) 8 capd):=fun _ h=>h.kept b1
   clear x0 x1 y0 y1
   go_upto_region 6 with fail
   refine Q0z 11 (by kernel_rfl) (by kernel_rfl) ?_
   simp only [List.take_succ_cons,List.take_zero,List.drop_succ_cons,List.drop_zero]
   repeat (first | (refine Q0p ?_ ?_ (fun wc hE=>?_) ?_;(decide);rfl;(focus (go_simp;done));go_simp) | (refine Q0h ?_ ?_ ?_;(decide);(first | rfl | (focus (go_simp;done)));apply Exists.intro;refine ⟨fun wc hE=>?_,?_⟩;(go_simp;exact rfl);go_simp) | (refine Q0q ?_ ?_ ?_;(decide);(first | rfl | (focus (go_simp;done)));apply Exists.intro;refine ⟨fun wc hE=>?_,?_⟩;(go_simp;(first | fail));go_simp) | (refine Q0n ?_ ?_ ?_;(decide);(focus (go_simp;done));go_simp))
   refine Q0o ?_
   intro wx hx
   have X2:=Lib.hid (XE.out.trans hx)
   clear hx k0 k1 l0 l1 m1 n1
   by_cases hxy:x=y
   ·have hd:decide (x=y)=true:=by simpa using hxy
    have Hn:=Lib.hid (Hnext.out hxy)
    rw [hd]
    clear hxy
    go_wp2
    go_roundw
    case rel=>exact ⟨j+1,by omega,by go_num,Hn.out,X2.out⟩
    case measure=>first | (simp [intOf];done) | (simp [intOf];omega)
   ·have hd:decide (x=y)=false:=by simpa using hxy
    have Hn:=Lib.hid (Hdiff.out hxy)
    rw [hd]
    clear hxy
    go_wp2
    go_ret
    rw [Hn.out]
    exact ⟨rfl,X.out.trans X2.out⟩
  ·have hje:j=8:=by omega
   subst hje
   have Hn:Hid (decide (s=t)=true):=Lib.hid (by
    simp only [decide_eq_true_eq]
    exact Qlu H.out.1 K.out.1 Hjs.out (by omega))
   go_wp2
   go_ret
   rw [Hn.out]
   exact ⟨rfl,X.out.trans XE.out⟩
set_option maxRecDepth 100000 in
set_option maxHeartbeats 4000000 in
theorem Qr4 (s:KSt) (b cap:Nat) {B:Nat} (w:World) (h:KnAt w B (.slice (some ⟨b,0,none⟩) 8 cap) s) :
  Calls Try.prog 93 #[.agg #[.bool false,.slice none 0 0],.agg #[.bool true,.slice (some ⟨b,0,none⟩) 8 cap]] w (Qbj w true s):=by
 have H:=Lib.hid h
 clear h
 go_enter Try.func93,Try.ntmps93
 go_upto_region 1 with fail
 obtain ⟨W,g,hg,hW,hx,bA,bB,bR⟩:=Q8q w #[.bool false,.slice none 0 0] #[.bool true,.slice (some ⟨b,0,none⟩) 8 cap] #[.bool false,.slice none 0 0] 87 87 87
 rw [hW,hg]
 have X:=Lib.hid hx
 have Hg:=Lib.hid hg
 have BR:=Lib.hid bR
 have a0:W.cell? ⟨g,0,none⟩=some (.bool false):=by rw [bA.cell];rfl
 have b0:W.cell? ⟨g+1,0,none⟩=some (.bool true):=by rw [bB.cell];rfl
 have b1:W.cell? ⟨g+1,1,none⟩=some (.slice (some ⟨b,0,none⟩) 8 cap):=by rw [bB.cell];rfl
 clear hW hg hx bA bB bR
 go_wp2_with fail
 have C:=Q4k true b cap s W (H.out.ext X.out)
 (with_reducible refine C.mono ?_)
 clear C
 rintro e w1 ⟨b2,cap2,rfl,hK,hx⟩
 have K:=Lib.hid hK
 have X1:=Lib.hid hx
 have bR:=BR.out.ext hx
 have BR1:=Lib.hid bR
 have hgl:=bR.lt
 have r0:w1.cell? ⟨g+1+1,0,none⟩=some (.bool false)∧w1.frozen? ⟨g+1+1,0,none⟩=false:=⟨by rw [bR.cell];rfl,bR.frozen _⟩
 have r1:w1.cell? ⟨g+1+1,1,none⟩=some (.slice none 0 0)∧w1.frozen? ⟨g+1+1,1,none⟩=false:=⟨by rw [bR.cell];rfl,bR.frozen _⟩
 clear hK hx a0 b0 b1 bR
 go_wp2
 have hB:=(BR1.out.set_ 0 (.bool true)).set_ 1 (.slice (some ⟨b2,0,none⟩) 8 cap2)
 have hgw:w.heap.size≤g+1+1:=by have:=Hg.out;omega
 refine bodyPost_ret (Q1y hB rfl _ rfl Try.underlying87 rfl Qay) rfl ?_
 refine ⟨b2,cap2,rfl,?_,((X.out.trans X1.out).setCell (p:=⟨g+1+1,_,none⟩) hgw _).setCell (p:=⟨g+1+1,_,none⟩) hgw _⟩
 exact ((K.out.mono X.out.size).far (p:=⟨g+1+1,0,none⟩) BR1.out (by decide) _).far (p:=⟨g+1+1,1,none⟩) (BR1.out.set_ _ _) (by decide) _
set_option maxRecDepth 100000 in
set_option maxHeartbeats 4000000 in
theorem Qr5 (s t:KSt) (b cap d capd:Nat) {B B':Nat} (w:World) (h:KnAt w B (.slice (some ⟨b,0,none⟩) 8 cap) s) (k:KnAt w B' (.slice (some ⟨d,0,none⟩) 8 capd) t) :
  Calls Try.prog 93 #[.agg #[.bool true,.slice (some ⟨b,0,none⟩) 8 cap],.agg #[.bool true,.slice (some ⟨d,0,none⟩) 8 capd]] w (Qbj w true (Q11 s t)):=by
 have H:=Lib.hid h
 have K:=Lib.hid k
 have hix:=Q2l b cap
 have hix2:=Q2l d capd
 clear h k
 go_enter Try.func93,Try.ntmps93
 go_upto_region 1 with fail
 obtain ⟨W,g,hg,hW,hx,bA,bB,bR⟩:=Q8q w #[.bool true,.slice (some ⟨b,0,none⟩) 8 cap] #[.bool true,.slice (some ⟨d,0,none⟩) 8 capd] #[.bool false,.slice none 0 0] 87 87 87
 rw [hW,hg]
 have X:=Lib.hid hx
 have Hg:=Lib.hid hg
 have BR:=Lib.hid bR
 have a0:W.cell? ⟨g,0,none⟩=some (.bool true):=by rw [bA.cell];rfl
 have a1:W.cell? ⟨g,1,none⟩=some (.slice (some ⟨b,0,none⟩) 8 cap):=by rw [bA.cell];rfl
 have b1:W.cell? ⟨g+1,1,none⟩=some (.slice (some ⟨d,0,none⟩) 8 capd):=by rw [bB.cell];rfl
 clear hW hg hx bA bB bR
 go_wp2_with fail
 have C:=Q4k true b cap s W (H.out.ext X.out)
 (with_reducible refine C.mono ?_)
 clear C
 rintro er w1 ⟨b2,cap2,rfl,hK,hx⟩
 have hix3:=Q2l b2 cap2
 have KK:=Lib.hid hK
 have X1:=Lib.hid hx
 have HA1:=Lib.hid a1
 have HB1:=Lib.hid b1
 clear hK hx a0 a1 b1
 go_upto_region 4 with fail
 obtain ⟨w2,e,he,hW,hx,bE⟩:=Q1f w1 #[.bool true,.slice (some ⟨b2,0,none⟩) 8 cap2] 87
 rw [hW,he]
 have X2:=Lib.hid (X1.out.trans hx)
 have K2:=Lib.hid (KK.out.ext hx)
 have hb2:b2≠e:=K2.out.ne bE (by decide)
 have hWe:W.heap.size≤e:=by have:=X1.out.size;omega
 have HWe:=Lib.hid hWe
 clear hW he hx
 go_wp2_with fail
 go_loopw [6] (fun i wr => ∃ j:Nat,j≤8∧i=.int .i64 j∧KnAt wr W.heap.size (.slice (some ⟨b2,0,none⟩) 8 cap2) (mixJ s t j)∧Blk wr e 87 #[.bool true,.slice (some ⟨b2,0,none⟩) 8 cap2]∧Ext W wr) (fun i _=>8 - (intOf i).toNat)
 case atStart=>exact ⟨0,by omega,rfl,by rw [Qgv H.out.1];exact K2.out,bE,X2.out⟩
 case round =>
  obtain ⟨j,hj,rfl,hM,bE,hE⟩:=hrel
  have XE:=Lib.hid hE
  have M:=Lib.hid hM
  have BE:=Lib.hid bE
  have e1:wr.cell? ⟨e,1,none⟩=some (.slice (some ⟨b2,0,none⟩) 8 cap2):=by rw [bE.cell];rfl
  have hel:=bE.lt
  by_cases hlt:j < 8
  ·have hjo:okIn 8 (j:Int)=true:=Q08.2 ⟨by omega,by omega⟩
   have Hjo:=Lib.hid hjo
   obtain ⟨⟨x0,-⟩,⟨x1,-⟩⟩:=(H.out.ext (X.out.trans hE)).cell (a:=(j:Int)) hjo
   obtain ⟨⟨y0,-⟩,⟨y1,-⟩⟩:=(K.out.ext (X.out.trans hE)).cell (a:=(j:Int)) hjo
   have f1:kg s (j:Int)=s.getD j default:=by unfold kg;rw [Int.toNat_natCast]
   have f2:kg t (j:Int)=t.getD j default:=by unfold kg;rw [Int.toNat_natCast]
   rw [f1] at x0 x1
   rw [f2] at y0 y1
   simp only [Int.toNat_natCast] at x0 x1 y0 y1
   have Hnext:=Lib.hid (Qgw s t hlt)
   generalize s.getD j default=x at *
   generalize t.getD j default=y at *
   have k0:∀ Wx,Ext wr Wx→Wx.cell? ⟨b,j * 2,none⟩=some (.int .i64 x.bits):=fun _ h=>h.kept x0
   have k1:∀ Wx,Ext wr Wx→Wx.cell? ⟨b,j * 2+1,none⟩=some (.bool x.sec):=fun _ h=>h.kept x1
   have l0:∀ Wx,Ext wr Wx→Wx.cell? ⟨d,j * 2,none⟩=some (.int .i64 y.bits):=fun _ h=>h.kept y0
   have l1:∀ Wx,Ext wr Wx→Wx.cell? ⟨d,j * 2+1,none⟩=some (.bool y.sec):=fun _ h=>h.kept y1
   have m1:∀ Wx,Ext wr Wx→Wx.cell? ⟨g,1,none⟩=some (.slice (some ⟨b,0,none⟩) 8 cap):=fun _ h=>h.kept (hE.kept HA1.out)
   have n1:∀ Wx,Ext wr Wx→Wx.cell? ⟨g+1,1,none⟩=some (.slice (some ⟨d,0,none⟩) 8 capd):=fun _ h=>h.kept (hE.kept HB1.out)
   have o1:∀ Wx,Ext wr Wx→Wx.cell? ⟨e,1,none⟩=some (.slice (some ⟨b2,0,none⟩) 8 cap2):=fun _ h=>h.kept e1
   clear x0 x1 y0 y1 hE hM bE hjo
   go_upto_region 7 with fail
   clear e1
   refine Q2d [13,14,15] 1 (by kernel_rfl) (by kernel_rfl) ?_
   repeat (first | (refine Q2o ?_ ?_;(decide)) | (refine Q2i ?_ ?_ ?_;(decide);(first | rfl | (focus (go_simp;done)));apply Exists.intro;refine ⟨fun wc hE=>?_,?_⟩;(go_simp;exact rfl);go_simp) | (refine Q2m ?_ ?_ ?_;(decide);(focus (go_simp;done));go_simp))
   refine Q2n ?_
   intro w3 hx
   have X3:=Lib.hid hx
   clear k0 k1 l0 l1 m1 n1 o1 hx
   refine Q39 rfl ?_
   go_wp2_with fail
   (with_reducible refine (Qmu x.bits y.bits x.sec y.sec w3).mono ?_)
   rintro er w4 ⟨rfl,hx⟩
   have X4:=Lib.hid (X3.out.trans hx)
   have M4:=M.out.ext X4.out
   obtain ⟨p0,p1⟩:=M4.cell Hjo.out
   simp only [Int.toNat_natCast] at p0 p1
   have hbl:=Q09 p0.1
   simp only at hbl
   have M4:=Lib.hid M4
   clear hx
   go_wp2
   refine ⟨X4.out,?_⟩
   refine Q23 (Q10 rfl (Q10 rfl (Q2a))) ?_
   go_wp2
   go_roundw
   case rel =>
    refine ⟨j+1,by omega,by go_num,?_,?_,?_⟩
    ·have:=M4.out.put Hjo.out (Q1x x y)
     rw [Hnext.out] at this
     simpa [Q1x] using this
    ·exact ((BE.out.ext X4.out).far (p:=⟨b2,j * 2,none⟩) (fun h=>hb2 h.symm) _).far (p:=⟨b2,j * 2+1,none⟩) (fun h=>hb2 h.symm) _
    ·have hbw:W.heap.size≤b2:=by
      obtain ⟨b',cap',e1,-,-,e4⟩:=M4.out.form
      simp only [Value.slice.injEq,Option.some.injEq,Addr.mk.injEq,and_true,true_and] at e1
      omega
     exact ((XE.out.trans X4.out).setCell (p:=⟨b2,j * 2,none⟩) hbw _).setCell (p:=⟨b2,j * 2+1,none⟩) hbw _
   case measure=>first | (simp [intOf];done) | (simp [intOf];omega)
  ·have hje:j=8:=by omega
   subst hje
   have MM:=hM
   rw [Qgy] at MM
   have MM:=Lib.hid MM
   have BR1:=Lib.hid (BR.out.ext hE)
   have hgl:=BR1.out.lt
   have e0:wr.cell? ⟨e,0,none⟩=some (.bool true):=by rw [bE.cell];rfl
   have r0:wr.cell? ⟨g+1+1,0,none⟩=some (.bool false)∧wr.frozen? ⟨g+1+1,0,none⟩=false:=⟨by rw [BR1.out.cell];rfl,BR1.out.frozen _⟩
   have r1:wr.cell? ⟨g+1+1,1,none⟩=some (.slice none 0 0)∧wr.frozen? ⟨g+1+1,1,none⟩=false:=⟨by rw [BR1.out.cell];rfl,BR1.out.frozen _⟩
   clear hM hE bE
   go_wp2
   have hB:=(BR1.out.set_ 0 (.bool true)).set_ 1 (.slice (some ⟨b2,0,none⟩) 8 cap2)
   have hgw:w.heap.size≤g+1+1:=by have:=Hg.out;omega
   refine bodyPost_ret (Q1y hB rfl _ rfl Try.underlying87 rfl Qay) rfl ?_
   refine ⟨b2,cap2,rfl,?_,((X.out.trans XE.out).setCell (p:=⟨g+1+1,_,none⟩) hgw _).setCell (p:=⟨g+1+1,_,none⟩) hgw _⟩
   exact ((MM.out.mono X.out.size).far (p:=⟨g+1+1,0,none⟩) BR1.out (by decide) _).far (p:=⟨g+1+1,1,none⟩) (BR1.out.set_ _ _) (by decide) _
end Go.Proofs.Yteiknefajlocoaa
