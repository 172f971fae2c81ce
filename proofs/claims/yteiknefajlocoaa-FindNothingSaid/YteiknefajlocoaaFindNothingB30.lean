/- Laid together from: PlayP, Seq2, Play1, Play2, Play3, Play4, Seq3, Seq4. -/
import Derived.Test.YteiknefajlocoaaFindNothingB19
import Derived.Test.YteiknefajlocoaaFindNothingB5
import Derived.Test.YteiknefajlocoaaFindNothingB15
import Derived.Test.YteiknefajlocoaaFindNothingB29

namespace Go.Proofs.Yteiknefajlocoaa
open Go.RowKit
set_option linter.unusedVariables false
set_option linter.unusedSimpArgs false
structure PlOk (p:Q00) (n:Nat) (P:Plc):Prop where
 len:P.regs.length=10
 r64:Q1w P.regs
 wlen:P.words.length=Q14 p
 w64:Q1w P.words
 plen:P.past.length=Q14 p
 past:∀ l ∈ P.past,l.length≤n∧Q1w l
 at_:P.at_≤p.code.length
section
variable {p : Q00} {n m k : Nat} {P : Plc}
theorem PlOk.mono (h:PlOk p n P) (hn:n≤m):PlOk p m P:=⟨h.len,h.r64,h.wlen,h.w64,h.plen,fun l hl=>⟨Nat.le_trans (h.past l hl).1 hn,(h.past l hl).2⟩,h.at_⟩
theorem PlOk.goTo (h:PlOk p n P) (hk:k≤p.code.length):PlOk p n { P with at_:=k }:=⟨h.len,h.r64,h.wlen,h.w64,h.plen,h.past,hk⟩
theorem PlOk.reg (h:PlOk p n P) (a:Int) {v:Int} (hv:R64 v):PlOk p n { P with regs:=rset P.regs a v }:=⟨by rw [Q4w];exact h.len,h.r64.rset a hv,h.wlen,h.w64,h.plen,h.past,h.at_⟩
theorem PlOk.plain (h:PlOk p n P) {i:LIns} (hi:i.fits):PlOk p n { P with regs:=Q1i P.regs i }:=⟨by rw [Q96];exact h.len,Qed h.r64 hi.2.2.2.2,h.wlen,h.w64,h.plen,h.past,h.at_⟩
theorem PlOk.row (h:PlOk p n P) (x:Nat):(P.past.getD x []).length≤n∧Q1w (P.past.getD x []):=by
 by_cases hx:x < P.past.length
 ·have e:P.past.getD x []=P.past[x]:=by simp [hx]
  rw [e]
  exact h.past _ (List.getElem_mem hx)
 ·rw [List.getD_eq_getElem?_getD,List.getElem?_eq_none (by omega)]
  exact ⟨Nat.zero_le _,fun j=>by simp [R64]⟩
theorem PlOk.put (h:PlOk p n P) (x:Nat) {v:Int} (hv:R64 v):PlOk p (n+1) { P with past:=P.past.set x (P.past.getD x [] ++ [P.words.getD x 0]),words:=P.words.set x v }:=by
 refine ⟨h.len,h.r64,by simp [h.wlen],h.w64.set x hv,by simp [h.plen],fun l hl=>?_,h.at_⟩
 rcases List.mem_or_eq_of_mem_set hl with e | rfl
 ·exact ⟨by have:=(h.past l e).1;omega,(h.past l e).2⟩
 ·obtain ⟨h1,h2⟩:=h.row x
  exact ⟨by rw [List.length_append];simp only [List.length_cons,List.length_nil];omega,h2.snoc (h.w64 x)⟩
end
def bN (b:Bool):Nat:=if b then 1 else 0
structure SMid (p:Q00) (n:Nat) (S:Spc):Prop where
 pl:PlOk p n S.pl
 back:S.ahead=true→PlOk p n S.back
 s0 : -1≤S.since
 s1:S.since≤12
 s2:S.ahead=true→S.since≤11
section
variable {p : Q00} {n m k : Nat} {S : Spc}
theorem SMid.mono (h:SMid p n S) (hn:n≤m):SMid p m S:=⟨h.pl.mono hn,fun e=>(h.back e).mono hn,h.s0,h.s1,h.s2⟩
theorem SMid.goTo (h:SMid p n S) (hk:k≤p.code.length):SMid p n (S.goTo k):=⟨h.pl.goTo hk,h.back,h.s0,h.s1,h.s2⟩
theorem SMid.chosen (h:SMid p n S):SMid p n S.chosen:=⟨h.pl,h.back,h.s0,h.s1,h.s2⟩
theorem SMid.put_ (h:SMid p n S) (a:Int) {v:Int} (hv:R64 v):SMid p n (S.put_ a v):=⟨h.pl.reg a hv,h.back,h.s0,h.s1,h.s2⟩
theorem SMid.leave (h:SMid p n S):SMid p n S.leave:=by
 unfold Spc.leave
 cases e:S.ahead
 ·exact ⟨h.pl,fun _=>h.pl,by simp,by simp,by simp⟩
 ·exact h
theorem SMid.seen (h:SMid p n S) (l:List LSee):SMid p n { S with seen:=l }:=⟨h.pl,h.back,h.s0,h.s1,h.s2⟩
theorem SMid.steps (h:SMid p n S) (l:List LSee) (j:Nat):SMid p n { S with steps:=j,seen:=l }:=⟨h.pl,h.back,h.s0,h.s1,h.s2⟩
theorem SMid.returns (h:SMid p n S) (ha:S.ahead=true):SMid p n S.returns:=⟨h.back ha,fun e=>by simp [Spc.returns] at e,h.s0,h.s1,fun e=>by simp [Spc.returns] at e⟩
theorem SMid.fault (h:SMid p n S) (x:Int):SMid p n { S with fin:=x }:=⟨h.pl,h.back,h.s0,h.s1,h.s2⟩
end
theorem Qeb (b:Bool):bN b≤1:=by cases b <;> decide
theorem Qpc {p:Q00} {n:Nat} {S:Spc} {i:LIns} (h:SMid p n S) (hlt:S.pl.at_ < p.code.length) (hok:Q01 p 10 i=true) (hi:i.fits):SMid p (n+1) (doS p i S):=by
 have hj:=(Q2e hok).2.2.2.2.2.2.2.2.2.1
 have hat:S.pl.at_+1≤p.code.length:=hlt
 unfold doS
 by_cases h7:i.op=7
 ·rw [if_pos h7]
  have:=(hj (.inl h7)).2
  exact (h.goTo (by omega)).mono (Nat.le_succ _)
 rw [if_neg h7]
 by_cases h8:i.op=8
 ·rw [if_pos h8]
  have:=(hj (.inr h8)).2
  have hn:i.n.toNat≤p.code.length:=by omega
  refine SMid.mono ?_ (Nat.le_succ n)
  unfold Q4u
  simp only
  split
  ·exact (h.goTo (by split <;> assumption)).chosen
  ·exact ((h.goTo (by split <;> assumption)).chosen.leave).goTo (by split <;> assumption)
 rw [if_neg h8]
 by_cases h9:i.op=9
 ·rw [if_pos h9]
  refine SMid.mono ?_ (Nat.le_succ n)
  split
  ·exact h.goTo hat
  ·exact ⟨h.pl,h.back,h.s0,h.s1,h.s2⟩
 rw [if_neg h9]
 by_cases h12:i.op=12
 ·rw [if_pos h12]
  exact (h.goTo hat).mono (Nat.le_succ _)
 rw [if_neg h12]
 split
 ·unfold Q3h
  simp only
  split
  ·exact (h.fault 2).mono (Nat.le_succ _)
  ·split
   ·split
    ·exact ⟨(h.pl.put _ (h.pl.r64 _)).goTo (by exact hat),fun e=>(h.back e).mono (Nat.le_succ _),h.s0,h.s1,h.s2⟩
    ·refine SMid.mono ?_ (Nat.le_succ n)
     unfold Q44
     simp only
     have h1:=((h.seen (S.seen ++ [⟨2,wrap64 (↑(Q13 p i.c.toNat)+Q1a S.pl.regs i),putN i⟩])).goTo (k:=S.pl.at_+1) hat).chosen.put_ i.a (h.pl.w64 (wrap64 (↑(Q13 p i.c.toNat)+Q1a S.pl.regs i)).toNat)
     split
     ·exact h1.leave.put_ i.a ((h.pl.row _).2 _)
     ·exact h1
   ·have h1:=(h.seen (S.seen ++ [⟨2,wrap64 (↑(Q13 p i.c.toNat)+Q1a S.pl.regs i),putN i⟩])).goTo (k:=S.pl.at_+1) hat
    split
    ·exact h1.mono (Nat.le_succ _)
    ·exact (h1.put_ i.a Q67).mono (Nat.le_succ _)
 ·exact ⟨((h.pl.plain hi).goTo (k:=S.pl.at_+1) hat).mono (Nat.le_succ _),fun e=>(h.back e).mono (Nat.le_succ _),h.s0,h.s1,h.s2⟩
theorem Qfe (p:Q00) (i:LIns) (S:Spc):(doS p i S).seen.length+bN (doS p i S).ahead≤S.seen.length+bN S.ahead+2:=by
 unfold doS
 split
 ·simp only [Spc.goTo];omega
 split
 ·unfold Q4u
  simp only
  split
  ·simp only [Spc.goTo,Spc.chosen];omega
  ·simp only [Spc.goTo,Qha,Spc.chosen]
   refine Nat.le_trans (Nat.add_le_add_left (Qeb _) _) ?_
   omega
 split
 ·split
  ·simp only [Spc.goTo];omega
  ·simp only;omega
 split
 ·simp only [Spc.goTo];omega
 split
 ·unfold Q3h
  simp only
  split
  ·simp only;omega
  ·split
   ·split
    ·simp only [List.length_append,List.length_cons,List.length_nil];omega
    ·unfold Q44
     simp only
     split
     ·simp only [Spc.put_,Qha,Spc.chosen,Spc.goTo,List.length_append,List.length_cons,List.length_nil]
      refine Nat.le_trans (Nat.add_le_add_left (Qeb _) _) ?_
      omega
     ·simp only [Spc.put_,Spc.chosen,Spc.goTo,List.length_append,List.length_cons,List.length_nil];omega
   ·split
    ·simp only [Spc.goTo,List.length_append,List.length_cons,List.length_nil];omega
    ·simp only [Spc.put_,Spc.goTo,List.length_append,List.length_cons,List.length_nil];omega
 ·have:(Q3b S.pl.regs i).length≤1:=by unfold Q3b;split <;> simp
  simp only [List.length_append]
  omega
structure SOk (p:Q00) (S:Spc):Prop where
 mid:SMid p S.steps S
 seen:S.seen.length+bN S.ahead≤4 * S.steps+1
theorem Qkv {p:Q00} {ws script:List Int} (hl:ws.length=Q14 p) (h64:Q1w ws):SOk p (Q0x ws script) :=
 ⟨⟨⟨by simp [Q0x],Qja (fun x hx=>by simp only [Q0x,List.mem_replicate] at hx;rw [hx.2];exact Q67),hl,h64,by simp [Q0x,hl],fun l hl=>by
   simp only [Q0x,List.mem_replicate] at hl
   rw [hl.2]
   exact ⟨Nat.zero_le _,fun j=>by simp [R64]⟩,by simp [Q0x]⟩,fun e=>by simp [Q0x] at e,by simp [Q0x],by simp [Q0x],fun e=>by simp [Q0x] at e⟩,by simp [Q0x,bN]⟩
theorem SOk.up {p:Q00} {S:Spc} (h:SOk p S) (ha:S.ahead=true):SOk p S.returns :=
 ⟨h.mid.returns ha,by
  have:=h.seen
  rw [ha] at this
  simp only [Spc.returns,List.length_append,List.length_cons,List.length_nil,bN,if_true] at this ⊢
  simp
  omega⟩
def begS (S:Spc):Spc:={ S with steps:=S.steps+1,seen:=S.seen ++ [⟨1,S.pl.at_,0⟩] }
def Q3y (S:Spc):Spc:={ S with since:=S.since+1 }
theorem Qex (p:Q00) (i:LIns) (S:Spc):Q34 p i S=if (doS p i (begS S)).ahead then (if Q31 i S || decide ((Q3y (doS p i (begS S))).since=12) then (Q3y (doS p i (begS S))).returns else Q3y (doS p i (begS S))) else doS p i (begS S):=rfl
theorem SOk.mid2 {p:Q00} {S:Spc} {i:LIns} (h:SOk p S) (hlt:S.pl.at_ < p.code.length) (hok:Q01 p 10 i=true) (hi:i.fits):SMid p (S.steps+1) (doS p i (begS S)):=Qpc (h.mid.steps _ _) hlt hok hi
theorem SOk.step {p:Q00} {S:Spc} {i:LIns} (h:SOk p S) (hlt:S.pl.at_ < p.code.length) (hok:Q01 p 10 i=true) (hi:i.fits):SOk p (Q34 p i S):=by
 have h1:=h.mid2 hlt hok hi
 have h2:=Qfe p i (begS S)
 have h3:=Qix p i (begS S)
 have h4:=h.seen
 have h5:(begS S).seen.length=S.seen.length+1:=by simp [begS]
 have h6:(begS S).ahead=S.ahead:=rfl
 have h7:(begS S).steps=S.steps+1:=rfl
 rw [h5,h6] at h2
 rw [h7] at h3
 rw [Qex]
 generalize doS p i (begS S)=T at *
 split
 ·rename_i ha
  rw [ha] at h2
  have h8:bN true=1:=rfl
  rw [h8] at h2
  have hm:∀ (hs:T.since+1≤11),SMid p (S.steps+1) (Q3y T):=fun hs=>⟨h1.pl,h1.back,by have:=h1.s0;simp only [Q3y];omega,by simp only [Q3y];omega,fun _=>hs⟩
  split
  ·have hr:SMid p (S.steps+1) (Q3y T).returns:=⟨h1.back ha,fun e=>by simp [Spc.returns] at e,by have:=h1.s0;simp only [Q3y,Spc.returns];omega,by have:=h1.s2 ha;simp only [Q3y,Spc.returns];omega,fun e=>by simp [Spc.returns] at e⟩
   refine ⟨?_,?_⟩
   ·show SMid p T.steps _
    rw [h3];exact hr
   ·show (T.seen ++ [_]).length+bN false≤4 * T.steps+1
    rw [h3,List.length_append]
    simp only [List.length_cons,List.length_nil,bN]
    simp
    omega
  ·rename_i hne
   simp only [Bool.or_eq_true,decide_eq_true_eq,not_or] at hne
   have hs:=h1.s2 ha
   have hs2:T.since+1≠12:=hne.2
   refine ⟨?_,?_⟩
   ·show SMid p T.steps _
    rw [h3];exact hm (by omega)
   ·show T.seen.length+bN T.ahead≤4 * T.steps+1
    rw [h3,ha,h8]
    omega
 ·exact ⟨by rw [h3];exact h1,by rw [h3];omega⟩
theorem Qm0 {p:Q00} {S:Spc} {k:Nat} (hf:S.fin≠0):runS p k S=S:=by
 cases k with
 | zero=>rfl
 | succ k=>rw [runS,if_pos hf]
theorem Qlz {p:Q00} {S:Spc} {k:Nat} (hk:0 < k) (hf:S.fin=0) (ha:S.ahead=true) (hat:p.code.length≤S.pl.at_):runS p k S=runS p k S.returns:=by
 obtain ⟨j,rfl⟩:∃ j,k=j+1:=⟨k - 1,by omega⟩
 have e1:upS p S=S.returns:=by unfold upS;rw [if_pos ⟨ha,hat⟩]
 have e2:upS p S.returns=S.returns:=by unfold upS;rw [if_neg (by simp [Spc.returns])]
 have hf2:S.returns.fin=0:=hf
 rw [runS,runS,if_neg (by omega),if_neg (by omega),e1,e2]
theorem Qm1 {p:Q00} {S:Spc} {k:Nat} (hk:0 < k) (hf:S.fin=0) (ha:S.ahead=false) (hat:p.code.length≤S.pl.at_):runS p k S={ S with fin:=2 }:=by
 obtain ⟨j,rfl⟩:∃ j,k=j+1:=⟨k - 1,by omega⟩
 have e1:upS p S=S:=by unfold upS;rw [if_neg (by simp [ha])]
 have e2:p.code[S.pl.at_]? = none:=List.getElem?_eq_none hat
 rw [runS,if_neg (by omega),e1,e2]
theorem Qm2 {p:Q00} {S:Spc} {k:Nat} {i:LIns} (hk:0 < k) (hf:S.fin=0) (hi:p.code[S.pl.at_]? = some i):runS p k S=runS p (k - 1) (Q34 p i S):=by
 obtain ⟨j,rfl⟩:∃ j,k=j+1:=⟨k - 1,by omega⟩
 have hlt:=(List.getElem?_eq_some_iff.1 hi).1
 have e1:upS p S=S:=by unfold upS;rw [if_neg (by omega)]
 rw [runS,if_neg (by omega),e1,hi]
 rfl
end Go.Proofs.Yteiknefajlocoaa

namespace Go.Proofs.Yteiknefajlocoaa
open Go.ChangeShapes Go.WideShapes Go.ChangeAt Go.RowKit
set_option linter.unusedVariables false
set_option linter.unusedSimpArgs false
theorem Q53 (g:Nat) (W:World) (i:Int) (h0:0≤i) (h1:i < 10) :
  (Instr.indexAt 106 (.pointer (some ⟨g,7,none⟩)) (.int .i64 i)).run Try.prog W=.ok (.pointer (some ⟨g,7+i.toNat,none⟩)) W:=by
 have hs:(Try.prog.info? 2).map (·.size)=some 1:=by kernel_rfl
 simp [Instr.indexAt,run_underlying Try.underlying106,asIntOf,Instr.sureAddr,h0,h1]
 exact Q3w g 7 _
set_option maxHeartbeats 2000000 in
theorem Q6x {B g:Nat} {vR vC vM vB vS vW:Value} {bases:List Int} {M:Mach} (w:World) (h:MSt w B g vR vC vM vB vS vW bases M) (kind a b:Int) (hl:M.seen.length≤1000000) :
  Calls Try.prog 105 #[.pointer (some ⟨g,0,none⟩),.int .i64 kind,.int .i64 a,.int .i64 b] w fun e w'=>e=.returned (.tuple #[])∧Qbh w w' B g vR vC vM vB vS vW bases { M with seen:=M.seen ++ [⟨kind,a,b⟩] }:=by
 obtain ⟨-,-,-,-,-,g5,-⟩:=h.cells
 obtain ⟨i0',hi0',hz0',hz1',hz2'⟩:=info_parts Qrl
 have hgl:=h.box.lt
 have P:=Lib.hid h
 obtain ⟨ov,ovc,rfl⟩:=Q1e h.sn
 clear h
 go_enter Try.func105,Try.ntmps105
 go_wp2_with (at_builtin;refine Q3g _ rfl _ _ 34 rfl B 98 i0' _ 3 24 Try.underlying34 hi0' hz0' hz1' hz2' rfl (by decide) _ _ _ rfl (Q4y P.out.sn) (some ⟨w.heap.size,0,none⟩) 1 1 (Q6j ⟨kind,a,b⟩) rfl ?c1 ?c3 ?c4 ?c5 ?_)
 case c1=>exact Q5a (size:=3) (Blk.new w 98 #[.int .i64 kind,.int .i64 a,.int .i64 b]) rfl (by simp [Value.oneCell'])
 case c3=>unfold maxLen;omega
 case c4=>omega
 case c5=>have:=P.out.size;simp;omega
 intro vS' w3 hown hgrow hat
 obtain ⟨ow,owc,rfl⟩:=Q1e hown
 have hx:=(Ext.refl w).alloc (.cells #[.int .i64 kind,.int .i64 a,.int .i64 b] 98)
 have P1:=P.out.ext hx
 have p5:w3.cell? ⟨g,5,none⟩=some (.slice ov M.seen.length ovc)∧w3.frozen? ⟨g,5,none⟩=false:=by
  have hb:=P1.box.grown hgrow P1.gs
  exact ⟨by rw [hb.cell];simp [Q18],hb.frozen 5⟩
 have P2:=Lib.hid (P1.show_ (s:=M.seen ++ [⟨kind,a,b⟩]) (vS':=.slice ow (M.seen.length+1) owc) hgrow (by simpa using hown))
 have HT:Hid (Turn (fun j=>j=g∨(Value.slice ov M.seen.length ovc).ownBlock=some j) w (w3.setCell ⟨g,5,none⟩ (.slice ow (M.seen.length+1) owc))):=Lib.hid
  (((Turn.ofExt hx).trans (Turn.grown hgrow) (fun j _ e=>.inr e)).trans (Turn.set _ _ _) (fun j _ e=>.inl e))
 have Hat:Hid (∀ j,(Value.slice ow (M.seen.length+1) owc).ownBlock=some j→(Value.slice ov M.seen.length ovc).ownBlock=some j∨w.heap.size≤j):=Lib.hid (by
  intro j hj
  rcases hat with hat | hat
  ·rw [hat] at hj;exact .inl hj
  ·rw [hat] at hj
   simp only [Option.some.injEq] at hj
   have:=hx.size
   exact .inr (by omega))
 clear hown hgrow hat hx P1 g5
 go_wp2
 refine bodyPost_end (results_none rfl _ _ _) rfl ?_
 exact ⟨rfl,_,P2.out,HT.out,Hat.out⟩
theorem Q1c {B g:Nat} {vR vC vM vB vS vW:Value} {bases:List Int} {M:Mach} (w:World) (h:MSt w B g vR vC vM vB vS vW bases M) (i:LIns) (hb:okIn 10 i.b=true) :
  Calls Try.prog 135 #[.pointer (some ⟨g,0,none⟩),insV i] w fun e w'=>e=.returned (.int .i64 (Q1a M.regs i))∧Ext w w':=by
 obtain ⟨rb,-⟩:=h.reg hb
 obtain ⟨op,a,b,c,n⟩:=i
 simp only at hb rb
 obtain ⟨b0,b1⟩:=Q08.1 hb
 have hgl:=h.box.lt
 unfold insV
 simp only
 clear h
 by_cases h5:op=5
 ·subst h5
  go_enter Try.func135,Try.ntmps135
  go_wp2
  go_ret
  exact ⟨Q4x (by simp [Q1a]),(Ext.refl _).alloc _⟩
 by_cases h6:op=6
 ·subst h6
  go_enter Try.func135,Try.ntmps135
  go_wp2
  go_ret
  exact ⟨Q4x (by simp [Q1a]),(Ext.refl _).alloc _⟩
 have Hv:Hid (Q1a M.regs ⟨op,a,b,c,n⟩=wrap64 (rg M.regs b+n)):=Lib.hid (by unfold Q1a;rw [if_neg (by simp only;omega)])
 have e5:(op == 5)=false:=by simpa using h5
 have e6:(op == 6)=false:=by simpa using h6
 have hix:=Q53
 clear h5 h6
 go_enter Try.func135,Try.ntmps135
 go_upto_region 3 with fail
 obtain ⟨w0,e,he,hW,hs0,hx0,c0,c1,c2,c3,c4⟩:=new5 w 70 (.int .i64 op) (.int .i64 a) (.int .i64 b) (.int .i64 c) (.int .i64 n)
 rw [hW,he]
 have k0:∀ W,Ext w0 W→W.cell? ⟨e,2,none⟩=some (.int .i64 b):=fun _ h=>h.kept c2
 have k1:∀ W,Ext w0 W→W.cell? ⟨e,4,none⟩=some (.int .i64 n):=fun _ h=>h.kept c4
 have k2:∀ W,Ext w0 W→W.cell? ⟨g,7+b.toNat,none⟩=some (.int .i64 (rg M.regs b)):=fun _ h=>h.kept (hx0.kept rb)
 have X:=Lib.hid hx0
 clear hW he hs0 hx0 c0 c1 c2 c3 c4 rb
 refine Q0z 12 (by kernel_rfl) (by kernel_rfl) ?_
 simp only [List.take_succ_cons,List.take_zero,List.drop_succ_cons,List.drop_zero]
 repeat (first | (refine Q0p ?_ ?_ (fun wc hE=>?_) ?_;(decide);rfl;(focus (go_simp;done));go_simp) | (refine Q0h ?_ ?_ ?_;(decide);(first | rfl | (focus (go_simp;done)));apply Exists.intro;refine ⟨fun wc hE=>?_,?_⟩;(go_simp;exact rfl);go_simp) | (refine Q0q ?_ ?_ ?_;(decide);(first | rfl | (focus (go_simp;done)));apply Exists.intro;refine ⟨fun wc hE=>?_,?_⟩;(go_simp;(first | fail));go_simp) | (refine Q0n ?_ ?_ ?_;(decide);(focus (go_simp;done));go_simp))
 refine Q0o ?_
 intro wx hx
 have X:=Lib.hid (X.out.trans hx)
 clear hx k0 k1 k2
 go_wp2
 go_ret
 exact ⟨Q4x (by rw [Hv.out,IntKind.wrap_i64];unfold wrap64;rfl),X.out⟩
theorem Qcl (i:LIns) (w:World) :
  Calls Try.prog 107 #[insV i] w fun e w'=>e=.returned (.bool (Q0s i))∧Ext w w':=by
 obtain ⟨op,a,b,c,n⟩:=i
 unfold insV
 simp only
 by_cases h1:op=4
 ·subst h1
  go_enter Try.func107,Try.ntmps107
  go_wp2
  go_ret
  exact ⟨Q04 (by simp [Q0s]),(Ext.refl _).alloc _⟩
 by_cases h2:op=6
 ·subst h2
  go_enter Try.func107,Try.ntmps107
  go_wp2
  go_ret
  exact ⟨Q04 (by simp [Q0s]),(Ext.refl _).alloc _⟩
 have e1:(op == 4)=false:=by simpa using h1
 have e2:(op == 6)=false:=by simpa using h2
 have Hv:Hid (Q0s ⟨op,a,b,c,n⟩=false):=Lib.hid (by simp [Q0s,h1,h2])
 clear h1 h2
 go_enter Try.func107,Try.ntmps107
 go_wp2
 go_ret
 exact ⟨Q04 Hv.out.symm,(Ext.refl _).alloc _⟩
theorem Qes (i:LIns) (w:World) :
  Calls Try.prog 108 #[insV i] w fun e w'=>e=.returned (.bool (Q0m i))∧Ext w w':=by
 obtain ⟨op,a,b,c,n⟩:=i
 unfold insV
 simp only
 by_cases h1:op=3
 ·subst h1
  go_enter Try.func108,Try.ntmps108
  go_wp2
  go_ret
  exact ⟨Q04 (by simp [Q0m]),(Ext.refl _).alloc _⟩
 by_cases h2:op=5
 ·subst h2
  go_enter Try.func108,Try.ntmps108
  go_wp2
  go_ret
  exact ⟨Q04 (by simp [Q0m]),(Ext.refl _).alloc _⟩
 have e1:(op == 3)=false:=by simpa using h1
 have e2:(op == 5)=false:=by simpa using h2
 have Hv:Hid (Q0m ⟨op,a,b,c,n⟩=false):=Lib.hid (by simp [Q0m,h1,h2])
 clear h1 h2
 go_enter Try.func108,Try.ntmps108
 go_wp2
 go_ret
 exact ⟨Q04 Hv.out.symm,(Ext.refl _).alloc _⟩
theorem Qr8 {B g:Nat} {vR vC vM vB vS vW:Value} {bases:List Int} {M:Mach} (w:World) (h:MSt w B g vR vC vM vB vS vW bases M) (p:Q00) (hR:Q5n w vR p.regs) (hr:Q02 p.regs=true) (c x:Int) (h0:0≤c) (h1:c.toNat < p.regs.length) :
  Calls Try.prog 136 #[.pointer (some ⟨g,0,none⟩),.int .i64 c,.int .i64 x] w fun e w'=>e=.returned (.bool (decide (0≤x) && decide (x < (Q0e (p.regs.getD c.toNat default):Nat))))∧Ext w w':=by
 obtain ⟨g0,-⟩:=h.cells
 obtain ⟨-,oa,cap,b,o,rfl,hc1,hc2,hrow⟩:=hR
 have hix:=Q33 (cap:=cap) hrow.at_
 obtain ⟨e0,e1⟩:=hrow.reg c.toNat h1
 have hlog:=Q66 hr _ (Q2b h1)
 have hlen:=Q3o hr
 have hw6:Q0e (p.regs.getD c.toNat default)≤64:=Q6u _ hlog.2
 clear hrow h
 have h1':c < (p.regs.length:Int):=by omega
 generalize p.regs.getD c.toNat default=r at *
 by_cases hx0:0≤x
 ·go_enter Try.func136,Try.ntmps136
  go_wp2_with fail
  (with_reducible refine (Q7e r hlog.1 hlog.2 w).mono ?_)
  rintro e w1 ⟨rfl,hx⟩
  go_wp2
  go_ret
  exact ⟨Q04 (by simp [hx0]),hx⟩
 ·have hd:decide (0≤x)=false:=by simpa using hx0
  go_enter Try.func136,Try.ntmps136
  go_wp2
  go_ret
  exact ⟨Q04 (by simp [hx0]),Ext.refl _⟩
def Q5o (w:World) (B g:Nat) (vR vC vM vB vS vW:Value) (bases:List Int) (M:Mach) (i:LIns) (e:Ending) (w':World):Prop :=
 e=.returned (.tuple #[])∧Qbh w w' B g vR vC vM vB vS vW bases { M with regs:=Q1i M.regs i,seen:=M.seen ++ Q3b M.regs i }
section
variable {B g : Nat} {vR vC vM vB vS vW : Value} {bases : List Int} {M : Mach} {w w1 : World} {i : LIns}
theorem Q86 {a x:Int} (ha:okIn 10 a=true) (h:MSt w B g vR vC vM vB vS vW bases M) (hs:Q3b M.regs i=[]) (hr:Q1i M.regs i=rset M.regs a x) (hx:Ext w w1) :
  Q5o w B g vR vC vM vB vS vW bases M i (.returned (.tuple #[])) (w1.setCell ⟨g,7+a.toNat,none⟩ (.int .i64 x)):=by
 refine ⟨rfl,vS,?_,(Turn.ofExt hx).trans (Turn.set _ _ _) (fun j _ e=>.inl e),fun _ e=>.inl e⟩
 rw [hs,hr,List.append_nil]
 exact (h.ext hx).reg_ ha x
theorem Qg8 (h:MSt w B g vR vC vM vB vS vW bases M) (hs:Q3b M.regs i=[]) (hr:Q1i M.regs i=M.regs) (hx:Ext w w1) :
  Q5o w B g vR vC vM vB vS vW bases M i (.returned (.tuple #[])) w1:=by
 refine ⟨rfl,vS,?_,Turn.ofExt hx,fun _ e=>.inl e⟩
 rw [hs,hr,List.append_nil]
 exact h.ext hx
end
set_option maxRecDepth 100000 in
set_option maxHeartbeats 2000000 in
theorem Qnx {B g:Nat} {vR vC vM vB vS vW:Value} {bases:List Int} {M:Mach} (a b c n:Int) (h64:Q1w M.regs) (ha:okIn 10 a=true) (hsn:M.seen.length≤1000000) (w:World) (h:MSt w B g vR vC vM vB vS vW bases M) :
  Calls Try.prog 110 #[.pointer (some ⟨g,0,none⟩),insV ⟨1,a,b,c,n⟩] w (Q5o w B g vR vC vM vB vS vW bases M ⟨1,a,b,c,n⟩):=by
 unfold insV
 simp only
 have hgl:=h.box.lt
 have H:=Lib.hid h
 obtain ⟨ra,fa⟩:=h.reg ha
 obtain ⟨a0,a1⟩:=Q08.1 ha
 have hix:=Q53
 clear h
 go_enter Try.func110,Try.ntmps110
 go_upto_region 8 with fail
 obtain ⟨w0,e,he,hW,hs0,hx0,c0,c1,c2,c3,c4⟩:=new5 w 70 (.int .i64 1) (.int .i64 a) (.int .i64 b) (.int .i64 c) (.int .i64 n)
 rw [hW,he]
 have k1:∀ W,Ext w0 W→W.cell? ⟨e,1,none⟩=some (.int .i64 a):=fun _ h=>h.kept c1
 have k4:∀ W,Ext w0 W→W.cell? ⟨e,4,none⟩=some (.int .i64 n):=fun _ h=>h.kept c4
 have rr:=Q0a hx0 ⟨ra,fa⟩
 have X:=Lib.hid hx0
 clear hW he hs0 hx0 c0 c1 c2 c3 c4 ra fa
 refine Q0z 6 (by kernel_rfl) (by kernel_rfl) ?_
 simp only [List.take_succ_cons,List.take_zero,List.drop_succ_cons,List.drop_zero]
 repeat (first | (refine Q0p ?_ ?_ (fun wc hE=>?_) ?_;(decide);rfl;(focus (go_simp;done));go_simp) | (refine Q0h ?_ ?_ ?_;(decide);(first | rfl | (focus (go_simp;done)));apply Exists.intro;refine ⟨fun wc hE=>?_,?_⟩;(go_simp;exact rfl);go_simp) | (refine Q0q ?_ ?_ ?_;(decide);(first | rfl | (focus (go_simp;done)));apply Exists.intro;refine ⟨fun wc hE=>?_,?_⟩;(go_simp;(first | fail));go_simp) | (refine Q0n ?_ ?_ ?_;(decide);(focus (go_simp;done));go_simp))
 refine Q0o ?_
 intro wx hx
 have X:=Lib.hid (X.out.trans hx)
 have rr:=Q0a hx rr
 clear hx k1 k4
 go_wp2
 refine bodyPost_end (results_none rfl _ _ _) rfl ?_
 exact Q86 (x:=n) ha H.out (Q70 (by simp)) rfl X.out
set_option maxRecDepth 100000 in
set_option maxHeartbeats 2000000 in
theorem Qo0 {B g:Nat} {vR vC vM vB vS vW:Value} {bases:List Int} {M:Mach} (a b c n:Int) (h64:Q1w M.regs) (ha:okIn 10 a=true) (hb:okIn 10 b=true) (hsn:M.seen.length≤1000000) (w:World) (h:MSt w B g vR vC vM vB vS vW bases M) :
  Calls Try.prog 110 #[.pointer (some ⟨g,0,none⟩),insV ⟨2,a,b,c,n⟩] w (Q5o w B g vR vC vM vB vS vW bases M ⟨2,a,b,c,n⟩):=by
 unfold insV
 simp only
 have hgl:=h.box.lt
 have H:=Lib.hid h
 obtain ⟨ra,fa⟩:=h.reg ha
 obtain ⟨a0,a1⟩:=Q08.1 ha
 obtain ⟨rb,fb⟩:=h.reg hb
 obtain ⟨b0,b1⟩:=Q08.1 hb
 have hix:=Q53
 clear h
 go_enter Try.func110,Try.ntmps110
 go_upto_region 10 with fail
 obtain ⟨w0,e,he,hW,hs0,hx0,c0,c1,c2,c3,c4⟩:=new5 w 70 (.int .i64 2) (.int .i64 a) (.int .i64 b) (.int .i64 c) (.int .i64 n)
 rw [hW,he]
 have k1:∀ W,Ext w0 W→W.cell? ⟨e,1,none⟩=some (.int .i64 a):=fun _ h=>h.kept c1
 have k2:∀ W,Ext w0 W→W.cell? ⟨e,2,none⟩=some (.int .i64 b):=fun _ h=>h.kept c2
 have mb:∀ W,Ext w0 W→W.cell? ⟨g,7+b.toNat,none⟩=some (.int .i64 (rg M.regs b)):=fun _ h=>h.kept (hx0.kept rb)
 have rr:=Q0a hx0 ⟨ra,fa⟩
 have X:=Lib.hid hx0
 clear hW he hs0 hx0 c0 c1 c2 c3 c4 ra fa rb fb
 refine Q0z 11 (by kernel_rfl) (by kernel_rfl) ?_
 simp only [List.take_succ_cons,List.take_zero,List.drop_succ_cons,List.drop_zero]
 repeat (first | (refine Q0p ?_ ?_ (fun wc hE=>?_) ?_;(decide);rfl;(focus (go_simp;done));go_simp) | (refine Q0h ?_ ?_ ?_;(decide);(first | rfl | (focus (go_simp;done)));apply Exists.intro;refine ⟨fun wc hE=>?_,?_⟩;(go_simp;exact rfl);go_simp) | (refine Q0q ?_ ?_ ?_;(decide);(first | rfl | (focus (go_simp;done)));apply Exists.intro;refine ⟨fun wc hE=>?_,?_⟩;(go_simp;(first | fail));go_simp) | (refine Q0n ?_ ?_ ?_;(decide);(focus (go_simp;done));go_simp))
 refine Q0o ?_
 intro wx hx
 have X:=Lib.hid (X.out.trans hx)
 have rr:=Q0a hx rr
 clear hx k1 k2 mb
 go_wp2
 refine bodyPost_end (results_none rfl _ _ _) rfl ?_
 exact Q86 (x:=rg M.regs b) ha H.out (Q70 (by simp)) rfl X.out
set_option maxRecDepth 100000 in
set_option maxHeartbeats 2000000 in
theorem Qo5 {B g:Nat} {vR vC vM vB vS vW:Value} {bases:List Int} {M:Mach} (a b c n:Int) (h64:Q1w M.regs) (ha:okIn 10 a=true) (hb:okIn 10 b=true) (hsn:M.seen.length≤1000000) (w:World) (h:MSt w B g vR vC vM vB vS vW bases M) :
  Calls Try.prog 110 #[.pointer (some ⟨g,0,none⟩),insV ⟨10,a,b,c,n⟩] w (Q5o w B g vR vC vM vB vS vW bases M ⟨10,a,b,c,n⟩):=by
 unfold insV
 simp only
 have hgl:=h.box.lt
 have H:=Lib.hid h
 obtain ⟨ra,fa⟩:=h.reg ha
 obtain ⟨a0,a1⟩:=Q08.1 ha
 obtain ⟨rb,fb⟩:=h.reg hb
 obtain ⟨b0,b1⟩:=Q08.1 hb
 have hix:=Q53
 clear h
 go_enter Try.func110,Try.ntmps110
 go_upto_region 12 with fail
 obtain ⟨w0,e,he,hW,hs0,hx0,c0,c1,c2,c3,c4⟩:=new5 w 70 (.int .i64 10) (.int .i64 a) (.int .i64 b) (.int .i64 c) (.int .i64 n)
 rw [hW,he]
 have k1:∀ W,Ext w0 W→W.cell? ⟨e,1,none⟩=some (.int .i64 a):=fun _ h=>h.kept c1
 have k2:∀ W,Ext w0 W→W.cell? ⟨e,2,none⟩=some (.int .i64 b):=fun _ h=>h.kept c2
 have k4:∀ W,Ext w0 W→W.cell? ⟨e,4,none⟩=some (.int .i64 n):=fun _ h=>h.kept c4
 have mb:∀ W,Ext w0 W→W.cell? ⟨g,7+b.toNat,none⟩=some (.int .i64 (rg M.regs b)):=fun _ h=>h.kept (hx0.kept rb)
 have rr:=Q0a hx0 ⟨ra,fa⟩
 have X:=Lib.hid hx0
 clear hW he hs0 hx0 c0 c1 c2 c3 c4 ra fa rb fb
 refine Q0z 14 (by kernel_rfl) (by kernel_rfl) ?_
 simp only [List.take_succ_cons,List.take_zero,List.drop_succ_cons,List.drop_zero]
 repeat (first | (refine Q0p ?_ ?_ (fun wc hE=>?_) ?_;(decide);rfl;(focus (go_simp;done));go_simp) | (refine Q0h ?_ ?_ ?_;(decide);(first | rfl | (focus (go_simp;done)));apply Exists.intro;refine ⟨fun wc hE=>?_,?_⟩;(go_simp;exact rfl);go_simp) | (refine Q0q ?_ ?_ ?_;(decide);(first | rfl | (focus (go_simp;done)));apply Exists.intro;refine ⟨fun wc hE=>?_,?_⟩;(go_simp;(first | fail));go_simp) | (refine Q0n ?_ ?_ ?_;(decide);(focus (go_simp;done));go_simp))
 refine Q0o ?_
 intro wx hx
 have X:=Lib.hid (X.out.trans hx)
 have rr:=Q0a hx rr
 clear hx k1 k2 k4 mb
 go_wp2
 refine bodyPost_end (results_none rfl _ _ _) rfl ?_
 try rw [show IntKind.i64.wrap (rg M.regs b+n)=wrap64 (rg M.regs b+n) by rw [IntKind.wrap_i64];unfold wrap64;rfl]
 exact Q86 (x:=wrap64 (rg M.regs b+n)) ha H.out (Q70 (by simp)) rfl X.out
set_option maxRecDepth 100000 in
set_option maxHeartbeats 2000000 in
theorem Qo1 {B g:Nat} {vR vC vM vB vS vW:Value} {bases:List Int} {M:Mach} (a b c n:Int) (h64:Q1w M.regs) (ha:okIn 10 a=true) (hsn:M.seen.length≤1000000) (w:World) (h:MSt w B g vR vC vM vB vS vW bases M) :
  Calls Try.prog 110 #[.pointer (some ⟨g,0,none⟩),insV ⟨11,a,b,c,n⟩] w (Q5o w B g vR vC vM vB vS vW bases M ⟨11,a,b,c,n⟩):=by
 unfold insV
 simp only
 have hgl:=h.box.lt
 have H:=Lib.hid h
 obtain ⟨ra,fa⟩:=h.reg ha
 obtain ⟨a0,a1⟩:=Q08.1 ha
 have hix:=Q53
 clear h
 by_cases hneg:rg M.regs a < 0
 ·have Hr:Hid (Q1i M.regs ⟨11,a,b,c,n⟩=rset M.regs a 0):=Lib.hid (by simp [Q1i,hneg])
  go_enter Try.func110,Try.ntmps110
  go_upto_region 14 with fail
  obtain ⟨w0,e,he,hW,hs0,hx0,c0,c1,c2,c3,c4⟩:=new5 w 70 (.int .i64 11) (.int .i64 a) (.int .i64 b) (.int .i64 c) (.int .i64 n)
  rw [hW,he]
  have k1:∀ W,Ext w0 W→W.cell? ⟨e,1,none⟩=some (.int .i64 a):=fun _ h=>h.kept c1
  have k4:∀ W,Ext w0 W→W.cell? ⟨e,4,none⟩=some (.int .i64 n):=fun _ h=>h.kept c4
  have ma:∀ W,Ext w0 W→W.cell? ⟨g,7+a.toNat,none⟩=some (.int .i64 (rg M.regs a)):=fun _ h=>h.kept (hx0.kept ra)
  have rr:=Q0a hx0 ⟨ra,fa⟩
  have X:=Lib.hid hx0
  clear hW he hs0 hx0 c0 c2 c3 ra fa
  refine Q0z 18 (by kernel_rfl) (by kernel_rfl) ?_
  simp only [List.take_succ_cons,List.take_zero,List.drop_succ_cons,List.drop_zero]
  repeat (first | (refine Q0p ?_ ?_ (fun wc hE=>?_) ?_;(decide);rfl;(focus (go_simp;done));go_simp) | (refine Q0h ?_ ?_ ?_;(decide);(first | rfl | (focus (go_simp;done)));apply Exists.intro;refine ⟨fun wc hE=>?_,?_⟩;(go_simp;exact rfl);go_simp) | (refine Q0q ?_ ?_ ?_;(decide);(first | rfl | (focus (go_simp;done)));apply Exists.intro;refine ⟨fun wc hE=>?_,?_⟩;(go_simp;(first | fail));go_simp) | (refine Q0n ?_ ?_ ?_;(decide);(focus (go_simp;done));go_simp))
  refine Q0o ?_
  intro wx hx
  have X:=Lib.hid (X.out.trans hx)
  have rr:=Q0a hx rr
  have c1:=hx.kept c1
  clear hx c4 k1 k4 ma
  go_upto_region 15 with fail
  have k1:∀ W,Ext wx W→W.cell? ⟨e,1,none⟩=some (.int .i64 a):=fun _ h=>h.kept c1
  refine Q0z 5 (by kernel_rfl) (by kernel_rfl) ?_
  simp only [List.take_succ_cons,List.take_zero,List.drop_succ_cons,List.drop_zero]
  repeat (first | (refine Q0p ?_ ?_ (fun wc hE=>?_) ?_;(decide);rfl;(focus (go_simp;done));go_simp) | (refine Q0h ?_ ?_ ?_;(decide);(first | rfl | (focus (go_simp;done)));apply Exists.intro;refine ⟨fun wc hE=>?_,?_⟩;(go_simp;exact rfl);go_simp) | (refine Q0q ?_ ?_ ?_;(decide);(first | rfl | (focus (go_simp;done)));apply Exists.intro;refine ⟨fun wc hE=>?_,?_⟩;(go_simp;(first | fail));go_simp) | (refine Q0n ?_ ?_ ?_;(decide);(focus (go_simp;done));go_simp))
  refine Q0o ?_
  intro wy hy
  have X:=Lib.hid (X.out.trans hy)
  have rr:=Q0a hy rr
  clear hy c1 k1
  go_wp2
  refine bodyPost_end (results_none rfl _ _ _) rfl ?_
  exact Q86 (x:=0) ha H.out (Q70 (by simp)) Hr.out X.out
 by_cases hge:n≤rg M.regs a
 ·have Hr:Hid (Q1i M.regs ⟨11,a,b,c,n⟩=rset M.regs a 0):=Lib.hid (by simp [Q1i,hge])
  have hn0:decide (rg M.regs a < 0)=false:=by simpa using hneg
  clear hneg
  go_enter Try.func110,Try.ntmps110
  go_upto_region 14 with fail
  obtain ⟨w0,e,he,hW,hs0,hx0,c0,c1,c2,c3,c4⟩:=new5 w 70 (.int .i64 11) (.int .i64 a) (.int .i64 b) (.int .i64 c) (.int .i64 n)
  rw [hW,he]
  have k1:∀ W,Ext w0 W→W.cell? ⟨e,1,none⟩=some (.int .i64 a):=fun _ h=>h.kept c1
  have k4:∀ W,Ext w0 W→W.cell? ⟨e,4,none⟩=some (.int .i64 n):=fun _ h=>h.kept c4
  have ma:∀ W,Ext w0 W→W.cell? ⟨g,7+a.toNat,none⟩=some (.int .i64 (rg M.regs a)):=fun _ h=>h.kept (hx0.kept ra)
  have rr:=Q0a hx0 ⟨ra,fa⟩
  have X:=Lib.hid hx0
  clear hW he hs0 hx0 c0 c2 c3 ra fa
  refine Q0z 18 (by kernel_rfl) (by kernel_rfl) ?_
  simp only [List.take_succ_cons,List.take_zero,List.drop_succ_cons,List.drop_zero]
  repeat (first | (refine Q0p ?_ ?_ (fun wc hE=>?_) ?_;(decide);rfl;(focus (go_simp;done));go_simp) | (refine Q0h ?_ ?_ ?_;(decide);(first | rfl | (focus (go_simp;done)));apply Exists.intro;refine ⟨fun wc hE=>?_,?_⟩;(go_simp;exact rfl);go_simp) | (refine Q0q ?_ ?_ ?_;(decide);(first | rfl | (focus (go_simp;done)));apply Exists.intro;refine ⟨fun wc hE=>?_,?_⟩;(go_simp;(first | fail));go_simp) | (refine Q0n ?_ ?_ ?_;(decide);(focus (go_simp;done));go_simp))
  refine Q0o ?_
  intro wx hx
  have X:=Lib.hid (X.out.trans hx)
  have rr:=Q0a hx rr
  have c1:=hx.kept c1
  clear hx c4 k1 k4 ma
  go_upto_region 15 with fail
  have k1:∀ W,Ext wx W→W.cell? ⟨e,1,none⟩=some (.int .i64 a):=fun _ h=>h.kept c1
  refine Q0z 5 (by kernel_rfl) (by kernel_rfl) ?_
  simp only [List.take_succ_cons,List.take_zero,List.drop_succ_cons,List.drop_zero]
  repeat (first | (refine Q0p ?_ ?_ (fun wc hE=>?_) ?_;(decide);rfl;(focus (go_simp;done));go_simp) | (refine Q0h ?_ ?_ ?_;(decide);(first | rfl | (focus (go_simp;done)));apply Exists.intro;refine ⟨fun wc hE=>?_,?_⟩;(go_simp;exact rfl);go_simp) | (refine Q0q ?_ ?_ ?_;(decide);(first | rfl | (focus (go_simp;done)));apply Exists.intro;refine ⟨fun wc hE=>?_,?_⟩;(go_simp;(first | fail));go_simp) | (refine Q0n ?_ ?_ ?_;(decide);(focus (go_simp;done));go_simp))
  refine Q0o ?_
  intro wy hy
  have X:=Lib.hid (X.out.trans hy)
  have rr:=Q0a hy rr
  clear hy c1 k1
  go_wp2
  refine bodyPost_end (results_none rfl _ _ _) rfl ?_
  exact Q86 (x:=0) ha H.out (Q70 (by simp)) Hr.out X.out
 ·have Hr:Hid (Q1i M.regs ⟨11,a,b,c,n⟩=M.regs):=Lib.hid (by simp [Q1i,hge,hneg])
  have hn0:decide (rg M.regs a < 0)=false:=by simpa using hneg
  have hn1:decide (n≤rg M.regs a)=false:=by simpa using hge
  clear hneg hge
  go_enter Try.func110,Try.ntmps110
  go_upto_region 14 with fail
  obtain ⟨w0,e,he,hW,hs0,hx0,c0,c1,c2,c3,c4⟩:=new5 w 70 (.int .i64 11) (.int .i64 a) (.int .i64 b) (.int .i64 c) (.int .i64 n)
  rw [hW,he]
  have k1:∀ W,Ext w0 W→W.cell? ⟨e,1,none⟩=some (.int .i64 a):=fun _ h=>h.kept c1
  have k4:∀ W,Ext w0 W→W.cell? ⟨e,4,none⟩=some (.int .i64 n):=fun _ h=>h.kept c4
  have ma:∀ W,Ext w0 W→W.cell? ⟨g,7+a.toNat,none⟩=some (.int .i64 (rg M.regs a)):=fun _ h=>h.kept (hx0.kept ra)
  have rr:=Q0a hx0 ⟨ra,fa⟩
  have X:=Lib.hid hx0
  clear hW he hs0 hx0 c0 c2 c3 ra fa
  refine Q0z 18 (by kernel_rfl) (by kernel_rfl) ?_
  simp only [List.take_succ_cons,List.take_zero,List.drop_succ_cons,List.drop_zero]
  repeat (first | (refine Q0p ?_ ?_ (fun wc hE=>?_) ?_;(decide);rfl;(focus (go_simp;done));go_simp) | (refine Q0h ?_ ?_ ?_;(decide);(first | rfl | (focus (go_simp;done)));apply Exists.intro;refine ⟨fun wc hE=>?_,?_⟩;(go_simp;exact rfl);go_simp) | (refine Q0q ?_ ?_ ?_;(decide);(first | rfl | (focus (go_simp;done)));apply Exists.intro;refine ⟨fun wc hE=>?_,?_⟩;(go_simp;(first | fail));go_simp) | (refine Q0n ?_ ?_ ?_;(decide);(focus (go_simp;done));go_simp))
  refine Q0o ?_
  intro wx hx
  have X:=Lib.hid (X.out.trans hx)
  have rr:=Q0a hx rr
  have c1:=hx.kept c1
  clear hx c4 k1 k4 ma
  go_wp2
  refine bodyPost_end (results_none rfl _ _ _) rfl ?_
  exact Qg8 H.out (Q70 (by simp)) Hr.out X.out
set_option maxRecDepth 100000 in
set_option maxHeartbeats 2000000 in
theorem Qo2 {B g:Nat} {vR vC vM vB vS vW:Value} {bases:List Int} {M:Mach} (a b c n:Int) (h64:Q1w M.regs) (hop:True) (hsn:M.seen.length≤1000000) (w:World) (h:MSt w B g vR vC vM vB vS vW bases M) :
  Calls Try.prog 110 #[.pointer (some ⟨g,0,none⟩),insV ⟨12,a,b,c,n⟩] w (Q5o w B g vR vC vM vB vS vW bases M ⟨12,a,b,c,n⟩):=by
 unfold insV
 simp only
 have hgl:=h.box.lt
 have H:=Lib.hid h
 have hix:=Q53
 clear h
 go_enter Try.func110,Try.ntmps110
 go_wp2
 refine bodyPost_end (results_none rfl _ _ _) rfl ?_
 exact Qg8 H.out (Q70 (by simp)) rfl ((Ext.refl _).alloc _)
theorem Q8o {S:Nat→Prop} {w w':World} (h:Turn S w w') {p:Addr} (hp:p.block < w.heap.size) (hn:¬ S p.block):w'.cell? p=w.cell? p:=by
 have:=h.block p.block hp hn
 unfold World.cell?
 rw [this]
set_option maxRecDepth 100000 in
set_option maxHeartbeats 2000000 in
theorem Q95 {B g:Nat} {vR vC vM vB vS vW:Value} {bases:List Int} {M:Mach} (op a b c n:Int) (h64:Q1w M.regs) (ha:okIn 10 a=true) (hb:okIn 10 b=true) (hc:okIn 10 c=true) (o1:21≤op) (o2:op≤28) (hsn:M.seen.length≤1000000) (w:World) (h:MSt w B g vR vC vM vB vS vW bases M) :
  Calls Try.prog 110 #[.pointer (some ⟨g,0,none⟩),insV ⟨op,a,b,c,n⟩] w (Q5o w B g vR vC vM vB vS vW bases M ⟨op,a,b,c,n⟩):=by
 unfold insV
 simp only
 have hgl:=h.box.lt
 have H:=Lib.hid h
 obtain ⟨ra,fa⟩:=h.reg ha
 obtain ⟨a0,a1⟩:=Q08.1 ha
 obtain ⟨rb,fb⟩:=h.reg hb
 obtain ⟨b0,b1⟩:=Q08.1 hb
 obtain ⟨rc,fc⟩:=h.reg hc
 obtain ⟨c0,c1⟩:=Q08.1 hc
 have hsub:IntKind.i64.wrap (op - 20)=op - 20:=Go.IntWalk.i64_in _ (by omega)
 have q1:(op == (1:Int))=false:=by simp;try omega
 have q2:(op == (2:Int))=false:=by simp;try omega
 have q3:(op == (10:Int))=false:=by simp;try omega
 have q4:(op == (11:Int))=false:=by simp;try omega
 have q5:(op == (12:Int))=false:=by simp;try omega
 have q6:(op - 20 == (9:Int))=false:=by simp;omega
 have q7:(op - 20 == (10:Int))=false:=by simp;omega
 have Hr:Hid (Q1i M.regs ⟨op,a,b,c,n⟩=rset M.regs a (nop (op - 20) (rg M.regs b) (rg M.regs c))):=Lib.hid (by
  unfold Q1i
  rw [if_neg (by simp only;omega),if_neg (by simp only;omega),if_neg (by simp only;omega),if_neg (by simp only;omega),if_neg (by simp only;omega)]
  try rfl)
 have hix:=Q53
 clear h
 go_enter Try.func110,Try.ntmps110
 go_upto_region 6 with fail
 obtain ⟨w0,e,he,hW,hs0,hx0,c0,c1,c2,c3,c4⟩:=new5 w 70 (.int .i64 op) (.int .i64 a) (.int .i64 b) (.int .i64 c) (.int .i64 n)
 rw [hW,he]
 have k1:∀ W,Ext w0 W→W.cell? ⟨e,1,none⟩=some (.int .i64 a):=fun _ h=>h.kept c1
 have k2:∀ W,Ext w0 W→W.cell? ⟨e,2,none⟩=some (.int .i64 b):=fun _ h=>h.kept c2
 have k3:∀ W,Ext w0 W→W.cell? ⟨e,3,none⟩=some (.int .i64 c):=fun _ h=>h.kept c3
 have mb:∀ W,Ext w0 W→W.cell? ⟨g,7+b.toNat,none⟩=some (.int .i64 (rg M.regs b)):=fun _ h=>h.kept (hx0.kept rb)
 have mc:∀ W,Ext w0 W→W.cell? ⟨g,7+c.toNat,none⟩=some (.int .i64 (rg M.regs c)):=fun _ h=>h.kept (hx0.kept rc)
 have rr:=Q0a hx0 ⟨ra,fa⟩
 have X:=Lib.hid hx0
 clear hW hs0 hx0 c0 c1 c2 c3 c4 ra fa rb fb rc fc
 refine Q0z 19 (by kernel_rfl) (by kernel_rfl) ?_
 simp only [List.take_succ_cons,List.take_zero,List.drop_succ_cons,List.drop_zero]
 repeat (first | (refine Q0p ?_ ?_ (fun wc hE=>?_) ?_;(decide);rfl;(focus (go_simp;done));go_simp) | (refine Q0h ?_ ?_ ?_;(decide);(first | rfl | (focus (go_simp;done)));apply Exists.intro;refine ⟨fun wc hE=>?_,?_⟩;(go_simp;exact rfl);go_simp) | (refine Q0q ?_ ?_ ?_;(decide);(first | rfl | (focus (go_simp;done)));apply Exists.intro;refine ⟨fun wc hE=>?_,?_⟩;(go_simp;(first | (with_reducible exact Qe7 (Qcu (op - 20) (rg M.regs b) (rg M.regs c) _))));go_simp) | (refine Q0n ?_ ?_ ?_;(decide);(focus (go_simp;done));go_simp))
 refine Q0o ?_
 intro wx hx
 have X:=Lib.hid (X.out.trans hx)
 have rr:=Q0a hx rr
 clear hx k1 k2 k3 mb mc hsub
 go_wp2
 refine bodyPost_end (results_none rfl _ _ _) rfl ?_
 exact Q86 (x:=nop (op - 20) (rg M.regs b) (rg M.regs c)) ha H.out (Q70 (by simp only;omega)) Hr.out X.out
set_option maxRecDepth 100000 in
set_option maxHeartbeats 2000000 in
theorem Qnz {B g:Nat} {vR vC vM vB vS vW:Value} {bases:List Int} {M:Mach} (a b c n:Int) (h64:Q1w M.regs) (ha:okIn 10 a=true) (hb:okIn 10 b=true) (hc:okIn 10 c=true) (hsn:M.seen.length≤1000000) (w:World) (h:MSt w B g vR vC vM vB vS vW bases M) :
  Calls Try.prog 110 #[.pointer (some ⟨g,0,none⟩),insV ⟨29,a,b,c,n⟩] w (Q5o w B g vR vC vM vB vS vW bases M ⟨29,a,b,c,n⟩):=by
 unfold insV
 simp only
 have hgl:=h.box.lt
 have H:=Lib.hid h
 obtain ⟨ra,fa⟩:=h.reg ha
 obtain ⟨a0,a1⟩:=Q08.1 ha
 obtain ⟨rb,fb⟩:=h.reg hb
 obtain ⟨b0,b1⟩:=Q08.1 hb
 obtain ⟨rc,fc⟩:=h.reg hc
 obtain ⟨c0,c1⟩:=Q08.1 hc
 have hsub:IntKind.i64.wrap (9)=9:=Go.IntWalk.i64_in _ (by omega)
 have q1:(29 == (1:Int))=false:=by simp;try omega
 have q2:(29 == (2:Int))=false:=by simp;try omega
 have q3:(29 == (10:Int))=false:=by simp;try omega
 have q4:(29 == (11:Int))=false:=by simp;try omega
 have q5:(29 == (12:Int))=false:=by simp;try omega
 have Hr:Hid (Q1i M.regs ⟨29,a,b,c,n⟩=rset M.regs a (nop (9) (rg M.regs b) (rg M.regs c))):=Lib.hid (by
  unfold Q1i
  rw [if_neg (by simp only;omega),if_neg (by simp only;omega),if_neg (by simp only;omega),if_neg (by simp only;omega),if_neg (by simp only;omega)]
  try rfl)
 have hix:=Q53
 clear h
 go_enter Try.func110,Try.ntmps110
 go_upto_region 5 with fail
 obtain ⟨w0,e,he,hW,hs0,hx0,c0,c1,c2,c3,c4⟩:=new5 w 70 (.int .i64 29) (.int .i64 a) (.int .i64 b) (.int .i64 c) (.int .i64 n)
 rw [hW,he]
 have k1:∀ W,Ext w0 W→W.cell? ⟨e,1,none⟩=some (.int .i64 a):=fun _ h=>h.kept c1
 have k2:∀ W,Ext w0 W→W.cell? ⟨e,2,none⟩=some (.int .i64 b):=fun _ h=>h.kept c2
 have k3:∀ W,Ext w0 W→W.cell? ⟨e,3,none⟩=some (.int .i64 c):=fun _ h=>h.kept c3
 have mb:∀ W,Ext w0 W→W.cell? ⟨g,7+b.toNat,none⟩=some (.int .i64 (rg M.regs b)):=fun _ h=>h.kept (hx0.kept rb)
 have mc:∀ W,Ext w0 W→W.cell? ⟨g,7+c.toNat,none⟩=some (.int .i64 (rg M.regs c)):=fun _ h=>h.kept (hx0.kept rc)
 have rr:=Q0a hx0 ⟨ra,fa⟩
 have X:=Lib.hid hx0
 have Ha:=Lib.hid ha
 have Hb:=Lib.hid hb
 have Hc:=Lib.hid hc
 have hke:e≠g:=by omega
 clear hW hs0 hx0 c0 c4 ra fa rb fb rc fc
 refine Q0z 13 (by kernel_rfl) (by kernel_rfl) ?_
 simp only [List.take_succ_cons,List.take_zero,List.drop_succ_cons,List.drop_zero]
 repeat (first | (refine Q0p ?_ ?_ (fun wc hE=>?_) ?_;(decide);rfl;(focus (go_simp;done));go_simp) | (refine Q0h ?_ ?_ ?_;(decide);(first | rfl | (focus (go_simp;done)));apply Exists.intro;refine ⟨fun wc hE=>?_,?_⟩;(go_simp;exact rfl);go_simp) | (refine Q0q ?_ ?_ ?_;(decide);(first | rfl | (focus (go_simp;done)));apply Exists.intro;refine ⟨fun wc hE=>?_,?_⟩;(go_simp;(first | fail));go_simp) | (refine Q0n ?_ ?_ ?_;(decide);(focus (go_simp;done));go_simp))
 refine Q0o ?_
 intro wx hx
 have X:=Lib.hid (X.out.trans hx)
 have c1:=hx.kept c1
 have c2:=hx.kept c2
 have c3:=hx.kept c3
 clear hx k1 k2 k3 mb mc rr
 go_wp2_with fail
 (with_reducible refine (Q6x wx (H.out.ext X.out) 3 (rg M.regs b) (rg M.regs c) hsn).mono ?_)
 rintro e1 w2 ⟨rfl,vS2,P2,T2,N2⟩
 have hes:vS.ownBlock≠some e:=by
  intro he2
  have:=(H.out.sn.lt e he2).2
  omega
 have hne:¬ (e=g∨vS.ownBlock=some e):=by
  rintro (h1 | h1)
  ·exact hke h1
  ·exact hes h1
 have hel:=Q09 c1
 simp only at hel
 have c1:w2.cell? ⟨e,1,none⟩=some (.int .i64 a):=by rw [Q8o T2 hel hne];exact c1
 have c2:w2.cell? ⟨e,2,none⟩=some (.int .i64 b):=by rw [Q8o T2 hel hne];exact c2
 have c3:w2.cell? ⟨e,3,none⟩=some (.int .i64 c):=by rw [Q8o T2 hel hne];exact c3
 obtain ⟨ra,fa⟩:=P2.reg Ha.out
 obtain ⟨rb,-⟩:=P2.reg Hb.out
 obtain ⟨rc,-⟩:=P2.reg Hc.out
 simp only at ra rb rc
 have P2:=Lib.hid P2
 have T2:=Lib.hid T2
 have N2:=Lib.hid N2
 have hgl:=P2.out.box.lt
 clear hes hne
 go_upto_region 6 with fail
 have k1:∀ W,Ext w2 W→W.cell? ⟨e,1,none⟩=some (.int .i64 a):=fun _ h=>h.kept c1
 have k2:∀ W,Ext w2 W→W.cell? ⟨e,2,none⟩=some (.int .i64 b):=fun _ h=>h.kept c2
 have k3:∀ W,Ext w2 W→W.cell? ⟨e,3,none⟩=some (.int .i64 c):=fun _ h=>h.kept c3
 have mb:∀ W,Ext w2 W→W.cell? ⟨g,7+b.toNat,none⟩=some (.int .i64 (rg M.regs b)):=fun _ h=>h.kept (rb)
 have mc:∀ W,Ext w2 W→W.cell? ⟨g,7+c.toNat,none⟩=some (.int .i64 (rg M.regs c)):=fun _ h=>h.kept (rc)
 have rr:w2.cell? ⟨g,7+a.toNat,none⟩=some (.int .i64 (rg M.regs a))∧w2.frozen? ⟨g,7+a.toNat,none⟩=false:=⟨ra,fa⟩
 clear c1 c2 c3 ra fa rb rc
 refine Q0z 19 (by kernel_rfl) (by kernel_rfl) ?_
 simp only [List.take_succ_cons,List.take_zero,List.drop_succ_cons,List.drop_zero]
 repeat (first | (refine Q0p ?_ ?_ (fun wc hE=>?_) ?_;(decide);rfl;(focus (go_simp;done));go_simp) | (refine Q0h ?_ ?_ ?_;(decide);(first | rfl | (focus (go_simp;done)));apply Exists.intro;refine ⟨fun wc hE=>?_,?_⟩;(go_simp;exact rfl);go_simp) | (refine Q0q ?_ ?_ ?_;(decide);(first | rfl | (focus (go_simp;done)));apply Exists.intro;refine ⟨fun wc hE=>?_,?_⟩;(go_simp;(first | (with_reducible exact Qe7 (Qcu (9) (rg M.regs b) (rg M.regs c) _))));go_simp) | (refine Q0n ?_ ?_ ?_;(decide);(focus (go_simp;done));go_simp))
 refine Q0o ?_
 intro wy hy
 have rr:=Q0a hy rr
 have Y:=Lib.hid hy
 clear hy k1 k2 k3 mb mc hsub
 go_wp2
 refine bodyPost_end (results_none rfl _ _ _) rfl ?_
 refine ⟨rfl,vS2,?_,?_,fun j hj=>?_⟩
 ·have h1:=(P2.out.ext Y.out).reg_ Ha.out (nop (9) (rg M.regs b) (rg M.regs c))
  rw [Hr.out]
  exact h1
 ·exact (((Turn.ofExt X.out).trans T2.out (fun _ _ e=>e)).ext Y.out).trans (Turn.set _ _ _) (fun j _ e=>.inl e)
 ·rcases N2.out j hj with h1 | h1
  ·exact .inl h1
  ·have:=X.out.size
   exact .inr (by omega)
set_option maxRecDepth 100000 in
set_option maxHeartbeats 2000000 in
theorem Qny {B g:Nat} {vR vC vM vB vS vW:Value} {bases:List Int} {M:Mach} (a b c n:Int) (h64:Q1w M.regs) (ha:okIn 10 a=true) (hb:okIn 10 b=true) (hc:okIn 10 c=true) (hsn:M.seen.length≤1000000) (w:World) (h:MSt w B g vR vC vM vB vS vW bases M) :
  Calls Try.prog 110 #[.pointer (some ⟨g,0,none⟩),insV ⟨30,a,b,c,n⟩] w (Q5o w B g vR vC vM vB vS vW bases M ⟨30,a,b,c,n⟩):=by
 unfold insV
 simp only
 have hgl:=h.box.lt
 have H:=Lib.hid h
 obtain ⟨ra,fa⟩:=h.reg ha
 obtain ⟨a0,a1⟩:=Q08.1 ha
 obtain ⟨rb,fb⟩:=h.reg hb
 obtain ⟨b0,b1⟩:=Q08.1 hb
 obtain ⟨rc,fc⟩:=h.reg hc
 obtain ⟨c0,c1⟩:=Q08.1 hc
 have hsub:IntKind.i64.wrap (10)=10:=Go.IntWalk.i64_in _ (by omega)
 have q1:(30 == (1:Int))=false:=by simp;try omega
 have q2:(30 == (2:Int))=false:=by simp;try omega
 have q3:(30 == (10:Int))=false:=by simp;try omega
 have q4:(30 == (11:Int))=false:=by simp;try omega
 have q5:(30 == (12:Int))=false:=by simp;try omega
 have Hr:Hid (Q1i M.regs ⟨30,a,b,c,n⟩=rset M.regs a (nop (10) (rg M.regs b) (rg M.regs c))):=Lib.hid (by
  unfold Q1i
  rw [if_neg (by simp only;omega),if_neg (by simp only;omega),if_neg (by simp only;omega),if_neg (by simp only;omega),if_neg (by simp only;omega)]
  try rfl)
 have hix:=Q53
 clear h
 go_enter Try.func110,Try.ntmps110
 go_upto_region 5 with fail
 obtain ⟨w0,e,he,hW,hs0,hx0,c0,c1,c2,c3,c4⟩:=new5 w 70 (.int .i64 30) (.int .i64 a) (.int .i64 b) (.int .i64 c) (.int .i64 n)
 rw [hW,he]
 have k1:∀ W,Ext w0 W→W.cell? ⟨e,1,none⟩=some (.int .i64 a):=fun _ h=>h.kept c1
 have k2:∀ W,Ext w0 W→W.cell? ⟨e,2,none⟩=some (.int .i64 b):=fun _ h=>h.kept c2
 have k3:∀ W,Ext w0 W→W.cell? ⟨e,3,none⟩=some (.int .i64 c):=fun _ h=>h.kept c3
 have mb:∀ W,Ext w0 W→W.cell? ⟨g,7+b.toNat,none⟩=some (.int .i64 (rg M.regs b)):=fun _ h=>h.kept (hx0.kept rb)
 have mc:∀ W,Ext w0 W→W.cell? ⟨g,7+c.toNat,none⟩=some (.int .i64 (rg M.regs c)):=fun _ h=>h.kept (hx0.kept rc)
 have rr:=Q0a hx0 ⟨ra,fa⟩
 have X:=Lib.hid hx0
 have Ha:=Lib.hid ha
 have Hb:=Lib.hid hb
 have Hc:=Lib.hid hc
 have hke:e≠g:=by omega
 clear hW hs0 hx0 c0 c4 ra fa rb fb rc fc
 refine Q0z 13 (by kernel_rfl) (by kernel_rfl) ?_
 simp only [List.take_succ_cons,List.take_zero,List.drop_succ_cons,List.drop_zero]
 repeat (first | (refine Q0p ?_ ?_ (fun wc hE=>?_) ?_;(decide);rfl;(focus (go_simp;done));go_simp) | (refine Q0h ?_ ?_ ?_;(decide);(first | rfl | (focus (go_simp;done)));apply Exists.intro;refine ⟨fun wc hE=>?_,?_⟩;(go_simp;exact rfl);go_simp) | (refine Q0q ?_ ?_ ?_;(decide);(first | rfl | (focus (go_simp;done)));apply Exists.intro;refine ⟨fun wc hE=>?_,?_⟩;(go_simp;(first | fail));go_simp) | (refine Q0n ?_ ?_ ?_;(decide);(focus (go_simp;done));go_simp))
 refine Q0o ?_
 intro wx hx
 have X:=Lib.hid (X.out.trans hx)
 have c1:=hx.kept c1
 have c2:=hx.kept c2
 have c3:=hx.kept c3
 clear hx k1 k2 k3 mb mc rr
 go_wp2_with fail
 (with_reducible refine (Q6x wx (H.out.ext X.out) 3 (rg M.regs b) (rg M.regs c) hsn).mono ?_)
 rintro e1 w2 ⟨rfl,vS2,P2,T2,N2⟩
 have hes:vS.ownBlock≠some e:=by
  intro he2
  have:=(H.out.sn.lt e he2).2
  omega
 have hne:¬ (e=g∨vS.ownBlock=some e):=by
  rintro (h1 | h1)
  ·exact hke h1
  ·exact hes h1
 have hel:=Q09 c1
 simp only at hel
 have c1:w2.cell? ⟨e,1,none⟩=some (.int .i64 a):=by rw [Q8o T2 hel hne];exact c1
 have c2:w2.cell? ⟨e,2,none⟩=some (.int .i64 b):=by rw [Q8o T2 hel hne];exact c2
 have c3:w2.cell? ⟨e,3,none⟩=some (.int .i64 c):=by rw [Q8o T2 hel hne];exact c3
 obtain ⟨ra,fa⟩:=P2.reg Ha.out
 obtain ⟨rb,-⟩:=P2.reg Hb.out
 obtain ⟨rc,-⟩:=P2.reg Hc.out
 simp only at ra rb rc
 have P2:=Lib.hid P2
 have T2:=Lib.hid T2
 have N2:=Lib.hid N2
 have hgl:=P2.out.box.lt
 clear hes hne
 go_upto_region 6 with fail
 have k1:∀ W,Ext w2 W→W.cell? ⟨e,1,none⟩=some (.int .i64 a):=fun _ h=>h.kept c1
 have k2:∀ W,Ext w2 W→W.cell? ⟨e,2,none⟩=some (.int .i64 b):=fun _ h=>h.kept c2
 have k3:∀ W,Ext w2 W→W.cell? ⟨e,3,none⟩=some (.int .i64 c):=fun _ h=>h.kept c3
 have mb:∀ W,Ext w2 W→W.cell? ⟨g,7+b.toNat,none⟩=some (.int .i64 (rg M.regs b)):=fun _ h=>h.kept (rb)
 have mc:∀ W,Ext w2 W→W.cell? ⟨g,7+c.toNat,none⟩=some (.int .i64 (rg M.regs c)):=fun _ h=>h.kept (rc)
 have rr:w2.cell? ⟨g,7+a.toNat,none⟩=some (.int .i64 (rg M.regs a))∧w2.frozen? ⟨g,7+a.toNat,none⟩=false:=⟨ra,fa⟩
 clear c1 c2 c3 ra fa rb rc
 refine Q0z 19 (by kernel_rfl) (by kernel_rfl) ?_
 simp only [List.take_succ_cons,List.take_zero,List.drop_succ_cons,List.drop_zero]
 repeat (first | (refine Q0p ?_ ?_ (fun wc hE=>?_) ?_;(decide);rfl;(focus (go_simp;done));go_simp) | (refine Q0h ?_ ?_ ?_;(decide);(first | rfl | (focus (go_simp;done)));apply Exists.intro;refine ⟨fun wc hE=>?_,?_⟩;(go_simp;exact rfl);go_simp) | (refine Q0q ?_ ?_ ?_;(decide);(first | rfl | (focus (go_simp;done)));apply Exists.intro;refine ⟨fun wc hE=>?_,?_⟩;(go_simp;(first | (with_reducible exact Qe7 (Qcu (10) (rg M.regs b) (rg M.regs c) _))));go_simp) | (refine Q0n ?_ ?_ ?_;(decide);(focus (go_simp;done));go_simp))
 refine Q0o ?_
 intro wy hy
 have rr:=Q0a hy rr
 have Y:=Lib.hid hy
 clear hy k1 k2 k3 mb mc hsub
 go_wp2
 refine bodyPost_end (results_none rfl _ _ _) rfl ?_
 refine ⟨rfl,vS2,?_,?_,fun j hj=>?_⟩
 ·have h1:=(P2.out.ext Y.out).reg_ Ha.out (nop (10) (rg M.regs b) (rg M.regs c))
  rw [Hr.out]
  exact h1
 ·exact (((Turn.ofExt X.out).trans T2.out (fun _ _ e=>e)).ext Y.out).trans (Turn.set _ _ _) (fun j _ e=>.inl e)
 ·rcases N2.out j hj with h1 | h1
  ·exact .inl h1
  ·have:=X.out.size
   exact .inr (by omega)
theorem Qo4 {B g:Nat} {vR vC vM vB vS vW:Value} {bases:List Int} {M:Mach} (p:Q00) (i:LIns) (h64:Q1w M.regs) (hi:Q01 p 10 i=true) (h3:i.op≠3∧i.op≠4∧i.op≠5∧i.op≠6∧i.op≠7∧i.op≠8∧i.op≠9) (hsn:M.seen.length≤1000000) (w:World) (h:MSt w B g vR vC vM vB vS vW bases M) :
  Calls Try.prog 110 #[.pointer (some ⟨g,0,none⟩),insV i] w (Q5o w B g vR vC vM vB vS vW bases M i):=by
 obtain ⟨g1,g2,g10,g3,g5,g8,g9,g11,go,g7,gop⟩:=Q2e hi
 obtain ⟨op,a,b,c,n⟩:=i
 simp only at h3
 by_cases e1:op=1
 ·subst e1;exact Qnx a b c n h64 (g1 rfl) hsn w h
 by_cases e2:op=2
 ·subst e2;exact Qo0 a b c n h64 (g2 rfl).1 (g2 rfl).2 hsn w h
 by_cases e10:op=10
 ·subst e10;exact Qo5 a b c n h64 (g10 rfl).1 (g10 rfl).2 hsn w h
 by_cases e11:op=11
 ·subst e11;exact Qo1 a b c n h64 (g11 rfl).1 hsn w h
 by_cases e12:op=12
 ·subst e12;exact Qo2 a b c n h64 trivial hsn w h
 obtain ⟨p1,p2,p3,p4,p5⟩:=go e1 e2 e10 h3.1 h3.2.1 h3.2.2.1 h3.2.2.2.1 h3.2.2.2.2.1 h3.2.2.2.2.2.1 h3.2.2.2.2.2.2 e11 e12
 simp only at p4 p5
 by_cases e29:op=29
 ·subst e29;exact Qnz a b c n h64 p1 p2 p3 hsn w h
 by_cases e30:op=30
 ·subst e30;exact Qny a b c n h64 p1 p2 p3 hsn w h
 exact Q95 op a b c n h64 p1 p2 p3 p4 (by omega) hsn w h
structure RV where
 (vR vW vP vS vX bR bW bP:Value)
 (vs bs:List Value)
section
variable {wB w w' : World} {g : Nat} {vG vC : Value} {V V' : RV} {S S' : Spc}
end
section
variable {wB w : World} {g : Nat} {vG vC : Value} {V : RV} {S : Spc}
end
section
variable {w0 w w' : World} {q : Nat} {P : Plc} {bR bW bP u : Value} {bs : List Value} {r ws : List Int} {ps : List (List Int)}
end
section
variable {wB w : World} {g : Nat} {vG vC : Value} {V : RV} {S : Spc}
def Off (v:Value) (W w:World):Prop:=Turn (fun j=>v.ownBlock=some j) W w
theorem Off.kept {v x:Value} {W w:World} {b o:Nat} (h:Off v W w) (hc:W.cell? ⟨b,o,none⟩=some x) (hn:v.ownBlock≠some b):w.cell? ⟨b,o,none⟩=some x:=by
 rw [World.cell?_of_block (w:=W) (w':=w) (a:=⟨b,o,none⟩) (Turn.block h b (Q09 hc) hn)]
 exact hc
def Q60 (i:LIns) (S:Spc) (m:Int):Spc :=
 let s1:={ S with seen:=S.seen ++ [⟨2,m,putN i⟩] }
 if 0≤m∧m < S.pl.words.length then
  if Q0s i then { s1 with pl:={ s1.pl with at_:=s1.pl.at_+1,past:=s1.pl.past.set m.toNat (s1.pl.past.getD m.toNat [] ++ [s1.pl.words.getD m.toNat 0]),words:=s1.pl.words.set m.toNat (rg s1.pl.regs i.a) } }
  else Q44 i m.toNat s1
 else
  let s2:=s1.goTo (s1.pl.at_+1)
  if Q0s i then s2 else s2.put_ i.a 0
theorem Qjt {p:Q00} {i:LIns} {S:Spc} (h:(!Q2v p i (Q1a S.pl.regs i) && !S.ahead)=false):Q3h p i S=Q60 i S (wrap64 (Q13 p i.c.toNat+Q1a S.pl.regs i)):=by
 unfold Q3h
 simp only
 rw [if_neg (by rw [h];simp)]
 rfl
theorem Qg3 {i:LIns} (h:Q0s i=false):putN i=0:=by unfold putN;rw [h];rfl
theorem Qg4 {i:LIns} (h:Q0s i=true):putN i=1:=by unfold putN;rw [h];rfl
theorem Qm9 {i:LIns} {S:Spc} {m:Int} (h:Q0s i=false) (hm:¬ (0≤m∧m < S.pl.words.length)):Q60 i S m=(({ S with seen:=S.seen ++ [⟨2,m,0⟩] }:Spc).goTo (S.pl.at_+1)).put_ i.a 0:=by
 unfold Q60
 simp only
 rw [if_neg hm,if_neg (by rw [h];simp),Qg3 h]
theorem Qma {i:LIns} {S:Spc} {m:Int} (h:Q0s i=true) (hm:¬ (0≤m∧m < S.pl.words.length)):Q60 i S m=({ S with seen:=S.seen ++ [⟨2,m,1⟩] }:Spc).goTo (S.pl.at_+1):=by
 unfold Q60
 simp only
 rw [if_neg hm,if_pos h,Qg4 h]
theorem Qm7 {i:LIns} {S:Spc} {m:Int} (h:Q0s i=false) (hm:0≤m∧m < S.pl.words.length):Q60 i S m=Q44 i m.toNat { S with seen:=S.seen ++ [⟨2,m,0⟩] }:=by
 unfold Q60
 simp only
 rw [if_pos hm,if_neg (by rw [h];simp),Qg3 h]
theorem Qm8 {i:LIns} {S:Spc} {m:Int} (h:Q0s i=true) (hm:0≤m∧m < S.pl.words.length):Q60 i S m={ S with seen:=S.seen ++ [⟨2,m,1⟩],pl:={ S.pl with at_:=S.pl.at_+1,past:=S.pl.past.set m.toNat (S.pl.past.getD m.toNat [] ++ [S.pl.words.getD m.toNat 0]),words:=S.pl.words.set m.toNat (rg S.pl.regs i.a) } }:=by
 unfold Q60
 simp only
 rw [if_pos hm,if_pos h,Qg4 h]
theorem Qju {p:Q00} {i:LIns} {S:Spc} (h:Q2v p i (Q1a S.pl.regs i)=false) (ha:S.ahead=false):Q3h p i S={ S with fin:=2 }:=by
 unfold Q3h
 simp only
 rw [if_pos (by rw [h,ha];rfl)]
end
def Q2p (p:Q00):List Int:=(List.range p.regs.length).map fun k=>(Q13 p k:Int)
theorem Q8r (p:Q00):(Q2p p).length=p.regs.length:=by simp [Q2p]
theorem Qj7 (p:Q00) {c:Nat} (h:c < p.regs.length):((Q2p p).map (Value.int .i64))[c]? = some (.int .i64 (Q13 p c:Nat)):=by simp [Q2p,h]
theorem Qrq (k n cap:Nat) (W:World) (i:Int) (h0:0≤i) (h1:i < n) :
  (Instr.indexAt 51 (.slice (some ⟨k,0,none⟩) n cap) (.int .i64 i)).run Try.prog W=.ok (.pointer (some ⟨k,i.toNat,none⟩)) W:=by
 have hs:(Try.prog.info? 3).map (·.size)=some 1:=by kernel_rfl
 simp [Instr.indexAt,run_underlying Try.underlying51,asIntOf,h0,h1]
 have:=Q3w k 0 i.toNat
 simpa using this
theorem Q48 {w:World} {B:Nat} {e:TypeId} {v:Value} {n:Nat} {xs:List Value} (h:w.ownsRow B e 1 v n xs) (hn:0 < n):∃ k cap,v=.slice (some ⟨k,0,none⟩) n cap∧B≤k∧∀ j x,j < n→xs[j]? = some x→w.cell? ⟨k,j,none⟩=some x∧w.frozen? ⟨k,j,none⟩=false:=by
 have h':=h
 rcases h.2 with ⟨-,h0⟩ | ⟨k,cap,cur,rfl,a1,a2,a3⟩
 ·omega
 ·exact ⟨k,cap,rfl,a1,fun j x hj hx=>⟨by rw [h'.cellAt j (by omega),hx],h'.frozenAt j⟩⟩
theorem MSt.below {w w':World} {B g:Nat} {vR vC vM vB vS vW:Value} {bases:List Int} {M:Mach} (h:MSt w B g vR vC vM vB vS vW bases M) (ht:Turn (fun j=>j=g∨vS.ownBlock=some j) w w'):Below B w w' :=
 ht.below h.size (by
  rintro j (rfl | e)
  ·exact h.hg
  ·exact Q47 h.sn j e)
theorem MOk.same {p:Q00} {M M':Mach} (h:MOk p M) (h1:M'.regs=M.regs) (h2:M'.words=M.words):MOk p M':=⟨by rw [h1];exact h.len,by rw [h1];exact h.r64,by rw [h2];exact h.wlen,by rw [h2];exact h.w64⟩
end Go.Proofs.Yteiknefajlocoaa
