/- Laid together from: Ref3a, Ref3b, Ref3c, Seq1, RegW, Fam, Hst, Ck1, CkL, Ref3e, Law1, Seq2, Seq3, Seq4, Seq5, Seq6, Ref3d, Seq7, PlayP, Play1, Play2, Play3, Play4, Play5, Play6. -/
import Derived.Test.YtiafchefbehfbaaGreatDoorDriveTellsB23
import Derived.Test.YtiafchefbehfbaaGreatDoorDriveTellsB19
import Derived.Test.YtiafchefbehfbaaGreatDoorDriveTellsB21
import Derived.Test.YtiafchefbehfbaaGreatDoorDriveTellsB11
import Derived.Test.YtiafchefbehfbaaGreatDoorDriveTellsB14
import Derived.Test.YtiafchefbehfbaaGreatDoorDriveTellsB18
import Derived.Test.YtiafchefbehfbaaGreatDoorDriveTellsB17
import Derived.Test.YtiafchefbehfbaaGreatDoorDriveTellsB6
import Derived.Test.YtiafchefbehfbaaGreatDoorProg
import Derived.Test.YtiafchefbehfbaaGreatDoorDriveTellsB24
import Derived.Test.YtiafchefbehfbaaGreatDoorDriveTellsB5

namespace Go.Proofs.YtiafchefbehfbaaGreatDoor
open Go.ChangeShapes Go.WideShapes Go.ChangeAt Go.RowKit
set_option linter.unusedVariables false
set_option linter.unusedSimpArgs false
def insV (i:LIns):Value:=.agg #[.int .i64 i.op,.int .i64 i.a,.int .i64 i.b,.int .i64 i.c,.int .i64 i.n]
theorem Qtc {oa:Option Addr} {n b o cap:Nat} (h:0 < n→oa=some ⟨b,o,none⟩) (W:World) (i:Int) (h0:0≤i) (h1:i < n) :
  (Instr.indexAt 35 (.slice oa n cap) (.int .i64 i)).run Tryz.prog W=.ok (.pointer (some ⟨b,o+i.toNat,none⟩)) W:=by
 obtain rfl:=h (by omega)
 have hs:(Tryz.prog.info? 35).isSome=true:=by kernel_rfl
 have hs:(Tryz.prog.info? 2).map (·.size)=some 1:=by kernel_rfl
 simp [Instr.indexAt,run_underlying Tryz.underlying35,asIntOf,h0,h1]
 exact Q4d b o _
theorem Q72 (W:World) (k n cap:Nat) (i:Int) (h0:0≤i) (h1:i < n) :
  (Instr.indexAt 35 (.slice (some ⟨k,0,none⟩) n cap) (.int .i64 i)).run Tryz.prog W=.ok (.pointer (some ⟨k,i.toNat,none⟩)) W:=by
 have:=Qtc (oa:=some ⟨k,0,none⟩) (n:=n) (b:=k) (o:=0) (cap:=cap) (fun _=>rfl) W i h0 h1
 simpa using this
theorem Qt9:(Tryz.prog.info? 147).map (fun i=>(i.zero,i.size,i.bytes))=some (some (.agg #[.int .i64 0,.int .i64 0,.int .i64 0]),3,24):=by kernel_rfl
theorem Q42:(Tryz.prog.info? 2).map (fun i=>(i.zero,i.size,i.bytes))=some (some (.int .i64 0),1,8):=by kernel_rfl
theorem Q7i {l:List Int} {i:LIns} (h:¬ (i.op=29∨i.op=30)):Q39 l i=[]:=by unfold Q39;rw [if_neg h]
theorem index_mem' {oa:Option Addr} {n b o cap:Nat} (h:0 < n→oa=some ⟨b,o,none⟩) (W:World) (i:Int) (h0:0≤i) (h1:i < n) :
  (Instr.indexAt 29 (.slice oa n cap) (.int .i64 i)).run Tryz.prog W=.ok (.pointer (some ⟨b,o+i.toNat,none⟩)) W:=by
 obtain rfl:=h (by omega)
 have hs:(Tryz.prog.info? 35).map (·.size)=some 1:=by kernel_rfl
 simp [Instr.indexAt,run_underlying Tryz.underlying29,asIntOf,h0,h1]
 exact Q4d b o _
theorem Qbz:(Tryz.prog.info? 35).map (fun i=>(i.zero,i.size,i.bytes))=some (some (.slice none 0 0),1,24):=by kernel_rfl
section
variable {w0 wr w' : World} {U gs k : Nat} {vS vM : Value} {fin value : Int} {steps : Nat} {regs : List Int} {seen : List LSee} {mem : List (List Int)}
end
theorem Q3d.far {w:World} {B U:Nat} {T E:TypeId} {v:Value} {m:List (List Int)} (h:Q3d w B U T E v m) {p:Addr} (hp:p.block < B) (u:Value):Q3d (w.setCell p u) B U T E v m:=by
 obtain ⟨vs,h1,h2,h3,h4,h5⟩:=h
 have key:∀ {e:TypeId} {s n:Nat} {v:Value} {xs:List Value},w.ownsRow B e s v n xs→(w.setCell p u).ownsRow B e s v n xs:=fun ho =>
  Q0r ho (fun e=>by have:=Q17 ho _ e.symm;omega) u
 exact ⟨vs,h1,key h2,h3,fun i hi=>⟨key (h4 i hi).1,(h4 i hi).2⟩,h5⟩
structure MOk (p:Q00) (M:Mach):Prop where
 len:M.regs.length=10
 r64:Q1p M.regs
 wlen:M.words.length=Q2a p
 w64:Q1p M.words
theorem MOk.step {p:Q00} {M:Mach} {i:LIns} (h:MOk p M) (hi:i.fits):MOk p (Q0y p i M):=by
 unfold Q0y
 obtain ⟨h1,h2,h3,h4⟩:=h
 simp only
 repeat' split
 all_goals first
  | exact ⟨h1,h2,h3,h4⟩
  | exact ⟨h1,h2,by simpa using h3,h4.set _ (h2 _)⟩
  | exact ⟨by rw [Q7e];exact h1,h2.rset _ (h4 _),h3,h4⟩
  | exact ⟨by rw [Qho];exact h1,Ql4 h2 hi.2.2.2.2,h3,h4⟩
theorem Q9p {l:List Int} (h:∀ x ∈ l,R64 x):Q1p l:=fun n=>by
 by_cases hn:n < l.length
 ·have:l.getD n 0=l[n]:=by simp [hn]
  rw [this];exact h _ (List.getElem_mem hn)
 ·rw [List.getD_eq_getElem?_getD,List.getElem?_eq_none (by omega)]
  exact Q4l
theorem Q1p.mem {l:List Int} (h:Q1p l):∀ x ∈ l,R64 x:=fun x hx=>by
 obtain ⟨n,hn,rfl⟩:=List.getElem_of_mem hx
 have:=h n
 simpa [hn] using this
theorem Qqm {p:Q00} {m:List (List Int)} (hf:Q51 p m=true) (h:∀ l ∈ m,∀ x ∈ l,R64 x):MOk p (Q0a m.flatten) :=
 ⟨by simp [Q0a],Q9p (fun x hx=>by simp only [Q0a,List.mem_replicate] at hx;rw [hx.2];exact Q4l),Qc5 hf,Q9p (fun x hx=>by
  simp only [Q0a,List.mem_flatten] at hx
  obtain ⟨l,hl,hx⟩:=hx
  exact h l hl x hx)⟩
structure Q8w (p:Q00) (M:Mach):Prop where
 ok:MOk p M
 at_:M.at_≤p.code.length
 seen:M.seen.length≤2 * M.steps
theorem Q8w.step {p:Q00} {M:Mach} {i:LIns} (h:Q8w p M) (hi:i.fits) (hok:Q04 p 10 i=true) (hlt:M.at_ < p.code.length):Q8w p (Q0y p i M):=by
 obtain ⟨h1,h2,h3⟩:=h
 refine ⟨h1.step hi,?_,?_⟩
 ·have hj:=(Q4p hok).2.2.2.2.2.2.2.2.2.1
  unfold Q0y
  simp only
  repeat' split
  all_goals first
   | (simp only;omega)
   | (have:=(hj (.inl ‹_›)).2;simp only;omega)
   | (have:=(hj (.inr ‹_›)).2;simp only;omega)
 ·rw [Q9y]
  unfold Q0y
  simp only
  repeat' split
  all_goals (simp only [List.length_append,List.length_cons,List.length_nil,Q39];try split)
  all_goals (try simp only [List.length_cons,List.length_nil])
  all_goals omega
theorem Qdy {p:Q00} {m:List (List Int)} (hf:Q51 p m=true) (h:∀ l ∈ m,∀ x ∈ l,R64 x):Q8w p (Q0a m.flatten):=⟨Qqm hf h,by simp [Q0a],by simp [Q0a]⟩
theorem Qny {p:Q00} {M:Mach} {n:Nat} (hn:0 < n) (hf:M.fin=0) (hi:p.code[M.at_]? = none):runM p n M={ M with fin:=2 }:=by
 obtain ⟨k,rfl⟩:∃ k,n=k+1:=⟨n - 1,by omega⟩
 rw [runM,if_neg (by omega),hi]
theorem Qnz {p:Q00} {M:Mach} {n:Nat} {i:LIns} (hn:0 < n) (hf:M.fin=0) (hi:p.code[M.at_]? = some i):runM p n M=runM p (n - 1) (Q0y p i M):=by
 obtain ⟨k,rfl⟩:∃ k,n=k+1:=⟨n - 1,by omega⟩
 rw [runM,if_neg (by omega),hi]
 simp
theorem Qp4 {p:Q00} {M F:Mach} {i:LIns} {fuel:Nat} (hgo:Q8w p M) (hi:p.code[M.at_]? = some i) (hok:Q04 p 10 i=true) (hfi:i.fits) (hlt:M.steps < fuel) (hfin:M.fin=0) (hrun:runM p (fuel - M.steps) M=F) :
  Q8w p (Q0y p i M)∧(Q0y p i M).steps≤fuel∧runM p (fuel - (Q0y p i M).steps) (Q0y p i M)=F:=by
 have hat:M.at_ < p.code.length:=(List.getElem?_eq_some_iff.1 hi).1
 refine ⟨hgo.step hfi hok hat,by rw [Q9y];omega,?_⟩
 rw [Qnz (by omega) hfin hi] at hrun
 rw [Q9y,← hrun]
 congr 1
theorem Qfw {p:Q00} {i:LIns} (hok:Q04 p 10 i=true) (h:i.op=3∨i.op=4∨i.op=5∨i.op=6):okIn 10 i.a=true∧okIn 10 i.b=true∧0≤i.c∧i.c.toNat < p.regs.length:=by
 have hr:(Q0q i || Q1m i)=true:=by unfold Q0q Q1m;rcases h with h | h | h | h <;> simp [h]
 have hc:=Q5s hok hr
 refine ⟨?_,?_,hc⟩ <;> (unfold Q04 at hok;rcases h with h | h | h | h <;> simp [h,okIn] at hok ⊢ <;> omega)
theorem Qg9 {p:Q00} {i:LIns} {M:Mach} (h:i.op=3∨i.op=4∨i.op=5∨i.op=6) (hin:Q3u p i (Q1u M.regs i)=false) :
  Q0y p i M={ M with at_:=M.at_+1,steps:=M.steps+1,seen:=M.seen ++ [⟨1,M.at_,0⟩],fin:=2 }:=by
 have hr:(Q0q i || Q1m i)=true:=by unfold Q0q Q1m;rcases h with h | h | h | h <;> simp [h]
 unfold Q0y
 simp only
 rw [if_neg (by omega),if_neg (by omega),if_neg (by omega),if_pos hr,if_neg (by rw [hin];simp)]
theorem Qmi {p:Q00} {i:LIns} {M:Mach} (h:i.op=4∨i.op=6) (hin:Q3u p i (Q1u M.regs i)=true) :
  Q0y p i M={ M with at_:=M.at_+1,steps:=M.steps+1,seen:=M.seen ++ [⟨1,M.at_,0⟩] ++ [⟨2,((Q0n p i.c.toNat+(Q1u M.regs i).toNat:Nat):Int),1⟩],words:=M.words.set (Q0n p i.c.toNat+(Q1u M.regs i).toNat) (rg M.regs i.a) }:=by
 have hp:Q0q i=true:=by unfold Q0q;rcases h with h | h <;> simp [h]
 unfold Q0y putN
 simp only [hp,Bool.true_or,if_true]
 rw [if_neg (by omega),if_neg (by omega),if_neg (by omega),if_pos hin]
theorem Qmh {p:Q00} {i:LIns} {M:Mach} (h:i.op=3∨i.op=5) (hin:Q3u p i (Q1u M.regs i)=true) :
  Q0y p i M={ M with at_:=M.at_+1,steps:=M.steps+1,seen:=M.seen ++ [⟨1,M.at_,0⟩] ++ [⟨2,((Q0n p i.c.toNat+(Q1u M.regs i).toNat:Nat):Int),0⟩],regs:=rset M.regs i.a (M.words.getD (Q0n p i.c.toNat+(Q1u M.regs i).toNat) 0) }:=by
 have hp:Q0q i=false:=by unfold Q0q;rcases h with h | h <;> simp [h]
 have ht:Q1m i=true:=by unfold Q1m;rcases h with h | h <;> simp [h]
 unfold Q0y putN
 simp only [hp,ht,Bool.false_or,if_true]
 rw [if_neg (by omega),if_neg (by omega),if_neg (by omega),if_pos hin]
 simp
theorem Qmj {p:Q00} {i:LIns} {M:Mach} (h:i.op≠3∧i.op≠4∧i.op≠5∧i.op≠6∧i.op≠7∧i.op≠8∧i.op≠9) :
  Q0y p i M={ M with at_:=M.at_+1,steps:=M.steps+1,seen:=M.seen ++ [⟨1,M.at_,0⟩] ++ Q39 M.regs i,regs:=Q2w M.regs i }:=by
 have hr:(Q0q i || Q1m i)=false:=by unfold Q0q Q1m;simp;omega
 unfold Q0y
 simp only
 rw [if_neg (by omega),if_neg (by omega),if_neg (by omega),if_neg (by rw [hr];simp)]
structure Turn (S:Nat→Prop) (w w':World):Prop where
 os:w'.os=w.os
 tape:w'.tape=w.tape
 output:w'.output=w.output
 size:w.heap.size≤w'.heap.size
 block:∀ j,j < w.heap.size→¬ S j→w'.heap[j]? = w.heap[j]?
section
variable {S S' : Nat → Prop} {w w' w'' : World}
theorem Turn.ofExt (h:Ext w w'):Turn S w w':=⟨h.os,h.tape,h.output,h.size,fun j hj _=>Below.block h j hj⟩
theorem Turn.refl (w:World):Turn S w w:=Turn.ofExt (Ext.refl w)
theorem Turn.trans (h:Turn S w w') (k:Turn S' w' w'') (hs:∀ j,j < w.heap.size→S' j→S j):Turn S w w'' :=
 ⟨k.os.trans h.os,k.tape.trans h.tape,k.output.trans h.output,Nat.le_trans h.size k.size,fun j hj hn=>(k.block j (Nat.lt_of_lt_of_le hj h.size) (fun e=>hn (hs j hj e))).trans (h.block j hj hn)⟩
theorem Turn.ext (h:Turn S w w') (k:Ext w' w''):Turn S w w'':=h.trans (Turn.ofExt (S:=S) k) (fun _ _ e=>e)
theorem Turn.grown {row:Option Nat} (h:w.grownBy w' row):Turn (fun j=>row=some j) w w':=⟨h.os,h.tape,h.output,h.size,fun j hj hn=>h.block j hj (fun e=>hn e.symm)⟩
theorem Turn.set (w:World) (p:Addr) (u:Value):Turn (fun j=>j=p.block) w (w.setCell p u):=⟨rfl,rfl,rfl,by simp [World.setCell],fun j hj hn=>Below.heap_setCell w p u j hn⟩
theorem Turn.mono (h:Turn S w w') (hs:∀ j,S j→S' j):Turn S' w w':=⟨h.os,h.tape,h.output,h.size,fun j hj hn=>h.block j hj (fun e=>hn (hs j e))⟩
theorem Turn.below {B:Nat} (h:Turn S w w') (hB:B≤w.heap.size) (hs:∀ j,S j→B≤j):Below B w w' :=
 ⟨h.os,h.tape,h.output,h.size,fun j hj=>h.block j (Nat.lt_of_lt_of_le hj hB) (fun e=>by have:=hs j e;omega)⟩
theorem Blk.turn {g:Nat} {t:TypeId} {cs:Array Value} (h:Blk w g t cs) (ht:Turn S w w') (hn:¬ S g):Blk w' g t cs:=(ht.block g h.lt hn).trans h
theorem Q5d {base:Nat} {e:TypeId} {size n:Nat} {v:Value} {xs:List Value} (h:w.ownsRow base e size v n xs) (ht:Turn S w w') (hn:∀ k,v.ownBlock=some k→¬ S k):w'.ownsRow base e size v n xs:=by
 refine ⟨h.1,?_⟩
 rcases h.2 with h | ⟨g,cap,cur,rfl,h1,h2,h3⟩
 ·exact .inl h
 ·exact .inr ⟨g,cap,cur,rfl,h1,(ht.block g (Array.getElem?_eq_some_iff.1 h2).1 (hn g rfl)).trans h2,h3⟩
end
def Q0z (vR vC:Value) (fin value:Int) (steps:Nat) (vS vM:Value) (regs:List Int) (vW:Value) (at_:Nat) (vB:Value):List Value :=
 [vR,vC,.int .i64 fin,.int .i64 value,.int .i64 steps,vS,vM] ++ (regs.map (Value.int .i64) ++ [vW,.int .i64 at_,vB])
section
variable {vR vC vS vM vW vB u : Value} {fin value x : Int} {steps at_ : Nat} {regs : List Int}
theorem Qis (h:regs.length=10):(Q0z vR vC fin value steps vS vM regs vW at_ vB).toArray.size=20:=by simp [Q0z,h]
theorem Qr7 (h:regs.length=10) {a:Int} (ha:a.toNat < 10):(Q0z vR vC fin value steps vS vM regs vW at_ vB).toArray[7+a.toNat]? = some (.int .i64 (rg regs a)):=by
 have h2:a.toNat < regs.length:=by omega
 rw [List.getElem?_toArray]
 unfold Q0z
 rw [List.getElem?_append_right (by simp),List.getElem?_append_left (by simp;omega)]
 simp [rg,h2]
theorem Qr2 (h:regs.length=10) {a:Int} (ha:a.toNat < 10):(Q0z vR vC fin value steps vS vM regs vW at_ vB).toArray.setIfInBounds (7+a.toNat) (.int .i64 x)=(Q0z vR vC fin value steps vS vM (rset regs a x) vW at_ vB).toArray:=by
 have h2:a.toNat < (regs.map (Value.int .i64)).length:=by simp;omega
 rw [List.setIfInBounds_toArray]
 unfold Q0z rset
 rw [List.set_append_right _ _ (by simp),List.set_append_left _ _ (by simp;omega),List.map_set]
 simp
theorem Qr4:(Q0z vR vC fin value steps vS vM regs vW at_ vB).toArray.setIfInBounds 2 (.int .i64 x)=(Q0z vR vC x value steps vS vM regs vW at_ vB).toArray:=by simp [Q0z]
theorem Qqz:(Q0z vR vC fin value steps vS vM regs vW at_ vB).toArray.setIfInBounds 3 (.int .i64 x)=(Q0z vR vC fin x steps vS vM regs vW at_ vB).toArray:=by simp [Q0z]
theorem Qr0 {k:Nat}:(Q0z vR vC fin value steps vS vM regs vW at_ vB).toArray.setIfInBounds 4 (.int .i64 (k:Int))=(Q0z vR vC fin value k vS vM regs vW at_ vB).toArray:=by simp [Q0z]
theorem Qr1:(Q0z vR vC fin value steps vS vM regs vW at_ vB).toArray.setIfInBounds 5 u=(Q0z vR vC fin value steps u vM regs vW at_ vB).toArray:=by simp [Q0z]
theorem Qr3:(Q0z vR vC fin value steps vS vM regs vW at_ vB).toArray.setIfInBounds 6 u=(Q0z vR vC fin value steps vS u regs vW at_ vB).toArray:=by simp [Q0z]
theorem Qqy (h:regs.length=10):(Q0z vR vC fin value steps vS vM regs vW at_ vB).toArray.setIfInBounds 17 u=(Q0z vR vC fin value steps vS vM regs u at_ vB).toArray:=by simp [Q0z,List.set_append,h]
theorem Qr6 (h:regs.length=10) {k:Nat}:(Q0z vR vC fin value steps vS vM regs vW at_ vB).toArray.setIfInBounds 18 (.int .i64 (k:Int))=(Q0z vR vC fin value steps vS vM regs vW k vB).toArray:=by simp [Q0z,List.set_append,h]
theorem Qr5 (h:regs.length=10):(Q0z vR vC fin value steps vS vM regs vW at_ vB).toArray.setIfInBounds 19 u=(Q0z vR vC fin value steps vS vM regs vW at_ u).toArray:=by simp [Q0z,List.set_append,h]
end
structure MSt (w:World) (B g:Nat) (vR vC vM vB vS vW:Value) (bases:List Int) (M:Mach):Prop where
 box:Blk w g 76 (Q0z vR vC M.fin M.value M.steps vS vM M.regs vW M.at_ vB).toArray
 sn:w.ownsRow B 147 3 vS M.seen.length (M.seen.flatMap Q6x)
 ws:w.ownsRow B 2 1 vW M.words.length (M.words.map (Value.int .i64))
 bs:w.ownsRow B 3 1 vB bases.length (bases.map (Value.int .i64))
 len:M.regs.length=10
 hg:B≤g
section
variable {w w' : World} {B g : Nat} {vR vC vM vB vS vW : Value} {bases : List Int} {M : Mach}
theorem MSt.size (h:MSt w B g vR vC vM vB vS vW bases M):B≤w.heap.size:=by have:=h.box.lt;have:=h.hg;omega
theorem MSt.ext (h:MSt w B g vR vC vM vB vS vW bases M) (hx:Ext w w'):MSt w' B g vR vC vM vB vS vW bases M :=
 ⟨h.box.ext hx,Q19 h.sn hx,Q19 h.ws hx,Q19 h.bs hx,h.len,h.hg⟩
theorem MSt.gs (h:MSt w B g vR vC vM vB vS vW bases M):some g≠vS.ownBlock:=Q09 h.sn h.box (by decide)
theorem MSt.gw (h:MSt w B g vR vC vM vB vS vW bases M):some g≠vW.ownBlock:=Q09 h.ws h.box (by decide)
theorem MSt.gb (h:MSt w B g vR vC vM vB vS vW bases M):some g≠vB.ownBlock:=Q09 h.bs h.box (by decide)
theorem MSt.put (h:MSt w B g vR vC vM vB vS vW bases M) (i:Nat) (u:Value) {M':Mach} (h1:M'.seen=M.seen) (h2:M'.words=M.words) (h3:M'.regs.length=10)
  (hc:(Q0z vR vC M.fin M.value M.steps vS vM M.regs vW M.at_ vB).toArray.setIfInBounds i u=(Q0z vR vC M'.fin M'.value M'.steps vS vM M'.regs vW M'.at_ vB).toArray) :
  MSt (w.setCell ⟨g,i,none⟩ u) B g vR vC vM vB vS vW bases M' :=
 ⟨by rw [← hc];exact h.box.set_ i u,by rw [h1];exact Q0r h.sn h.gs u,by rw [h2];exact Q0r h.ws h.gw u,Q0r h.bs h.gb u,h3,h.hg⟩
theorem MSt.fin_ (h:MSt w B g vR vC vM vB vS vW bases M) (x:Int):MSt (w.setCell ⟨g,2,none⟩ (.int .i64 x)) B g vR vC vM vB vS vW bases { M with fin:=x }:=h.put 2 _ rfl rfl h.len Qr4
theorem MSt.value_ (h:MSt w B g vR vC vM vB vS vW bases M) (x:Int):MSt (w.setCell ⟨g,3,none⟩ (.int .i64 x)) B g vR vC vM vB vS vW bases { M with value:=x }:=h.put 3 _ rfl rfl h.len Qqz
theorem MSt.steps_ (h:MSt w B g vR vC vM vB vS vW bases M) (k:Nat):MSt (w.setCell ⟨g,4,none⟩ (.int .i64 (k:Int))) B g vR vC vM vB vS vW bases { M with steps:=k }:=h.put 4 _ rfl rfl h.len Qr0
theorem MSt.at__ (h:MSt w B g vR vC vM vB vS vW bases M) (k:Nat):MSt (w.setCell ⟨g,18,none⟩ (.int .i64 (k:Int))) B g vR vC vM vB vS vW bases { M with at_:=k }:=h.put 18 _ rfl rfl h.len (Qr6 h.len)
theorem MSt.reg_ (h:MSt w B g vR vC vM vB vS vW bases M) {a:Int} (ha:okIn 10 a=true) (x:Int):MSt (w.setCell ⟨g,7+a.toNat,none⟩ (.int .i64 x)) B g vR vC vM vB vS vW bases { M with regs:=rset M.regs a x }:=by
 obtain ⟨h0,h1⟩:=Q0l.1 ha
 exact h.put _ _ rfl rfl (by rw [Q7e];exact h.len) (Qr2 h.len (by omega))
theorem MSt.show_ (h:MSt w B g vR vC vM vB vS vW bases M) {vS':Value} {s:List LSee} (hg:w.grownBy w' vS.ownBlock) (ho:w'.ownsRow B 147 3 vS' s.length (s.flatMap Q6x)) :
  MSt (w'.setCell ⟨g,5,none⟩ vS') B g vR vC vM vB vS' vW bases { M with seen:=s }:=by
 have hb:=h.box.grown hg h.gs
 have hne:some g≠vS'.ownBlock:=Q09 ho hb (by decide)
 have hw:=Q27 h.ws hg (fun k hk he=>Q2c h.sn h.ws (by decide) k hk he)
 have hbs:=Q27 h.bs hg (fun k hk he=>Q2c h.sn h.bs (by decide) k hk he)
 exact ⟨by rw [← Qr1 (u:=vS')];exact hb.set_ 5 vS',Q0r ho hne _,Q0r hw h.gw _,Q0r hbs h.gb _,h.len,h.hg⟩
theorem MSt.word (h:MSt w B g vR vC vM vB vS vW bases M) {x k cap:Nat} (hv:vW=.slice (some ⟨k,0,none⟩) M.words.length cap) (z:Int) :
  MSt (w.setCell ⟨k,x,none⟩ (.int .i64 z)) B g vR vC vM vB vS vW bases { M with words:=M.words.set x z }:=by
 subst hv
 have hws:=h.ws
 have hkg:=h.gw
 have hset:=Q92 w ⟨k,x,none⟩ (.int .i64 z)
 refine ⟨h.box.far (p:=⟨k,x,none⟩) (by intro e;exact hkg (by simp [Value.ownBlock,e])) _,Q27 h.sn hset (fun j e he=>Q2c h.sn h.ws (by decide) j he (by simpa [Value.ownBlock] using e)),?_,
  Q27 h.bs hset (fun j e he=>Q2c h.bs h.ws (by decide) j he (by simpa [Value.ownBlock] using e)),h.len,h.hg⟩
 have:=(hws.stored x (.int .i64 z)).1
 simp only [List.length_set]
 rw [List.map_set]
 exact this
theorem MSt.cells (h:MSt w B g vR vC vM vB vS vW bases M) :
  (w.cell? ⟨g,0,none⟩=some vR∧w.frozen? ⟨g,0,none⟩=false)∧(w.cell? ⟨g,1,none⟩=some vC∧w.frozen? ⟨g,1,none⟩=false)∧(w.cell? ⟨g,2,none⟩=some (.int .i64 M.fin)∧w.frozen? ⟨g,2,none⟩=false) ∧
  (w.cell? ⟨g,3,none⟩=some (.int .i64 M.value)∧w.frozen? ⟨g,3,none⟩=false)∧(w.cell? ⟨g,4,none⟩=some (.int .i64 M.steps)∧w.frozen? ⟨g,4,none⟩=false)∧(w.cell? ⟨g,5,none⟩=some vS∧w.frozen? ⟨g,5,none⟩=false) ∧
  (w.cell? ⟨g,6,none⟩=some vM∧w.frozen? ⟨g,6,none⟩=false)∧(w.cell? ⟨g,17,none⟩=some vW∧w.frozen? ⟨g,17,none⟩=false)∧(w.cell? ⟨g,18,none⟩=some (.int .i64 M.at_)∧w.frozen? ⟨g,18,none⟩=false) ∧
  (w.cell? ⟨g,19,none⟩=some vB∧w.frozen? ⟨g,19,none⟩=false):=by
 have hl:=h.len
 refine ⟨⟨?_,h.box.frozen _⟩,⟨?_,h.box.frozen _⟩,⟨?_,h.box.frozen _⟩,⟨?_,h.box.frozen _⟩,⟨?_,h.box.frozen _⟩,⟨?_,h.box.frozen _⟩,⟨?_,h.box.frozen _⟩,⟨?_,h.box.frozen _⟩,⟨?_,h.box.frozen _⟩,⟨?_,h.box.frozen _⟩⟩ <;>
  (rw [h.box.cell];simp [Q0z,List.getElem?_append,hl])
theorem MSt.reg (h:MSt w B g vR vC vM vB vS vW bases M) {a:Int} (ha:okIn 10 a=true):w.cell? ⟨g,7+a.toNat,none⟩=some (.int .i64 (rg M.regs a))∧w.frozen? ⟨g,7+a.toNat,none⟩=false:=by
 obtain ⟨h0,h1⟩:=Q0l.1 ha
 exact ⟨by rw [h.box.cell];exact Qr7 h.len (by omega),h.box.frozen _⟩
def Qck (w w':World) (B g:Nat) (vR vC vM vB vS vW:Value) (bases:List Int) (M':Mach):Prop :=
 ∃ vS',MSt w' B g vR vC vM vB vS' vW bases M'∧Turn (fun j=>j=g∨vS.ownBlock=some j) w w'∧(∀ j,vS'.ownBlock=some j→vS.ownBlock=some j∨w.heap.size≤j)
theorem Qck.keep {w1:World} {M':Mach} (h:MSt w' B g vR vC vM vB vS vW bases M') (ht:Turn (fun j=>j=g∨vS.ownBlock=some j) w w'):Qck w w' B g vR vC vM vB vS vW bases M':=⟨vS,h,ht,fun _ e=>.inl e⟩
end
theorem own_at' {w:World} {B:Nat} {e:TypeId} {v:Value} {n:Nat} {xs:List Value} (h:w.ownsRow B e 1 v n xs) (hn:0 < n):∃ k cap,v=.slice (some ⟨k,0,none⟩) n cap∧B≤k∧∀ j x,j < n→xs[j]? = some x→w.cell? ⟨k,j,none⟩=some x∧w.frozen? ⟨k,j,none⟩=false:=by
 have h':=h
 rcases h.2 with ⟨-,h0⟩ | ⟨k,cap,cur,rfl,a1,a2,a3⟩
 ·omega
 ·exact ⟨k,cap,rfl,a1,fun j x hj hx=>⟨by rw [h'.cellAt j (by omega),hx],h'.frozenAt j⟩⟩
structure Fam (w:World) (B:Nat) (L:List (Value × List Int)):Prop where
 own:∀ x ∈ L,w.ownsRow B 2 1 x.1 x.2.length (x.2.map (Value.int .i64))
 apart:L.Pairwise fun x y => ∀ k,x.1.ownBlock=some k→y.1.ownBlock≠some k
section
variable {w w' : World} {B B' : Nat} {L L' : List (Value × List Int)}
theorem own_mono' {w:World} {b b':Nat} {e:TypeId} {s n:Nat} {v:Value} {xs:List Value} (h:w.ownsRow b e s v n xs) (hb:b'≤b):w.ownsRow b' e s v n xs:=by
 refine ⟨h.1,?_⟩
 rcases h.2 with h | ⟨g,cap,cur,rfl,h1,h2,h3⟩
 ·exact .inl h
 ·exact .inr ⟨g,cap,cur,rfl,by omega,h2,h3⟩
theorem Fam.nil (w:World) (B:Nat):Fam w B []:=⟨fun x h=>by simp at h,List.Pairwise.nil⟩
theorem Fam.ext (h:Fam w B L) (hx:Ext w w'):Fam w' B L:=⟨fun x k=>Q19 (h.own x k) hx,h.apart⟩
theorem Fam.mono (h:Fam w B L) (hB:B'≤B):Fam w B' L:=⟨fun x k=>own_mono' (h.own x k) hB,h.apart⟩
theorem Fam.kept (h:Fam w B L) {row:Option Nat} (hg:w.grownBy w' row) (hne:∀ x ∈ L,∀ k,row=some k→x.1.ownBlock≠some k):Fam w' B L :=
 ⟨fun x k=>Q27 (h.own x k) hg (hne x k),h.apart⟩
theorem Fam.far (h:Fam w B L) {g:Nat} {t:TypeId} {cs:Array Value} (hb:Blk w g t cs) (ht:2 ≠ t) (i:Nat) (u:Value):Fam (w.setCell ⟨g,i,none⟩ u) B L :=
 ⟨fun x k=>Q0r (p:=⟨g,i,none⟩) (h.own x k) (Q09 (h.own x k) hb ht) u,h.apart⟩
theorem Fam.other (h:Fam w B L) {e:TypeId} {s n:Nat} {v:Value} {xs:List Value} (ho:w.ownsRow B e s v n xs) (he:e≠2) (hg:w.grownBy w' v.ownBlock):Fam w' B L :=
 h.kept hg fun x hx k hk=>Q2c ho (h.own x hx) he k hk
theorem Fam.sub (h:Fam w B L) (hs:L'.Sublist L):Fam w B L':=⟨fun x k=>h.own x (hs.subset k),h.apart.sublist hs⟩
theorem Fam.size (h:Fam w B L) {x:Value × List Int} (hx:x ∈ L):∀ k,x.1.ownBlock=some k→B≤k∧k < w.heap.size:=fun k hk=>(h.own x hx).lt k hk
theorem Fam.app (h:Fam w B L) (h':Fam w B' L') (hB:B≤B') (hlt:∀ x ∈ L,∀ k,x.1.ownBlock=some k→k < B'):Fam w B (L ++ L'):=by
 refine ⟨fun x hx=>?_,?_⟩
 ·rcases List.mem_append.1 hx with k | k
  ·exact h.own x k
  ·exact own_mono' (h'.own x k) hB
 ·rw [List.pairwise_append]
  refine ⟨h.apart,h'.apart,fun a ha b hb k hk hk'=>?_⟩
  have h1:=hlt a ha k hk
  have h2:=(h'.size hb k hk').1
  omega
theorem Fam.ne (h:Fam w B L) {i j:Nat} (hij:i≠j) {x y:Value × List Int} (hi:L[i]? = some x) (hj:L[j]? = some y):∀ k,x.1.ownBlock=some k→y.1.ownBlock≠some k:=by
 obtain ⟨hi1,rfl⟩:=List.getElem?_eq_some_iff.1 hi
 obtain ⟨hj1,rfl⟩:=List.getElem?_eq_some_iff.1 hj
 have hp:=List.pairwise_iff_getElem.1 h.apart
 intro k hk hk'
 rcases Nat.lt_or_gt_of_ne hij with hl | hl
 ·exact hp i j hi1 hj1 hl k hk hk'
 ·exact hp j i hj1 hi1 hl k hk' hk
theorem Fam.at_ (h:Fam w B L) {i:Nat} {v:Value} {l:List Int} (hi:L[i]? = some (v,l)):w.ownsRow B 2 1 v l.length (l.map (Value.int .i64)):=by
 obtain ⟨hi1,e⟩:=List.getElem?_eq_some_iff.1 hi
 have:=h.own _ (List.getElem_mem hi1)
 rw [e] at this
 exact this
theorem Fam.set_ (h:Fam w B L) {i:Nat} {v v':Value} {l l':List Int} (hi:L[i]? = some (v,l)) (hg:w.grownBy w' v.ownBlock) (ho:w'.ownsRow B 2 1 v' l'.length (l'.map (Value.int .i64)))
  (hat:∀ k,v'.ownBlock=some k→v.ownBlock=some k∨w.heap.size≤k):Fam w' B (L.set i (v',l')):=by
 have hi1:=(List.getElem?_eq_some_iff.1 hi).1
 have hset:∀ j,j < L.length→(L.set i (v',l'))[j]? = if j=i then some (v',l') else L[j]? := fun j hj=>by
  rw [List.getElem?_set]
  by_cases e:i=j
  ·subst e;simp [hj]
  ·rw [if_neg e,if_neg (fun e'=>e e'.symm)]
 have hap:∀ j x,j≠i→L[j]? = some x→∀ k,v'.ownBlock=some k→x.1.ownBlock≠some k:=fun j x hj hx k hk hk'=>by
  rcases hat k hk with h1 | h1
  ·exact h.ne (Ne.symm hj) hi hx k h1 hk'
  ·have:=(h.size (List.mem_of_getElem? hx) k hk').2
   omega
 refine ⟨fun x hx=>?_,?_⟩
 ·obtain ⟨j,hj,rfl⟩:=List.getElem_of_mem hx
  have hj':j < L.length:=by simpa using hj
  have hs:=hset j hj'
  rw [List.getElem?_eq_getElem hj] at hs
  by_cases e:j=i
  ·rw [if_pos e] at hs
   rw [Option.some.inj hs]
   exact ho
  ·rw [if_neg e,List.getElem?_eq_getElem hj'] at hs
   rw [Option.some.inj hs]
   exact Q27 (h.own _ (List.getElem_mem hj')) hg (fun k hk=>h.ne (Ne.symm e) hi (List.getElem?_eq_getElem hj') k hk)
 ·rw [List.pairwise_iff_getElem]
  intro a b ha hb hab
  have ha':a < L.length:=by simpa using ha
  have hb':b < L.length:=by simpa using hb
  have sa:=hset a ha'
  have sb:=hset b hb'
  rw [List.getElem?_eq_getElem ha] at sa
  rw [List.getElem?_eq_getElem hb] at sb
  by_cases ea:a=i
  ·rw [if_pos ea] at sa
   have eb:b≠i:=by omega
   rw [if_neg eb] at sb
   rw [Option.some.inj sa]
   exact hap b _ eb sb.symm
  ·rw [if_neg ea] at sa
   by_cases eb:b=i
   ·rw [if_pos eb] at sb
    rw [Option.some.inj sb]
    intro k hk hk'
    exact hap a _ ea sa.symm k hk' hk
   ·rw [if_neg eb] at sb
    exact h.ne (by omega) sa.symm sb.symm
theorem Fam.put (h:Fam w B L) {i k n cap x:Nat} {l:List Int} (hi:L[i]? = some (.slice (some ⟨k,0,none⟩) n cap,l)) (z:Int):Fam (w.setCell ⟨k,x,none⟩ (.int .i64 z)) B (L.set i (.slice (some ⟨k,0,none⟩) n cap,l.set x z)):=by
 have ho:=h.at_ hi
 obtain rfl:n=l.length:=by
  rcases ho.2 with ⟨h0,-⟩ | ⟨g,c,cur,hv,-⟩
  ·cases h0
  ·simp only [Value.slice.injEq] at hv
   exact hv.2.1
 refine h.set_ hi (Q92 w ⟨k,x,none⟩ _) ?_ (fun j hj=>.inl hj)
 have:=(ho.stored x (.int .i64 z)).1
 rw [List.length_set,List.map_set]
 exact this
end
section
variable {w w' w'' : World} {B : Nat}
end
theorem Qta:(Tryz.prog.info? 67).map (fun i=>(i.zero,i.size,i.bytes))=some (some (.agg #[.int .i64 0,.bool false]),2,16):=by kernel_rfl
theorem Qem:(Tryz.prog.info? 41).map (fun i=>(i.zero,i.size,i.bytes))=some (some (.agg #[.int .i64 0,.int .i64 0,.int .i64 0,.int .i64 0,.int .i64 0]),5,40):=by kernel_rfl
theorem Qjy:(Tryz.prog.info? 28).map (·.size)=some 2:=by kernel_rfl
theorem Qmx {w:World} {k size m:Nat} {T:TypeId} {cs:Array Value} (h:Blk w k T cs) (hs:cs.size=m * size) (h1:cs.all (·.oneCell')=true):Src w size (some ⟨k,0,none⟩) m cs.toList:=by
 refine ⟨by simpa using hs,(fun e=>by cases e),fun ad ha j u hu=>?_,fun u hu=>?_⟩
 ·obtain rfl:=Option.some.inj ha
  rw [show (⟨k,0,none⟩:Addr).add j=⟨k,0+j,none⟩ from Q4d k 0 j,Nat.zero_add,h.cell]
  simpa using hu
 ·rw [Array.all_eq_true'] at h1
  exact h1 u (by simpa using hu)
theorem Qjr:∀ (l:List LIns) (k:Nat) (x:Int),k < l.length→(l.flatMap Q21).set (k * 5+4) (.int .i64 x)=(l.set k { l.getD k default with n:=x }).flatMap Q21
 | [],k,x,h=>by simp at h
 | i :: l,0,x,h=>by simp [Q21]
 | i :: l,k+1,x,h=>by
  have:=Qjr l k x (by simpa using h)
  rw [List.flatMap_cons,show (k+1) * 5+4=k * 5+4+5 by omega,List.set_cons_succ,List.flatMap_cons,List.getD_cons_succ,← this]
  simp [Q21]
theorem Qhw {w:World} {B kc cap n:Nat} {l:List LIns} (h:w.ownsRow B 41 5 (.slice (some ⟨kc,0,none⟩) n cap) l.length (l.flatMap Q21)) {k:Nat} (hk:k < l.length) (x:Int) :
  (w.setCell ⟨kc,k * 5+4,none⟩ (.int .i64 x)).ownsRow B 41 5 (.slice (some ⟨kc,0,none⟩) n cap) (l.set k { l.getD k default with n:=x }).length ((l.set k { l.getD k default with n:=x }).flatMap Q21):=by
 obtain ⟨h0,⟨-,h1⟩ | ⟨g,cap',cur,hv,h1,h2,h3,h4,h5,h6⟩⟩:=h
 ·omega
 simp only [Value.slice.injEq,Option.some.injEq,Addr.mk.injEq,and_true,true_and] at hv
 obtain ⟨rfl,rfl,rfl⟩:=hv
 have hb:Blk w kc 41 cur:=h2
 have hl:(l.set k { l.getD k default with n:=x }).length=l.length:=by simp
 rw [hl,← Qjr l k x hk]
 refine ⟨by simpa using h0,.inr ⟨kc,cap,cur.setIfInBounds (k * 5+4) (.int .i64 x),rfl,h1,hb.set_ _ _,h3,h4,by simpa using h5,?_⟩⟩
 rw [← h6,Array.toList_setIfInBounds,List.take_set]
theorem Qbm {w:World} {B:Nat} {v:Value} {n:Nat} {l:List LIns} (h:w.ownsRow B 41 5 v n (l.flatMap Q21)) (hn:n=l.length) (h0:0 < n):∃ k cap,v=.slice (some ⟨k,0,none⟩) n cap∧B≤k∧n≤cap∧cap≤maxLen ∧
  ∀ j,j < l.length→(w.cell? ⟨k,j * 5,none⟩=some (.int .i64 (l.getD j default).op)∧w.frozen? ⟨k,j * 5,none⟩=false)∧(w.cell? ⟨k,j * 5+4,none⟩=some (.int .i64 (l.getD j default).n)∧w.frozen? ⟨k,j * 5+4,none⟩=false):=by
 subst hn
 obtain ⟨hl,⟨-,h1⟩ | ⟨g,cap',cur,rfl,h1,h2,h3,h4,h5,h6⟩⟩:=h
 ·omega
 have hb:Blk w g 41 cur:=h2
 refine ⟨g,cap',rfl,h1,h3,h4,fun j hj=>?_⟩
 have key:∀ c,c < 5→cur[j * 5+c]? = (Q21 (l.getD j default))[c]? := fun c hc=>by
  rw [← Qc7 Q21 5 (fun _=>rfl) l j c hj hc,← h6,List.getElem?_take_of_lt (by omega)]
  simp
 refine ⟨⟨?_,hb.frozen _⟩,⟨?_,hb.frozen _⟩⟩
 ·rw [hb.cell]
  have:=key 0 (by omega)
  simpa [Q21] using this
 ·rw [hb.cell]
  have:=key 4 (by omega)
  simpa [Q21] using this
structure HSt (w0 wr:World) (B go:Nat) (vR vC vP:Value) (regs:List LReg) (code:List LIns) (places:List Int):Prop where
 box:Blk wr go 28 #[vR,vC]
 rg:wr.ownsRow B 67 2 vR regs.length (regs.flatMap Q40)
 cd:wr.ownsRow B 41 5 vC code.length (code.flatMap Q21)
 pl:wr.ownsRow B 3 1 vP places.length (places.map (Value.int .i64))
 ext:Ext w0 wr
 hg:B≤go
 hB:w0.heap.size≤B
section
variable {w0 wr w' : World} {B go : Nat} {vR vC vP : Value} {regs : List LReg} {code : List LIns} {places : List Int}
theorem HSt.size (h:HSt w0 wr B go vR vC vP regs code places):B≤wr.heap.size:=by have:=h.box.lt;have:=h.hg;omega
theorem HSt.extend (h:HSt w0 wr B go vR vC vP regs code places) (hx:Ext wr w'):HSt w0 w' B go vR vC vP regs code places :=
 ⟨h.box.ext hx,Q19 h.rg hx,Q19 h.cd hx,Q19 h.pl hx,h.ext.trans hx,h.hg,h.hB⟩
theorem HSt.cells (h:HSt w0 wr B go vR vC vP regs code places):(wr.cell? ⟨go,0,none⟩=some vR∧wr.frozen? ⟨go,0,none⟩=false)∧(wr.cell? ⟨go,1,none⟩=some vC∧wr.frozen? ⟨go,1,none⟩=false) :=
 ⟨⟨by rw [h.box.cell];rfl,h.box.frozen _⟩,⟨by rw [h.box.cell];rfl,h.box.frozen _⟩⟩
theorem HSt.place (h:HSt w0 wr B go vR vC vP regs code places) {vP':Value} {ps:List Int} (hg:wr.grownBy w' vP.ownBlock) (ho:w'.ownsRow B 3 1 vP' ps.length (ps.map (Value.int .i64))):HSt w0 w' B go vR vC vP' regs code ps :=
 ⟨h.box.grown hg (Q09 h.pl h.box (by decide)),Q27 h.rg hg (fun k hk he=>Q2c h.pl h.rg (by decide) k hk he),Q27 h.cd hg (fun k hk he=>Q2c h.pl h.cd (by decide) k hk he),ho,
  Q6c h.ext hg h.ext.size (fun k hk=>Nat.le_trans h.hB (Q17 h.pl k hk)),h.hg,h.hB⟩
theorem HSt.code_ (h:HSt w0 wr B go vR vC vP regs code places) {vC':Value} {cs:List LIns} (hg:wr.grownBy w' vC.ownBlock) (ho:w'.ownsRow B 41 5 vC' cs.length (cs.flatMap Q21)):HSt w0 (w'.setCell ⟨go,1,none⟩ vC') B go vR vC' vP regs cs places:=by
 have hb:=h.box.grown hg (Q09 h.cd h.box (by decide))
 have hr:=Q27 h.rg hg (fun k hk he=>Q2c h.cd h.rg (by decide) k hk he)
 have hp:=Q27 h.pl hg (fun k hk he=>Q2c h.cd h.pl (by decide) k hk he)
 exact ⟨hb.set_ 1 vC',Q0r hr (Q09 hr hb (by decide)) _,Q0r ho (Q09 ho hb (by decide)) _,Q0r hp (Q09 hp hb (by decide)) _,
  (Q6c h.ext hg h.ext.size (fun k hk=>Nat.le_trans h.hB (Q17 h.cd k hk))).setCell (p:=⟨go,1,none⟩) (Nat.le_trans h.hB h.hg) _,h.hg,h.hB⟩
theorem HSt.setN {kc cap n:Nat} (h:HSt w0 wr B go vR (.slice (some ⟨kc,0,none⟩) n cap) vP regs code places) {k:Nat} (hk:k < code.length) (x:Int) :
  HSt w0 (wr.setCell ⟨kc,k * 5+4,none⟩ (.int .i64 x)) B go vR (.slice (some ⟨kc,0,none⟩) n cap) vP regs (code.set k { code.getD k default with n:=x }) places:=by
 have hkB:=Q17 h.cd kc rfl
 have hr:some kc≠vR.ownBlock:=fun e=>Q2c h.rg h.cd (by decide) kc e.symm rfl
 have hp:some kc≠vP.ownBlock:=fun e=>Q2c h.pl h.cd (by decide) kc e.symm rfl
 have hgk:go≠kc:=fun e=>Q09 h.cd h.box (by decide) (by rw [e];rfl)
 exact ⟨h.box.far (p:=⟨kc,k * 5+4,none⟩) hgk _,Q0r h.rg hr _,Qhw h.cd hk x,Q0r h.pl hp _,h.ext.setCell (p:=⟨kc,k * 5+4,none⟩) (Nat.le_trans h.hB hkB) _,h.hg,h.hB⟩
theorem HSt.prog (h:HSt w0 wr B go vR vC vP regs code places) (hr:∀ r ∈ regs,R64 r.log) (hc:∀ i ∈ code,i.fits):Q29 wr (.agg #[vR,vC]) ⟨regs,code⟩ :=
 ⟨_,_,rfl,Qdf h.rg hr,Qcd h.cd hc⟩
end
def relK (f:Nat→Nat) (l:List LIns) (k:Nat):List LIns:=(l.take k).map (Q1j f) ++ l.drop k
theorem Qh1 (f:Nat→Nat) (l:List LIns):relK f l 0=l:=by simp [relK]
theorem Qh3 (f:Nat→Nat) (l:List LIns):relK f l l.length=l.map (Q1j f):=by simp [relK]
theorem Q7g (f:Nat→Nat) (l:List LIns) (k:Nat):(relK f l k).length=l.length:=by
 simp only [relK,List.length_append,List.length_map,List.length_take,List.length_drop]
 omega
theorem Qa0 (f:Nat→Nat) (l:List LIns) {k:Nat} (hk:k < l.length):(relK f l k).getD k default=l.getD k default:=by
 unfold relK
 rw [List.getD_eq_getElem?_getD,List.getElem?_append_right (by simp;omega)]
 simp [Nat.min_eq_left (Nat.le_of_lt hk),hk]
theorem Qde (f:Nat→Nat) (l:List LIns) {k:Nat} (hk:k < l.length):relK f l (k+1)=(relK f l k).set k (Q1j f (l.getD k default)):=by
 have e:l.drop k=l.getD k default :: l.drop (k+1):=by
  rw [List.drop_eq_getElem_cons hk]
  simp [hk]
 have hlen:((l.take k).map (Q1j f)).length=k:=by simp;omega
 have h1:l[k]=l.getD k default:=by simp [hk]
 unfold relK
 rw [List.take_succ_eq_append_getElem hk,e,List.set_append_right _ _ (by omega),hlen,Nat.sub_self,List.set_cons_zero,List.map_append,List.append_assoc,h1]
 rfl
theorem Qh2 (f:Nat→Nat) (l:List LIns) {k:Nat} (hk:k < l.length) (h:¬ ((l.getD k default).op=7∨(l.getD k default).op=8)):relK f l (k+1)=relK f l k:=by
 rw [Qde f l hk,Q94 h]
 apply List.ext_getElem (by simp)
 intro j h1 h2
 rw [List.getElem_set]
 split
 ·rename_i e
  subst e
  have:=Qa0 f l hk
  rw [List.getD_eq_getElem?_getD,List.getElem?_eq_getElem h2] at this
  exact this.symm
 ·rfl
def Q5v (k:LKn):List Value:=[.int .i64 k.bits,.bool k.sec]
def knV (k:LKn):Value:=.agg #[.int .i64 k.bits,.bool k.sec]
def stV (s:KSt):Array Value:=(s.flatMap Q5v).toArray
theorem Qry (s:KSt):(s.flatMap Q5v).length=s.length * 2:=by
 induction s with
 | nil=>rfl
 | cons k s ih=>rw [List.flatMap_cons,List.length_append,ih,List.length_cons];simp [Q5v];omega
theorem Q0v {s:KSt} (h:s.length=8):(stV s).size=16:=by
 unfold stV
 rw [List.size_toArray,Qry,h]
theorem Qje:∀ (s:KSt) (a:Nat),a < s.length→(s.flatMap Q5v)[a * 2]? = some (.int .i64 (s.getD a default).bits)∧(s.flatMap Q5v)[a * 2+1]? = some (.bool (s.getD a default).sec)
 | [],a,h=>by simp at h
 | k :: s,0,h=>by simp [Q5v]
 | k :: s,a+1,h=>by
  have:=Qje s a (by simpa using h)
  rw [List.flatMap_cons,show (a+1) * 2=a * 2+2 by omega,show a * 2+2+1=a * 2+1+2 by omega]
  simp only [Q5v,List.cons_append,List.nil_append,List.getElem?_cons_succ,List.getD_cons_succ]
  exact this
theorem Qms {s:KSt} (h:s.length=8) {a:Int} (ha:a.toNat < 8):(stV s)[a.toNat * 2]? = some (.int .i64 (kg s a).bits)∧(stV s)[a.toNat * 2+1]? = some (.bool (kg s a).sec):=by
 have:=Qje s a.toNat (by omega)
 unfold stV kg
 simpa using this
theorem Qjd:∀ (s:KSt) (a:Nat) (k:LKn),a < s.length→((s.flatMap Q5v).set (a * 2) (.int .i64 k.bits)).set (a * 2+1) (.bool k.sec)=(s.set a k).flatMap Q5v
 | [],a,k,h=>by simp at h
 | x :: s,0,k,h=>by simp [Q5v]
 | x :: s,a+1,k,h=>by
  have:=Qjd s a k (by simpa using h)
  rw [List.flatMap_cons,show (a+1) * 2=a * 2+2 by omega,show a * 2+2+1=a * 2+1+2 by omega,List.set_cons_succ,List.flatMap_cons]
  simp only [Q5v,List.cons_append,List.nil_append,List.set_cons_succ]
  rw [this]
theorem Qmr {s:KSt} (h:s.length=8) {a:Int} (ha:a.toNat < 8) (k:LKn):((stV s).setIfInBounds (a.toNat * 2) (.int .i64 k.bits)).setIfInBounds (a.toNat * 2+1) (.bool k.sec)=stV (kset s a k):=by
 have:=Qjd s a.toNat k (by omega)
 unfold stV kset
 rw [← this]
 simp
theorem Q7a (s:KSt):(stV s).all (·.oneCell')=true:=by
 unfold stV
 rw [Array.all_eq_true']
 intro u hu
 simp only [List.mem_toArray,List.mem_flatMap,Q5v,List.mem_cons,List.not_mem_nil,or_false] at hu
 obtain ⟨k,-,rfl | rfl⟩:=hu <;> rfl
section
variable {w w' : World} {k : Nat} {s : KSt}
theorem Q1i (h:Blk w k 94 (stV s)) (hl:s.length=8) {a:Int} (ha:okIn 8 a=true) :
  (w.cell? ⟨k,a.toNat * 2,none⟩=some (.int .i64 (kg s a).bits)∧w.frozen? ⟨k,a.toNat * 2,none⟩=false)∧(w.cell? ⟨k,a.toNat * 2+1,none⟩=some (.bool (kg s a).sec)∧w.frozen? ⟨k,a.toNat * 2+1,none⟩=false):=by
 obtain ⟨h0,h1⟩:=Q0l.1 ha
 obtain ⟨g1,g2⟩:=Qms hl (a:=a) (by omega)
 exact ⟨⟨by rw [h.cell,g1],h.frozen _⟩,⟨by rw [h.cell,g2],h.frozen _⟩⟩
theorem Q3m (h:Blk w k 94 (stV s)) (hl:s.length=8) {a:Int} (ha:okIn 8 a=true) (x:LKn) :
  Blk ((w.setCell ⟨k,a.toNat * 2,none⟩ (.int .i64 x.bits)).setCell ⟨k,a.toNat * 2+1,none⟩ (.bool x.sec)) k 94 (stV (kset s a x)):=by
 obtain ⟨h0,h1⟩:=Q0l.1 ha
 rw [← Qmr hl (by omega) x]
 exact (h.set_ _ _).set_ _ _
end
def Q53 (w:World) (B ks n:Nat) (T:Tab):Prop :=
 ∃ R:Array Value,Blk w ks 95 R∧R.size=n∧∀ j,j < n→match tg T j with
  | none=>R[j]? = some (.pointer none)
  | some s => ∃ k,R[j]? = some (.pointer (some ⟨k,0,none⟩))∧B≤k∧Blk w k 94 (stV s)
theorem Q53.ext {w w':World} {B ks n:Nat} {T:Tab} (h:Q53 w B ks n T) (hx:Ext w w'):Q53 w' B ks n T:=by
 obtain ⟨R,h1,h2,h3⟩:=h
 refine ⟨R,h1.ext hx,h2,fun j hj=>?_⟩
 have:=h3 j hj
 cases ht:tg T j with
 | none=>rw [ht] at this;exact this
 | some s =>
  rw [ht] at this
  obtain ⟨k,e1,e2,e3⟩:=this
  exact ⟨k,e1,e2,e3.ext hx⟩
theorem Q53.put {w:World} {B ks n k at_:Nat} {T:Tab} {s:KSt} (h:Q53 w B ks n T) (hT:T.length=n) (hat:at_ < n) (hB:B≤k) (hk:Blk w k 94 (stV s)) :
  Q53 (w.setCell ⟨ks,at_,none⟩ (.pointer (some ⟨k,0,none⟩))) B ks n (T.set at_ (some s)):=by
 obtain ⟨R,h1,h2,h3⟩:=h
 refine ⟨_,h1.set_ at_ _,by simpa using h2,fun j hj=>?_⟩
 have far:∀ {k':Nat} {u:KSt},Blk w k' 94 (stV u)→Blk (w.setCell ⟨ks,at_,none⟩ (.pointer (some ⟨k,0,none⟩))) k' 94 (stV u):=fun hb=>hb.far (p:=⟨ks,at_,none⟩) (Blk.ne_ hb h1 (by decide)) _
 rw [Q9x]
 by_cases e:at_=j
 ·subst e
  rw [if_pos ⟨rfl,by omega⟩]
  exact ⟨k,by simp [h2,hat],hB,far hk⟩
 ·rw [if_neg (by omega)]
  have:=h3 j hj
  cases ht:tg T j with
  | none=>rw [ht] at this;simpa [Array.getElem?_setIfInBounds,e] using this
  | some u =>
   rw [ht] at this
   obtain ⟨k',e1,e2,e3⟩:=this
   exact ⟨k',by simpa [Array.getElem?_setIfInBounds,e] using e1,e2,far e3⟩
theorem Q53.far {w:World} {B ks n:Nat} {T:Tab} (h:Q53 w B ks n T) {p:Addr} {t:TypeId} {cs:Array Value} (hp:Blk w p.block t cs) (h1:t≠95) (h2:t≠94) (u:Value):Q53 (w.setCell p u) B ks n T:=by
 obtain ⟨R,e1,e2,e3⟩:=h
 refine ⟨R,e1.far (Blk.ne_ e1 hp (fun e=>h1 e.symm)) u,e2,fun j hj=>?_⟩
 have:=e3 j hj
 cases ht:tg T j with
 | none=>rw [ht] at this;exact this
 | some s =>
  rw [ht] at this
  obtain ⟨k,f1,f2,f3⟩:=this
  exact ⟨k,f1,f2,f3.far (Blk.ne_ f3 hp (fun e=>h2 e.symm)) u⟩
theorem Q53.grown {w w':World} {B ks n m:Nat} {T:Tab} {D:Nat} {v:Value} {xs:List Value} (h:Q53 w B ks n T) (hu:w.ownsRow D 3 1 v m xs) (hg:w.grownBy w' v.ownBlock):Q53 w' B ks n T:=by
 obtain ⟨R,e1,e2,e3⟩:=h
 refine ⟨R,e1.grown hg (Q09 hu e1 (by decide)),e2,fun j hj=>?_⟩
 have:=e3 j hj
 cases ht:tg T j with
 | none=>rw [ht] at this;exact this
 | some s =>
  rw [ht] at this
  obtain ⟨k,f1,f2,f3⟩:=this
  exact ⟨k,f1,f2,f3.grown hg (Q09 hu f3 (by decide))⟩
structure CSt (w:World) (B g ks:Nat) (vR vC vK:Value) (p:Q00) (T:Tab) (wk:List Int):Prop where
 box:Blk w g 89 #[vR,vC,.slice (some ⟨ks,0,none⟩) p.code.length p.code.length,vK]
 row:Q53 w B ks p.code.length T
 wk:w.ownsRow B 3 1 vK wk.length (wk.map (Value.int .i64))
 tok:Tok p T
 hg:B≤g
 hk:B≤ks
section
variable {w w' : World} {B g ks : Nat} {vR vC vK : Value} {p : Q00} {T : Tab} {wk : List Int}
theorem CSt.ext (h:CSt w B g ks vR vC vK p T wk) (hx:Ext w w'):CSt w' B g ks vR vC vK p T wk:=⟨h.box.ext hx,h.row.ext hx,Q19 h.wk hx,h.tok,h.hg,h.hk⟩
theorem CSt.size (h:CSt w B g ks vR vC vK p T wk):B≤w.heap.size:=by have:=h.box.lt;have:=h.hg;omega
theorem CSt.cells (h:CSt w B g ks vR vC vK p T wk):(w.cell? ⟨g,0,none⟩=some vR∧w.frozen? ⟨g,0,none⟩=false)∧(w.cell? ⟨g,1,none⟩=some vC∧w.frozen? ⟨g,1,none⟩=false) ∧
  (w.cell? ⟨g,2,none⟩=some (.slice (some ⟨ks,0,none⟩) p.code.length p.code.length)∧w.frozen? ⟨g,2,none⟩=false)∧(w.cell? ⟨g,3,none⟩=some vK∧w.frozen? ⟨g,3,none⟩=false):=by
 refine ⟨⟨?_,h.box.frozen _⟩,⟨?_,h.box.frozen _⟩,⟨?_,h.box.frozen _⟩,⟨?_,h.box.frozen _⟩⟩ <;> (rw [h.box.cell];rfl)
theorem CSt.put (h:CSt w B g ks vR vC vK p T wk) {k at_:Nat} {s:KSt} (hat:at_ < p.code.length) (hB:B≤k) (hk:Blk w k 94 (stV s)) (hs:Sok s) :
  CSt (w.setCell ⟨ks,at_,none⟩ (.pointer (some ⟨k,0,none⟩))) B g ks vR vC vK p (T.set at_ (some s)) wk:=by
 obtain ⟨R,r1,r2,r3⟩:=h.row
 refine ⟨h.box.far (p:=⟨ks,at_,none⟩) (Blk.ne_ h.box r1 (by decide)) _,h.row.put h.tok.len hat hB hk,Q0r h.wk (Q09 h.wk r1 (by decide)) _,⟨by simpa using h.tok.len,fun j u hu=>?_⟩,h.hg,h.hk⟩
 rw [Q9x] at hu
 split at hu
 ·simp only [Option.some.injEq] at hu;subst hu;exact hs
 ·exact h.tok.ok j u hu
theorem CSt.work (h:CSt w B g ks vR vC vK p T wk) {vK':Value} {wk':List Int} (hg:w.grownBy w' vK.ownBlock) (ho:w'.ownsRow B 3 1 vK' wk'.length (wk'.map (Value.int .i64))) :
  CSt (w'.setCell ⟨g,3,none⟩ vK') B g ks vR vC vK' p T wk':=by
 have hb:=h.box.grown hg (Q09 h.wk h.box (by decide))
 have hne:some g≠vK'.ownBlock:=Q09 ho hb (by decide)
 exact ⟨hb.set_ 3 vK',(h.row.grown h.wk hg).far (p:=⟨g,3,none⟩) hb (by decide) (by decide) _,Q0r ho hne _,h.tok,h.hg,h.hk⟩
theorem CSt.row_at (h:CSt w B g ks vR vC vK p T wk) {j:Nat} (hj:j < p.code.length):(tg T j=none→w.cell? ⟨ks,j,none⟩=some (.pointer none)∧w.frozen? ⟨ks,j,none⟩=false) ∧
  (∀ s,tg T j=some s→∃ k,(w.cell? ⟨ks,j,none⟩=some (.pointer (some ⟨k,0,none⟩))∧w.frozen? ⟨ks,j,none⟩=false)∧B≤k∧Blk w k 94 (stV s)):=by
 obtain ⟨R,r1,r2,r3⟩:=h.row
 have:=r3 j hj
 refine ⟨fun ht=>?_,fun s ht=>?_⟩
 ·rw [ht] at this
  exact ⟨by rw [r1.cell,this],r1.frozen _⟩
 ·rw [ht] at this
  obtain ⟨k,e1,e2,e3⟩:=this
  exact ⟨k,⟨by rw [r1.cell,e1],r1.frozen _⟩,e2,e3⟩
end
def Q4z (p:Q00) (T:Tab) (at_:Nat) (s:KSt):Tab:=if p.code.length≤at_ then T else Q1d T (at_,s)
def Q4m (p:Q00) (T:Tab) (wk:List Int) (at_:Nat) (s:KSt):List Int :=
 if p.code.length≤at_ then wk else match tg T at_ with
  | none=>wk ++ [(at_:Int)]
  | some t=>if Q18 s t=t then wk else wk ++ [(at_:Int)]
end Go.Proofs.YtiafchefbehfbaaGreatDoor

namespace Go.Proofs.YtiafchefbehfbaaGreatDoor
open Go.ChangeShapes Go.WideShapes Go.ChangeAt Go.RowKit
theorem infoState':(Tryz.prog.info? 94).map (·.size)=some 16:=by kernel_rfl
theorem Qub {o:Oper} {a:Act} {x:Operand} {w:World} {g:Nat} {s:KSt} (ho:o.op=.load 94 x) (hx:a.eval x=.pointer (some ⟨g,0,none⟩)) (hb:Blk w g 94 (stV s)) (hl:s.length=8) :
  (execOp a.eval o).run Tryz.prog w=.ok (.value (.agg (stV s))) w:=by
 have h:=run_loadVar_mid (P:=Tryz.prog) w g 0 94 (stV s).toList _ (hb.range 0 _ (fun j v hv=>by simpa using hv)) Tryz.underlying94 rfl (by rw [Array.length_toList,Q0v hl];exact infoState')
 unfold execOp
 simp only [ho,hx,Instr.loadAt,Instr.sureAddr,Sem.run_bind,Sem.run_pure,Result.andThen_ok,h,Array.toArray_toList]
section
variable {ops : Array Oper} {W : World} {i0 k : Nat} {mk : Nat → Value} {T : TypeId} {cs : Array Value} {Qa : Act → Prop} {o : Oper} {rest : List Oper} {a : Act} {g : Nat} {s : KSt} {hs : List Nat}
theorem Qfa (hk:k≠i0) (hw:Region.wanted o (yielded ops a.tmps)=true) (ho:∃ x,o.op=.load 94 x∧a.eval x=.pointer (some ⟨g,0,none⟩)) (hb:Blk W g 94 (stV s)) (hl:s.length=8)
  (h:Q3k Tryz.prog ops W i0 mk T cs Qa (k+1) rest (a.put o.dst (.agg (stV s)))):Q3k Tryz.prog ops W i0 mk T cs Qa k (o :: rest) a :=
 by
 obtain ⟨x,ho,hx⟩:=ho
 exact Q0d hk hw ⟨_,fun _ hE=>Qub ho hx (hb.ext hE) hl,h⟩
end
end Go.Proofs.YtiafchefbehfbaaGreatDoor

namespace Go.Proofs.YtiafchefbehfbaaGreatDoor
open Go.ChangeShapes Go.WideShapes Go.ChangeAt Go.RowKit
set_option linter.unusedVariables false
set_option linter.unusedSimpArgs false
theorem Qp0 {w:World} {v:Value} {p:Q00} (h:Q29 w v p):∃ a b c d,v=.agg #[.slice a p.regs.length b,.slice c p.code.length d]∧Q6g w (.slice a p.regs.length b) p.regs∧Q9t w (.slice c p.code.length d) p.code:=by
 obtain ⟨v1,v2,rfl,h1,h2⟩:=h
 have g1:=h1
 have g2:=h2
 obtain ⟨-,oa,cap,b,o,rfl,-⟩:=h1
 obtain ⟨-,ob,capb,b2,o2,rfl,-⟩:=h2
 exact ⟨_,_,_,_,rfl,g1,g2⟩
theorem Q4a (g:Nat) (W:World) (i:Int) (h0:0≤i) (h1:i < 10) :
  (Instr.indexAt 72 (.pointer (some ⟨g,7,none⟩)) (.int .i64 i)).run Tryz.prog W=.ok (.pointer (some ⟨g,7+i.toNat,none⟩)) W:=by
 have hs:(Tryz.prog.info? 2).map (·.size)=some 1:=by kernel_rfl
 simp [Instr.indexAt,run_underlying Tryz.underlying72,asIntOf,Instr.sureAddr,h0,h1]
 exact Q4d g 7 _
set_option maxHeartbeats 2000000 in
theorem Q62 {B g:Nat} {vR vC vM vB vS vW:Value} {bases:List Int} {M:Mach} (w:World) (h:MSt w B g vR vC vM vB vS vW bases M) (kind a b:Int) (hl:M.seen.length≤1000000) :
  Calls Tryz.prog 51 #[.pointer (some ⟨g,0,none⟩),.int .i64 kind,.int .i64 a,.int .i64 b] w fun e w'=>e=.returned (.tuple #[])∧Qck w w' B g vR vC vM vB vS vW bases { M with seen:=M.seen ++ [⟨kind,a,b⟩] }:=by
 obtain ⟨-,-,-,-,-,g5,-⟩:=h.cells
 obtain ⟨i0',hi0',hz0',hz1',hz2'⟩:=info_parts Qt9
 have hgl:=h.box.lt
 have P:=zh h
 obtain ⟨ov,ovc,rfl⟩:=Q02 h.sn
 clear h
 go_enter Tryz.func51,Tryz.ntmps51
 go_wp2_with (at_builtin;refine Q1b _ rfl _ _ 42 rfl B 147 i0' _ 3 24 Tryz.underlying42 hi0' hz0' hz1' hz2' rfl (by decide) _ _ _ rfl (Q1r P.out.sn) (some ⟨w.heap.size,0,none⟩) 1 1 (Q6x ⟨kind,a,b⟩) rfl ?c1 ?c3 ?c4 ?c5 ?_)
 case c1=>exact Q1y (size:=3) (Blk.new w 147 #[.int .i64 kind,.int .i64 a,.int .i64 b]) rfl (by simp [Value.oneCell'])
 case c3=>unfold maxLen;omega
 case c4=>omega
 case c5=>have:=P.out.size;simp;omega
 intro vS' w3 hown hgrow hat
 obtain ⟨ow,owc,rfl⟩:=Q02 hown
 have hx:=(Ext.refl w).alloc (.cells #[.int .i64 kind,.int .i64 a,.int .i64 b] 147)
 have P1:=P.out.ext hx
 have p5:w3.cell? ⟨g,5,none⟩=some (.slice ov M.seen.length ovc)∧w3.frozen? ⟨g,5,none⟩=false:=by
  have hb:=P1.box.grown hgrow P1.gs
  exact ⟨by rw [hb.cell];simp [Q0z],hb.frozen 5⟩
 have P2:=zh (P1.show_ (s:=M.seen ++ [⟨kind,a,b⟩]) (vS':=.slice ow (M.seen.length+1) owc) hgrow (by simpa using hown))
 have HT:Hid (Turn (fun j=>j=g∨(Value.slice ov M.seen.length ovc).ownBlock=some j) w (w3.setCell ⟨g,5,none⟩ (.slice ow (M.seen.length+1) owc))):=zh
  (((Turn.ofExt hx).trans (Turn.grown hgrow) (fun j _ e=>.inr e)).trans (Turn.set _ _ _) (fun j _ e=>.inl e))
 have Hat:Hid (∀ j,(Value.slice ow (M.seen.length+1) owc).ownBlock=some j→(Value.slice ov M.seen.length ovc).ownBlock=some j∨w.heap.size≤j):=zh (by
  intro j hj
  rcases hat with hat | hat
  ·rw [hat] at hj;exact .inl hj
  ·rw [hat] at hj
   simp only [Option.some.injEq] at hj
   have:=hx.size
   exact .inr (by omega))
 clear hown hgrow hat hx P1 g5
 go_wp2
 refine bodyPost_end (results_none rfl _ _ _) rfl ?_
 exact ⟨rfl,_,P2.out,HT.out,Hat.out⟩
theorem Q1n {B g:Nat} {vR vC vM vB vS vW:Value} {bases:List Int} {M:Mach} (w:World) (h:MSt w B g vR vC vM vB vS vW bases M) (i:LIns) (hb:okIn 10 i.b=true) :
  Calls Tryz.prog 85 #[.pointer (some ⟨g,0,none⟩),insV i] w fun e w'=>e=.returned (.int .i64 (Q1u M.regs i))∧Ext w w':=by
 obtain ⟨rb,-⟩:=h.reg hb
 obtain ⟨op,a,b,c,n⟩:=i
 simp only at hb rb
 obtain ⟨b0,b1⟩:=Q0l.1 hb
 have hgl:=h.box.lt
 unfold insV
 simp only
 clear h
 by_cases h5:op=5
 ·subst h5
  go_enter Tryz.func85,Tryz.ntmps85
  go_wp2
  go_ret
  exact ⟨Q5r (by simp [Q1u]),(Ext.refl _).alloc _⟩
 by_cases h6:op=6
 ·subst h6
  go_enter Tryz.func85,Tryz.ntmps85
  go_wp2
  go_ret
  exact ⟨Q5r (by simp [Q1u]),(Ext.refl _).alloc _⟩
 have Hv:Hid (Q1u M.regs ⟨op,a,b,c,n⟩=wrap64 (rg M.regs b+n)):=zh (by unfold Q1u;rw [if_neg (by simp only;omega)])
 have e5:(op == 5)=false:=by simpa using h5
 have e6:(op == 6)=false:=by simpa using h6
 have hix:=Q4a
 clear h5 h6
 go_enter Tryz.func85,Tryz.ntmps85
 go_upto_region 3 with fail
 obtain ⟨w0,e,he,hW,hs0,hx0,c0,c1,c2,c3,c4⟩:=new5 w 41 (.int .i64 op) (.int .i64 a) (.int .i64 b) (.int .i64 c) (.int .i64 n)
 rw [hW,he]
 have k0:∀ W,Ext w0 W→W.cell? ⟨e,2,none⟩=some (.int .i64 b):=fun _ h=>h.kept c2
 have k1:∀ W,Ext w0 W→W.cell? ⟨e,4,none⟩=some (.int .i64 n):=fun _ h=>h.kept c4
 have k2:∀ W,Ext w0 W→W.cell? ⟨g,7+b.toNat,none⟩=some (.int .i64 (rg M.regs b)):=fun _ h=>h.kept (hx0.kept rb)
 have X:=zh hx0
 clear hW he hs0 hx0 c0 c1 c2 c3 c4 rb
 refine Q0j 12 (by kernel_rfl) (by kernel_rfl) ?_
 simp only [List.take_succ_cons,List.take_zero,List.drop_succ_cons,List.drop_zero]
 repeat (first | (refine Q0d ?_ ?_ ?_;(decide);(first | rfl | (focus (go_simp;done)));apply Exists.intro;refine ⟨fun wc hE=>?_,?_⟩;(go_simp;exact rfl);go_simp) | (refine Q0e ?_ ?_ ?_;(decide);(focus (go_simp;done));go_simp))
 refine Q0f ?_
 intro wx hx
 have X:=zh (X.out.trans hx)
 clear hx k0 k1 k2
 go_wp2
 go_ret
 exact ⟨Q5r (by rw [Hv.out,IntKind.wrap_i64];unfold wrap64;rfl),X.out⟩
theorem Q8f (i:LIns) (w:World) :
  Calls Tryz.prog 53 #[insV i] w fun e w'=>e=.returned (.bool (Q0q i))∧Ext w w':=by
 obtain ⟨op,a,b,c,n⟩:=i
 unfold insV
 simp only
 by_cases h1:op=4
 ·subst h1
  go_enter Tryz.func53,Tryz.ntmps53
  go_wp2
  go_ret
  exact ⟨Q1z (by simp [Q0q]),(Ext.refl _).alloc _⟩
 by_cases h2:op=6
 ·subst h2
  go_enter Tryz.func53,Tryz.ntmps53
  go_wp2
  go_ret
  exact ⟨Q1z (by simp [Q0q]),(Ext.refl _).alloc _⟩
 have e1:(op == 4)=false:=by simpa using h1
 have e2:(op == 6)=false:=by simpa using h2
 have Hv:Hid (Q0q ⟨op,a,b,c,n⟩=false):=zh (by simp [Q0q,h1,h2])
 clear h1 h2
 go_enter Tryz.func53,Tryz.ntmps53
 go_wp2
 go_ret
 exact ⟨Q1z Hv.out.symm,(Ext.refl _).alloc _⟩
theorem Qb1 (i:LIns) (w:World) :
  Calls Tryz.prog 54 #[insV i] w fun e w'=>e=.returned (.bool (Q1m i))∧Ext w w':=by
 obtain ⟨op,a,b,c,n⟩:=i
 unfold insV
 simp only
 by_cases h1:op=3
 ·subst h1
  go_enter Tryz.func54,Tryz.ntmps54
  go_wp2
  go_ret
  exact ⟨Q1z (by simp [Q1m]),(Ext.refl _).alloc _⟩
 by_cases h2:op=5
 ·subst h2
  go_enter Tryz.func54,Tryz.ntmps54
  go_wp2
  go_ret
  exact ⟨Q1z (by simp [Q1m]),(Ext.refl _).alloc _⟩
 have e1:(op == 3)=false:=by simpa using h1
 have e2:(op == 5)=false:=by simpa using h2
 have Hv:Hid (Q1m ⟨op,a,b,c,n⟩=false):=zh (by simp [Q1m,h1,h2])
 clear h1 h2
 go_enter Tryz.func54,Tryz.ntmps54
 go_wp2
 go_ret
 exact ⟨Q1z Hv.out.symm,(Ext.refl _).alloc _⟩
theorem Qjo {B g:Nat} {vR vC vM vB vS vW:Value} {bases:List Int} {M:Mach} (w:World) (h:MSt w B g vR vC vM vB vS vW bases M) (p:Q00) (hR:Q6g w vR p.regs) (hr:Q0p p.regs=true) (c x:Int) (h0:0≤c) (h1:c.toNat < p.regs.length) :
  Calls Tryz.prog 86 #[.pointer (some ⟨g,0,none⟩),.int .i64 c,.int .i64 x] w fun e w'=>e=.returned (.bool (decide (0≤x) && decide (x < (Q0t (p.regs.getD c.toNat default):Nat))))∧Ext w w':=by
 obtain ⟨g0,-⟩:=h.cells
 obtain ⟨-,oa,cap,b,o,rfl,hc1,hc2,hrow⟩:=hR
 have hix:=Q50 (cap:=cap) hrow.at_
 obtain ⟨e0,e1⟩:=hrow.reg c.toNat h1
 have hlog:=Q6o hr _ (Q25 h1)
 have hlen:=Q4g hr
 have hw6:Q0t (p.regs.getD c.toNat default)≤64:=Q6s _ hlog.2
 clear hrow h
 have h1':c < (p.regs.length:Int):=by omega
 generalize p.regs.getD c.toNat default=r at *
 by_cases hx0:0≤x
 ·go_enter Tryz.func86,Tryz.ntmps86
  go_wp2_with fail
  (with_reducible refine (Q78 r hlog.1 hlog.2 w).mono ?_)
  rintro e w1 ⟨rfl,hx⟩
  go_wp2
  go_ret
  exact ⟨Q1z (by simp [hx0]),hx⟩
 ·have hd:decide (0≤x)=false:=by simpa using hx0
  go_enter Tryz.func86,Tryz.ntmps86
  go_wp2
  go_ret
  exact ⟨Q1z (by simp [hx0]),Ext.refl _⟩
def Q5p (w:World) (B g:Nat) (vR vC vM vB vS vW:Value) (bases:List Int) (M:Mach) (i:LIns) (e:Ending) (w':World):Prop :=
 e=.returned (.tuple #[])∧Qck w w' B g vR vC vM vB vS vW bases { M with regs:=Q2w M.regs i,seen:=M.seen ++ Q39 M.regs i }
section
variable {B g : Nat} {vR vC vM vB vS vW : Value} {bases : List Int} {M : Mach} {w w1 : World} {i : LIns}
theorem Q95 {a x:Int} (ha:okIn 10 a=true) (h:MSt w B g vR vC vM vB vS vW bases M) (hs:Q39 M.regs i=[]) (hr:Q2w M.regs i=rset M.regs a x) (hx:Ext w w1) :
  Q5p w B g vR vC vM vB vS vW bases M i (.returned (.tuple #[])) (w1.setCell ⟨g,7+a.toNat,none⟩ (.int .i64 x)):=by
 refine ⟨rfl,vS,?_,(Turn.ofExt hx).trans (Turn.set _ _ _) (fun j _ e=>.inl e),fun _ e=>.inl e⟩
 rw [hs,hr,List.append_nil]
 exact (h.ext hx).reg_ ha x
theorem Qhn (h:MSt w B g vR vC vM vB vS vW bases M) (hs:Q39 M.regs i=[]) (hr:Q2w M.regs i=M.regs) (hx:Ext w w1) :
  Q5p w B g vR vC vM vB vS vW bases M i (.returned (.tuple #[])) w1:=by
 refine ⟨rfl,vS,?_,Turn.ofExt hx,fun _ e=>.inl e⟩
 rw [hs,hr,List.append_nil]
 exact h.ext hx
end
set_option maxRecDepth 100000 in
set_option maxHeartbeats 2000000 in
theorem Qp5 {B g:Nat} {vR vC vM vB vS vW:Value} {bases:List Int} {M:Mach} (a b c n:Int) (h64:Q1p M.regs) (ha:okIn 10 a=true) (hsn:M.seen.length≤1000000) (w:World) (h:MSt w B g vR vC vM vB vS vW bases M) :
  Calls Tryz.prog 56 #[.pointer (some ⟨g,0,none⟩),insV ⟨1,a,b,c,n⟩] w (Q5p w B g vR vC vM vB vS vW bases M ⟨1,a,b,c,n⟩):=by
 unfold insV
 simp only
 have hgl:=h.box.lt
 have H:=zh h
 obtain ⟨ra,fa⟩:=h.reg ha
 obtain ⟨a0,a1⟩:=Q0l.1 ha
 have hix:=Q4a
 clear h
 go_enter Tryz.func56,Tryz.ntmps56
 go_upto_region 8 with fail
 obtain ⟨w0,e,he,hW,hs0,hx0,c0,c1,c2,c3,c4⟩:=new5 w 41 (.int .i64 1) (.int .i64 a) (.int .i64 b) (.int .i64 c) (.int .i64 n)
 rw [hW,he]
 have k1:∀ W,Ext w0 W→W.cell? ⟨e,1,none⟩=some (.int .i64 a):=fun _ h=>h.kept c1
 have k4:∀ W,Ext w0 W→W.cell? ⟨e,4,none⟩=some (.int .i64 n):=fun _ h=>h.kept c4
 have rr:=Q0i hx0 ⟨ra,fa⟩
 have X:=zh hx0
 clear hW he hs0 hx0 c0 c1 c2 c3 c4 ra fa
 refine Q0j 6 (by kernel_rfl) (by kernel_rfl) ?_
 simp only [List.take_succ_cons,List.take_zero,List.drop_succ_cons,List.drop_zero]
 repeat (first | (refine Q0d ?_ ?_ ?_;(decide);(first | rfl | (focus (go_simp;done)));apply Exists.intro;refine ⟨fun wc hE=>?_,?_⟩;(go_simp;exact rfl);go_simp) | (refine Q0e ?_ ?_ ?_;(decide);(focus (go_simp;done));go_simp))
 refine Q0f ?_
 intro wx hx
 have X:=zh (X.out.trans hx)
 have rr:=Q0i hx rr
 clear hx k1 k4
 go_wp2
 refine bodyPost_end (results_none rfl _ _ _) rfl ?_
 exact Q95 (x:=n) ha H.out (Q7i (by simp)) rfl X.out
set_option maxRecDepth 100000 in
set_option maxHeartbeats 2000000 in
theorem Qp8 {B g:Nat} {vR vC vM vB vS vW:Value} {bases:List Int} {M:Mach} (a b c n:Int) (h64:Q1p M.regs) (ha:okIn 10 a=true) (hb:okIn 10 b=true) (hsn:M.seen.length≤1000000) (w:World) (h:MSt w B g vR vC vM vB vS vW bases M) :
  Calls Tryz.prog 56 #[.pointer (some ⟨g,0,none⟩),insV ⟨2,a,b,c,n⟩] w (Q5p w B g vR vC vM vB vS vW bases M ⟨2,a,b,c,n⟩):=by
 unfold insV
 simp only
 have hgl:=h.box.lt
 have H:=zh h
 obtain ⟨ra,fa⟩:=h.reg ha
 obtain ⟨a0,a1⟩:=Q0l.1 ha
 obtain ⟨rb,fb⟩:=h.reg hb
 obtain ⟨b0,b1⟩:=Q0l.1 hb
 have hix:=Q4a
 clear h
 go_enter Tryz.func56,Tryz.ntmps56
 go_upto_region 10 with fail
 obtain ⟨w0,e,he,hW,hs0,hx0,c0,c1,c2,c3,c4⟩:=new5 w 41 (.int .i64 2) (.int .i64 a) (.int .i64 b) (.int .i64 c) (.int .i64 n)
 rw [hW,he]
 have k1:∀ W,Ext w0 W→W.cell? ⟨e,1,none⟩=some (.int .i64 a):=fun _ h=>h.kept c1
 have k2:∀ W,Ext w0 W→W.cell? ⟨e,2,none⟩=some (.int .i64 b):=fun _ h=>h.kept c2
 have mb:∀ W,Ext w0 W→W.cell? ⟨g,7+b.toNat,none⟩=some (.int .i64 (rg M.regs b)):=fun _ h=>h.kept (hx0.kept rb)
 have rr:=Q0i hx0 ⟨ra,fa⟩
 have X:=zh hx0
 clear hW he hs0 hx0 c0 c1 c2 c3 c4 ra fa rb fb
 refine Q0j 11 (by kernel_rfl) (by kernel_rfl) ?_
 simp only [List.take_succ_cons,List.take_zero,List.drop_succ_cons,List.drop_zero]
 repeat (first | (refine Q0d ?_ ?_ ?_;(decide);(first | rfl | (focus (go_simp;done)));apply Exists.intro;refine ⟨fun wc hE=>?_,?_⟩;(go_simp;exact rfl);go_simp) | (refine Q0e ?_ ?_ ?_;(decide);(focus (go_simp;done));go_simp))
 refine Q0f ?_
 intro wx hx
 have X:=zh (X.out.trans hx)
 have rr:=Q0i hx rr
 clear hx k1 k2 mb
 go_wp2
 refine bodyPost_end (results_none rfl _ _ _) rfl ?_
 exact Q95 (x:=rg M.regs b) ha H.out (Q7i (by simp)) rfl X.out
set_option maxRecDepth 100000 in
set_option maxHeartbeats 2000000 in
theorem Qpb {B g:Nat} {vR vC vM vB vS vW:Value} {bases:List Int} {M:Mach} (a b c n:Int) (h64:Q1p M.regs) (ha:okIn 10 a=true) (hb:okIn 10 b=true) (hsn:M.seen.length≤1000000) (w:World) (h:MSt w B g vR vC vM vB vS vW bases M) :
  Calls Tryz.prog 56 #[.pointer (some ⟨g,0,none⟩),insV ⟨10,a,b,c,n⟩] w (Q5p w B g vR vC vM vB vS vW bases M ⟨10,a,b,c,n⟩):=by
 unfold insV
 simp only
 have hgl:=h.box.lt
 have H:=zh h
 obtain ⟨ra,fa⟩:=h.reg ha
 obtain ⟨a0,a1⟩:=Q0l.1 ha
 obtain ⟨rb,fb⟩:=h.reg hb
 obtain ⟨b0,b1⟩:=Q0l.1 hb
 have hix:=Q4a
 clear h
 go_enter Tryz.func56,Tryz.ntmps56
 go_upto_region 12 with fail
 obtain ⟨w0,e,he,hW,hs0,hx0,c0,c1,c2,c3,c4⟩:=new5 w 41 (.int .i64 10) (.int .i64 a) (.int .i64 b) (.int .i64 c) (.int .i64 n)
 rw [hW,he]
 have k1:∀ W,Ext w0 W→W.cell? ⟨e,1,none⟩=some (.int .i64 a):=fun _ h=>h.kept c1
 have k2:∀ W,Ext w0 W→W.cell? ⟨e,2,none⟩=some (.int .i64 b):=fun _ h=>h.kept c2
 have k4:∀ W,Ext w0 W→W.cell? ⟨e,4,none⟩=some (.int .i64 n):=fun _ h=>h.kept c4
 have mb:∀ W,Ext w0 W→W.cell? ⟨g,7+b.toNat,none⟩=some (.int .i64 (rg M.regs b)):=fun _ h=>h.kept (hx0.kept rb)
 have rr:=Q0i hx0 ⟨ra,fa⟩
 have X:=zh hx0
 clear hW he hs0 hx0 c0 c1 c2 c3 c4 ra fa rb fb
 refine Q0j 14 (by kernel_rfl) (by kernel_rfl) ?_
 simp only [List.take_succ_cons,List.take_zero,List.drop_succ_cons,List.drop_zero]
 repeat (first | (refine Q0d ?_ ?_ ?_;(decide);(first | rfl | (focus (go_simp;done)));apply Exists.intro;refine ⟨fun wc hE=>?_,?_⟩;(go_simp;exact rfl);go_simp) | (refine Q0e ?_ ?_ ?_;(decide);(focus (go_simp;done));go_simp))
 refine Q0f ?_
 intro wx hx
 have X:=zh (X.out.trans hx)
 have rr:=Q0i hx rr
 clear hx k1 k2 k4 mb
 go_wp2
 refine bodyPost_end (results_none rfl _ _ _) rfl ?_
 try rw [show IntKind.i64.wrap (rg M.regs b+n)=wrap64 (rg M.regs b+n) by rw [IntKind.wrap_i64];unfold wrap64;rfl]
 exact Q95 (x:=wrap64 (rg M.regs b+n)) ha H.out (Q7i (by simp)) rfl X.out
set_option maxRecDepth 100000 in
set_option maxHeartbeats 2000000 in
theorem Qp9 {B g:Nat} {vR vC vM vB vS vW:Value} {bases:List Int} {M:Mach} (a b c n:Int) (h64:Q1p M.regs) (ha:okIn 10 a=true) (hsn:M.seen.length≤1000000) (w:World) (h:MSt w B g vR vC vM vB vS vW bases M) :
  Calls Tryz.prog 56 #[.pointer (some ⟨g,0,none⟩),insV ⟨11,a,b,c,n⟩] w (Q5p w B g vR vC vM vB vS vW bases M ⟨11,a,b,c,n⟩):=by
 unfold insV
 simp only
 have hgl:=h.box.lt
 have H:=zh h
 obtain ⟨ra,fa⟩:=h.reg ha
 obtain ⟨a0,a1⟩:=Q0l.1 ha
 have hix:=Q4a
 clear h
 by_cases hneg:rg M.regs a < 0
 ·have Hr:Hid (Q2w M.regs ⟨11,a,b,c,n⟩=rset M.regs a 0):=zh (by simp [Q2w,hneg])
  go_enter Tryz.func56,Tryz.ntmps56
  go_upto_region 14 with fail
  obtain ⟨w0,e,he,hW,hs0,hx0,c0,c1,c2,c3,c4⟩:=new5 w 41 (.int .i64 11) (.int .i64 a) (.int .i64 b) (.int .i64 c) (.int .i64 n)
  rw [hW,he]
  have k1:∀ W,Ext w0 W→W.cell? ⟨e,1,none⟩=some (.int .i64 a):=fun _ h=>h.kept c1
  have k4:∀ W,Ext w0 W→W.cell? ⟨e,4,none⟩=some (.int .i64 n):=fun _ h=>h.kept c4
  have ma:∀ W,Ext w0 W→W.cell? ⟨g,7+a.toNat,none⟩=some (.int .i64 (rg M.regs a)):=fun _ h=>h.kept (hx0.kept ra)
  have rr:=Q0i hx0 ⟨ra,fa⟩
  have X:=zh hx0
  clear hW he hs0 hx0 c0 c2 c3 ra fa
  refine Q0j 18 (by kernel_rfl) (by kernel_rfl) ?_
  simp only [List.take_succ_cons,List.take_zero,List.drop_succ_cons,List.drop_zero]
  repeat (first | (refine Q0d ?_ ?_ ?_;(decide);(first | rfl | (focus (go_simp;done)));apply Exists.intro;refine ⟨fun wc hE=>?_,?_⟩;(go_simp;exact rfl);go_simp) | (refine Q0e ?_ ?_ ?_;(decide);(focus (go_simp;done));go_simp))
  refine Q0f ?_
  intro wx hx
  have X:=zh (X.out.trans hx)
  have rr:=Q0i hx rr
  have c1:=hx.kept c1
  clear hx c4 k1 k4 ma
  go_upto_region 15 with fail
  have k1:∀ W,Ext wx W→W.cell? ⟨e,1,none⟩=some (.int .i64 a):=fun _ h=>h.kept c1
  refine Q0j 5 (by kernel_rfl) (by kernel_rfl) ?_
  simp only [List.take_succ_cons,List.take_zero,List.drop_succ_cons,List.drop_zero]
  repeat (first | (refine Q0d ?_ ?_ ?_;(decide);(first | rfl | (focus (go_simp;done)));apply Exists.intro;refine ⟨fun wc hE=>?_,?_⟩;(go_simp;exact rfl);go_simp) | (refine Q0e ?_ ?_ ?_;(decide);(focus (go_simp;done));go_simp))
  refine Q0f ?_
  intro wy hy
  have X:=zh (X.out.trans hy)
  have rr:=Q0i hy rr
  clear hy c1 k1
  go_wp2
  refine bodyPost_end (results_none rfl _ _ _) rfl ?_
  exact Q95 (x:=0) ha H.out (Q7i (by simp)) Hr.out X.out
 by_cases hge:n≤rg M.regs a
 ·have Hr:Hid (Q2w M.regs ⟨11,a,b,c,n⟩=rset M.regs a 0):=zh (by simp [Q2w,hge])
  have hn0:decide (rg M.regs a < 0)=false:=by simpa using hneg
  clear hneg
  go_enter Tryz.func56,Tryz.ntmps56
  go_upto_region 14 with fail
  obtain ⟨w0,e,he,hW,hs0,hx0,c0,c1,c2,c3,c4⟩:=new5 w 41 (.int .i64 11) (.int .i64 a) (.int .i64 b) (.int .i64 c) (.int .i64 n)
  rw [hW,he]
  have k1:∀ W,Ext w0 W→W.cell? ⟨e,1,none⟩=some (.int .i64 a):=fun _ h=>h.kept c1
  have k4:∀ W,Ext w0 W→W.cell? ⟨e,4,none⟩=some (.int .i64 n):=fun _ h=>h.kept c4
  have ma:∀ W,Ext w0 W→W.cell? ⟨g,7+a.toNat,none⟩=some (.int .i64 (rg M.regs a)):=fun _ h=>h.kept (hx0.kept ra)
  have rr:=Q0i hx0 ⟨ra,fa⟩
  have X:=zh hx0
  clear hW he hs0 hx0 c0 c2 c3 ra fa
  refine Q0j 18 (by kernel_rfl) (by kernel_rfl) ?_
  simp only [List.take_succ_cons,List.take_zero,List.drop_succ_cons,List.drop_zero]
  repeat (first | (refine Q0d ?_ ?_ ?_;(decide);(first | rfl | (focus (go_simp;done)));apply Exists.intro;refine ⟨fun wc hE=>?_,?_⟩;(go_simp;exact rfl);go_simp) | (refine Q0e ?_ ?_ ?_;(decide);(focus (go_simp;done));go_simp))
  refine Q0f ?_
  intro wx hx
  have X:=zh (X.out.trans hx)
  have rr:=Q0i hx rr
  have c1:=hx.kept c1
  clear hx c4 k1 k4 ma
  go_upto_region 15 with fail
  have k1:∀ W,Ext wx W→W.cell? ⟨e,1,none⟩=some (.int .i64 a):=fun _ h=>h.kept c1
  refine Q0j 5 (by kernel_rfl) (by kernel_rfl) ?_
  simp only [List.take_succ_cons,List.take_zero,List.drop_succ_cons,List.drop_zero]
  repeat (first | (refine Q0d ?_ ?_ ?_;(decide);(first | rfl | (focus (go_simp;done)));apply Exists.intro;refine ⟨fun wc hE=>?_,?_⟩;(go_simp;exact rfl);go_simp) | (refine Q0e ?_ ?_ ?_;(decide);(focus (go_simp;done));go_simp))
  refine Q0f ?_
  intro wy hy
  have X:=zh (X.out.trans hy)
  have rr:=Q0i hy rr
  clear hy c1 k1
  go_wp2
  refine bodyPost_end (results_none rfl _ _ _) rfl ?_
  exact Q95 (x:=0) ha H.out (Q7i (by simp)) Hr.out X.out
 ·have Hr:Hid (Q2w M.regs ⟨11,a,b,c,n⟩=M.regs):=zh (by simp [Q2w,hge,hneg])
  have hn0:decide (rg M.regs a < 0)=false:=by simpa using hneg
  have hn1:decide (n≤rg M.regs a)=false:=by simpa using hge
  clear hneg hge
  go_enter Tryz.func56,Tryz.ntmps56
  go_upto_region 14 with fail
  obtain ⟨w0,e,he,hW,hs0,hx0,c0,c1,c2,c3,c4⟩:=new5 w 41 (.int .i64 11) (.int .i64 a) (.int .i64 b) (.int .i64 c) (.int .i64 n)
  rw [hW,he]
  have k1:∀ W,Ext w0 W→W.cell? ⟨e,1,none⟩=some (.int .i64 a):=fun _ h=>h.kept c1
  have k4:∀ W,Ext w0 W→W.cell? ⟨e,4,none⟩=some (.int .i64 n):=fun _ h=>h.kept c4
  have ma:∀ W,Ext w0 W→W.cell? ⟨g,7+a.toNat,none⟩=some (.int .i64 (rg M.regs a)):=fun _ h=>h.kept (hx0.kept ra)
  have rr:=Q0i hx0 ⟨ra,fa⟩
  have X:=zh hx0
  clear hW he hs0 hx0 c0 c2 c3 ra fa
  refine Q0j 18 (by kernel_rfl) (by kernel_rfl) ?_
  simp only [List.take_succ_cons,List.take_zero,List.drop_succ_cons,List.drop_zero]
  repeat (first | (refine Q0d ?_ ?_ ?_;(decide);(first | rfl | (focus (go_simp;done)));apply Exists.intro;refine ⟨fun wc hE=>?_,?_⟩;(go_simp;exact rfl);go_simp) | (refine Q0e ?_ ?_ ?_;(decide);(focus (go_simp;done));go_simp))
  refine Q0f ?_
  intro wx hx
  have X:=zh (X.out.trans hx)
  have rr:=Q0i hx rr
  have c1:=hx.kept c1
  clear hx c4 k1 k4 ma
  go_wp2
  refine bodyPost_end (results_none rfl _ _ _) rfl ?_
  exact Qhn H.out (Q7i (by simp)) Hr.out X.out
set_option maxRecDepth 100000 in
set_option maxHeartbeats 2000000 in
theorem Qpa {B g:Nat} {vR vC vM vB vS vW:Value} {bases:List Int} {M:Mach} (a b c n:Int) (h64:Q1p M.regs) (hop:True) (hsn:M.seen.length≤1000000) (w:World) (h:MSt w B g vR vC vM vB vS vW bases M) :
  Calls Tryz.prog 56 #[.pointer (some ⟨g,0,none⟩),insV ⟨12,a,b,c,n⟩] w (Q5p w B g vR vC vM vB vS vW bases M ⟨12,a,b,c,n⟩):=by
 unfold insV
 simp only
 have hgl:=h.box.lt
 have H:=zh h
 have hix:=Q4a
 clear h
 go_enter Tryz.func56,Tryz.ntmps56
 go_wp2
 refine bodyPost_end (results_none rfl _ _ _) rfl ?_
 exact Qhn H.out (Q7i (by simp)) rfl ((Ext.refl _).alloc _)
theorem Q7u {S:Nat→Prop} {w w':World} (h:Turn S w w') {p:Addr} (hp:p.block < w.heap.size) (hn:¬ S p.block):w'.cell? p=w.cell? p:=by
 have:=h.block p.block hp hn
 unfold World.cell?
 rw [this]
set_option maxRecDepth 100000 in
set_option maxHeartbeats 2000000 in
theorem Qa1 {B g:Nat} {vR vC vM vB vS vW:Value} {bases:List Int} {M:Mach} (op a b c n:Int) (h64:Q1p M.regs) (ha:okIn 10 a=true) (hb:okIn 10 b=true) (hc:okIn 10 c=true) (o1:21≤op) (o2:op≤28) (hsn:M.seen.length≤1000000) (w:World) (h:MSt w B g vR vC vM vB vS vW bases M) :
  Calls Tryz.prog 56 #[.pointer (some ⟨g,0,none⟩),insV ⟨op,a,b,c,n⟩] w (Q5p w B g vR vC vM vB vS vW bases M ⟨op,a,b,c,n⟩):=by
 unfold insV
 simp only
 have hgl:=h.box.lt
 have H:=zh h
 obtain ⟨ra,fa⟩:=h.reg ha
 obtain ⟨a0,a1⟩:=Q0l.1 ha
 obtain ⟨rb,fb⟩:=h.reg hb
 obtain ⟨b0,b1⟩:=Q0l.1 hb
 obtain ⟨rc,fc⟩:=h.reg hc
 obtain ⟨c0,c1⟩:=Q0l.1 hc
 have hsub:IntKind.i64.wrap (op - 20)=op - 20:=Go.IntWalk.i64_in _ (by omega)
 have q1:(op == (1:Int))=false:=by simp;try omega
 have q2:(op == (2:Int))=false:=by simp;try omega
 have q3:(op == (10:Int))=false:=by simp;try omega
 have q4:(op == (11:Int))=false:=by simp;try omega
 have q5:(op == (12:Int))=false:=by simp;try omega
 have q6:(op - 20 == (9:Int))=false:=by simp;omega
 have q7:(op - 20 == (10:Int))=false:=by simp;omega
 have Hr:Hid (Q2w M.regs ⟨op,a,b,c,n⟩=rset M.regs a (nop (op - 20) (rg M.regs b) (rg M.regs c))):=zh (by
  unfold Q2w
  rw [if_neg (by simp only;omega),if_neg (by simp only;omega),if_neg (by simp only;omega),if_neg (by simp only;omega),if_neg (by simp only;omega)]
  try rfl)
 have hix:=Q4a
 clear h
 go_enter Tryz.func56,Tryz.ntmps56
 go_upto_region 6 with fail
 obtain ⟨w0,e,he,hW,hs0,hx0,c0,c1,c2,c3,c4⟩:=new5 w 41 (.int .i64 op) (.int .i64 a) (.int .i64 b) (.int .i64 c) (.int .i64 n)
 rw [hW,he]
 have k1:∀ W,Ext w0 W→W.cell? ⟨e,1,none⟩=some (.int .i64 a):=fun _ h=>h.kept c1
 have k2:∀ W,Ext w0 W→W.cell? ⟨e,2,none⟩=some (.int .i64 b):=fun _ h=>h.kept c2
 have k3:∀ W,Ext w0 W→W.cell? ⟨e,3,none⟩=some (.int .i64 c):=fun _ h=>h.kept c3
 have mb:∀ W,Ext w0 W→W.cell? ⟨g,7+b.toNat,none⟩=some (.int .i64 (rg M.regs b)):=fun _ h=>h.kept (hx0.kept rb)
 have mc:∀ W,Ext w0 W→W.cell? ⟨g,7+c.toNat,none⟩=some (.int .i64 (rg M.regs c)):=fun _ h=>h.kept (hx0.kept rc)
 have rr:=Q0i hx0 ⟨ra,fa⟩
 have X:=zh hx0
 clear hW hs0 hx0 c0 c1 c2 c3 c4 ra fa rb fb rc fc
 refine Q0j 19 (by kernel_rfl) (by kernel_rfl) ?_
 simp only [List.take_succ_cons,List.take_zero,List.drop_succ_cons,List.drop_zero]
 repeat (first | (refine Q0d ?_ ?_ ?_;(decide);(first | rfl | (focus (go_simp;done)));apply Exists.intro;refine ⟨fun wc hE=>?_,?_⟩;(go_simp;exact rfl);go_simp) | (refine Q2g ?_ ?_ ?_;(decide);(first | rfl | (focus (go_simp;done)));apply Exists.intro;refine ⟨fun wc hE=>?_,?_⟩;(go_simp;(first | (with_reducible exact Qfb (Qdu (op - 20) (rg M.regs b) (rg M.regs c) _))));go_simp) | (refine Q0e ?_ ?_ ?_;(decide);(focus (go_simp;done));go_simp))
 refine Q0f ?_
 intro wx hx
 have X:=zh (X.out.trans hx)
 have rr:=Q0i hx rr
 clear hx k1 k2 k3 mb mc hsub
 go_wp2
 refine bodyPost_end (results_none rfl _ _ _) rfl ?_
 exact Q95 (x:=nop (op - 20) (rg M.regs b) (rg M.regs c)) ha H.out (Q7i (by simp only;omega)) Hr.out X.out
set_option maxRecDepth 100000 in
set_option maxHeartbeats 2000000 in
theorem Qp7 {B g:Nat} {vR vC vM vB vS vW:Value} {bases:List Int} {M:Mach} (a b c n:Int) (h64:Q1p M.regs) (ha:okIn 10 a=true) (hb:okIn 10 b=true) (hc:okIn 10 c=true) (hsn:M.seen.length≤1000000) (w:World) (h:MSt w B g vR vC vM vB vS vW bases M) :
  Calls Tryz.prog 56 #[.pointer (some ⟨g,0,none⟩),insV ⟨29,a,b,c,n⟩] w (Q5p w B g vR vC vM vB vS vW bases M ⟨29,a,b,c,n⟩):=by
 unfold insV
 simp only
 have hgl:=h.box.lt
 have H:=zh h
 obtain ⟨ra,fa⟩:=h.reg ha
 obtain ⟨a0,a1⟩:=Q0l.1 ha
 obtain ⟨rb,fb⟩:=h.reg hb
 obtain ⟨b0,b1⟩:=Q0l.1 hb
 obtain ⟨rc,fc⟩:=h.reg hc
 obtain ⟨c0,c1⟩:=Q0l.1 hc
 have hsub:IntKind.i64.wrap (9)=9:=Go.IntWalk.i64_in _ (by omega)
 have q1:(29 == (1:Int))=false:=by simp;try omega
 have q2:(29 == (2:Int))=false:=by simp;try omega
 have q3:(29 == (10:Int))=false:=by simp;try omega
 have q4:(29 == (11:Int))=false:=by simp;try omega
 have q5:(29 == (12:Int))=false:=by simp;try omega
 have Hr:Hid (Q2w M.regs ⟨29,a,b,c,n⟩=rset M.regs a (nop (9) (rg M.regs b) (rg M.regs c))):=zh (by
  unfold Q2w
  rw [if_neg (by simp only;omega),if_neg (by simp only;omega),if_neg (by simp only;omega),if_neg (by simp only;omega),if_neg (by simp only;omega)]
  try rfl)
 have hix:=Q4a
 clear h
 go_enter Tryz.func56,Tryz.ntmps56
 go_upto_region 5 with fail
 obtain ⟨w0,e,he,hW,hs0,hx0,c0,c1,c2,c3,c4⟩:=new5 w 41 (.int .i64 29) (.int .i64 a) (.int .i64 b) (.int .i64 c) (.int .i64 n)
 rw [hW,he]
 have k1:∀ W,Ext w0 W→W.cell? ⟨e,1,none⟩=some (.int .i64 a):=fun _ h=>h.kept c1
 have k2:∀ W,Ext w0 W→W.cell? ⟨e,2,none⟩=some (.int .i64 b):=fun _ h=>h.kept c2
 have k3:∀ W,Ext w0 W→W.cell? ⟨e,3,none⟩=some (.int .i64 c):=fun _ h=>h.kept c3
 have mb:∀ W,Ext w0 W→W.cell? ⟨g,7+b.toNat,none⟩=some (.int .i64 (rg M.regs b)):=fun _ h=>h.kept (hx0.kept rb)
 have mc:∀ W,Ext w0 W→W.cell? ⟨g,7+c.toNat,none⟩=some (.int .i64 (rg M.regs c)):=fun _ h=>h.kept (hx0.kept rc)
 have rr:=Q0i hx0 ⟨ra,fa⟩
 have X:=zh hx0
 have Ha:=zh ha
 have Hb:=zh hb
 have Hc:=zh hc
 have hke:e≠g:=by omega
 clear hW hs0 hx0 c0 c4 ra fa rb fb rc fc
 refine Q0j 13 (by kernel_rfl) (by kernel_rfl) ?_
 simp only [List.take_succ_cons,List.take_zero,List.drop_succ_cons,List.drop_zero]
 repeat (first | (refine Q0d ?_ ?_ ?_;(decide);(first | rfl | (focus (go_simp;done)));apply Exists.intro;refine ⟨fun wc hE=>?_,?_⟩;(go_simp;exact rfl);go_simp) | (refine Q0e ?_ ?_ ?_;(decide);(focus (go_simp;done));go_simp))
 refine Q0f ?_
 intro wx hx
 have X:=zh (X.out.trans hx)
 have c1:=hx.kept c1
 have c2:=hx.kept c2
 have c3:=hx.kept c3
 clear hx k1 k2 k3 mb mc rr
 go_wp2_with fail
 (with_reducible refine (Q62 wx (H.out.ext X.out) 3 (rg M.regs b) (rg M.regs c) hsn).mono ?_)
 rintro e1 w2 ⟨rfl,vS2,P2,T2,N2⟩
 have hes:vS.ownBlock≠some e:=by
  intro he2
  have:=(H.out.sn.lt e he2).2
  omega
 have hne:¬ (e=g∨vS.ownBlock=some e):=by
  rintro (h1 | h1)
  ·exact hke h1
  ·exact hes h1
 have hel:=Q0k c1
 simp only at hel
 have c1:w2.cell? ⟨e,1,none⟩=some (.int .i64 a):=by rw [Q7u T2 hel hne];exact c1
 have c2:w2.cell? ⟨e,2,none⟩=some (.int .i64 b):=by rw [Q7u T2 hel hne];exact c2
 have c3:w2.cell? ⟨e,3,none⟩=some (.int .i64 c):=by rw [Q7u T2 hel hne];exact c3
 obtain ⟨ra,fa⟩:=P2.reg Ha.out
 obtain ⟨rb,-⟩:=P2.reg Hb.out
 obtain ⟨rc,-⟩:=P2.reg Hc.out
 simp only at ra rb rc
 have P2:=zh P2
 have T2:=zh T2
 have N2:=zh N2
 have hgl:=P2.out.box.lt
 clear hes hne
 go_upto_region 6 with fail
 have k1:∀ W,Ext w2 W→W.cell? ⟨e,1,none⟩=some (.int .i64 a):=fun _ h=>h.kept c1
 have k2:∀ W,Ext w2 W→W.cell? ⟨e,2,none⟩=some (.int .i64 b):=fun _ h=>h.kept c2
 have k3:∀ W,Ext w2 W→W.cell? ⟨e,3,none⟩=some (.int .i64 c):=fun _ h=>h.kept c3
 have mb:∀ W,Ext w2 W→W.cell? ⟨g,7+b.toNat,none⟩=some (.int .i64 (rg M.regs b)):=fun _ h=>h.kept (rb)
 have mc:∀ W,Ext w2 W→W.cell? ⟨g,7+c.toNat,none⟩=some (.int .i64 (rg M.regs c)):=fun _ h=>h.kept (rc)
 have rr:w2.cell? ⟨g,7+a.toNat,none⟩=some (.int .i64 (rg M.regs a))∧w2.frozen? ⟨g,7+a.toNat,none⟩=false:=⟨ra,fa⟩
 clear c1 c2 c3 ra fa rb rc
 refine Q0j 19 (by kernel_rfl) (by kernel_rfl) ?_
 simp only [List.take_succ_cons,List.take_zero,List.drop_succ_cons,List.drop_zero]
 repeat (first | (refine Q0d ?_ ?_ ?_;(decide);(first | rfl | (focus (go_simp;done)));apply Exists.intro;refine ⟨fun wc hE=>?_,?_⟩;(go_simp;exact rfl);go_simp) | (refine Q2g ?_ ?_ ?_;(decide);(first | rfl | (focus (go_simp;done)));apply Exists.intro;refine ⟨fun wc hE=>?_,?_⟩;(go_simp;(first | (with_reducible exact Qfb (Qdu (9) (rg M.regs b) (rg M.regs c) _))));go_simp) | (refine Q0e ?_ ?_ ?_;(decide);(focus (go_simp;done));go_simp))
 refine Q0f ?_
 intro wy hy
 have rr:=Q0i hy rr
 have Y:=zh hy
 clear hy k1 k2 k3 mb mc hsub
 go_wp2
 refine bodyPost_end (results_none rfl _ _ _) rfl ?_
 refine ⟨rfl,vS2,?_,?_,fun j hj=>?_⟩
 ·have h1:=(P2.out.ext Y.out).reg_ Ha.out (nop (9) (rg M.regs b) (rg M.regs c))
  rw [Hr.out]
  exact h1
 ·exact (((Turn.ofExt X.out).trans T2.out (fun _ _ e=>e)).ext Y.out).trans (Turn.set _ _ _) (fun j _ e=>.inl e)
 ·rcases N2.out j hj with h1 | h1
  ·exact .inl h1
  ·have:=X.out.size
   exact .inr (by omega)
set_option maxRecDepth 100000 in
set_option maxHeartbeats 2000000 in
theorem Qp6 {B g:Nat} {vR vC vM vB vS vW:Value} {bases:List Int} {M:Mach} (a b c n:Int) (h64:Q1p M.regs) (ha:okIn 10 a=true) (hb:okIn 10 b=true) (hc:okIn 10 c=true) (hsn:M.seen.length≤1000000) (w:World) (h:MSt w B g vR vC vM vB vS vW bases M) :
  Calls Tryz.prog 56 #[.pointer (some ⟨g,0,none⟩),insV ⟨30,a,b,c,n⟩] w (Q5p w B g vR vC vM vB vS vW bases M ⟨30,a,b,c,n⟩):=by
 unfold insV
 simp only
 have hgl:=h.box.lt
 have H:=zh h
 obtain ⟨ra,fa⟩:=h.reg ha
 obtain ⟨a0,a1⟩:=Q0l.1 ha
 obtain ⟨rb,fb⟩:=h.reg hb
 obtain ⟨b0,b1⟩:=Q0l.1 hb
 obtain ⟨rc,fc⟩:=h.reg hc
 obtain ⟨c0,c1⟩:=Q0l.1 hc
 have hsub:IntKind.i64.wrap (10)=10:=Go.IntWalk.i64_in _ (by omega)
 have q1:(30 == (1:Int))=false:=by simp;try omega
 have q2:(30 == (2:Int))=false:=by simp;try omega
 have q3:(30 == (10:Int))=false:=by simp;try omega
 have q4:(30 == (11:Int))=false:=by simp;try omega
 have q5:(30 == (12:Int))=false:=by simp;try omega
 have Hr:Hid (Q2w M.regs ⟨30,a,b,c,n⟩=rset M.regs a (nop (10) (rg M.regs b) (rg M.regs c))):=zh (by
  unfold Q2w
  rw [if_neg (by simp only;omega),if_neg (by simp only;omega),if_neg (by simp only;omega),if_neg (by simp only;omega),if_neg (by simp only;omega)]
  try rfl)
 have hix:=Q4a
 clear h
 go_enter Tryz.func56,Tryz.ntmps56
 go_upto_region 5 with fail
 obtain ⟨w0,e,he,hW,hs0,hx0,c0,c1,c2,c3,c4⟩:=new5 w 41 (.int .i64 30) (.int .i64 a) (.int .i64 b) (.int .i64 c) (.int .i64 n)
 rw [hW,he]
 have k1:∀ W,Ext w0 W→W.cell? ⟨e,1,none⟩=some (.int .i64 a):=fun _ h=>h.kept c1
 have k2:∀ W,Ext w0 W→W.cell? ⟨e,2,none⟩=some (.int .i64 b):=fun _ h=>h.kept c2
 have k3:∀ W,Ext w0 W→W.cell? ⟨e,3,none⟩=some (.int .i64 c):=fun _ h=>h.kept c3
 have mb:∀ W,Ext w0 W→W.cell? ⟨g,7+b.toNat,none⟩=some (.int .i64 (rg M.regs b)):=fun _ h=>h.kept (hx0.kept rb)
 have mc:∀ W,Ext w0 W→W.cell? ⟨g,7+c.toNat,none⟩=some (.int .i64 (rg M.regs c)):=fun _ h=>h.kept (hx0.kept rc)
 have rr:=Q0i hx0 ⟨ra,fa⟩
 have X:=zh hx0
 have Ha:=zh ha
 have Hb:=zh hb
 have Hc:=zh hc
 have hke:e≠g:=by omega
 clear hW hs0 hx0 c0 c4 ra fa rb fb rc fc
 refine Q0j 13 (by kernel_rfl) (by kernel_rfl) ?_
 simp only [List.take_succ_cons,List.take_zero,List.drop_succ_cons,List.drop_zero]
 repeat (first | (refine Q0d ?_ ?_ ?_;(decide);(first | rfl | (focus (go_simp;done)));apply Exists.intro;refine ⟨fun wc hE=>?_,?_⟩;(go_simp;exact rfl);go_simp) | (refine Q0e ?_ ?_ ?_;(decide);(focus (go_simp;done));go_simp))
 refine Q0f ?_
 intro wx hx
 have X:=zh (X.out.trans hx)
 have c1:=hx.kept c1
 have c2:=hx.kept c2
 have c3:=hx.kept c3
 clear hx k1 k2 k3 mb mc rr
 go_wp2_with fail
 (with_reducible refine (Q62 wx (H.out.ext X.out) 3 (rg M.regs b) (rg M.regs c) hsn).mono ?_)
 rintro e1 w2 ⟨rfl,vS2,P2,T2,N2⟩
 have hes:vS.ownBlock≠some e:=by
  intro he2
  have:=(H.out.sn.lt e he2).2
  omega
 have hne:¬ (e=g∨vS.ownBlock=some e):=by
  rintro (h1 | h1)
  ·exact hke h1
  ·exact hes h1
 have hel:=Q0k c1
 simp only at hel
 have c1:w2.cell? ⟨e,1,none⟩=some (.int .i64 a):=by rw [Q7u T2 hel hne];exact c1
 have c2:w2.cell? ⟨e,2,none⟩=some (.int .i64 b):=by rw [Q7u T2 hel hne];exact c2
 have c3:w2.cell? ⟨e,3,none⟩=some (.int .i64 c):=by rw [Q7u T2 hel hne];exact c3
 obtain ⟨ra,fa⟩:=P2.reg Ha.out
 obtain ⟨rb,-⟩:=P2.reg Hb.out
 obtain ⟨rc,-⟩:=P2.reg Hc.out
 simp only at ra rb rc
 have P2:=zh P2
 have T2:=zh T2
 have N2:=zh N2
 have hgl:=P2.out.box.lt
 clear hes hne
 go_upto_region 6 with fail
 have k1:∀ W,Ext w2 W→W.cell? ⟨e,1,none⟩=some (.int .i64 a):=fun _ h=>h.kept c1
 have k2:∀ W,Ext w2 W→W.cell? ⟨e,2,none⟩=some (.int .i64 b):=fun _ h=>h.kept c2
 have k3:∀ W,Ext w2 W→W.cell? ⟨e,3,none⟩=some (.int .i64 c):=fun _ h=>h.kept c3
 have mb:∀ W,Ext w2 W→W.cell? ⟨g,7+b.toNat,none⟩=some (.int .i64 (rg M.regs b)):=fun _ h=>h.kept (rb)
 have mc:∀ W,Ext w2 W→W.cell? ⟨g,7+c.toNat,none⟩=some (.int .i64 (rg M.regs c)):=fun _ h=>h.kept (rc)
 have rr:w2.cell? ⟨g,7+a.toNat,none⟩=some (.int .i64 (rg M.regs a))∧w2.frozen? ⟨g,7+a.toNat,none⟩=false:=⟨ra,fa⟩
 clear c1 c2 c3 ra fa rb rc
 refine Q0j 19 (by kernel_rfl) (by kernel_rfl) ?_
 simp only [List.take_succ_cons,List.take_zero,List.drop_succ_cons,List.drop_zero]
 repeat (first | (refine Q0d ?_ ?_ ?_;(decide);(first | rfl | (focus (go_simp;done)));apply Exists.intro;refine ⟨fun wc hE=>?_,?_⟩;(go_simp;exact rfl);go_simp) | (refine Q2g ?_ ?_ ?_;(decide);(first | rfl | (focus (go_simp;done)));apply Exists.intro;refine ⟨fun wc hE=>?_,?_⟩;(go_simp;(first | (with_reducible exact Qfb (Qdu (10) (rg M.regs b) (rg M.regs c) _))));go_simp) | (refine Q0e ?_ ?_ ?_;(decide);(focus (go_simp;done));go_simp))
 refine Q0f ?_
 intro wy hy
 have rr:=Q0i hy rr
 have Y:=zh hy
 clear hy k1 k2 k3 mb mc hsub
 go_wp2
 refine bodyPost_end (results_none rfl _ _ _) rfl ?_
 refine ⟨rfl,vS2,?_,?_,fun j hj=>?_⟩
 ·have h1:=(P2.out.ext Y.out).reg_ Ha.out (nop (10) (rg M.regs b) (rg M.regs c))
  rw [Hr.out]
  exact h1
 ·exact (((Turn.ofExt X.out).trans T2.out (fun _ _ e=>e)).ext Y.out).trans (Turn.set _ _ _) (fun j _ e=>.inl e)
 ·rcases N2.out j hj with h1 | h1
  ·exact .inl h1
  ·have:=X.out.size
   exact .inr (by omega)
theorem Qhp {B g:Nat} {vR vC vM vB vS vW:Value} {bases:List Int} {M:Mach} (p:Q00) (i:LIns) (h64:Q1p M.regs) (hi:Q04 p 10 i=true) (h3:i.op≠3∧i.op≠4∧i.op≠5∧i.op≠6∧i.op≠7∧i.op≠8∧i.op≠9) (hsn:M.seen.length≤1000000) (w:World) (h:MSt w B g vR vC vM vB vS vW bases M) :
  Calls Tryz.prog 56 #[.pointer (some ⟨g,0,none⟩),insV i] w (Q5p w B g vR vC vM vB vS vW bases M i):=by
 obtain ⟨g1,g2,g10,g3,g5,g8,g9,g11,go,g7,gop⟩:=Q4p hi
 obtain ⟨op,a,b,c,n⟩:=i
 simp only at h3
 by_cases e1:op=1
 ·subst e1;exact Qp5 a b c n h64 (g1 rfl) hsn w h
 by_cases e2:op=2
 ·subst e2;exact Qp8 a b c n h64 (g2 rfl).1 (g2 rfl).2 hsn w h
 by_cases e10:op=10
 ·subst e10;exact Qpb a b c n h64 (g10 rfl).1 (g10 rfl).2 hsn w h
 by_cases e11:op=11
 ·subst e11;exact Qp9 a b c n h64 (g11 rfl).1 hsn w h
 by_cases e12:op=12
 ·subst e12;exact Qpa a b c n h64 trivial hsn w h
 obtain ⟨p1,p2,p3,p4,p5⟩:=go e1 e2 e10 h3.1 h3.2.1 h3.2.2.1 h3.2.2.2.1 h3.2.2.2.2.1 h3.2.2.2.2.2.1 h3.2.2.2.2.2.2 e11 e12
 simp only at p4 p5
 by_cases e29:op=29
 ·subst e29;exact Qp7 a b c n h64 p1 p2 p3 hsn w h
 by_cases e30:op=30
 ·subst e30;exact Qp6 a b c n h64 p1 p2 p3 hsn w h
 exact Qa1 op a b c n h64 p1 p2 p3 p4 (by omega) hsn w h
def Q1g (p:Q00):List Int:=(List.range p.regs.length).map fun k=>(Q0n p k:Int)
theorem Q74 (p:Q00):(Q1g p).length=p.regs.length:=by simp [Q1g]
theorem Qff (p:Q00) {c:Nat} (h:c < p.regs.length):((Q1g p).map (Value.int .i64))[c]? = some (.int .i64 (Q0n p c:Nat)):=by simp [Q1g,h]
theorem Qk0 (k n cap:Nat) (W:World) (i:Int) (h0:0≤i) (h1:i < n) :
  (Instr.indexAt 49 (.slice (some ⟨k,0,none⟩) n cap) (.int .i64 i)).run Tryz.prog W=.ok (.pointer (some ⟨k,i.toNat,none⟩)) W:=by
 have hs:(Tryz.prog.info? 3).map (·.size)=some 1:=by kernel_rfl
 simp [Instr.indexAt,run_underlying Tryz.underlying49,asIntOf,h0,h1]
 have:=Q4d k 0 i.toNat
 simpa using this
theorem Q34 {w:World} {B:Nat} {e:TypeId} {v:Value} {n:Nat} {xs:List Value} (h:w.ownsRow B e 1 v n xs) (hn:0 < n):∃ k cap,v=.slice (some ⟨k,0,none⟩) n cap∧B≤k∧∀ j x,j < n→xs[j]? = some x→w.cell? ⟨k,j,none⟩=some x∧w.frozen? ⟨k,j,none⟩=false:=by
 have h':=h
 rcases h.2 with ⟨-,h0⟩ | ⟨k,cap,cur,rfl,a1,a2,a3⟩
 ·omega
 ·exact ⟨k,cap,rfl,a1,fun j x hj hx=>⟨by rw [h'.cellAt j (by omega),hx],h'.frozenAt j⟩⟩
def Q6t (p:Q00) (i:LIns) (M:Mach):Mach :=
 let q:=Q0n p i.c.toNat+(Q1u M.regs i).toNat
 if Q0q i then { M with seen:=M.seen ++ [⟨2,(q:Nat),putN i⟩],words:=M.words.set q (rg M.regs i.a) }
 else { M with seen:=M.seen ++ [⟨2,(q:Nat),putN i⟩],regs:=rset M.regs i.a (M.words.getD q 0) }
def Q9q (p:Q00) (w:World) (B g:Nat) (vR vC vM vB vW:Value) (bases:List Int) (M:Mach) (i:LIns) (e:Ending) (w':World):Prop :=
 (Q3u p i (Q1u M.regs i)=true∧e=.returned (.bool true)∧∃ vS',MSt w' B g vR vC vM vB vS' vW bases (Q6t p i M)∧Below B w w')∨(Q3u p i (Q1u M.regs i)=false∧e=.returned (.bool false)∧Ext w w')
theorem MSt.below {w w':World} {B g:Nat} {vR vC vM vB vS vW:Value} {bases:List Int} {M:Mach} (h:MSt w B g vR vC vM vB vS vW bases M) (ht:Turn (fun j=>j=g∨vS.ownBlock=some j) w w'):Below B w w' :=
 ht.below h.size (by
  rintro j (rfl | e)
  ·exact h.hg
  ·exact Q17 h.sn j e)
set_option maxRecDepth 100000 in
set_option maxHeartbeats 4000000 in
theorem Qay (p:Q00) (i:LIns) {B g:Nat} {vR vC vM vB vS vW:Value} {M:Mach} (hw:i.op=3∨i.op=4∨i.op=5∨i.op=6) (hi:Q04 p 10 i=true) (hr:Q0p p.regs=true) (hok:MOk p M) (hsn:M.seen.length≤1000000) (w:World) (hR:Q6g w vR p.regs) (h:MSt w B g vR vC vM vB vS vW (Q1g p) M) :
  Calls Tryz.prog 55 #[.pointer (some ⟨g,0,none⟩),insV i] w (Q9q p w B g vR vC vM vB vW (Q1g p) M i):=by
 obtain ⟨ha,hb,hc0,hc1⟩:=Qfw hi hw
 have hbe:=Qch p i.c.toNat hc1
 have htt:=Q9w hr
 have hlen:=Q4g hr
 have hw6:Q0t (p.regs.getD i.c.toNat default)≤64:=Q6s _ (Q6o hr _ (Q25 hc1)).2
 have H:=zh h
 have HR:=zh hR
 have Hr:=zh hr
 have Hok:=zh hok
 have Ha:=zh ha
 have Hb:=zh hb
 have Hc1:=zh hc1
 have hgl:=h.box.lt
 have hwl:=hok.wlen
 have Hput:Hid (putN i=if Q0q i then 1 else 0):=zh rfl
 have HW:Hid (∀ w',Q3u p i (Q1u M.regs i)=true→(∃ vS',MSt w' B g vR vC vM vB vS' vW (Q1g p) (Q6t p i M)∧Below B w w')→Q9q p w B g vR vC vM vB vW (Q1g p) M i (.returned (.bool true)) w'):=zh fun w' h1 h2=>.inl ⟨h1,rfl,h2⟩
 have HW2:Hid (∀ w',Q3u p i (Q1u M.regs i)=false→Ext w w'→Q9q p w B g vR vC vM vB vW (Q1g p) M i (.returned (.bool false)) w'):=zh fun w' h1 h2=>.inr ⟨h1,rfl,h2⟩
 have HM:Hid (Q6t p i M=if Q0q i then { M with seen:=M.seen ++ [⟨2,((Q0n p i.c.toNat+(Q1u M.regs i).toNat:Nat):Int),putN i⟩],words:=M.words.set (Q0n p i.c.toNat+(Q1u M.regs i).toNat) (rg M.regs i.a) }
  else { M with seen:=M.seen ++ [⟨2,((Q0n p i.c.toNat+(Q1u M.regs i).toNat:Nat):Int),putN i⟩],regs:=rset M.regs i.a (M.words.getD (Q0n p i.c.toNat+(Q1u M.regs i).toNat) 0) }):=zh rfl
 generalize Q9q p w B g vR vC vM vB vW (Q1g p) M i=WP at *
 obtain ⟨op,a,b,c,n⟩:=i
 simp only at ha hb hc0 hc1 hbe hw6
 obtain ⟨a0,a1⟩:=Q0l.1 ha
 have CI:=zh fun w' (hx:Ext w w')=>Q1n w' (h.ext hx) ⟨op,a,b,c,n⟩ hb
 have CP:=zh fun w'=>Q8f ⟨op,a,b,c,n⟩ w'
 simp only [insV] at CI CP
 have HIn:Hid (∀ x,Q3u p ⟨op,a,b,c,n⟩ x=(decide (0≤x) && decide (x < (Q0t (p.regs.getD c.toNat default):Nat)))):=zh fun x=>rfl
 unfold insV
 simp only
 clear hok hi hr hR hw h
 go_enter Tryz.func55,Tryz.ntmps55
 go_wp2_with fail
 obtain ⟨w0,e,he,hW,hs0,hx0,c0,c1,c2,c3,c4⟩:=new5 w 41 (.int .i64 op) (.int .i64 a) (.int .i64 b) (.int .i64 c) (.int .i64 n)
 rw [hW,he]
 have X:=zh hx0
 have hge:g≠e:=by omega
 have hew:w.heap.size=e:=he
 clear hW hs0 hx0
 (with_reducible refine (CI.out w0 X.out).mono ?_)
 clear CI
 rintro er w1 ⟨rfl,hx⟩
 generalize Q1u M.regs ⟨op,a,b,c,n⟩=x at *
 have X:=zh (X.out.trans hx)
 have c0:=hx.kept c0
 have c1:=hx.kept c1
 have c2:=hx.kept c2
 have c3:=hx.kept c3
 have c4:=hx.kept c4
 clear hx
 go_wp2_with fail
 have C:=Qjo w1 (H.out.ext X.out) p (HR.out.ext X.out) Hr.out c x hc0 hc1
 have Hc0:=zh hc0
 rw [← HIn.out] at C
 have HIx:=zh (HIn.out x)
 cases hin:Q3u p ⟨op,a,b,c,n⟩ x
 ·rw [hin] at C HIx HW2
  (with_reducible refine C.mono ?_)
  clear C
  rintro er w2 ⟨rfl,hx⟩
  have X:=zh (X.out.trans hx)
  clear hx hin
  go_wp2
  exact HW2.out _ (by trivial) X.out
 rw [hin] at C HIx HW
 (with_reducible refine C.mono ?_)
 clear C
 rintro er w2 ⟨rfl,hx⟩
 have hi2:=HIx.out.symm
 simp only [Bool.and_eq_true,decide_eq_true_eq] at hi2
 obtain ⟨hx0,hx1⟩:=hi2
 have X:=zh (X.out.trans hx)
 have c0:=hx.kept c0
 have c1:=hx.kept c1
 have c2:=hx.kept c2
 have c3:=hx.kept c3
 have c4:=hx.kept c4
 have P:=H.out.ext X.out
 obtain ⟨-,-,-,-,-,-,-,g17,-,g19⟩:=P.cells
 obtain ⟨kw,capw,hvw,hkw,hws⟩:=Q34 P.ws (show 0 < M.words.length by omega)
 obtain ⟨kb,capb,hvb,hkb,hbs⟩:=Q34 P.bs (show 0 < (Q1g p).length by rw [Q74];omega)
 obtain ⟨b19,-⟩:=hbs c.toNat _ (by rw [Q74];omega) (Qff p hc1)
 have P:=zh P
 rw [Q74] at hvb
 subst hvw
 subst hvb
 have hbb:(Q0n p c.toNat:Int)≤384:=by omega
 have hcl:c < (p.regs.length:Int):=by omega
 have hql:Q0n p c.toNat+x.toNat < M.words.length:=by omega
 have hixw:∀ W,(Instr.indexAt 35 (.slice (some ⟨kw,0,none⟩) M.words.length capw) (.int .i64 ((Q0n p c.toNat:Int)+x))).run Tryz.prog W=.ok (.pointer (some ⟨kw,Q0n p c.toNat+x.toNat,none⟩)) W:=fun W=>by
  have:=Q72 W kw M.words.length capw ((Q0n p c.toNat:Int)+x) (by omega) (by omega)
  rw [show ((Q0n p c.toNat:Int)+x).toNat=Q0n p c.toNat+x.toNat by omega] at this
  exact this
 have Hq:Hid ((Q0n p c.toNat:Int)+x=((Q0n p c.toNat+x.toNat:Nat):Int)):=zh (by omega)
 have Hql:=zh hql
 have hwr:IntKind.i64.wrap ((Q0n p c.toNat:Int)+x)=(Q0n p c.toNat:Int)+x:=Go.IntWalk.i64_in _ (by omega)
 clear hwl
 clear hx hin hws hbs HW2 HIx HIn HR
 generalize hbo:Q0n p c.toNat=bo at *
 have hixb:=Qk0 kb p.regs.length capb
 have hixr:=Q4a
 go_upto_region 4 with fail
 have k3:∀ W,Ext w2 W→W.cell? ⟨e,3,none⟩=some (.int .i64 c):=fun _ h=>h.kept c3
 have k17:∀ W,Ext w2 W→W.cell? ⟨g,17,none⟩=some (.slice (some ⟨kw,0,none⟩) M.words.length capw):=fun _ h=>h.kept g17.1
 have k19:∀ W,Ext w2 W→W.cell? ⟨g,19,none⟩=some (.slice (some ⟨kb,0,none⟩) p.regs.length capb):=fun _ h=>h.kept g19.1
 have kb9:∀ W,Ext w2 W→W.cell? ⟨kb,c.toNat,none⟩=some (.int .i64 (bo:Int)):=fun _ h=>h.kept b19
 refine Q0j 17 (by kernel_rfl) (by kernel_rfl) ?_
 simp only [List.take_succ_cons,List.take_zero,List.drop_succ_cons,List.drop_zero]
 repeat (first | (refine Q0d ?_ ?_ ?_;(decide);(first | rfl | (focus (go_simp;done)));apply Exists.intro;refine ⟨fun wc hE=>?_,?_⟩;(go_simp;exact rfl);go_simp) | (refine Q0e ?_ ?_ ?_;(decide);(focus (go_simp;done));go_simp))
 refine Q0f ?_
 intro w3 hx
 clear k3 k17 k19 kb9
 have X:=zh (X.out.trans hx)
 have P:=zh (P.out.ext hx)
 have c0:=hx.kept c0
 have c1:=hx.kept c1
 have c2:=hx.kept c2
 have c3:=hx.kept c3
 have c4:=hx.kept c4
 have g19:=hx.kept g19.1
 have b19:=hx.kept b19
 clear hx g17
 go_wp2_with fail
 cases hput:Q0q ⟨op,a,b,c,n⟩
 ·rw [hput] at CP
  simp only [hput,if_true,Bool.false_eq_true,if_false] at Hput HM
  rw [Hput.out] at HM
  clear Hput hput
  (with_reducible refine (CP.out w3).mono ?_)
  clear CP
  rintro er w4 ⟨rfl,hx⟩
  have X:=zh (X.out.trans hx)
  have P:=zh (P.out.ext hx)
  have c1:=hx.kept c1
  have c3:=hx.kept c3
  have g19:=hx.kept g19
  have b19:=hx.kept b19
  clear hx c0 c2 c4
  go_upto_region 8 with fail
  have k3:∀ W,Ext w4 W→W.cell? ⟨e,3,none⟩=some (.int .i64 c):=fun _ h=>h.kept c3
  have k19:∀ W,Ext w4 W→W.cell? ⟨g,19,none⟩=some (.slice (some ⟨kb,0,none⟩) p.regs.length capb):=fun _ h=>h.kept g19
  have kb9:∀ W,Ext w4 W→W.cell? ⟨kb,c.toNat,none⟩=some (.int .i64 (bo:Int)):=fun _ h=>h.kept b19
  refine Q0j 12 (by kernel_rfl) (by kernel_rfl) ?_
  simp only [List.take_succ_cons,List.take_zero,List.drop_succ_cons,List.drop_zero]
  repeat (first | (refine Q0d ?_ ?_ ?_;(decide);(first | rfl | (focus (go_simp;done)));apply Exists.intro;refine ⟨fun wc hE=>?_,?_⟩;(go_simp;exact rfl);go_simp) | (refine Q0e ?_ ?_ ?_;(decide);(focus (go_simp;done));go_simp))
  refine Q0f ?_
  intro w5 hx
  clear k3 k19 kb9
  have X:=zh (X.out.trans hx)
  have P:=zh (P.out.ext hx)
  have c1:=hx.kept c1
  clear hx c3 g19 b19
  go_wp2_with fail
  (with_reducible refine (Q62 w5 P.out 2 ((bo:Int)+x) 0 hsn).mono ?_)
  rintro er w6 ⟨rfl,vS2,P2,T2,N2⟩
  have hne:¬ (e=g∨vS.ownBlock=some e):=by
   rintro (h1 | h1)
   ·omega
   ·have:=(H.out.sn.lt e h1).2
    omega
  have hel:=Q0k c1
  simp only at hel
  have c1:w6.cell? ⟨e,1,none⟩=some (.int .i64 a):=by rw [Q7u T2 hel hne];exact c1
  have HB:=zh ((P.out.below T2))
  have hwq:w6.cell? ⟨kw,bo+x.toNat,none⟩=some (.int .i64 (M.words.getD (bo+x.toNat) 0))∧w6.frozen? ⟨kw,bo+x.toNat,none⟩=false:=by
   have h0:=P2.ws.cellAt (bo+x.toNat) (by simpa using Hql.out)
   have h1:=P2.ws.frozenAt (bo+x.toNat)
   refine ⟨?_,by simpa using h1⟩
   rw [h0]
   simp [Hql.out]
  obtain ⟨ra,fa⟩:=P2.reg Ha.out
  simp only at ra
  rw [Hq.out] at P2
  have P2:=zh P2
  have hgl:=P2.out.box.lt
  have hkl:=Q0k hwq.1
  simp only at hkl
  clear T2 N2 hne
  go_upto_region 11 with fail
  have k1:∀ W,Ext w6 W→W.cell? ⟨e,1,none⟩=some (.int .i64 a):=fun _ h=>h.kept c1
  have ka:∀ W,Ext w6 W→W.cell? ⟨kw,bo+x.toNat,none⟩=some (.int .i64 (M.words.getD (bo+x.toNat) 0)):=fun _ h=>h.kept hwq.1
  have rr:w6.cell? ⟨g,7+a.toNat,none⟩=some (.int .i64 (rg M.regs a))∧w6.frozen? ⟨g,7+a.toNat,none⟩=false:=⟨ra,fa⟩
  generalize M.words.getD (bo+x.toNat) 0=z at *
  refine Q0j 9 (by kernel_rfl) (by kernel_rfl) ?_
  simp only [List.take_succ_cons,List.take_zero,List.drop_succ_cons,List.drop_zero]
  repeat (first | (refine Q0d ?_ ?_ ?_;(decide);(first | rfl | (focus (go_simp;done)));apply Exists.intro;refine ⟨fun wc hE=>?_,?_⟩;(go_simp;exact rfl);go_simp) | (refine Q0e ?_ ?_ ?_;(decide);(focus (go_simp;done));go_simp))
  refine Q0f ?_
  intro w7 hx
  have rr:=Q0i hx rr
  have P2:=zh (P2.out.ext hx)
  have HB:=zh ((HB.out.trans (Below.mono hx (Nat.le_trans P.out.size (HB.out.size)))))
  clear k1 ka hx ra fa c1 hwq
  go_wp2
  refine HW.out _ (by trivial) ⟨vS2,?_,?_⟩
  ·have:=P2.out.reg_ Ha.out z
   rw [HM.out]
   exact this
  ·exact (Below.mono X.out H.out.size).trans (HB.out.setCell P2.out.hg _)
 ·rw [hput] at CP
  simp only [hput,if_true,Bool.false_eq_true,if_false] at Hput HM
  rw [Hput.out] at HM
  clear Hput hput
  (with_reducible refine (CP.out w3).mono ?_)
  clear CP
  rintro er w4 ⟨rfl,hx⟩
  have X:=zh (X.out.trans hx)
  have P:=zh (P.out.ext hx)
  have c1:=hx.kept c1
  have c3:=hx.kept c3
  have g19:=hx.kept g19
  have b19:=hx.kept b19
  clear hx c0 c2 c4
  go_upto_region 8 with fail
  have k3:∀ W,Ext w4 W→W.cell? ⟨e,3,none⟩=some (.int .i64 c):=fun _ h=>h.kept c3
  have k19:∀ W,Ext w4 W→W.cell? ⟨g,19,none⟩=some (.slice (some ⟨kb,0,none⟩) p.regs.length capb):=fun _ h=>h.kept g19
  have kb9:∀ W,Ext w4 W→W.cell? ⟨kb,c.toNat,none⟩=some (.int .i64 (bo:Int)):=fun _ h=>h.kept b19
  refine Q0j 12 (by kernel_rfl) (by kernel_rfl) ?_
  simp only [List.take_succ_cons,List.take_zero,List.drop_succ_cons,List.drop_zero]
  repeat (first | (refine Q0d ?_ ?_ ?_;(decide);(first | rfl | (focus (go_simp;done)));apply Exists.intro;refine ⟨fun wc hE=>?_,?_⟩;(go_simp;exact rfl);go_simp) | (refine Q0e ?_ ?_ ?_;(decide);(focus (go_simp;done));go_simp))
  refine Q0f ?_
  intro w5 hx
  clear k3 k19 kb9
  have X:=zh (X.out.trans hx)
  have P:=zh (P.out.ext hx)
  have c1:=hx.kept c1
  clear hx c3 g19 b19
  go_wp2_with fail
  (with_reducible refine (Q62 w5 P.out 2 ((bo:Int)+x) 1 hsn).mono ?_)
  rintro er w6 ⟨rfl,vS2,P2,T2,N2⟩
  have hne:¬ (e=g∨vS.ownBlock=some e):=by
   rintro (h1 | h1)
   ·omega
   ·have:=(H.out.sn.lt e h1).2
    omega
  have hel:=Q0k c1
  simp only at hel
  have c1:w6.cell? ⟨e,1,none⟩=some (.int .i64 a):=by rw [Q7u T2 hel hne];exact c1
  have HB:=zh ((P.out.below T2))
  have hwq:w6.cell? ⟨kw,bo+x.toNat,none⟩=some (.int .i64 (M.words.getD (bo+x.toNat) 0))∧w6.frozen? ⟨kw,bo+x.toNat,none⟩=false:=by
   have h0:=P2.ws.cellAt (bo+x.toNat) (by simpa using Hql.out)
   have h1:=P2.ws.frozenAt (bo+x.toNat)
   refine ⟨?_,by simpa using h1⟩
   rw [h0]
   simp [Hql.out]
  obtain ⟨ra,fa⟩:=P2.reg Ha.out
  simp only at ra
  rw [Hq.out] at P2
  have P2:=zh P2
  have hgl:=P2.out.box.lt
  have hkl:=Q0k hwq.1
  simp only at hkl
  clear T2 N2 hne
  go_upto_region 10 with fail
  have k1:∀ W,Ext w6 W→W.cell? ⟨e,1,none⟩=some (.int .i64 a):=fun _ h=>h.kept c1
  have ka:∀ W,Ext w6 W→W.cell? ⟨g,7+a.toNat,none⟩=some (.int .i64 (rg M.regs a)):=fun _ h=>h.kept ra
  refine Q0j 9 (by kernel_rfl) (by kernel_rfl) ?_
  simp only [List.take_succ_cons,List.take_zero,List.drop_succ_cons,List.drop_zero]
  repeat (first | (refine Q0d ?_ ?_ ?_;(decide);(first | rfl | (focus (go_simp;done)));apply Exists.intro;refine ⟨fun wc hE=>?_,?_⟩;(go_simp;exact rfl);go_simp) | (refine Q0e ?_ ?_ ?_;(decide);(focus (go_simp;done));go_simp))
  refine Q0f ?_
  intro w7 hx
  have hwq:=Q0i hx hwq
  have P2:=zh (P2.out.ext hx)
  have HB:=zh ((HB.out.trans (Below.mono hx (Nat.le_trans P.out.size (HB.out.size)))))
  clear k1 ka hx ra fa c1
  go_wp2
  refine HW.out _ (by trivial) ⟨vS2,?_,?_⟩
  ·have:=P2.out.word (x:=bo+x.toNat) rfl (rg M.regs a)
   rw [HM.out]
   exact this
  ·exact (Below.mono X.out H.out.size).trans (HB.out.setCell hkw _)
theorem Qg8 {p:Q00} {i:LIns} {M:Mach} (hw:i.op=3∨i.op=4∨i.op=5∨i.op=6) (hin:Q3u p i (Q1u M.regs i)=true) :
  Q0y p i M={ Q6t p i { M with steps:=M.steps+1,seen:=M.seen ++ [⟨1,M.at_,0⟩] } with at_:=M.at_+1 }:=by
 unfold Q6t
 by_cases h:i.op=4∨i.op=6
 ·have hp:Q0q i=true:=by unfold Q0q;rcases h with h | h <;> simp [h]
  have hk:putN i=1:=by unfold putN;rw [hp];rfl
  rw [Qmi h hin]
  simp only [hp,if_true,hk]
 ·have h2:i.op=3∨i.op=5:=by omega
  have hp:Q0q i=false:=by unfold Q0q;rcases h2 with h | h <;> simp [h]
  have hk:putN i=0:=by unfold putN;rw [hp];rfl
  rw [Qmh h2 hin]
  simp only [hp,Bool.false_eq_true,if_false,hk]
theorem MOk.same {p:Q00} {M M':Mach} (h:MOk p M) (h1:M'.regs=M.regs) (h2:M'.words=M.words):MOk p M':=⟨by rw [h1];exact h.len,by rw [h1];exact h.r64,by rw [h2];exact h.wlen,by rw [h2];exact h.w64⟩
def Qfm (p:Q00) (i:LIns) (wB:World) (g:Nat) (vR vC vM vB vW:Value) (M:Mach) (e:Ending) (w':World):Prop :=
 e=.returned (.tuple #[])∧∃ vS',MSt w' wB.heap.size g vR vC vM vB vS' vW (Q1g p) (Q0y p i M)∧Ext wB w'
set_option maxRecDepth 100000 in
set_option maxHeartbeats 8000000 in
theorem Qct (p:Q00) (i:LIns) {wB:World} {g:Nat} {vR vC vM vB vS vW:Value} {M:Mach} (hi:p.code[M.at_]? = some i) (hh:Q3f p=true) (hfi:i.fits) (hok:MOk p M) (hsn:M.seen.length≤900000) (hst:M.steps≤40000) (w:World) (hp:Q29 wB (.agg #[vR,vC]) p) (hbx:Ext wB w) (h:MSt w wB.heap.size g vR vC vM vB vS vW (Q1g p) M) :
  Calls Tryz.prog 24 #[.pointer (some ⟨g,0,none⟩)] w (Qfm p i wB g vR vC vM vB vW M):=by
 obtain ⟨hr,hl1,hl2,hall⟩:=Q5m hh
 have hat:M.at_ < p.code.length:=(List.getElem?_eq_some_iff.1 hi).1
 have hp0:=hp
 have hpi:p.code.getD M.at_ default=i:=by simp [List.getD_eq_getElem?_getD,hi]
 have hiok:Q04 p 10 i=true:=by rw [← hpi];exact hall _ (Q25 hat)
 obtain ⟨v1,v2,hv,hR0,-⟩:=hp0
 simp only [Value.agg.injEq,Array.mk.injEq,List.cons.injEq,and_true] at hv
 obtain ⟨rfl,-⟩:=hv
 have HR:Hid (∀ W,Ext wB W→Q6g W vR p.regs):=zh fun W hW=>hR0.ext hW
 clear hR0
 obtain ⟨v1,v2,hv,hR,⟨-,oc,capc,bc,oo,rfl,hc1,hc2,hrow⟩⟩:=hp.ext hbx
 simp only [Value.agg.injEq,Array.mk.injEq,List.cons.injEq,and_true] at hv
 obtain ⟨rfl,rfl⟩:=hv
 have hix:=Q24 (cap:=capc) hrow.at_
 obtain ⟨e0,e1,e2,e3,e4⟩:=hrow.ins M.at_ hat
 rw [hpi] at e0 e1 e2 e3 e4
 obtain ⟨-,g1,-,-,-,-,-,-,g18,-⟩:=h.cells
 have hgl:=h.box.lt
 have H:=zh h
 have HB0:=zh hbx
 have Hr:=zh hr
 have Hmok:=zh hok
 have Hiok:=zh hiok
 have Hfi:=zh hfi
 have Hsn:=zh hsn
 have HSP:Hid (∀ vS' w',MSt w' wB.heap.size g vR (.slice oc p.code.length capc) vM vB vS' vW (Q1g p) (Q0y p i M)→Ext wB w'→Qfm p i wB g vR (.slice oc p.code.length capc) vM vB vW M (.returned (.tuple #[])) w'):=zh fun vS' w' h1 h2=>⟨rfl,vS',h1,h2⟩
 generalize Qfm p i wB g vR (.slice oc p.code.length capc) vM vB vW M=SP at *
 clear hrow hR hr hall hok hiok hfi hpi hi hh h hbx
 obtain ⟨op,a,b,c,n⟩:=i
 simp only at e0 e1 e2 e3 e4
 go_enter Tryz.func24,Tryz.ntmps24
 go_upto_region 0 with fail
 have k1:∀ W,Ext w W→W.cell? ⟨g,1,none⟩=some (.slice oc p.code.length capc):=fun _ h=>h.kept g1.1
 have k18:∀ W,Ext w W→W.cell? ⟨g,18,none⟩=some (.int .i64 (M.at_:Int)):=fun _ h=>h.kept g18.1
 have m0:∀ W,Ext w W→W.cell? ⟨bc,oo+M.at_ * 5,none⟩=some (.int .i64 op):=fun _ h=>h.kept e0
 have m1:∀ W,Ext w W→W.cell? ⟨bc,oo+M.at_ * 5+1,none⟩=some (.int .i64 a):=fun _ h=>h.kept e1
 have m2:∀ W,Ext w W→W.cell? ⟨bc,oo+M.at_ * 5+2,none⟩=some (.int .i64 b):=fun _ h=>h.kept e2
 have m3:∀ W,Ext w W→W.cell? ⟨bc,oo+M.at_ * 5+3,none⟩=some (.int .i64 c):=fun _ h=>h.kept e3
 have m4:∀ W,Ext w W→W.cell? ⟨bc,oo+M.at_ * 5+4,none⟩=some (.int .i64 n):=fun _ h=>h.kept e4
 refine Q8b 13 12 (some 2) (by decide) rfl (by kernel_rfl) (by kernel_rfl) (fun k=>.pointer (some ⟨k,0,none⟩)) 41 #[.int .i64 0,.int .i64 0,.int .i64 0,.int .i64 0,.int .i64 0] ?_
 simp only [List.take_succ_cons,List.take_zero,List.drop_succ_cons,List.drop_zero]
 repeat (first | (refine Q5x ?_ ?_ (fun wc hE=>?_) ?_;(decide);rfl;(focus (go_simp;done));go_simp) | (refine Q0d ?_ ?_ ?_;(decide);(first | rfl | (focus (go_simp;done)));apply Exists.intro;refine ⟨fun wc hE=>?_,?_⟩;(go_simp;exact rfl);go_simp) | (refine Q0e ?_ ?_ ?_;(decide);(focus (go_simp;done));go_simp))
 refine Q0f ?_
 intro k wx hk hB hx
 clear k1 k18 m0 m1 m2 m3 m4 e0 e1 e2 e3 e4 g1 g18
 refine Q61 hB #[.int .i64 op,.int .i64 a,.int .i64 b,.int .i64 c,.int .i64 n] rfl rfl rfl (by kernel_rfl) (by simp [Value.oneCell']) ?_
 have bI:=hB.stored #[.int .i64 op,.int .i64 a,.int .i64 b,.int .i64 c,.int .i64 n] rfl
 have hx2:=hx.setCells (#[.int .i64 op,.int .i64 a,.int .i64 b,.int .i64 c,.int .i64 n]:Array Value).toList hk 0
 generalize wx.setCells k 0 (#[.int .i64 op,.int .i64 a,.int .i64 b,.int .i64 c,.int .i64 n]:Array Value).toList=w1 at *
 have X:=zh hx2
 have P:=zh (H.out.ext hx2)
 have hks:some k≠vS.ownBlock:=by
  intro e
  have:=(H.out.sn.lt k e.symm).2
  omega
 have hkg:k≠g:=by omega
 have Hks:=zh hks
 obtain ⟨-,-,-,-,g4,-,-,-,g18,-⟩:=P.out.cells
 have hgl:=P.out.box.lt
 have hkl:=bI.lt
 clear hx hx2 hB hk hks
 go_wp2_with fail
 have P2:=P.out.steps_ (M.steps+1)
 rw [show ((M.steps+1:Nat):Int)=(M.steps:Int)+1 by omega] at P2
 have bI:=bI.far (p:=⟨g,4,none⟩) hkg (.int .i64 ((M.steps:Int)+1))
 have HB2:Hid (Ext wB (w1.setCell ⟨g,4,none⟩ (.int .i64 ((M.steps:Int)+1)))):=zh ((HB0.out.trans X.out).setCell H.out.hg _)
 generalize w1.setCell ⟨g,4,none⟩ (.int .i64 ((M.steps:Int)+1))=w2 at *
 (with_reducible refine (Q62 w2 P2 1 M.at_ 0 (by simpa using Nat.le_trans Hsn.out (by omega))).mono ?_)
 rintro e w3 ⟨rfl,vS2,P3,T3,N3⟩
 have bI:=bI.turn T3 (by
  rintro (h1 | h1)
  ·exact hkg h1
  ·exact Hks.out h1.symm)
 have HB:Hid (Ext wB w3):=zh (Below.trans HB2.out (P2.below T3))
 have i0:w3.cell? ⟨k,0,none⟩=some (.int .i64 op):=by rw [bI.cell];rfl
 have i1:w3.cell? ⟨k,1,none⟩=some (.int .i64 a):=by rw [bI.cell];rfl
 have i2:w3.cell? ⟨k,2,none⟩=some (.int .i64 b):=by rw [bI.cell];rfl
 have i3:w3.cell? ⟨k,3,none⟩=some (.int .i64 c):=by rw [bI.cell];rfl
 have i4:w3.cell? ⟨k,4,none⟩=some (.int .i64 n):=by rw [bI.cell];rfl
 obtain ⟨-,-,g2,g3,-,-,-,-,g18,-⟩:=P3.cells
 have hgl:=P3.box.lt
 have hkl:=bI.lt
 simp only at g2 g3 g18
 have Hreg:Hid (∀ a,okIn 10 a=true→w3.cell? ⟨g,7+a.toNat,none⟩=some (.int .i64 (rg M.regs a))∧w3.frozen? ⟨g,7+a.toNat,none⟩=false):=zh fun a ha=>P3.reg ha
 have PP:=zh P3
 clear P3 T3 N3 P2 HB2 P bI g4
 by_cases h7:op=7
 ·subst h7
  have hn:=(Q4p Hiok.out).2.2.2.2.2.2.2.2.2.1 (.inl rfl)
  simp only at hn
  have Hn:Hid (n=((n.toNat:Nat):Int)):=zh (by omega)
  have Hs:Hid (Q0y p ⟨7,a,b,c,n⟩ M={ M with at_:=n.toNat,steps:=M.steps+1,seen:=M.seen ++ [⟨1,M.at_,0⟩] }):=zh rfl
  clear hn
  go_wp2
  try refine bodyPost_end (results_none rfl _ _ _) rfl ?_
  refine HSP.out vS2 _ ?_ (HB.out.setCell PP.out.hg _)
  have:=PP.out.at__ n.toNat
  rw [← Hn.out] at this
  rw [Hs.out]
  exact this
 by_cases h8:op=8
 ·subst h8
  have hn:=(Q4p Hiok.out).2.2.2.2.2.2.2.2.2.1 (.inr rfl)
  obtain ⟨ha,hb,-,-⟩:=(Q4p Hiok.out).2.2.2.2.2.1 rfl
  simp only at hn ha hb
  have Hn:Hid (n=((n.toNat:Nat):Int)):=zh (by omega)
  obtain ⟨a0,a1⟩:=Q0l.1 ha
  obtain ⟨b0,b1⟩:=Q0l.1 hb
  obtain ⟨ra,-⟩:=Hreg.out a ha
  obtain ⟨rb,-⟩:=Hreg.out b hb
  have k1:∀ W,Ext w3 W→W.cell? ⟨k,1,none⟩=some (.int .i64 a):=fun _ h=>h.kept i1
  have k2:∀ W,Ext w3 W→W.cell? ⟨k,2,none⟩=some (.int .i64 b):=fun _ h=>h.kept i2
  have k3:∀ W,Ext w3 W→W.cell? ⟨k,3,none⟩=some (.int .i64 c):=fun _ h=>h.kept i3
  have ma:∀ W,Ext w3 W→W.cell? ⟨g,7+a.toNat,none⟩=some (.int .i64 (rg M.regs a)):=fun _ h=>h.kept ra
  have mb:∀ W,Ext w3 W→W.cell? ⟨g,7+b.toNat,none⟩=some (.int .i64 (rg M.regs b)):=fun _ h=>h.kept rb
  have hixr:=Q4a
  clear hn i1 i2 i3 ra rb g2 g3
  cases hh:Q99 c (rg M.regs a) (rg M.regs b)
  ·have Hs:Hid (Q0y p ⟨8,a,b,c,n⟩ M={ M with at_:=M.at_+1,steps:=M.steps+1,seen:=M.seen ++ [⟨1,M.at_,0⟩] }):=zh (by
    unfold Q0y
    simp only
    rw [if_neg (by omega),if_pos trivial,if_neg (by rw [hh];simp)])
   have C8:∀ W,Calls Tryz.prog 52 #[.int .i64 c,.int .i64 (rg M.regs a),.int .i64 (rg M.regs b)] W fun e w'=>e=.returned (.bool false)∧Ext W w':=fun W=>by
    have:=Qbo c (rg M.regs a) (rg M.regs b) W
    rw [hh] at this
    exact this
   have C8:=zh C8
   clear hh
   go_upto_region 8 with fail
   refine Q0j 19 (by kernel_rfl) (by kernel_rfl) ?_
   simp only [List.take_succ_cons,List.take_zero,List.drop_succ_cons,List.drop_zero]
   repeat (first | (refine Q0d ?_ ?_ ?_;(decide);(first | rfl | (focus (go_simp;done)));apply Exists.intro;refine ⟨fun wc hE=>?_,?_⟩;(go_simp;exact rfl);go_simp) | (refine Q2g ?_ ?_ ?_;(decide);(first | rfl | (focus (go_simp;done)));apply Exists.intro;refine ⟨fun wc hE=>?_,?_⟩;(go_simp;(first | (with_reducible exact Q26 (C8.out _))));go_simp) | (refine Q0e ?_ ?_ ?_;(decide);(focus (go_simp;done));go_simp))
   refine Q0f ?_
   intro wx hx
   have i4:=hx.kept i4
   have g18:=Q0i hx g18
   have HB:=zh (HB.out.trans hx)
   have PP:=zh (PP.out.ext hx)
   clear hx k1 k2 k3 ma mb
   go_wp2
   try refine bodyPost_end (results_none rfl _ _ _) rfl ?_
   refine HSP.out vS2 _ ?_ (HB.out.setCell PP.out.hg _)
   have:=PP.out.at__ (M.at_+1)
   rw [show ((M.at_+1:Nat):Int)=(M.at_:Int)+1 by omega] at this
   rw [Hs.out]
   exact this
  ·have Hs:Hid (Q0y p ⟨8,a,b,c,n⟩ M={ M with at_:=n.toNat,steps:=M.steps+1,seen:=M.seen ++ [⟨1,M.at_,0⟩] }):=zh (by
    unfold Q0y
    simp only
    rw [if_neg (by omega),if_pos trivial,if_pos hh])
   have C8:∀ W,Calls Tryz.prog 52 #[.int .i64 c,.int .i64 (rg M.regs a),.int .i64 (rg M.regs b)] W fun e w'=>e=.returned (.bool true)∧Ext W w':=fun W=>by
    have:=Qbo c (rg M.regs a) (rg M.regs b) W
    rw [hh] at this
    exact this
   have C8:=zh C8
   clear hh
   go_upto_region 8 with fail
   refine Q0j 19 (by kernel_rfl) (by kernel_rfl) ?_
   simp only [List.take_succ_cons,List.take_zero,List.drop_succ_cons,List.drop_zero]
   repeat (first | (refine Q0d ?_ ?_ ?_;(decide);(first | rfl | (focus (go_simp;done)));apply Exists.intro;refine ⟨fun wc hE=>?_,?_⟩;(go_simp;exact rfl);go_simp) | (refine Q2g ?_ ?_ ?_;(decide);(first | rfl | (focus (go_simp;done)));apply Exists.intro;refine ⟨fun wc hE=>?_,?_⟩;(go_simp;(first | (with_reducible exact Q26 (C8.out _))));go_simp) | (refine Q0e ?_ ?_ ?_;(decide);(focus (go_simp;done));go_simp))
   refine Q0f ?_
   intro wx hx
   have i4:=hx.kept i4
   have g18:=Q0i hx g18
   have HB:=zh (HB.out.trans hx)
   have PP:=zh (PP.out.ext hx)
   clear hx k1 k2 k3 ma mb
   go_wp2
   try refine bodyPost_end (results_none rfl _ _ _) rfl ?_
   refine HSP.out vS2 _ ?_ (HB.out.setCell PP.out.hg _)
   have:=PP.out.at__ (n.toNat)
   rw [← Hn.out] at this
   rw [Hs.out]
   exact this
 by_cases h9:op=9
 ·subst h9
  have ha:=(Q4p Hiok.out).2.2.2.2.2.2.1 rfl
  simp only at ha
  obtain ⟨a0,a1⟩:=Q0l.1 ha
  obtain ⟨ra,-⟩:=Hreg.out a ha
  have hixr:=Q4a
  have Hs:Hid (Q0y p ⟨9,a,b,c,n⟩ M={ M with at_:=M.at_+1,steps:=M.steps+1,seen:=M.seen ++ [⟨1,M.at_,0⟩],fin:=1,value:=rg M.regs a }):=zh rfl
  clear i2 i3 i4
  go_upto_region 11 with fail
  go_region
  go_wp2
  try refine bodyPost_end (results_none rfl _ _ _) rfl ?_
  refine HSP.out vS2 _ ?_ (Ext.drew (((HB.out.setCell PP.out.hg _).setCell PP.out.hg _).setCell PP.out.hg _))
  have:=(((PP.out.fin_ 1).value_ (rg M.regs a)).at__ (M.at_+1)).ext (Ext.drew (Ext.refl _))
  rw [show ((M.at_+1:Nat):Int)=(M.at_:Int)+1 by omega] at this
  rw [Hs.out]
  exact this
 by_cases hw:op=4∨op=6
 ·have Hw:Hid (op=3∨op=4∨op=5∨op=6):=zh (by omega)
  have hb7:(op == (7:Int))=false:=by simp;omega
  have hb8:(op == (8:Int))=false:=by simp;omega
  have hb9:(op == (9:Int))=false:=by simp;omega
  have CP:=Q8f ⟨op,a,b,c,n⟩ w3
  rw [show Q0q ⟨op,a,b,c,n⟩=true by unfold Q0q;simp only;rcases hw with h | h <;> simp [h]] at CP
  simp only [insV] at CP
  go_wp2_with fail
  (with_reducible refine CP.mono ?_)
  clear CP
  rintro e w4 ⟨rfl,hx⟩
  clear g2 g3 Hreg
  have HB:=zh (HB.out.trans hx)
  have PP:=zh (PP.out.ext hx)
  have i0:=hx.kept i0
  have i1:=hx.kept i1
  have i2:=hx.kept i2
  have i3:=hx.kept i3
  have i4:=hx.kept i4
  have g18:=Q0i hx g18
  clear hx
  go_wp2_with fail
  have CW:=Qay p ⟨op,a,b,c,n⟩ Hw.out Hiok.out Hr.out (Hmok.out.same (M':={ M with steps:=M.steps+1,seen:=M.seen ++ [⟨1,M.at_,0⟩] }) rfl rfl) (by simp;omega) w4 (HR.out _ HB.out) PP.out
  unfold Q9q at CW
  simp only [insV] at CW
  (with_reducible refine CW.mono ?_)
  clear CW
  rintro e w6 hpost
  cases hin:Q3u p ⟨op,a,b,c,n⟩ (Q1u M.regs ⟨op,a,b,c,n⟩)
  ·have hpost:e=.returned (.bool false)∧Ext w4 w6:=by
    rcases hpost with ⟨h1,-⟩ | ⟨-,h2⟩
    ·try simp only at h1
     rw [hin] at h1;cases h1
    ·exact h2
   obtain ⟨rfl,hx⟩:=hpost
   have Hs:=zh (Qg9 (M:=M) Hw.out hin)
   have HB:=zh (HB.out.trans hx)
   have PP:=zh (PP.out.ext hx)
   obtain ⟨-,-,g2,-,-,-,-,-,g18,-⟩:=PP.out.cells
   have hgl:=PP.out.box.lt
   simp only at g2 g18
   clear hx hin
   go_wp2
   try refine bodyPost_end (results_none rfl _ _ _) rfl ?_
   refine HSP.out vS2 _ ?_ ((HB.out.setCell PP.out.hg _).setCell PP.out.hg _)
   have:=(PP.out.fin_ 2).at__ (M.at_+1)
   rw [show ((M.at_+1:Nat):Int)=(M.at_:Int)+1 by omega] at this
   rw [Hs.out]
   exact this
  ·have hpost:e=.returned (.bool true)∧∃ vS',MSt w6 wB.heap.size g vR (.slice oc p.code.length capc) vM vB vS' vW (Q1g p) (Q6t p ⟨op,a,b,c,n⟩ { M with steps:=M.steps+1,seen:=M.seen ++ [⟨1,M.at_,0⟩] })∧Below wB.heap.size w4 w6:=by
    rcases hpost with ⟨-,h2⟩ | ⟨h1,-⟩
    ·exact h2
    ·try simp only at h1
     rw [hin] at h1;cases h1
   obtain ⟨rfl,vS3,P5,hbb⟩:=hpost
   have Hs:=zh (Qg8 (M:=M) Hw.out hin)
   have HB:Hid (Ext wB w6):=zh (Below.trans HB.out hbb)
   have PP:=zh P5
   obtain ⟨-,-,g2,-,-,-,-,-,g18,-⟩:=P5.cells
   have hgl:=P5.box.lt
   clear P5 hbb hin
   generalize Q6t p ⟨op,a,b,c,n⟩ { M with steps:=M.steps+1,seen:=M.seen ++ [⟨1,M.at_,0⟩] }=MW at *
   go_wp2
   try refine bodyPost_end (results_none rfl _ _ _) rfl ?_
   refine HSP.out vS3 _ ?_ (HB.out.setCell PP.out.hg _)
   have:=PP.out.at__ (M.at_+1)
   rw [show ((M.at_+1:Nat):Int)=(M.at_:Int)+1 by omega] at this
   rw [Hs.out]
   exact this
 by_cases hw:op=3∨op=5
 ·have Hw:Hid (op=3∨op=4∨op=5∨op=6):=zh (by omega)
  have hb7:(op == (7:Int))=false:=by simp;omega
  have hb8:(op == (8:Int))=false:=by simp;omega
  have hb9:(op == (9:Int))=false:=by simp;omega
  have CP:=Q8f ⟨op,a,b,c,n⟩ w3
  rw [show Q0q ⟨op,a,b,c,n⟩=false by unfold Q0q;simp only;simp;omega] at CP
  simp only [insV] at CP
  go_wp2_with fail
  (with_reducible refine CP.mono ?_)
  clear CP
  rintro e w4 ⟨rfl,hx⟩
  clear g2 g3 Hreg
  have HB:=zh (HB.out.trans hx)
  have PP:=zh (PP.out.ext hx)
  have i0:=hx.kept i0
  have i1:=hx.kept i1
  have i2:=hx.kept i2
  have i3:=hx.kept i3
  have i4:=hx.kept i4
  have g18:=Q0i hx g18
  clear hx
  go_wp2_with fail
  have CT:=Qb1 ⟨op,a,b,c,n⟩ w4
  rw [show Q1m ⟨op,a,b,c,n⟩=true by unfold Q1m;simp only;rcases hw with h | h <;> simp [h]] at CT
  simp only [insV] at CT
  (with_reducible refine CT.mono ?_)
  clear CT
  rintro e w5 ⟨rfl,hx⟩
  have HB:=zh (HB.out.trans hx)
  have PP:=zh (PP.out.ext hx)
  have i0:=hx.kept i0
  have i1:=hx.kept i1
  have i2:=hx.kept i2
  have i3:=hx.kept i3
  have i4:=hx.kept i4
  have g18:=Q0i hx g18
  clear hx
  go_wp2_with fail
  have CW:=Qay p ⟨op,a,b,c,n⟩ Hw.out Hiok.out Hr.out (Hmok.out.same (M':={ M with steps:=M.steps+1,seen:=M.seen ++ [⟨1,M.at_,0⟩] }) rfl rfl) (by simp;omega) w5 (HR.out _ HB.out) PP.out
  unfold Q9q at CW
  simp only [insV] at CW
  (with_reducible refine CW.mono ?_)
  clear CW
  rintro e w6 hpost
  cases hin:Q3u p ⟨op,a,b,c,n⟩ (Q1u M.regs ⟨op,a,b,c,n⟩)
  ·have hpost:e=.returned (.bool false)∧Ext w5 w6:=by
    rcases hpost with ⟨h1,-⟩ | ⟨-,h2⟩
    ·try simp only at h1
     rw [hin] at h1;cases h1
    ·exact h2
   obtain ⟨rfl,hx⟩:=hpost
   have Hs:=zh (Qg9 (M:=M) Hw.out hin)
   have HB:=zh (HB.out.trans hx)
   have PP:=zh (PP.out.ext hx)
   obtain ⟨-,-,g2,-,-,-,-,-,g18,-⟩:=PP.out.cells
   have hgl:=PP.out.box.lt
   simp only at g2 g18
   clear hx hin
   go_wp2
   try refine bodyPost_end (results_none rfl _ _ _) rfl ?_
   refine HSP.out vS2 _ ?_ ((HB.out.setCell PP.out.hg _).setCell PP.out.hg _)
   have:=(PP.out.fin_ 2).at__ (M.at_+1)
   rw [show ((M.at_+1:Nat):Int)=(M.at_:Int)+1 by omega] at this
   rw [Hs.out]
   exact this
  ·have hpost:e=.returned (.bool true)∧∃ vS',MSt w6 wB.heap.size g vR (.slice oc p.code.length capc) vM vB vS' vW (Q1g p) (Q6t p ⟨op,a,b,c,n⟩ { M with steps:=M.steps+1,seen:=M.seen ++ [⟨1,M.at_,0⟩] })∧Below wB.heap.size w5 w6:=by
    rcases hpost with ⟨-,h2⟩ | ⟨h1,-⟩
    ·exact h2
    ·try simp only at h1
     rw [hin] at h1;cases h1
   obtain ⟨rfl,vS3,P5,hbb⟩:=hpost
   have Hs:=zh (Qg8 (M:=M) Hw.out hin)
   have HB:Hid (Ext wB w6):=zh (Below.trans HB.out hbb)
   have PP:=zh P5
   obtain ⟨-,-,g2,-,-,-,-,-,g18,-⟩:=P5.cells
   have hgl:=P5.box.lt
   clear P5 hbb hin
   generalize Q6t p ⟨op,a,b,c,n⟩ { M with steps:=M.steps+1,seen:=M.seen ++ [⟨1,M.at_,0⟩] }=MW at *
   go_wp2
   try refine bodyPost_end (results_none rfl _ _ _) rfl ?_
   refine HSP.out vS3 _ ?_ (HB.out.setCell PP.out.hg _)
   have:=PP.out.at__ (M.at_+1)
   rw [show ((M.at_+1:Nat):Int)=(M.at_:Int)+1 by omega] at this
   rw [Hs.out]
   exact this
 have hplain:op≠3∧op≠4∧op≠5∧op≠6∧op≠7∧op≠8∧op≠9:=⟨by omega,by omega,by omega,by omega,h7,h8,h9⟩
 have hb7:(op == (7:Int))=false:=by simp;omega
 have hb8:(op == (8:Int))=false:=by simp;omega
 have hb9:(op == (9:Int))=false:=by simp;omega
 have Hs:=zh (Qmj (p:=p) (M:=M) (i:=⟨op,a,b,c,n⟩) hplain)
 have Hpl:=zh hplain
 have CP:=Q8f ⟨op,a,b,c,n⟩ w3
 rw [show Q0q ⟨op,a,b,c,n⟩=false by unfold Q0q;simp only;simp;omega] at CP
 simp only [insV] at CP
 clear hplain
 go_wp2_with fail
 (with_reducible refine CP.mono ?_)
 clear CP
 rintro e w4 ⟨rfl,hx⟩
 clear g2 g3 Hreg
 have HB:=zh (HB.out.trans hx)
 have PP:=zh (PP.out.ext hx)
 have i0:=hx.kept i0
 have i1:=hx.kept i1
 have i2:=hx.kept i2
 have i3:=hx.kept i3
 have i4:=hx.kept i4
 have g18:=Q0i hx g18
 clear hx
 go_wp2_with fail
 have CT:=Qb1 ⟨op,a,b,c,n⟩ w4
 rw [show Q1m ⟨op,a,b,c,n⟩=false by unfold Q1m;simp only;simp;omega] at CT
 simp only [insV] at CT
 (with_reducible refine CT.mono ?_)
 clear CT
 rintro e w5 ⟨rfl,hx⟩
 have HB:=zh (HB.out.trans hx)
 have PP:=zh (PP.out.ext hx)
 have i0:=hx.kept i0
 have i1:=hx.kept i1
 have i2:=hx.kept i2
 have i3:=hx.kept i3
 have i4:=hx.kept i4
 have g18:=Q0i hx g18
 clear hx
 go_wp2_with fail
 have CQ:=Qhp (M:={ M with steps:=M.steps+1,seen:=M.seen ++ [⟨1,M.at_,0⟩] }) p ⟨op,a,b,c,n⟩ Hmok.out.r64 Hiok.out Hpl.out (by simp;omega) w5 PP.out
 unfold Q5p at CQ
 simp only [insV] at CQ
 (with_reducible refine CQ.mono ?_)
 clear CQ
 rintro e w6 ⟨rfl,vS3,P5,T5,-⟩
 have HB:Hid (Ext wB w6):=zh (Below.trans HB.out (PP.out.below T5))
 have PP:=zh P5
 obtain ⟨-,-,-,-,-,-,-,-,g18,-⟩:=P5.cells
 have hgl:=P5.box.lt
 simp only at g18
 clear P5 T5
 go_wp2
 try refine bodyPost_end (results_none rfl _ _ _) rfl ?_
 refine HSP.out vS3 _ ?_ (HB.out.setCell PP.out.hg _)
 have:=PP.out.at__ (M.at_+1)
 rw [show ((M.at_+1:Nat):Int)=(M.at_:Int)+1 by omega] at this
 rw [Hs.out]
 exact this
theorem Qgk (ad:Addr) (n cap:Nat) (w:World):(binOp .eql 35 (.slice (some ad) n cap) (.slice none 0 0)).run Tryz.prog w=.ok (.bool false) w:=by
 first | (kernel_rfl;done) | (go_simp;done)
theorem Qqc (w:World):(binOp .eql 35 (.slice none 0 0) (.slice none 0 0)).run Tryz.prog w=.ok (.bool true) w:=by
 first | (kernel_rfl;done) | (go_simp;done)
theorem Q8n:(Tryz.prog.info? 3).map (fun i=>(i.zero,i.size,i.bytes))=some (some (.int .i64 0),1,8):=by kernel_rfl
set_option maxRecDepth 100000 in
theorem Q7t {w:World} {ad:Addr} {n cap:Nat} {news:List Value} (hs:Src w 1 (some ad) n news) (hn:n≤1000000) :
  Calls Tryz.prog 57 #[.slice (some ad) n cap] w fun e w' => ∃ v',e=.returned v'∧w'.ownsRow w.heap.size 2 1 v' n news∧Ext w w':=by
 obtain ⟨i0,hi0,hz0,hz1,hz2⟩:=info_parts Q42
 have Hs:=zh hs
 have hnil:=Qgk ad n cap
 clear hs
 go_enter Tryz.func57,Tryz.ntmps57
 go_wp2_with (at_builtin;refine Q1b _ rfl _ _ 35 rfl w.heap.size 2 i0 _ 1 8 Tryz.underlying35 hi0 hz0 hz1 hz2 rfl (by decide) _ 0 [] rfl ?c0 (some ad) n cap news rfl ?c1 ?c3 ?c4 ?c5 ?_)
 case c0 =>
  have h:=World.ownsRow_lit (base:=w.heap.size) (e:=2) (size:=1) w #[] 0 (Nat.le_refl _) (by decide) rfl
  simpa [Act.eval] using h
 case c1=>exact Hs.out.ext ((Ext.refl _).alloc _)
 case c3=>unfold maxLen;omega
 case c4=>omega
 case c5=>simp
 intro v1 w1 hown hgrow hat
 have X:Ext w w1:=((Ext.refl w).alloc _).grown hgrow (by
  intro k hk
  simp [Act.eval,Value.ownBlock] at hk
  omega)
 have Hown:=zh hown
 have X:=zh X
 clear hown hgrow hat
 go_wp2
 go_ret
 exact ⟨_,rfl,by simpa using Hown.out,X.out⟩
section
variable {w w' : World} {B g : Nat} {vR vC vM vB vS vW : Value} {bases : List Int} {M : Mach}
theorem MSt.bases_ (h:MSt w B g vR vC vM vB vS vW bases M) {vB':Value} {bs:List Int} (hg:w.grownBy w' vB.ownBlock) (ho:w'.ownsRow B 3 1 vB' bs.length (bs.map (Value.int .i64))) :
  MSt (w'.setCell ⟨g,19,none⟩ vB') B g vR vC vM vB' vS vW bs M:=by
 have hb:=h.box.grown hg h.gb
 have hne:some g≠vB'.ownBlock:=Q09 ho hb (by decide)
 have hw:=Q27 h.ws hg (fun k hk he=>Q2c h.bs h.ws (by decide) k hk he)
 have hs:=Q27 h.sn hg (fun k hk he=>Q2c h.bs h.sn (by decide) k hk he)
 exact ⟨by rw [← Qr5 h.len (u:=vB')];exact hb.set_ 19 vB',Q0r hs h.gs _,Q0r hw h.gw _,Q0r ho hne _,h.len,h.hg⟩
theorem MSt.words_ (h:MSt w B g vR vC vM vB vS vW bases M) {vW':Value} {ws:List Int} (hg:w.grownBy w' vW.ownBlock) (ho:w'.ownsRow B 2 1 vW' ws.length (ws.map (Value.int .i64))) :
  MSt (w'.setCell ⟨g,17,none⟩ vW') B g vR vC vM vB vS vW' bases { M with words:=ws }:=by
 have hb:=h.box.grown hg h.gw
 have hne:some g≠vW'.ownBlock:=Q09 ho hb (by decide)
 have hbs:=Q27 h.bs hg (fun k hk he=>Q2c h.ws h.bs (by decide) k hk he)
 have hs:=Q27 h.sn hg (fun k hk he=>Q2c h.ws h.sn (by decide) k hk he)
 exact ⟨by rw [← Qqy h.len (u:=vW')];exact hb.set_ 17 vW',Q0r hs h.gs _,Q0r ho hne _,Q0r hbs h.gb _,h.len,h.hg⟩
end
def Qwb (p:Q00) (m:List (List Int)) (vR vC:Value) (w:World) (e:Ending) (w':World):Prop :=
 ∃ g vB vW,e=.returned (.pointer (some ⟨g,0,none⟩))∧MSt w' w.heap.size g vR vC (.slice none 0 0) vB (.slice none 0 0) vW (Q1g p) (Q0a m.flatten)∧Ext w w'
def bsTo (p:Q00) (j:Nat):List Int:=(List.range j).map fun k=>(Q0n p k:Int)
set_option maxRecDepth 100000 in
set_option maxHeartbeats 4000000 in
theorem Ql1 (p:Q00) (m:List (List Int)) (vR vC vm:Value) (w:World) (hm:Q4q w vm m) (hf:Q51 p m=true) (hr:Q0p p.regs=true) :
  Calls Tryz.prog 23 #[.agg #[vR,vC],vm] w (Qwb p m vR vC w):=by
 obtain ⟨hl1,hl2⟩:=Qey hf
 have hlen:=Q4g hr
 have htt:=Q9w hr
 have Hft:=zh (Qk9 hf)
 obtain ⟨oa,cap,b,o,rfl,hc1,hc2,vs0,hrow,hin⟩:=hm
 have hix:=index_mem' (cap:=cap) hrow.at_
 have Hrow:=zh hrow
 have Hin:=zh hin
 have Hl2:=zh hl2
 have Hr:=zh hr
 have Hl1:=zh hl1
 have hm6:m.length≤6:=by omega
 obtain ⟨i0,hi0,hz0,hz1,hz2⟩:=info_parts Q42
 obtain ⟨j0,hj0,hy0,hy1,hy2⟩:=info_parts Q8n
 clear hrow hin hc1 hc2 hl2 hr hl1 hlen
 go_enter Tryz.func23,Tryz.ntmps23
 go_wp2_with fail
 obtain ⟨W,gp,hg,hW,hx,bP,bM⟩:=Q14 w #[vR,vC] #[vR,vC,.int .i64 0,.int .i64 0,.int .i64 0,.slice none 0 0,.slice none 0 0,.int .i64 0,.int .i64 0,.int .i64 0,.int .i64 0,.int .i64 0,.int .i64 0,.int .i64 0,.int .i64 0,.int .i64 0,.int .i64 0,.slice none 0 0,.int .i64 0,.slice none 0 0] 28 76
 rw [hW,hg]
 have X:=zh hx
 have P0:MSt W w.heap.size (gp+1) vR vC (.slice none 0 0) (.slice none 0 0) (.slice none 0 0) (.slice none 0 0) (bsTo p 0) { Q0a [] with words:=(m.take 0).flatten } :=
  ⟨bM,World.ownsRow_nil _ _ _ _,World.ownsRow_nil _ _ _ _,World.ownsRow_nil _ _ _ _,rfl,by omega⟩
 clear hW hg hx bP bM
 generalize gp+1=g at *
 go_loopw [13] (fun i wr => ∃ (j:Nat) (vB vW:Value),j≤m.length∧i=.int .i64 j∧MSt wr w.heap.size g vR vC (.slice none 0 0) vB (.slice none 0 0) vW (bsTo p j) { Q0a [] with words:=(m.take j).flatten }∧Ext w wr) (fun i _=>m.length - (intOf i).toNat)
 case atStart=>exact ⟨0,_,_,by omega,rfl,P0,X.out⟩
 case round =>
  obtain ⟨j,vB,vW,hj,rfl,P,hE⟩:=hrel
  have X:=zh hE
  have PP:=zh P
  have hgl:=P.box.lt
  have hwl:((m.take j).flatten).length=Q0n p j:=Hft.out j (by rw [← Hl1.out];omega)
  have hbl:=Qvp p j
  clear hE P
  by_cases hlt:j < m.length
  ·have e0:=(Hrow.out.ext X.out).one j hlt
   have h1:=Hin.out j hlt
   have hlj:=Hl2.out j (by rw [← Hl1.out];omega)
   have hw6:Q0t (p.regs.getD j default)≤64:=Q6s _ (Q6o Hr.out _ (Q25 (by rw [← Hl1.out];omega))).2
   have Hnext:Hid ((m.take (j+1)).flatten=(m.take j).flatten ++ m.getD j default):=zh (by
    rw [List.take_succ_eq_append_getElem hlt,List.flatten_append]
    simp [hlt])
   have Hbs:Hid (bsTo p (j+1)=bsTo p j ++ [(Q0n p j:Int)]):=zh (by simp [bsTo,List.range_succ])
   have hbsl:(bsTo p j).length=j:=by simp [bsTo]
   generalize m.getD j default=l at *
   generalize vs0 j=vl at *
   obtain ⟨-,ol,lcap,lb,lo,rfl,hl3,hl4,hlr⟩:=h1
   have Hlr:=zh hlr
   rw [hlj] at e0
   generalize Q0t (p.regs.getD j default)=L at *
   obtain ⟨-,-,-,-,-,-,-,g17,-,g19⟩:=PP.out.cells
   obtain ⟨ob,obc,rfl⟩:=Q02 PP.out.bs
   obtain ⟨ow,owc,rfl⟩:=Q02 PP.out.ws
   have Hwl:=zh hwl
   rw [hbsl] at g19
   simp only [hwl] at g17
   clear hlr hl3 hl4
   go_upto_region 5 with fail
   have k17:∀ W,Ext wr W→W.cell? ⟨g,17,none⟩=some (.slice ow (Q0n p j) owc):=fun _ h=>h.kept g17.1
   have k19:∀ W,Ext wr W→W.cell? ⟨g,19,none⟩=some (.slice ob j obc):=fun _ h=>h.kept g19.1
   refine Q23 [11,12,13,14,15] 1 (by kernel_rfl) (by kernel_rfl) ?_
   repeat (first | (refine Q1x ?_ ?_;(decide)) | (refine Q1o ?_ ?_ ?_;(decide);(first | rfl | (focus (go_simp;done)));apply Exists.intro;refine ⟨fun wc hE=>?_,?_⟩;(go_simp;exact rfl);go_simp) | (refine Q1v ?_ ?_ ?_;(decide);(focus (go_simp;done));go_simp))
   refine Q1w ?_
   intro w2 hx
   have X2:=zh hx
   clear k17 k19
   refine Q01 rfl ?_
   go_wp2
   have PB:=PP.out.ext (X2.out.alloc (.cells #[.int .i64 (Q0n p j:Int)] 3))
   have X3:=zh (X.out.trans (X2.out.alloc (.cells #[.int .i64 (Q0n p j:Int)] 3)))
   refine ⟨X2.out.alloc _,?_⟩
   refine Q1q (Q0c rfl (Q0c rfl (Q0c rfl (Q0c rfl (Q22))))) ?_
   have hbo:=PB.bs
   rw [hbsl] at hbo
   refine Q1b _ rfl _ _ 49 rfl w.heap.size 3 j0 _ 1 8 Tryz.underlying49 hj0 hy0 hy1 hy2 rfl (by decide) _ _ _ rfl hbo (some ⟨w2.heap.size,0,none⟩) 1 1 [.int .i64 (Q0n p j:Int)] rfl ?c1 ?c3 ?c4 ?c5 ?_
   case c1=>exact Q1y (size:=1) (Blk.new w2 3 #[.int .i64 (Q0n p j:Int)]) rfl (by simp [Value.oneCell'])
   case c3=>unfold maxLen;omega
   case c4=>omega
   case c5=>exact X3.out.size
   intro v1 w3 hown hgrow hat
   clear hat
   obtain ⟨o3,c3,rfl⟩:=Q02 hown
   have hgrow:(w2.alloc (.cells #[.int .i64 (Q0n p j:Int)] 3)).grownBy w3 (Value.slice ob (bsTo p j).length obc).ownBlock:=by
    rw [hbsl];exact hgrow
   have hb3:=PB.box.grown hgrow PB.gb
   have p19:w3.cell? ⟨g,19,none⟩=some (.slice ob j obc)∧w3.frozen? ⟨g,19,none⟩=false:=⟨by rw [hb3.cell];simp [Q0z,Q0a,hbsl],hb3.frozen 19⟩
   have p17:w3.cell? ⟨g,17,none⟩=some (.slice ow (Q0n p j) owc)∧w3.frozen? ⟨g,17,none⟩=false:=⟨by rw [hb3.cell];simp [Q0z,Q0a,Hwl.out],hb3.frozen 17⟩
   have P3:=PB.bases_ (bs:=bsTo p j ++ [(Q0n p j:Int)]) (vB':=.slice o3 (j+1) c3) hgrow (by simpa [hbsl] using hown)
   have X3:=zh (((X3.out.grown hgrow (Q17 PB.bs))).setCell (p:=⟨g,19,none⟩) PB.hg (.slice o3 (j+1) c3))
   have hwo:(w3.setCell ⟨g,19,none⟩ (.slice o3 (j+1) c3)).ownsRow w.heap.size 2 1 (.slice ow (Q0n p j) owc) (Q0n p j) (((m.take j).flatten).map (Value.int .i64)):=by
    have:=P3.ws
    simp only [Hwl.out] at this
    exact this
   have P3:=zh P3
   have Hsrc:Hid (Src (w3.setCell ⟨g,19,none⟩ (.slice o3 (j+1) c3)) 1 ol L (l.map (Value.int .i64))):=zh (by
    have:=Qgd .i64 (Hlr.out.ext X3.out)
    rw [hlj] at this
    exact this)
   clear g17 g19 hb3 hown hgrow PB hbo
   have hg3:=P3.out.box.lt
   go_wp2_with (at_builtin;refine Q1b _ rfl _ _ 35 rfl w.heap.size 2 i0 _ 1 8 Tryz.underlying35 hi0 hz0 hz1 hz2 rfl (by decide) _ _ _ rfl hwo ol L lcap (l.map (Value.int .i64)) rfl ?d1 ?d3 ?d4 ?d5 ?_)
   case d1=>exact Hsrc.out
   case d3=>unfold maxLen;omega
   case d4=>omega
   case d5=>exact X3.out.size
   intro v2 w4 hown2 hgrow2 hat2
   clear hat2
   obtain ⟨o4,c4,rfl⟩:=Q02 hown2
   have hgr:(w3.setCell ⟨g,19,none⟩ (.slice o3 (j+1) c3)).grownBy w4 (Value.slice ow ({ Q0a [] with words:=(m.take j).flatten }:Mach).words.length owc).ownBlock:=by
    simp only [Hwl.out];exact hgrow2
   have hb4:=P3.out.box.grown hgr P3.out.gw
   have q17:w4.cell? ⟨g,17,none⟩=some (.slice ow (Q0n p j) owc)∧w4.frozen? ⟨g,17,none⟩=false:=⟨by rw [hb4.cell];simp [Q0z,Q0a,Hwl.out],hb4.frozen 17⟩
   have P4:=zh (P3.out.words_ (ws:=(m.take j).flatten ++ l) (vW':=.slice o4 (Q0n p j+L) c4) hgr (by simpa [Hwl.out,hlj] using hown2))
   have X4:=zh ((X3.out.grown hgrow2 (Q17 hwo)).setCell (p:=⟨g,17,none⟩) P3.out.hg (.slice o4 (Q0n p j+L) c4))
   clear hb4 hgr hown2 hgrow2 hwo p17 p19
   go_wp2
   go_roundw
   case rel=>exact ⟨j+1,_,_,by omega,by go_num,by rw [Hbs.out,Hnext.out];exact P4.out,X4.out⟩
   case measure=>first | (simp [intOf];done) | (simp [intOf];omega)
  ·have hje:j=m.length:=by omega
   subst hje
   have hlt2:decide ((m.length:Int) < (m.length:Int))=false:=by simp
   have HB:Hid (bsTo p m.length=Q1g p):=zh (by rw [Hl1.out];rfl)
   have HF:Hid ((m.take m.length).flatten=m.flatten):=zh (by rw [List.take_length])
   go_wp2
   go_ret
   refine ⟨g,vB,vW,rfl,?_,X.out⟩
   have:=PP.out
   rw [HB.out,HF.out] at this
   exact this
theorem MSt.mem_ {w:World} {B g:Nat} {vR vC vM vB vS vW:Value} {bases:List Int} {M:Mach} (h:MSt w B g vR vC vM vB vS vW bases M) (u:Value):MSt (w.setCell ⟨g,6,none⟩ u) B g vR vC u vB vS vW bases M :=
 ⟨by rw [← Qr3 (u:=u)];exact h.box.set_ 6 u,Q0r h.sn h.gs u,Q0r h.ws h.gw u,Q0r h.bs h.gb u,h.len,h.hg⟩
def Q7z (w:World) (B:Nat) (v:Value) (fin value:Int) (steps:Nat) (seen:List LSee) (mem:List (List Int)):Prop :=
 ∃ vs vm U,v=.agg #[.int .i64 fin,.int .i64 value,.int .i64 steps,vs,vm]∧w.ownsRow B 147 3 vs seen.length (seen.flatMap Q6x)∧Q3d w B U 35 2 vm mem
theorem Q7z.at_ {w:World} {B:Nat} {v:Value} {fin value:Int} {steps:Nat} {seen:List LSee} {mem:List (List Int)} (h:Q7z w B v fin value steps seen mem) (h64:∀ l ∈ mem,∀ x ∈ l,R64 x):Q52 w v fin value steps seen mem:=by
 obtain ⟨vs,vm,U,rfl,h1,h2⟩:=h
 exact ⟨vs,vm,rfl,Qnm h1,h2.mem h64⟩
theorem Q7z.far {w:World} {B:Nat} {v:Value} {fin value:Int} {steps:Nat} {seen:List LSee} {mem:List (List Int)} (h:Q7z w B v fin value steps seen mem) {p:Addr} (hp:p.block < B) (u:Value):Q7z (w.setCell p u) B v fin value steps seen mem:=by
 obtain ⟨vs,vm,U,rfl,h1,h2⟩:=h
 exact ⟨vs,vm,U,rfl,Q0r h1 (fun e=>by have:=Q17 h1 _ e.symm;omega) u,h2.far hp u⟩
theorem Q4u {w:World} {b b':Nat} {e:TypeId} {s n:Nat} {v:Value} {xs:List Value} (h:w.ownsRow b e s v n xs) (hb:b'≤b):w.ownsRow b' e s v n xs:=by
 refine ⟨h.1,?_⟩
 rcases h.2 with h | ⟨g,cap,cur,rfl,h1,h2,h3⟩
 ·exact .inl h
 ·exact .inr ⟨g,cap,cur,rfl,by omega,h2,h3⟩
theorem Q3d.mono {w:World} {B B' U:Nat} {T E:TypeId} {v:Value} {m:List (List Int)} (h:Q3d w B U T E v m) (hb:B'≤B):Q3d w B' U T E v m:=by
 obtain ⟨vs,h1,h2,h3,h4,h5⟩:=h
 exact ⟨vs,h1,Q4u h2 hb,h3,fun i hi=>⟨Q4u (h4 i hi).1 hb,(h4 i hi).2⟩,h5⟩
def Qw9 (p:Q00) (M:Mach) (wB:World) (e:Ending) (w':World):Prop :=
 ∃ u,e=.returned u∧Q7z w' wB.heap.size u M.fin M.value M.steps M.seen (Q3n p M.words)∧Ext wB w'
theorem Qm9 {α:Type} [Inhabited α] {l:List α} {j:Nat} (h:j < l.length):l.take (j+1)=l.take j ++ [l.getD j default]:=by
 rw [List.take_succ_eq_append_getElem h];simp [h]
theorem Qui {p:Q00} {M:Mach} {wB w1:World} {D g r:Nat} {vR vC vM vB vS vW x0 x1 x2 x3 x4:Value} (P:MSt w1 wB.heap.size g vR vC vM vB vS vW (Q1g p) M) (hM:Q3d w1 D w1.heap.size 35 2 vM (Q3n p M.words)) (hBD:wB.heap.size≤D)
  (hR:Blk w1 r 44 #[x0,x1,x2,x3,x4]) (hrB:wB.heap.size≤r) (hrD:r < D) (hx:Ext wB w1) {w2:World}
  (hw:w2=((((w1.setCell ⟨r,0,none⟩ (.int .i64 M.fin)).setCell ⟨r,1,none⟩ (.int .i64 M.value)).setCell ⟨r,2,none⟩ (.int .i64 M.steps)).setCell ⟨r,3,none⟩ vS).setCell ⟨r,4,none⟩ vM) :
  Blk w2 r 44 #[.int .i64 M.fin,.int .i64 M.value,.int .i64 M.steps,vS,vM]∧Q7z w2 wB.heap.size (.agg #[.int .i64 M.fin,.int .i64 M.value,.int .i64 M.steps,vS,vM]) M.fin M.value M.steps M.seen (Q3n p M.words)∧Ext wB w2:=by
 subst hw
 have hne:=Q09 P.sn hR (by decide)
 refine ⟨((((hR.set_ 0 _).set_ 1 _).set_ 2 _).set_ 3 _).set_ 4 _,⟨vS,vM,w1.heap.size,rfl,Q0r (Q0r (Q0r (Q0r (Q0r P.sn hne _) hne _) hne _) hne _) hne _,?_⟩,?_⟩
 ·exact (((((hM.far (p:=⟨r,0,none⟩) hrD _).far (p:=⟨r,1,none⟩) hrD _).far (p:=⟨r,2,none⟩) hrD _).far (p:=⟨r,3,none⟩) hrD _).far (p:=⟨r,4,none⟩) hrD _).mono hBD
 ·exact ((((hx.setCell hrB _).setCell hrB _).setCell hrB _).setCell hrB _).setCell hrB _
theorem Qmv {w w2:World} {k:Nat} {ws l:List Int} {base L:Nat} (h:∀ j x,j < ws.length→(ws.map (Value.int .i64))[j]? = some x→w.cell? ⟨k,j,none⟩=some x∧w.frozen? ⟨k,j,none⟩=false) (hl:l=(ws.drop base).take L) (hL:l.length=L) (hb:base+L≤ws.length) (hx:Ext w w2) :
  Src w2 1 (some ⟨k,base,none⟩) L (l.map (Value.int .i64)):=by
 refine ⟨by rw [List.length_map,hL,Nat.mul_one],(fun h=>by cases h),fun ad ha q u hu=>?_,fun u hu=>?_⟩
 ·obtain rfl:=Option.some.inj ha
  rw [Addr.add_lit]
  have hq:q < L:=by
   have:=(List.getElem?_eq_some_iff.1 hu).1
   rw [List.length_map,hL] at this
   exact this
  refine hx.kept (h (base+q) u (by omega) ?_).1
  rw [← hu,hl,List.getElem?_map,List.getElem?_map,List.getElem?_take_of_lt hq,List.getElem?_drop]
 ·simp only [List.mem_map] at hu
  obtain ⟨y,-,rfl⟩:=hu
  rfl
theorem MSt.grown_mem {w w':World} {B D g n:Nat} {vR vC vM vB vS vW u:Value} {bases:List Int} {M:Mach} {xs:List Value} (h:MSt w B g vR vC vM vB vS vW bases M) (hu:w.ownsRow D 35 1 u n xs) (hg:w.grownBy w' u.ownBlock):MSt w' B g vR vC vM vB vS vW bases M :=
 ⟨h.box.grown hg (Q09 hu h.box (by decide)),Q27 h.sn hg (fun k hk he=>Q2c hu h.sn (by decide) k hk he),Q27 h.ws hg (fun k hk he=>Q2c hu h.ws (by decide) k hk he),Q27 h.bs hg (fun k hk he=>Q2c hu h.bs (by decide) k hk he),h.len,h.hg⟩
theorem Qdt {w:World} {B k n cap:Nat} {e:TypeId} {s:Nat} {xs:List Value} (h:w.ownsRow B e s (.slice (some ⟨k,0,none⟩) n cap) n xs):n≤cap∧cap≤maxLen:=by
 rcases h.2 with ⟨h0,-⟩ | ⟨k',cap',cur,hh,a1,a2,a3,a4,-⟩
 ·cases h0
 ·simp only [Value.slice.injEq,Option.some.injEq,Addr.mk.injEq,and_true,true_and] at hh
  obtain ⟨rfl,rfl⟩:=hh
  exact ⟨a3,a4⟩
set_option maxRecDepth 100000 in
set_option maxHeartbeats 4000000 in
theorem Qcb (p:Q00) {wB:World} {g:Nat} {vR vC vB vS vW:Value} {M:Mach} (hr:Q0p p.regs=true) (hok:MOk p M) (w:World) (hp:Q29 wB (.agg #[vR,vC]) p) (hbx:Ext wB w) (h:MSt w wB.heap.size g vR vC (.slice none 0 0) vB vS vW (Q1g p) M) :
  Calls Tryz.prog 25 #[.pointer (some ⟨g,0,none⟩)] w (Qw9 p M wB):=by
 have hlen:=Q4g hr
 have htt:=Q9w hr
 have hwl:=hok.wlen
 have H64:=zh hok.w64
 have Hr:=zh hr
 have H:=zh h
 have HX:=zh hbx
 have hgl:=h.box.lt
 have Hgl:=zh hgl
 have HR:Hid (∀ W,Ext wB W→Q6g W vR p.regs):=zh (by
  obtain ⟨v1,v2,hv,hR,-⟩:=hp
  simp only [Value.agg.injEq,Array.mk.injEq,List.cons.injEq,and_true] at hv
  obtain ⟨rfl,-⟩:=hv
  exact fun W hW=>hR.ext hW)
 obtain ⟨oa,cap,rfl⟩:∃ a c,vR=.slice a p.regs.length c:=by
  obtain ⟨-,oa,cap,b,o,hv,-⟩:=HR.out wB (Ext.refl _)
  exact ⟨oa,cap,hv⟩
 obtain ⟨j0,hj0,hy0,hy1,hy2⟩:=info_parts Qbz
 obtain ⟨ob,obc,rfl⟩:=Q02 h.bs
 have hbl:=Q74 p
 obtain ⟨-,-,-,-,-,-,-,-,-,g19⟩:=h.cells
 simp only [hbl] at g19
 clear hok hr h hbx hp
 go_enter Tryz.func25,Tryz.ntmps25
 go_wp2_with fail
 obtain ⟨W0,r,hrr,hW,hx,bR⟩:=Q16 w #[.int .i64 0,.int .i64 0,.int .i64 0,.slice none 0 0,.slice none 0 0] 44
 rw [hW,hrr]
 have hWs:W0.heap.size=r+1:=by rw [← hW,← hrr];simp
 have hgr:g≠r:=by omega
 have Hgr:Hid (g < r):=zh (by omega)
 have hBr:wB.heap.size≤r:=by have:=HX.out.size;omega
 have P0:=H.out.ext hx
 have X0:=HX.out.trans hx
 have BR:=zh bR
 have HBr:=zh hBr
 clear hW hrr hx bR g19 hgl
 have HW0:=zh hWs
 go_loopw [11] (fun i wr => ∃ (j:Nat) (vM:Value),j≤p.regs.length∧i=.int .i64 j∧MSt wr wB.heap.size g (.slice oa p.regs.length cap) vC vM (.slice ob (Q1g p).length obc) vS vW (Q1g p) M∧Q3d wr W0.heap.size wr.heap.size 35 2 vM ((Q3n p M.words).take j)∧Ext wB wr∧Blk wr r 44 #[.int .i64 0,.int .i64 0,.int .i64 0,.slice none 0 0,.slice none 0 0]∧W0.heap.size≤wr.heap.size) (fun i _=>p.regs.length - (intOf i).toNat)
 case atStart=>exact ⟨0,_,by omega,rfl,P0,by simpa using Q3b _ _ _ _ _,X0,BR.out,Nat.le_refl _⟩
 case round =>
  obtain ⟨j,vM,hj,rfl,P,hMo,hE,bR,hWr⟩:=hrel
  have X:=zh hE
  have PP:=zh P
  have bR:=zh bR
  have hMo:=zh hMo
  have hgl:=P.box.lt
  by_cases hlt:j < p.regs.length
  ·have hR:=HR.out wr hE
   obtain ⟨-,oa',cap',b,o,hv,hc1,hc2,hrow⟩:=hR
   simp only [Value.slice.injEq,true_and] at hv
   obtain ⟨rfl,rfl⟩:=hv
   have hix:=Q50 (cap:=cap) hrow.at_
   obtain ⟨e0,e1⟩:=hrow.reg j hlt
   have hlog:=Q6o Hr.out _ (Q25 hlt)
   have hbe:=Qch p j hlt
   have hw6:Q0t (p.regs.getD j default)≤64:=Q6s _ hlog.2
   have hw1:0 < Q0t (p.regs.getD j default):=Qfv _
   have Hrl:=zh (Qmy (ws:=M.words) hwl hlt)
   have Hrg:=zh (Qgf (p:=p) M.words hlt)
   have Htk:=zh (Qm9 (l:=Q3n p M.words) (j:=j) (by rw [Qcx];exact hlt))
   have Htl:Hid (((Q3n p M.words).take j).length=j):=zh (by rw [List.length_take,Qcx];omega)
   obtain ⟨g0,-,-,-,-,-,g6,g17,-,g19⟩:=P.cells
   obtain ⟨kb,capb,hvb,hkb,hbs⟩:=Q34 P.bs (show 0 < (Q1g p).length by rw [Q74];omega)
   obtain ⟨b19,-⟩:=hbs j _ (by rw [Q74];omega) (Qff p hlt)
   simp only [Value.slice.injEq,true_and] at hvb
   obtain ⟨rfl,rfl⟩:=hvb
   have hixb:=Qk0 kb p.regs.length obc
   generalize p.regs.getD j default=rg0 at *
   clear hE P hrow hc1 hc2 hbs
   go_wp2_with fail
   (with_reducible refine (Q78 rg0 hlog.1 hlog.2 wr).mono ?_)
   rintro e w1 ⟨rfl,hx⟩
   generalize Q0t rg0=L at *
   have X:=zh (X.out.trans hx)
   have PP:=zh (PP.out.ext hx)
   have bR:=zh (bR.out.ext hx)
   have hMo:=zh (hMo.out.below (Below.mono hx (Nat.le_refl _)))
   have g6:=Q0i hx g6
   have g17:=Q0i hx g17
   have hWr1:=hx.size
   obtain ⟨kw,capw,hvw,hkw,hws⟩:=Q34 PP.out.ws (show 0 < M.words.length by omega)
   subst hvw
   have hcapw:=Qdt PP.out.ws
   obtain ⟨vs,q1,q2,q3,q4,q5⟩:=hMo.out
   rw [Htl.out] at q2
   obtain ⟨om,omc,rfl⟩:=Q02 q2
   have hBW:wB.heap.size≤W0.heap.size:=by omega
   have hwr:IntKind.i64.wrap ((Q0n p j:Int)+(L:Int))=(Q0n p j:Int)+(L:Int):=Go.IntWalk.i64_in _ (by omega)
   have Hws:=zh hws
   have hsA:0≤(Q0n p j:Int)+(L:Int):=by omega
   have hsB:(Q0n p j:Int)+(L:Int)≤(capw:Int):=by have:=hcapw.1;omega
   have hsC:((Q0n p j:Int)+(L:Int)).toNat=Q0n p j+L:=by omega
   have hsD:¬ capw=Q0n p j:=by have:=hcapw.1;omega
   clear hx e0 e1 g0 g19 b19 hws
   go_upto_region 5 with fail
   have k6:∀ W,Ext w1 W→W.cell? ⟨g,6,none⟩=some (.slice om j omc):=fun _ h=>h.kept g6.1
   have k17:∀ W,Ext w1 W→W.cell? ⟨g,17,none⟩=some (.slice (some ⟨kw,0,none⟩) M.words.length capw):=fun _ h=>h.kept g17.1
   refine Q23 [16,17,18,19,20,21,22] 2 (by kernel_rfl) (by kernel_rfl) ?_
   repeat (first | (refine Q1x ?_ ?_;(decide)) | (refine Q1o ?_ ?_ ?_;(decide);(first | rfl | (focus (go_simp;done)));apply Exists.intro;refine ⟨fun wc hE=>?_,?_⟩;(go_simp;exact rfl);go_simp) | (refine Q1v ?_ ?_ ?_;(decide);(focus (go_simp;done));go_simp))
   refine Q1w ?_
   intro w2 hx
   clear k6 k17
   have X2:=X.out.trans hx
   have hsrc:=Qmv Hws.out Hrg.out Hrl.out (show Q0n p j+L≤M.words.length by omega) hx
   have Hsrc:=zh hsrc
   refine Q01 rfl ?_
   go_wp2_with fail
   (with_reducible refine (Q7t Hsrc.out (by omega)).mono ?_)
   rintro e w3 ⟨v',rfl,hv',hx3⟩
   obtain ⟨o3,c3,rfl⟩:=Q02 hv'
   have hx13:=hx.trans hx3
   have hat1:∀ b,(Value.slice o3 L c3).ownBlock=some b→w1.heap.size≤b:=fun b hb=>Nat.le_trans hx.size (Q17 hv' b hb)
   have hv':=Q4u hv' (show W0.heap.size≤w2.heap.size by have:=hx.size;omega)
   go_wp2
   try refine ⟨hx13,?_⟩
   refine Q01 rfl ?_
   go_wp2
   try refine ⟨hx13.alloc _,?_⟩
   refine Q1q (Q0c rfl (Q0c rfl (Q0c rfl (Q0c rfl (Q0c rfl (Q22)))))) ?_
   refine Q1b _ rfl _ _ 29 rfl W0.heap.size 35 j0 _ 1 24 Tryz.underlying29 hj0 hy0 hy1 hy2 rfl (by decide) _ _ _ rfl (Q1r (Q19 q2 hx13)) (some ⟨w3.heap.size,0,none⟩) 1 1 [.slice o3 L c3] rfl ?c1 ?c3 ?c4 ?c5 ?_
   case c1=>exact Q1y (size:=1) (Blk.new w3 35 #[.slice o3 L c3]) rfl (by simp [Value.oneCell'])
   case c3=>unfold maxLen;omega
   case c4=>omega
   case c5=>have:=hx13.size;simp;omega
   intro v2' w4 hown hgrow hat
   clear hat
   obtain ⟨o5,c5,rfl⟩:=Q02 hown
   obtain ⟨v2,hv2⟩:∃ v2,v2=Value.slice o5 (j+1) c5:=⟨_,rfl⟩
   rw [← hv2] at hown
   have hgrow:(w3.alloc (.cells #[.slice o3 L c3] 35)).grownBy w4 (Value.slice om j omc).ownBlock:=hgrow
   have hxa:=hx13.alloc (.cells #[.slice o3 L c3] 35)
   have q2a:(w3.alloc (.cells #[.slice o3 L c3] 35)).ownsRow W0.heap.size 35 1 (.slice om j omc) j vs:=Q19 q2 hxa
   have HM4:Hid (Q3d w4 W0.heap.size w4.heap.size 35 2 v2 ((Q3n p M.words).take (j+1))):=zh (by
    rw [Htk.out]
    exact Qqs (wr:=w1) (w1:=w3) (out:=.slice om j omc) (by decide) q1 (by rw [Htl.out];exact q2) (fun i hi=>(q4 i hi).1) q5 hxa (Q1r (by rw [Hrl.out];exact hv')) hat1 (by rw [Htl.out];exact hown) hgrow)
   have P4:=(PP.out.ext hxa).grown_mem q2a hgrow
   have bR4:=(bR.out.ext hxa).grown hgrow (Q09 q2a (bR.out.ext hxa) (by decide))
   have X4:=(X.out.trans hxa).grown hgrow (fun k hk=>Nat.le_trans hBW (Q17 q2a k hk))
   have hWr4:W0.heap.size≤w4.heap.size:=by have:=hgrow.size;have:=hxa.size;omega
   obtain ⟨-,-,-,-,-,-,g6,-,-,-⟩:=P4.cells
   have hg4:=P4.box.lt
   have P5:=zh (P4.mem_ v2)
   have bR5:=zh (bR4.far (p:=⟨g,6,none⟩) hgr.symm v2)
   have X5:=zh (X4.setCell (p:=⟨g,6,none⟩) PP.out.hg v2)
   have HM5:Hid (Q3d (w4.setCell ⟨g,6,none⟩ v2) W0.heap.size (w4.setCell ⟨g,6,none⟩ v2).heap.size 35 2 v2 ((Q3n p M.words).take (j+1))):=zh (by
    rw [Q3v]
    exact HM4.out.far (p:=⟨g,6,none⟩) (by have:=Hgr.out;have:=HW0.out;simp only;omega) v2)
   have hWr5:W0.heap.size≤(w4.setCell ⟨g,6,none⟩ v2).heap.size:=by rw [Q3v];exact hWr4
   have HWr5:=zh hWr5
   subst hv2
   clear hown hgrow hxa q2a P4 bR4 X4 hWr4 hWr5 hx hx3 hx13 hv' hat1
   go_wp2
   go_roundw
   case rel=>exact ⟨j+1,_,by omega,by go_num,P5.out,HM5.out,X5.out,bR5.out,HWr5.out⟩
   case measure=>first | (simp [intOf];done) | (simp [intOf];omega)
  ·have hje:j=p.regs.length:=by omega
   subst hje
   have hlt2:decide ((p.regs.length:Int) < (p.regs.length:Int))=false:=by simp
   have hMo:Hid (Q3d wr W0.heap.size wr.heap.size 35 2 vM (Q3n p M.words)):=zh (by
    have:=hMo.out
    rw [List.take_of_length_le (by rw [Qcx];omega)] at this
    exact this)
   obtain ⟨-,-,g2,g3,g4,g5,g6,-,-,-⟩:=P.cells
   have r0:wr.cell? ⟨r,0,none⟩=some (.int .i64 0)∧wr.frozen? ⟨r,0,none⟩=false:=⟨by rw [bR.out.cell];rfl,bR.out.frozen _⟩
   have r1:wr.cell? ⟨r,1,none⟩=some (.int .i64 0)∧wr.frozen? ⟨r,1,none⟩=false:=⟨by rw [bR.out.cell];rfl,bR.out.frozen _⟩
   have r2:wr.cell? ⟨r,2,none⟩=some (.int .i64 0)∧wr.frozen? ⟨r,2,none⟩=false:=⟨by rw [bR.out.cell];rfl,bR.out.frozen _⟩
   have r3:wr.cell? ⟨r,3,none⟩=some (.slice none 0 0)∧wr.frozen? ⟨r,3,none⟩=false:=⟨by rw [bR.out.cell];rfl,bR.out.frozen _⟩
   have r4:wr.cell? ⟨r,4,none⟩=some (.slice none 0 0)∧wr.frozen? ⟨r,4,none⟩=false:=⟨by rw [bR.out.cell];rfl,bR.out.frozen _⟩
   have hrl:=bR.out.lt
   obtain ⟨ov,ovc,rfl⟩:=Q02 P.sn
   obtain ⟨om,omc,rfl⟩:∃ a c,vM=.slice a (Q3n p M.words).length c:=by
    obtain ⟨vs,h1,h2,-⟩:=hMo.out
    exact Q02 h2
   clear P hE hlt
   go_wp2
   have hE:=Qui (PP.out) hMo.out (show wB.heap.size≤W0.heap.size by have:=HW0.out;have:=HBr.out;omega) bR.out HBr.out (show r < W0.heap.size by have:=HW0.out;omega) X.out rfl
   have HE:=zh hE
   clear hE
   exact bodyPost_ret (Q4f (HE.out.1) rfl _ rfl Tryz.underlying44 rfl (by kernel_rfl)) rfl ⟨_,rfl,HE.out.2⟩
def ten:Array Value:=regV (List.replicate 10 0)
def mayE (p:Q00) (m:List (List Int)) (fuel:Int):Int:=if (Q3f p && Q51 p m)=false then 2 else if fuel < 0∨40000 < fuel then 3 else 0
theorem Q9c {p:Q00} {m:List (List Int)} {fuel:Int} (h:mayE p m fuel=0):Q3f p=true∧Q51 p m=true∧0≤fuel∧fuel≤40000:=by
 unfold mayE at h
 split at h
 ·cases h
 ·rename_i h1
  split at h
  ·cases h
  ·rename_i h2
   simp only [Bool.not_eq_false,Bool.and_eq_true] at h1
   exact ⟨h1.1,h1.2,by omega,by omega⟩
set_option maxHeartbeats 1000000 in
theorem Qin (p:Q00) (m:List (List Int)) (fuel:Int) (v vm:Value) (w:World) (hp:Q29 w v p) (hm:Q4q w vm m) (hf:R64 fuel) :
  Calls Tryz.prog 22 #[v,vm,.int .i64 fuel] w fun e w'=>e=.returned (.int .i64 (mayE p m fuel))∧Ext w w':=by
 have HP:=zh hp
 have HM:=zh hm
 obtain ⟨a0,a1,a2,b0,b1,b2,rfl⟩:=Qoz hp
 have hf0:=hf.1
 have hf1:=hf.2
 clear hp hm
 go_enter Tryz.func22,Tryz.ntmps22
 go_wp2_with fail
 obtain ⟨W,g,hg,hW,hx,bA⟩:=Q16 w #[.slice a0 a1 a2,.slice b0 b1 b2] 28
 rw [hW,hg]
 have X:=zh hx
 clear hW hg hx
 have C:=Qaf p _ W (HP.out.ext X.out)
 cases hh:Q3f p
 ·rw [hh] at C
  have Hh:=zh hh
  clear hh
  (with_reducible refine C.mono ?_)
  rintro e w1 ⟨rfl,h1⟩
  have X:=zh (X.out.trans h1)
  clear h1 C
  go_wp2
  go_ret
  exact ⟨Q5r (by unfold mayE;simp [Hh.out]),X.out⟩
 rw [hh] at C
 have Hh:=zh hh
 clear hh
 (with_reducible refine C.mono ?_)
 rintro e w1 ⟨rfl,h1⟩
 have bA:=bA.ext h1
 have X:=zh (X.out.trans h1)
 have c0:w1.cell? ⟨g,0,none⟩=some (.slice a0 a1 a2):=by rw [bA.cell];rfl
 have c1:w1.cell? ⟨g,1,none⟩=some (.slice b0 b1 b2):=by rw [bA.cell];rfl
 clear h1 C
 go_wp2_with fail
 have C:=Qrr p _ m vm w1 (HP.out.ext X.out) (HM.out.ext X.out)
 cases hh:Q51 p m
 ·rw [hh] at C
  have Hf:=zh hh
  clear hh
  (with_reducible refine C.mono ?_)
  rintro e w2 ⟨rfl,h1⟩
  have X:=zh (X.out.trans h1)
  clear h1 C
  go_wp2
  go_ret
  exact ⟨Q5r (by unfold mayE;simp [Hf.out]),X.out⟩
 rw [hh] at C
 have Hf:=zh hh
 clear hh
 (with_reducible refine C.mono ?_)
 rintro e w2 ⟨rfl,h1⟩
 have X:=zh (X.out.trans h1)
 clear h1 C c0 c1
 by_cases q0:fuel < 0
 ·have Q:=zh q0
  go_wp2
  go_ret
  exact ⟨Q5r (by unfold mayE;simp [Hh.out,Hf.out,Q.out]),X.out⟩
 have q0d:decide (fuel < 0)=false:=by simpa using q0
 by_cases q1:40000 < fuel
 ·have Q:=zh q1
  go_wp2
  go_ret
  exact ⟨Q5r (by unfold mayE;simp [Hh.out,Hf.out,Q.out]),X.out⟩
 have q1d:decide (40000 < fuel)=false:=by simpa using q1
 have Q:=zh (show ¬ (fuel < 0∨40000 < fuel) by omega)
 go_wp2
 go_ret
 exact ⟨Q5r (by unfold mayE;rw [if_neg (by simp [Hh.out,Hf.out]),if_neg Q.out]),X.out⟩
theorem Q7f {P:Program} {w:World} {g:Nat} {T t p ty:Nat} {cs:Array Value} {fn:Func} {d:TypeDesc} {v:Value} (h:Blk w g T cs) (hr:fn.results=#[.cell p ty,.tmp t]) (tmps:Array Value) (ht:tmps.getD t undef=v) (hp:tmps.getD p undef=.pointer (some ⟨g,0,none⟩))
  (hu:P.underlying ty=some d) (hd:d.isRow=true) (hi:(P.info? ty).map (·.size)=some cs.size):(results fn tmps).run P w=.ok (.tuple #[.agg cs,v]) w:=by
 have hp':tmps[p]?.getD undef=.pointer (some ⟨g,0,none⟩):=by simpa using hp
 have ht':tmps[t]?.getD undef=v:=by simpa using ht
 have hc:w.rangeAt g 0 cs.toList:=h.range 0 cs.toList (fun j v hv=>by simpa using hv)
 have:=run_loadVar_mid w g 0 ty cs.toList d hc hu hd (by simpa using hi)
 simp only [Array.toArray_toList] at this
 simp [results,hr,hp',ht',asAddr,this]
def Q7k (w:World) (g:Nat):Nat:=match w.cell? ⟨g,4,none⟩ with
 | some (.int _ n)=>n.toNat
 | _=>0
theorem Qe1 {w:World} {B g:Nat} {vR vC vM vB vS vW:Value} {bases:List Int} {M:Mach} (h:MSt w B g vR vC vM vB vS vW bases M):Q7k w g=M.steps:=by
 unfold Q7k
 rw [h.cells.2.2.2.2.1.1]
 simp
def Qw1 (p:Q00) (m:List (List Int)) (fuel:Int) (F:Mach) (w:World) (e:Ending) (w':World):Prop :=
 ∃ u,e=.returned (.tuple #[u,.int .i64 (mayE p m fuel)])∧Ext w w'∧(mayE p m fuel=0→Q52 w' u F.fin F.value F.steps F.seen (Q3n p F.words))∧(mayE p m fuel≠0→Q52 w' u 0 0 0 [] [])
theorem Qqt (w:World):Q4q w (.slice none 0 0) []:=⟨none,0,0,0,rfl,by simp,by decide,fun _=>undef,⟨fun h=>by simp at h,fun i j hi hj=>by simp at hi⟩,fun i hi=>by simp at hi⟩
theorem Qb8 (w:World):Q52 w (.agg #[.int .i64 0,.int .i64 0,.int .i64 0,.slice none 0 0,.slice none 0 0]) 0 0 0 [] []:=⟨_,_,rfl,Qnn w,Qqt w⟩
theorem Qb7 {p:Q00} {F:Mach} {wB w0 w1:World} {r:Nat} {vs vm x0 x1 x2 x3 x4:Value} (hS:Q7z w1 wB.heap.size (.agg #[.int .i64 F.fin,.int .i64 F.value,.int .i64 F.steps,vs,vm]) F.fin F.value F.steps F.seen (Q3n p F.words)) (h64:Q1p F.words)
  (hR:Blk w1 r 44 #[x0,x1,x2,x3,x4]) (hr:r < wB.heap.size) (hr0:w0.heap.size≤r) (hx:Ext w0 wB) (hx1:Ext wB w1) {w2:World}
  (hw:w2=((((w1.setCell ⟨r,0,none⟩ (.int .i64 F.fin)).setCell ⟨r,1,none⟩ (.int .i64 F.value)).setCell ⟨r,2,none⟩ (.int .i64 F.steps)).setCell ⟨r,3,none⟩ vs).setCell ⟨r,4,none⟩ vm) :
  Blk w2 r 44 #[.int .i64 F.fin,.int .i64 F.value,.int .i64 F.steps,vs,vm]∧Q52 w2 (.agg #[.int .i64 F.fin,.int .i64 F.value,.int .i64 F.steps,vs,vm]) F.fin F.value F.steps F.seen (Q3n p F.words)∧Ext w0 w2:=by
 subst hw
 refine ⟨((((hR.set_ 0 _).set_ 1 _).set_ 2 _).set_ 3 _).set_ 4 _,?_,?_⟩
 ·exact (((((hS.far (p:=⟨r,0,none⟩) hr _).far (p:=⟨r,1,none⟩) hr _).far (p:=⟨r,2,none⟩) hr _).far (p:=⟨r,3,none⟩) hr _).far (p:=⟨r,4,none⟩) hr _).at_ (Qli p _ R64 h64.mem)
 ·exact (((((hx.trans hx1).setCell hr0 _).setCell hr0 _).setCell hr0 _).setCell hr0 _).setCell hr0 _
set_option maxRecDepth 100000 in
set_option maxHeartbeats 8000000 in
theorem Q5b (p:Q00) (m:List (List Int)) (fuel:Int) (v vm:Value) (w:World) (hp:Q29 w v p) (hm:Q4q w vm m) (hf:R64 fuel) :
  Calls Tryz.prog 11 #[v,vm,.int .i64 fuel] w (Qw1 p m fuel (runM p fuel.toNat (Q0a m.flatten)) w):=by
 have hm64:∀ l ∈ m,∀ x ∈ l,R64 x:=by
  obtain ⟨oa,cap,b,o,rfl,hc1,hc2,vs0,hrow,hin⟩:=hm
  intro l hl x hx
  obtain ⟨i,hi,rfl⟩:=List.getElem_of_mem hl
  have:=(hin i hi).1
  simp only [List.getD_eq_getElem?_getD,List.getElem?_eq_getElem hi,Option.getD_some] at this
  exact this x hx
 have HP:=zh hp
 have HM:=zh hm
 have Hm64:=zh hm64
 have Hf:=zh hf
 obtain ⟨o1,s1,o2,s2,rfl⟩:∃ a c b d,v=.agg #[.slice a p.regs.length c,.slice b p.code.length d]:=by
  obtain ⟨v1,v2,rfl,⟨-,oa,cap,b,o,rfl,-⟩,⟨-,ob,capb,b2,o2,rfl,-⟩⟩:=hp
  exact ⟨_,_,_,_,rfl⟩
 clear hp hm hm64 hf
 generalize hF:runM p fuel.toNat (Q0a m.flatten)=F
 have HF:=zh hF
 clear hF
 go_enter Tryz.func11,Tryz.ntmps11
 go_wp2_with fail
 obtain ⟨W,gb,hg,hW,hx,bP,bR⟩:=Q14 w #[.slice o1 p.regs.length s1,.slice o2 p.code.length s2] #[.int .i64 0,.int .i64 0,.int .i64 0,.slice none 0 0,.slice none 0 0] 28 44
 rw [hW,hg]
 have X:=zh hx
 have hgb:w.heap.size≤gb:=by omega
 clear hW hg hx
 have C:=Qin p m fuel _ vm W (HP.out.ext X.out) (HM.out.ext X.out) Hf.out
 (with_reducible refine C.mono ?_)
 clear C
 rintro e w1 ⟨rfl,hx⟩
 have bP:=bP.ext hx
 have bR:=bR.ext hx
 have X:=zh (X.out.trans hx)
 have Hb:=zh hgb
 have c0:w1.cell? ⟨gb,0,none⟩=some (.slice o1 p.regs.length s1):=by rw [bP.cell];rfl
 have c1:w1.cell? ⟨gb,1,none⟩=some (.slice o2 p.code.length s2):=by rw [bP.cell];rfl
 have r0:w1.cell? ⟨gb+1,0,none⟩=some (.int .i64 0)∧w1.frozen? ⟨gb+1,0,none⟩=false:=⟨by rw [bR.cell];rfl,bR.frozen _⟩
 have r1:w1.cell? ⟨gb+1,1,none⟩=some (.int .i64 0)∧w1.frozen? ⟨gb+1,1,none⟩=false:=⟨by rw [bR.cell];rfl,bR.frozen _⟩
 have r2:w1.cell? ⟨gb+1,2,none⟩=some (.int .i64 0)∧w1.frozen? ⟨gb+1,2,none⟩=false:=⟨by rw [bR.cell];rfl,bR.frozen _⟩
 have r3:w1.cell? ⟨gb+1,3,none⟩=some (.slice none 0 0)∧w1.frozen? ⟨gb+1,3,none⟩=false:=⟨by rw [bR.cell];rfl,bR.frozen _⟩
 have r4:w1.cell? ⟨gb+1,4,none⟩=some (.slice none 0 0)∧w1.frozen? ⟨gb+1,4,none⟩=false:=⟨by rw [bR.cell];rfl,bR.frozen _⟩
 clear hx hgb
 by_cases h0:mayE p m fuel=0
 ·obtain ⟨hh,hfit,hf0,hf4⟩:=Q9c h0
  have H0:=zh h0
  have Hh:=zh hh
  have Hfit:=zh hfit
  have Hgood:=zh (Qdy hfit Hm64.out)
  rw [h0]
  go_wp2_with fail
  have hr:=(Q5m hh).1
  have Hr:=zh hr
  have C:=Ql1 p m (.slice o1 p.regs.length s1) (.slice o2 p.code.length s2) vm w1 (HM.out.ext X.out) hfit hr
  clear h0 hh hfit hr r0 r1 r2 r3 r4
  (with_reducible refine C.mono ?_)
  clear C
  rintro e w2 ⟨g,vB,vW,rfl,P0,hx0⟩
  have P0:=zh P0
  have X0:=zh hx0
  have BP0:=zh bP
  have BR0:=zh bR
  have Hfits:Hid (∀ i ∈ p.code,i.fits):=zh (by
   obtain ⟨v1,v2,hv,h1,h2⟩:=HP.out
   exact h2.1)
  have hrl:=bR.lt
  clear hx0 c0 c1 bP bR
  go_wp2_with fail
  go_loopw [] (fun wr => ∃ (M:Mach) (vS:Value),M.steps≤fuel.toNat∧Q8w p M∧runM p (fuel.toNat - M.steps) M=F∧MSt wr w1.heap.size g (.slice o1 p.regs.length s1) (.slice o2 p.code.length s2) (.slice none 0 0) vB vS vW (Q1g p) M∧Ext w1 wr) (fun wr=>fuel.toNat - Q7k wr g)
  case atStart =>
   exact ⟨Q0a m.flatten,_,by simp [Q0a],Hgood.out,by simpa [Q0a] using HF.out,P0.out,X0.out⟩
  case round =>
   obtain ⟨M,vS,hst,hgo,hrun,P,hE⟩:=hrel
   have Hgo:=zh hgo
   have Hrun:=zh hrun
   have PP:=zh P
   have XE:=zh hE
   have bP:=BP0.out.ext hE
   have c1:wr.cell? ⟨gb,1,none⟩=some (.slice o2 p.code.length s2):=by rw [bP.cell];rfl
   obtain ⟨-,-,g2,-,g4,-,-,-,g18,-⟩:=P.cells
   have hgl:=P.box.lt
   have hatle:=hgo.at_
   have hsl:=hgo.seen
   have Hmeas:=zh (Qe1 P)
   clear hgo hrun P hE bP
   by_cases hfin:M.fin=0
   ·have Hfin:=zh hfin
    rw [hfin] at g2
    clear hfin
    by_cases hlt:(M.steps:Int) < fuel
    ·by_cases hat:M.at_ < p.code.length
     ·have Hi:=zh (show p.code[M.at_]? = some (p.code.getD M.at_ default) by simp [hat])
      have Hfi:=zh (Hfits.out _ (Q25 hat))
      have hiok:=(Q5m Hh.out).2.2.2 _ (Q25 hat)
      generalize p.code.getD M.at_ default=i at *
      have hN:=zh (Qp4 Hgo.out Hi.out hiok Hfi.out (show M.steps < fuel.toNat by omega) Hfin.out Hrun.out)
      go_upto_region 6 with fail
      have k18:∀ W,Ext wr W→W.cell? ⟨g,18,none⟩=some (.int .i64 (M.at_:Int)):=fun _ h=>h.kept g18.1
      have k1:∀ W,Ext wr W→W.cell? ⟨gb,1,none⟩=some (.slice o2 p.code.length s2):=fun _ h=>h.kept c1
      refine Q0j 9 (by kernel_rfl) (by kernel_rfl) ?_
      simp only [List.take_succ_cons,List.take_zero,List.drop_succ_cons,List.drop_zero]
      repeat (first | (refine Q0d ?_ ?_ ?_;(decide);(first | rfl | (focus (go_simp;done)));apply Exists.intro;refine ⟨fun wc hE=>?_,?_⟩;(go_simp;exact rfl);go_simp) | (refine Q0e ?_ ?_ ?_;(decide);(focus (go_simp;done));go_simp))
      refine Q0f ?_
      intro wx hx
      clear k18 k1
      have PP:=zh (PP.out.ext hx)
      have XE:=zh (XE.out.trans hx)
      have g2:=Q0i hx g2
      have hgl:=PP.out.box.lt
      clear hx
      have C:=Qct p i Hi.out Hh.out Hfi.out Hgo.out.ok (by omega) (by omega) wx (HP.out.ext X.out) XE.out PP.out
      have C:=zh C
      have Hms:Hid ((Q0y p i M).steps=M.steps+1):=zh (Q9y p i M)
      clear hiok
      go_wp2_with fail
      (with_reducible refine C.out.mono ?_)
      clear C
      rintro e w3 ⟨rfl,vS3,P3,X3⟩
      have P3:=zh P3
      have X3:=zh X3
      clear g2 g4 g18 c1
      go_wp2
      go_roundw
      case rel=>exact ⟨Q0y p i M,vS3,hN.out.2.1,hN.out.1,hN.out.2.2,P3.out,X3.out⟩
      case measure =>
       have e1:=Hmeas.out
       have e2:=Qe1 P3.out
       have e3:=Hms.out
       rw [e1,e2];omega
     ·have hate:decide ((p.code.length:Int)≤(M.at_:Int))=true:=by simp;omega
      have Hlast:Hid (F={ M with fin:=2 }):=zh (by rw [← Hrun.out];exact Qny (by omega) Hfin.out (by simp;omega))
      go_upto_region 6 with fail
      have k18:∀ W,Ext wr W→W.cell? ⟨g,18,none⟩=some (.int .i64 (M.at_:Int)):=fun _ h=>h.kept g18.1
      have k1:∀ W,Ext wr W→W.cell? ⟨gb,1,none⟩=some (.slice o2 p.code.length s2):=fun _ h=>h.kept c1
      refine Q0j 9 (by kernel_rfl) (by kernel_rfl) ?_
      simp only [List.take_succ_cons,List.take_zero,List.drop_succ_cons,List.drop_zero]
      repeat (first | (refine Q0d ?_ ?_ ?_;(decide);(first | rfl | (focus (go_simp;done)));apply Exists.intro;refine ⟨fun wc hE=>?_,?_⟩;(go_simp;exact rfl);go_simp) | (refine Q0e ?_ ?_ ?_;(decide);(focus (go_simp;done));go_simp))
      refine Q0f ?_
      intro wx hx
      clear k18 k1
      have PP:=zh (PP.out.ext hx)
      have XE:=zh (XE.out.trans hx)
      have g2:=Q0i hx g2
      have hgl:=PP.out.box.lt
      clear hx
      have PE:=zh (PP.out.fin_ 2)
      have XE:=zh (XE.out.setCell (p:=⟨g,2,none⟩) PP.out.hg (.int .i64 2))
      have HOK:=zh (Hgo.out.ok.same (M':={ M with fin:=2 }) rfl rfl)
      have hgl2:g < (wx.setCell ⟨g,2,none⟩ (.int .i64 2)).heap.size:=by rw [Q3v];exact hgl
      go_wp2_with fail
      have C:=Qcb p Hr.out HOK.out _ (HP.out.ext X.out) XE.out PE.out
      (with_reducible refine C.mono ?_)
      clear C
      rintro e w4 ⟨u,rfl,hu,hx4⟩
      have HU:=zh hu
      obtain ⟨vs,vm',U,rfl,hs1,hs2⟩:=hu
      obtain ⟨os,osc,rfl⟩:=Q02 hs1
      obtain ⟨om,omk,omc,rfl⟩:∃ a b c,vm'=.slice a b c:=by
       obtain ⟨vs,h1,h2,-⟩:=hs2
       obtain ⟨a,c,h⟩:=Q02 h2
       exact ⟨a,_,c,h⟩
      have bR4:=BR0.out.ext hx4
      have r0:w4.cell? ⟨gb+1,0,none⟩=some (.int .i64 0)∧w4.frozen? ⟨gb+1,0,none⟩=false:=⟨by rw [bR4.cell];rfl,bR4.frozen _⟩
      have r1:w4.cell? ⟨gb+1,1,none⟩=some (.int .i64 0)∧w4.frozen? ⟨gb+1,1,none⟩=false:=⟨by rw [bR4.cell];rfl,bR4.frozen _⟩
      have r2:w4.cell? ⟨gb+1,2,none⟩=some (.int .i64 0)∧w4.frozen? ⟨gb+1,2,none⟩=false:=⟨by rw [bR4.cell];rfl,bR4.frozen _⟩
      have r3:w4.cell? ⟨gb+1,3,none⟩=some (.slice none 0 0)∧w4.frozen? ⟨gb+1,3,none⟩=false:=⟨by rw [bR4.cell];rfl,bR4.frozen _⟩
      have r4:w4.cell? ⟨gb+1,4,none⟩=some (.slice none 0 0)∧w4.frozen? ⟨gb+1,4,none⟩=false:=⟨by rw [bR4.cell];rfl,bR4.frozen _⟩
      have X4:=zh hx4
      have HW64:=zh HOK.out.w64
      clear hs1 hs2 hx4 g2 g4 g18 c1
      go_wp2
      have hE:=Qb7 (F:={ M with fin:=2 }) HU.out HW64.out bR4 hrl (Nat.le_succ_of_le Hb.out) X.out X4.out rfl
      have HE:=zh hE
      clear hE
      refine bodyPost_ret (Q7f (HE.out.1) rfl _ rfl rfl Tryz.underlying44 rfl (by kernel_rfl)) rfl ⟨_,by rw [H0.out];rfl,HE.out.2.2,fun _=>?_,fun h=>absurd H0.out h⟩
      rw [Hlast.out]
      exact HE.out.2.1
    ·have hlt2:decide ((M.steps:Int) < fuel)=false:=by simpa using hlt
     have Hlast:Hid (F=M):=zh (by rw [← Hrun.out,show fuel.toNat - M.steps=0 by omega];rfl)
     have PE:=PP
     have HOK:=zh Hgo.out.ok
     clear hlt
     go_wp2_with fail
     have C:=Qcb p Hr.out HOK.out _ (HP.out.ext X.out) XE.out PE.out
     (with_reducible refine C.mono ?_)
     clear C
     rintro e w4 ⟨u,rfl,hu,hx4⟩
     have HU:=zh hu
     obtain ⟨vs,vm',U,rfl,hs1,hs2⟩:=hu
     obtain ⟨os,osc,rfl⟩:=Q02 hs1
     obtain ⟨om,omk,omc,rfl⟩:∃ a b c,vm'=.slice a b c:=by
      obtain ⟨vs,h1,h2,-⟩:=hs2
      obtain ⟨a,c,h⟩:=Q02 h2
      exact ⟨a,_,c,h⟩
     have bR4:=BR0.out.ext hx4
     have r0:w4.cell? ⟨gb+1,0,none⟩=some (.int .i64 0)∧w4.frozen? ⟨gb+1,0,none⟩=false:=⟨by rw [bR4.cell];rfl,bR4.frozen _⟩
     have r1:w4.cell? ⟨gb+1,1,none⟩=some (.int .i64 0)∧w4.frozen? ⟨gb+1,1,none⟩=false:=⟨by rw [bR4.cell];rfl,bR4.frozen _⟩
     have r2:w4.cell? ⟨gb+1,2,none⟩=some (.int .i64 0)∧w4.frozen? ⟨gb+1,2,none⟩=false:=⟨by rw [bR4.cell];rfl,bR4.frozen _⟩
     have r3:w4.cell? ⟨gb+1,3,none⟩=some (.slice none 0 0)∧w4.frozen? ⟨gb+1,3,none⟩=false:=⟨by rw [bR4.cell];rfl,bR4.frozen _⟩
     have r4:w4.cell? ⟨gb+1,4,none⟩=some (.slice none 0 0)∧w4.frozen? ⟨gb+1,4,none⟩=false:=⟨by rw [bR4.cell];rfl,bR4.frozen _⟩
     have X4:=zh hx4
     have HW64:=zh HOK.out.w64
     clear hs1 hs2 hx4 g2 g4 g18 c1
     go_wp2
     have hE:=Qb7 (F:=M) HU.out HW64.out bR4 hrl (Nat.le_succ_of_le Hb.out) X.out X4.out rfl
     have HE:=zh hE
     clear hE
     refine bodyPost_ret (Q7f (HE.out.1) rfl _ rfl rfl Tryz.underlying44 rfl (by kernel_rfl)) rfl ⟨_,by rw [H0.out];rfl,HE.out.2.2,fun _=>?_,fun h=>absurd H0.out h⟩
     rw [Hlast.out]
     exact HE.out.2.1
   ·have Hlast:Hid (F=M):=zh (by rw [← Hrun.out];exact (Qo0 hfin _).symm ▸ rfl)
    have PE:=PP
    have HOK:=zh Hgo.out.ok
    have hfd:(M.fin == (0:Int))=false:=by simpa using hfin
    clear hfin
    go_wp2_with fail
    have C:=Qcb p Hr.out HOK.out _ (HP.out.ext X.out) XE.out PE.out
    (with_reducible refine C.mono ?_)
    clear C
    rintro e w4 ⟨u,rfl,hu,hx4⟩
    have HU:=zh hu
    obtain ⟨vs,vm',U,rfl,hs1,hs2⟩:=hu
    obtain ⟨os,osc,rfl⟩:=Q02 hs1
    obtain ⟨om,omk,omc,rfl⟩:∃ a b c,vm'=.slice a b c:=by
     obtain ⟨vs,h1,h2,-⟩:=hs2
     obtain ⟨a,c,h⟩:=Q02 h2
     exact ⟨a,_,c,h⟩
    have bR4:=BR0.out.ext hx4
    have r0:w4.cell? ⟨gb+1,0,none⟩=some (.int .i64 0)∧w4.frozen? ⟨gb+1,0,none⟩=false:=⟨by rw [bR4.cell];rfl,bR4.frozen _⟩
    have r1:w4.cell? ⟨gb+1,1,none⟩=some (.int .i64 0)∧w4.frozen? ⟨gb+1,1,none⟩=false:=⟨by rw [bR4.cell];rfl,bR4.frozen _⟩
    have r2:w4.cell? ⟨gb+1,2,none⟩=some (.int .i64 0)∧w4.frozen? ⟨gb+1,2,none⟩=false:=⟨by rw [bR4.cell];rfl,bR4.frozen _⟩
    have r3:w4.cell? ⟨gb+1,3,none⟩=some (.slice none 0 0)∧w4.frozen? ⟨gb+1,3,none⟩=false:=⟨by rw [bR4.cell];rfl,bR4.frozen _⟩
    have r4:w4.cell? ⟨gb+1,4,none⟩=some (.slice none 0 0)∧w4.frozen? ⟨gb+1,4,none⟩=false:=⟨by rw [bR4.cell];rfl,bR4.frozen _⟩
    have X4:=zh hx4
    have HW64:=zh HOK.out.w64
    clear hs1 hs2 hx4 g2 g4 g18 c1
    go_wp2
    have hE:=Qb7 (F:=M) HU.out HW64.out bR4 hrl (Nat.le_succ_of_le Hb.out) X.out X4.out rfl
    have HE:=zh hE
    clear hE
    refine bodyPost_ret (Q7f (HE.out.1) rfl _ rfl rfl Tryz.underlying44 rfl (by kernel_rfl)) rfl ⟨_,by rw [H0.out];rfl,HE.out.2.2,fun _=>?_,fun h=>absurd H0.out h⟩
    rw [Hlast.out]
    exact HE.out.2.1
 ·have H0:=zh h0
  have hne:(mayE p m fuel != 0)=true:=by simpa using h0
  generalize hc:mayE p m fuel=c at *
  clear h0
  go_wp2
  have hBk:=((((bR.set_ 0 (.int .i64 0)).set_ 1 (.int .i64 0)).set_ 2 (.int .i64 0)).set_ 3 (.slice none 0 0)).set_ 4 (.slice none 0 0)
  have hg0:w.heap.size≤gb+1:=Nat.le_succ_of_le Hb.out
  exact bodyPost_ret (Q7f hBk rfl _ rfl rfl Tryz.underlying44 rfl (by kernel_rfl)) rfl ⟨_,by rw [hc];rfl,((((X.out.setCell hg0 _).setCell hg0 _).setCell hg0 _).setCell hg0 _).setCell hg0 _,fun h=>absurd (hc.symm.trans h) H0.out,fun _=>Qb8 _⟩
end Go.Proofs.YtiafchefbehfbaaGreatDoor

namespace Go.Proofs.YtiafchefbehfbaaGreatDoor
open Go.RowKit
set_option linter.unusedVariables false
set_option linter.unusedSimpArgs false
structure PlOk (p:Q00) (n:Nat) (P:Plc):Prop where
 len:P.regs.length=10
 r64:Q1p P.regs
 wlen:P.words.length=Q2a p
 w64:Q1p P.words
 plen:P.past.length=Q2a p
 past:∀ l ∈ P.past,l.length≤n∧Q1p l
 at_:P.at_≤p.code.length
section
variable {p : Q00} {n m k : Nat} {P : Plc}
theorem PlOk.mono (h:PlOk p n P) (hn:n≤m):PlOk p m P:=⟨h.len,h.r64,h.wlen,h.w64,h.plen,fun l hl=>⟨Nat.le_trans (h.past l hl).1 hn,(h.past l hl).2⟩,h.at_⟩
theorem PlOk.goTo (h:PlOk p n P) (hk:k≤p.code.length):PlOk p n { P with at_:=k }:=⟨h.len,h.r64,h.wlen,h.w64,h.plen,h.past,hk⟩
theorem PlOk.reg (h:PlOk p n P) (a:Int) {v:Int} (hv:R64 v):PlOk p n { P with regs:=rset P.regs a v }:=⟨by rw [Q7e];exact h.len,h.r64.rset a hv,h.wlen,h.w64,h.plen,h.past,h.at_⟩
theorem PlOk.plain (h:PlOk p n P) {i:LIns} (hi:i.fits):PlOk p n { P with regs:=Q2w P.regs i }:=⟨by rw [Qho];exact h.len,Ql4 h.r64 hi.2.2.2.2,h.wlen,h.w64,h.plen,h.past,h.at_⟩
theorem PlOk.row (h:PlOk p n P) (x:Nat):(P.past.getD x []).length≤n∧Q1p (P.past.getD x []):=by
 by_cases hx:x < P.past.length
 ·have e:P.past.getD x []=P.past[x]:=by simp [hx]
  rw [e]
  exact h.past _ (List.getElem_mem hx)
 ·rw [List.getD_eq_getElem?_getD,List.getElem?_eq_none (by omega)]
  exact ⟨Nat.zero_le _,fun j=>by simp [R64]⟩
theorem PlOk.put (h:PlOk p n P) (x:Nat) {v:Int} (hv:R64 v):PlOk p (n+1) { P with past:=P.past.set x (P.past.getD x [] ++ [P.words.getD x 0]),words:=P.words.set x v }:=by
 refine ⟨h.len,h.r64,by simp [h.wlen],h.w64.set x hv,by simp [h.plen],fun l hl=>?_,h.at_⟩
 rcases List.mem_or_eq_of_mem_set hl with e | rfl
 ·exact ⟨by have:=(h.past l e).1;omega,(h.past l e).2⟩
 ·obtain ⟨h1,h2⟩:=h.row x
  exact ⟨by rw [List.length_append];simp only [List.length_cons,List.length_nil];omega,h2.snoc (h.w64 x)⟩
end
def bN (b:Bool):Nat:=if b then 1 else 0
structure SMid (p:Q00) (n:Nat) (S:Spc):Prop where
 pl:PlOk p n S.pl
 back:S.ahead=true→PlOk p n S.back
 s0 : -1≤S.since
 s1:S.since≤12
 s2:S.ahead=true→S.since≤11
section
variable {p : Q00} {n m k : Nat} {S : Spc}
theorem SMid.mono (h:SMid p n S) (hn:n≤m):SMid p m S:=⟨h.pl.mono hn,fun e=>(h.back e).mono hn,h.s0,h.s1,h.s2⟩
theorem SMid.goTo (h:SMid p n S) (hk:k≤p.code.length):SMid p n (S.goTo k):=⟨h.pl.goTo hk,h.back,h.s0,h.s1,h.s2⟩
theorem SMid.chosen (h:SMid p n S):SMid p n S.chosen:=⟨h.pl,h.back,h.s0,h.s1,h.s2⟩
theorem SMid.put_ (h:SMid p n S) (a:Int) {v:Int} (hv:R64 v):SMid p n (S.put_ a v):=⟨h.pl.reg a hv,h.back,h.s0,h.s1,h.s2⟩
theorem SMid.leave (h:SMid p n S):SMid p n S.leave:=by
 unfold Spc.leave
 cases e:S.ahead
 ·exact ⟨h.pl,fun _=>h.pl,by simp,by simp,by simp⟩
 ·exact h
theorem SMid.seen (h:SMid p n S) (l:List LSee):SMid p n { S with seen:=l }:=⟨h.pl,h.back,h.s0,h.s1,h.s2⟩
theorem SMid.steps (h:SMid p n S) (l:List LSee) (j:Nat):SMid p n { S with steps:=j,seen:=l }:=⟨h.pl,h.back,h.s0,h.s1,h.s2⟩
theorem SMid.returns (h:SMid p n S) (ha:S.ahead=true):SMid p n S.returns:=⟨h.back ha,fun e=>by simp [Spc.returns] at e,h.s0,h.s1,fun e=>by simp [Spc.returns] at e⟩
theorem SMid.fault (h:SMid p n S) (x:Int):SMid p n { S with fin:=x }:=⟨h.pl,h.back,h.s0,h.s1,h.s2⟩
end
theorem Qfh (b:Bool):bN b≤1:=by cases b <;> decide
theorem Qqr {p:Q00} {n:Nat} {S:Spc} {i:LIns} (h:SMid p n S) (hlt:S.pl.at_ < p.code.length) (hok:Q04 p 10 i=true) (hi:i.fits):SMid p (n+1) (doS p i S):=by
 have hj:=(Q4p hok).2.2.2.2.2.2.2.2.2.1
 have hat:S.pl.at_+1≤p.code.length:=hlt
 unfold doS
 by_cases h7:i.op=7
 ·rw [if_pos h7]
  have:=(hj (.inl h7)).2
  exact (h.goTo (by omega)).mono (Nat.le_succ _)
 rw [if_neg h7]
 by_cases h8:i.op=8
 ·rw [if_pos h8]
  have:=(hj (.inr h8)).2
  have hn:i.n.toNat≤p.code.length:=by omega
  refine SMid.mono ?_ (Nat.le_succ n)
  unfold Q4j
  simp only
  split
  ·exact (h.goTo (by split <;> assumption)).chosen
  ·exact ((h.goTo (by split <;> assumption)).chosen.leave).goTo (by split <;> assumption)
 rw [if_neg h8]
 by_cases h9:i.op=9
 ·rw [if_pos h9]
  refine SMid.mono ?_ (Nat.le_succ n)
  split
  ·exact h.goTo hat
  ·exact ⟨h.pl,h.back,h.s0,h.s1,h.s2⟩
 rw [if_neg h9]
 by_cases h12:i.op=12
 ·rw [if_pos h12]
  exact (h.goTo hat).mono (Nat.le_succ _)
 rw [if_neg h12]
 split
 ·unfold Q3h
  simp only
  split
  ·exact (h.fault 2).mono (Nat.le_succ _)
  ·split
   ·split
    ·exact ⟨(h.pl.put _ (h.pl.r64 _)).goTo (by exact hat),fun e=>(h.back e).mono (Nat.le_succ _),h.s0,h.s1,h.s2⟩
    ·refine SMid.mono ?_ (Nat.le_succ n)
     unfold Q44
     simp only
     have h1:=((h.seen (S.seen ++ [⟨2,wrap64 (↑(Q0n p i.c.toNat)+Q1u S.pl.regs i),putN i⟩])).goTo (k:=S.pl.at_+1) hat).chosen.put_ i.a (h.pl.w64 (wrap64 (↑(Q0n p i.c.toNat)+Q1u S.pl.regs i)).toNat)
     split
     ·exact h1.leave.put_ i.a ((h.pl.row _).2 _)
     ·exact h1
   ·have h1:=(h.seen (S.seen ++ [⟨2,wrap64 (↑(Q0n p i.c.toNat)+Q1u S.pl.regs i),putN i⟩])).goTo (k:=S.pl.at_+1) hat
    split
    ·exact h1.mono (Nat.le_succ _)
    ·exact (h1.put_ i.a Q4l).mono (Nat.le_succ _)
 ·exact ⟨((h.pl.plain hi).goTo (k:=S.pl.at_+1) hat).mono (Nat.le_succ _),fun e=>(h.back e).mono (Nat.le_succ _),h.s0,h.s1,h.s2⟩
theorem Qgn (p:Q00) (i:LIns) (S:Spc):(doS p i S).seen.length+bN (doS p i S).ahead≤S.seen.length+bN S.ahead+2:=by
 unfold doS
 split
 ·simp only [Spc.goTo];omega
 split
 ·unfold Q4j
  simp only
  split
  ·simp only [Spc.goTo,Spc.chosen];omega
  ·simp only [Spc.goTo,Qj4,Spc.chosen]
   refine Nat.le_trans (Nat.add_le_add_left (Qfh _) _) ?_
   omega
 split
 ·split
  ·simp only [Spc.goTo];omega
  ·simp only;omega
 split
 ·simp only [Spc.goTo];omega
 split
 ·unfold Q3h
  simp only
  split
  ·simp only;omega
  ·split
   ·split
    ·simp only [List.length_append,List.length_cons,List.length_nil];omega
    ·unfold Q44
     simp only
     split
     ·simp only [Spc.put_,Qj4,Spc.chosen,Spc.goTo,List.length_append,List.length_cons,List.length_nil]
      refine Nat.le_trans (Nat.add_le_add_left (Qfh _) _) ?_
      omega
     ·simp only [Spc.put_,Spc.chosen,Spc.goTo,List.length_append,List.length_cons,List.length_nil];omega
   ·split
    ·simp only [Spc.goTo,List.length_append,List.length_cons,List.length_nil];omega
    ·simp only [Spc.put_,Spc.goTo,List.length_append,List.length_cons,List.length_nil];omega
 ·have:(Q39 S.pl.regs i).length≤1:=by unfold Q39;split <;> simp
  simp only [List.length_append]
  omega
structure SOk (p:Q00) (S:Spc):Prop where
 mid:SMid p S.steps S
 seen:S.seen.length+bN S.ahead≤4 * S.steps+1
theorem Qd1 {p:Q00} {ws script:List Int} (hl:ws.length=Q2a p) (h64:Q1p ws):SOk p (Q1l ws script) :=
 ⟨⟨⟨by simp [Q1l],Q9p (fun x hx=>by simp only [Q1l,List.mem_replicate] at hx;rw [hx.2];exact Q4l),hl,h64,by simp [Q1l,hl],fun l hl=>by
   simp only [Q1l,List.mem_replicate] at hl
   rw [hl.2]
   exact ⟨Nat.zero_le _,fun j=>by simp [R64]⟩,by simp [Q1l]⟩,fun e=>by simp [Q1l] at e,by simp [Q1l],by simp [Q1l],fun e=>by simp [Q1l] at e⟩,by simp [Q1l,bN]⟩
theorem SOk.up {p:Q00} {S:Spc} (h:SOk p S) (ha:S.ahead=true):SOk p S.returns :=
 ⟨h.mid.returns ha,by
  have:=h.seen
  rw [ha] at this
  simp only [Spc.returns,List.length_append,List.length_cons,List.length_nil,bN,if_true] at this ⊢
  simp
  omega⟩
def begS (S:Spc):Spc:={ S with steps:=S.steps+1,seen:=S.seen ++ [⟨1,S.pl.at_,0⟩] }
def Q3z (S:Spc):Spc:={ S with since:=S.since+1 }
theorem Qga (p:Q00) (i:LIns) (S:Spc):Q2i p i S=if (doS p i (begS S)).ahead then (if Q47 i S || decide ((Q3z (doS p i (begS S))).since=12) then (Q3z (doS p i (begS S))).returns else Q3z (doS p i (begS S))) else doS p i (begS S):=rfl
theorem SOk.mid2 {p:Q00} {S:Spc} {i:LIns} (h:SOk p S) (hlt:S.pl.at_ < p.code.length) (hok:Q04 p 10 i=true) (hi:i.fits):SMid p (S.steps+1) (doS p i (begS S)):=Qqr (h.mid.steps _ _) hlt hok hi
theorem SOk.step {p:Q00} {S:Spc} {i:LIns} (h:SOk p S) (hlt:S.pl.at_ < p.code.length) (hok:Q04 p 10 i=true) (hi:i.fits):SOk p (Q2i p i S):=by
 have h1:=h.mid2 hlt hok hi
 have h2:=Qgn p i (begS S)
 have h3:=Qkp p i (begS S)
 have h4:=h.seen
 have h5:(begS S).seen.length=S.seen.length+1:=by simp [begS]
 have h6:(begS S).ahead=S.ahead:=rfl
 have h7:(begS S).steps=S.steps+1:=rfl
 rw [h5,h6] at h2
 rw [h7] at h3
 rw [Qga]
 generalize doS p i (begS S)=T at *
 split
 ·rename_i ha
  rw [ha] at h2
  have h8:bN true=1:=rfl
  rw [h8] at h2
  have hm:∀ (hs:T.since+1≤11),SMid p (S.steps+1) (Q3z T):=fun hs=>⟨h1.pl,h1.back,by have:=h1.s0;simp only [Q3z];omega,by simp only [Q3z];omega,fun _=>hs⟩
  split
  ·have hr:SMid p (S.steps+1) (Q3z T).returns:=⟨h1.back ha,fun e=>by simp [Spc.returns] at e,by have:=h1.s0;simp only [Q3z,Spc.returns];omega,by have:=h1.s2 ha;simp only [Q3z,Spc.returns];omega,fun e=>by simp [Spc.returns] at e⟩
   refine ⟨?_,?_⟩
   ·show SMid p T.steps _
    rw [h3];exact hr
   ·show (T.seen ++ [_]).length+bN false≤4 * T.steps+1
    rw [h3,List.length_append]
    simp only [List.length_cons,List.length_nil,bN]
    simp
    omega
  ·rename_i hne
   simp only [Bool.or_eq_true,decide_eq_true_eq,not_or] at hne
   have hs:=h1.s2 ha
   have hs2:T.since+1≠12:=hne.2
   refine ⟨?_,?_⟩
   ·show SMid p T.steps _
    rw [h3];exact hm (by omega)
   ·show T.seen.length+bN T.ahead≤4 * T.steps+1
    rw [h3,ha,h8]
    omega
 ·exact ⟨by rw [h3];exact h1,by rw [h3];omega⟩
theorem Qnv {p:Q00} {S:Spc} {k:Nat} (hf:S.fin≠0):runS p k S=S:=by
 cases k with
 | zero=>rfl
 | succ k=>rw [runS,if_pos hf]
theorem Qnu {p:Q00} {S:Spc} {k:Nat} (hk:0 < k) (hf:S.fin=0) (ha:S.ahead=true) (hat:p.code.length≤S.pl.at_):runS p k S=runS p k S.returns:=by
 obtain ⟨j,rfl⟩:∃ j,k=j+1:=⟨k - 1,by omega⟩
 have e1:upS p S=S.returns:=by unfold upS;rw [if_pos ⟨ha,hat⟩]
 have e2:upS p S.returns=S.returns:=by unfold upS;rw [if_neg (by simp [Spc.returns])]
 have hf2:S.returns.fin=0:=hf
 rw [runS,runS,if_neg (by omega),if_neg (by omega),e1,e2]
theorem Qnw {p:Q00} {S:Spc} {k:Nat} (hk:0 < k) (hf:S.fin=0) (ha:S.ahead=false) (hat:p.code.length≤S.pl.at_):runS p k S={ S with fin:=2 }:=by
 obtain ⟨j,rfl⟩:∃ j,k=j+1:=⟨k - 1,by omega⟩
 have e1:upS p S=S:=by unfold upS;rw [if_neg (by simp [ha])]
 have e2:p.code[S.pl.at_]? = none:=List.getElem?_eq_none hat
 rw [runS,if_neg (by omega),e1,e2]
theorem Qnx {p:Q00} {S:Spc} {k:Nat} {i:LIns} (hk:0 < k) (hf:S.fin=0) (hi:p.code[S.pl.at_]? = some i):runS p k S=runS p (k - 1) (Q2i p i S):=by
 obtain ⟨j,rfl⟩:∃ j,k=j+1:=⟨k - 1,by omega⟩
 have hlt:=(List.getElem?_eq_some_iff.1 hi).1
 have e1:upS p S=S:=by unfold upS;rw [if_neg (by omega)]
 rw [runS,if_neg (by omega),e1,hi]
 rfl
end Go.Proofs.YtiafchefbehfbaaGreatDoor

namespace Go.Proofs.YtiafchefbehfbaaGreatDoor
open Go.ChangeShapes Go.WideShapes Go.ChangeAt Go.RowKit
set_option linter.unusedVariables false
set_option linter.unusedSimpArgs false
structure RV where
 (vR vW vP vS vX bR bW bP:Value)
 (vs bs:List Value)
section
variable {wB w w' : World} {g : Nat} {vG vC : Value} {V V' : RV} {S S' : Spc}
end
section
variable {wB w : World} {g : Nat} {vG vC : Value} {V : RV} {S : Spc}
end
section
variable {w0 w w' : World} {q : Nat} {P : Plc} {bR bW bP u : Value} {bs : List Value} {r ws : List Int} {ps : List (List Int)}
end
section
variable {wB w : World} {g : Nat} {vG vC : Value} {V : RV} {S : Spc}
def Off (v:Value) (W w:World):Prop:=Turn (fun j=>v.ownBlock=some j) W w
theorem Off.kept {v x:Value} {W w:World} {b o:Nat} (h:Off v W w) (hc:W.cell? ⟨b,o,none⟩=some x) (hn:v.ownBlock≠some b):w.cell? ⟨b,o,none⟩=some x:=by
 rw [World.cell?_of_block (w:=W) (w':=w) (a:=⟨b,o,none⟩) (Turn.block h b (Q0k hc) hn)]
 exact hc
def Q6i (i:LIns) (S:Spc) (m:Int):Spc :=
 let s1:={ S with seen:=S.seen ++ [⟨2,m,putN i⟩] }
 if 0≤m∧m < S.pl.words.length then
  if Q0q i then { s1 with pl:={ s1.pl with at_:=s1.pl.at_+1,past:=s1.pl.past.set m.toNat (s1.pl.past.getD m.toNat [] ++ [s1.pl.words.getD m.toNat 0]),words:=s1.pl.words.set m.toNat (rg s1.pl.regs i.a) } }
  else Q44 i m.toNat s1
 else
  let s2:=s1.goTo (s1.pl.at_+1)
  if Q0q i then s2 else s2.put_ i.a 0
theorem Qlq {p:Q00} {i:LIns} {S:Spc} (h:(!Q3u p i (Q1u S.pl.regs i) && !S.ahead)=false):Q3h p i S=Q6i i S (wrap64 (Q0n p i.c.toNat+Q1u S.pl.regs i)):=by
 unfold Q3h
 simp only
 rw [if_neg (by rw [h];simp)]
 rfl
theorem Qhf {i:LIns} (h:Q0q i=false):putN i=0:=by unfold putN;rw [h];rfl
theorem Qhg {i:LIns} (h:Q0q i=true):putN i=1:=by unfold putN;rw [h];rfl
theorem Qo7 {i:LIns} {S:Spc} {m:Int} (h:Q0q i=false) (hm:¬ (0≤m∧m < S.pl.words.length)):Q6i i S m=(({ S with seen:=S.seen ++ [⟨2,m,0⟩] }:Spc).goTo (S.pl.at_+1)).put_ i.a 0:=by
 unfold Q6i
 simp only
 rw [if_neg hm,if_neg (by rw [h];simp),Qhf h]
theorem Qo8 {i:LIns} {S:Spc} {m:Int} (h:Q0q i=true) (hm:¬ (0≤m∧m < S.pl.words.length)):Q6i i S m=({ S with seen:=S.seen ++ [⟨2,m,1⟩] }:Spc).goTo (S.pl.at_+1):=by
 unfold Q6i
 simp only
 rw [if_neg hm,if_pos h,Qhg h]
theorem Qo5 {i:LIns} {S:Spc} {m:Int} (h:Q0q i=false) (hm:0≤m∧m < S.pl.words.length):Q6i i S m=Q44 i m.toNat { S with seen:=S.seen ++ [⟨2,m,0⟩] }:=by
 unfold Q6i
 simp only
 rw [if_pos hm,if_neg (by rw [h];simp),Qhf h]
theorem Qo6 {i:LIns} {S:Spc} {m:Int} (h:Q0q i=true) (hm:0≤m∧m < S.pl.words.length):Q6i i S m={ S with seen:=S.seen ++ [⟨2,m,1⟩],pl:={ S.pl with at_:=S.pl.at_+1,past:=S.pl.past.set m.toNat (S.pl.past.getD m.toNat [] ++ [S.pl.words.getD m.toNat 0]),words:=S.pl.words.set m.toNat (rg S.pl.regs i.a) } }:=by
 unfold Q6i
 simp only
 rw [if_pos hm,if_pos h,Qhg h]
theorem Qlr {p:Q00} {i:LIns} {S:Spc} (h:Q3u p i (Q1u S.pl.regs i)=false) (ha:S.ahead=false):Q3h p i S={ S with fin:=2 }:=by
 unfold Q3h
 simp only
 rw [if_pos (by rw [h,ha];rfl)]
end
section
variable {wB w w' : World} {g : Nat} {vG vC : Value} {V : RV} {S : Spc}
end
section
variable {wB w w' : World} {g : Nat} {vG vC vM : Value} {V : RV} {S : Spc} {ms : List (List Int)} {us : List Value}
end
def Q6l (l:List Int):Bool:=decide (l.length≤2000) && l.all fun x=>decide (0≤x)
end Go.Proofs.YtiafchefbehfbaaGreatDoor
