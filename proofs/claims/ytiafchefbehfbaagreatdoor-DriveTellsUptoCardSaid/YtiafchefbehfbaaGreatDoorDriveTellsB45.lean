/- Laid together from: Dr5, Krn. -/
import Derived.Test.YtiafchefbehfbaaGreatDoorDriveTellsB44
import Derived.Test.YtiafchefbehfbaaGreatDoorDriveTellsB14
import Derived.Test.YtiafchefbehfbaaGreatDoorDriveTellsB19

namespace Go.Proofs.YtiafchefbehfbaaGreatDoor
open Go.ChangeShapes Go.WideShapes Go.ChangeAt Go.RowKit
set_option linter.unusedVariables false
set_option linter.unusedSimpArgs false
theorem Q9i {w:World} {k T:Nat} {l:List Int} (h:Blk w k T (l.map (Value.int .i64)).toArray) (hl:∀ x ∈ l,R64 x) (hn:l.length≤1000):Q2z w (.slice (some ⟨k,0,none⟩) l.length l.length) l:=by
 refine ⟨hl,_,_,k,0,rfl,Nat.le_refl _,by unfold maxLen;omega,fun _=>rfl,fun i j hi hj=>?_⟩
 obtain rfl:j=0:=by omega
 rw [h.cell]
 simp [hi]
theorem Q8a (kw:List UInt8) (a:Int) (ha:R64 a) (k T:Nat) (w:World) (h:Blk w k T #[.int .i64 a]) (hk:kw.length≤1000) :
  Calls Tryz.prog 10 #[str kw,.slice (some ⟨k,0,none⟩) 1 1] w (Q6f kw [a] w) :=
 Qbb kw [a] _ w (Q9i (l:=[a]) h (fun x hx=>by
  simp only [List.mem_cons,List.not_mem_nil,or_false] at hx
  rw [hx]
  exact ha
 ) (by simp)) hk (by simp)
theorem Qnr (kw:List UInt8) (a b:Int) (ha:R64 a) (hb:R64 b) (k T:Nat) (w:World) (h:Blk w k T #[.int .i64 a,.int .i64 b]) (hk:kw.length≤1000) :
  Calls Tryz.prog 10 #[str kw,.slice (some ⟨k,0,none⟩) 2 2] w (Q6f kw [a,b] w) :=
 Qbb kw [a,b] _ w (Q9i (l:=[a,b]) h (fun x hx=>by
  simp only [List.mem_cons,List.not_mem_nil,or_false] at hx
  rcases hx with rfl | rfl
  ·exact ha
  ·exact hb
 ) (by simp)) hk (by simp)
theorem Qnq (kw:List UInt8) (a b c:Int) (ha:R64 a) (hb:R64 b) (hc:R64 c) (k T:Nat) (w:World) (h:Blk w k T #[.int .i64 a,.int .i64 b,.int .i64 c]) (hk:kw.length≤1000) :
  Calls Tryz.prog 10 #[str kw,.slice (some ⟨k,0,none⟩) 3 3] w (Q6f kw [a,b,c] w) :=
 Qbb kw [a,b,c] _ w (Q9i (l:=[a,b,c]) h (fun x hx=>by
  simp only [List.mem_cons,List.not_mem_nil,or_false] at hx
  rcases hx with rfl | rfl | rfl
  ·exact ha
  ·exact hb
  ·exact hc
 ) (by simp)) hk (by simp)
theorem Q89 (kw:List UInt8) (a:Int) (ha:R64 a) (k T:Nat) (w:World) (h:Blk w k T #[.int .i64 a]) (hk:kw.length≤1000) (ht:Tabs w) :
  Calls Tryz.prog 45 #[str kw,.slice (some ⟨k,0,none⟩) 1 1] w (Q6f kw [a] w) :=
 Qgq kw [a] _ w (Q9i (l:=[a]) h (fun x hx=>by
  simp only [List.mem_cons,List.not_mem_nil,or_false] at hx
  rw [hx]
  exact ha
 ) (by simp)) hk (by simp) ht
theorem Qnp (kw:List UInt8) (a b:Int) (ha:R64 a) (hb:R64 b) (k T:Nat) (w:World) (h:Blk w k T #[.int .i64 a,.int .i64 b]) (hk:kw.length≤1000) (ht:Tabs w) :
  Calls Tryz.prog 45 #[str kw,.slice (some ⟨k,0,none⟩) 2 2] w (Q6f kw [a,b] w) :=
 Qgq kw [a,b] _ w (Q9i (l:=[a,b]) h (fun x hx=>by
  simp only [List.mem_cons,List.not_mem_nil,or_false] at hx
  rcases hx with rfl | rfl
  ·exact ha
  ·exact hb
 ) (by simp)) hk (by simp) ht
theorem Qd5 (kw:List UInt8) (a b c:Int) (ha:R64 a) (hb:R64 b) (hc:R64 c) (k T:Nat) (w:World) (h:Blk w k T #[.int .i64 a,.int .i64 b,.int .i64 c]) (hk:kw.length≤1000) (ht:Tabs w) :
  Calls Tryz.prog 49 #[str kw,.slice (some ⟨k,0,none⟩) 3 3] w (Q6f kw [a,b,c] w) :=
 Qgr kw [a,b,c] _ w (Q9i (l:=[a,b,c]) h (fun x hx=>by
  simp only [List.mem_cons,List.not_mem_nil,or_false] at hx
  rcases hx with rfl | rfl | rfl
  ·exact ha
  ·exact hb
  ·exact hc
 ) (by simp)) hk (by simp) ht
set_option maxHeartbeats 4000000 in
theorem Qea (a b:Int) (ha:R64 a) (hb:R64 b) (w:World) :
  Calls Tryz.prog 15 #[.agg #[.int .i64 a,.int .i64 b]] w (Q6f badW [a,b] w):=by
 have Ha:=zh ha
 have Hb:=zh hb
 clear ha hb
 go_enter Tryz.func15,Tryz.ntmps15
 go_upto_region 1 with fail
 obtain ⟨W,g,hg,hW,hx,bF⟩:=Q16 w #[.int .i64 a,.int .i64 b] 52
 rw [hW,hg]
 have X:=zh hx
 have c0:W.cell? ⟨g,0,none⟩=some (.int .i64 a):=by rw [bF.cell];rfl
 have c1:W.cell? ⟨g,1,none⟩=some (.int .i64 b):=by rw [bF.cell];rfl
 have hgl:=bF.lt
 clear hW hg hx bF
 go_wp2_with fail
 (with_reducible refine (Qnr [98,97,100] a b Ha.out Hb.out _ _ _ (Blk.new W 2 #[.int .i64 a,.int .i64 b]) (by simp)).mono ?_)
 rintro e w1 ⟨rfl,hx⟩
 have X1:=zh ((X.out.alloc (.cells #[.int .i64 a,.int .i64 b] 2)).trans hx)
 clear hx c0 c1
 go_wp2
 go_ret
 exact ⟨rfl,X1.out⟩
set_option maxHeartbeats 4000000 in
theorem Qf4 (a b:Int) (ha:R64 a) (hb:R64 b) (w:World) (ht:Tabs w) :
  Calls Tryz.prog 81 #[.agg #[.int .i64 a,.int .i64 b]] w (Q6f badW [a,b] w):=by
 have Ha:=zh ha
 have Hb:=zh hb
 clear ha hb
 have Ht:=zh ht
 clear ht
 go_enter Tryz.func81,Tryz.ntmps81
 go_upto_region 1 with fail
 obtain ⟨W,g,hg,hW,hx,bF⟩:=Q16 w #[.int .i64 a,.int .i64 b] 52
 rw [hW,hg]
 have X:=zh hx
 have c0:W.cell? ⟨g,0,none⟩=some (.int .i64 a):=by rw [bF.cell];rfl
 have c1:W.cell? ⟨g,1,none⟩=some (.int .i64 b):=by rw [bF.cell];rfl
 have hgl:=bF.lt
 clear hW hg hx bF
 go_wp2_with fail
 (with_reducible refine (Qnp [98,97,100] a b Ha.out Hb.out _ _ _ (Blk.new W 3 #[.int .i64 a,.int .i64 b]) (by simp) (Ht.out.ext (X.out.alloc _))).mono ?_)
 rintro e w1 ⟨rfl,hx⟩
 have X1:=zh ((X.out.alloc (.cells #[.int .i64 a,.int .i64 b] 3)).trans hx)
 clear hx c0 c1
 go_wp2
 go_ret
 exact ⟨rfl,X1.out⟩
def Qeu:List UInt8:=[102,117,101,108]
def Qf3:List UInt8:=[100,111,110,101]
def Qf0:List UInt8:=[102,97,117,108,116]
def endT (fin:Int):List UInt8:=if fin=0 then Qeu else if fin=1 then Qf3 else Qf0
def ranT (E fin value:Int) (steps seen:Nat):List UInt8:=if E=0 then sayT (endT fin) [value,(steps:Int),(seen:Int)] else sayT badW [E]
def Ql6 (E fin value:Int) (steps seen:Nat) (w:World) (e:Ending) (w':World):Prop:=e=.returned (str (ranT E fin value steps seen))∧Ext w w'
theorem Qtf (W:World):(Instr.index 145 (.agg #[.string { data:=#[102,117,101,108] },.string { data:=#[100,111,110,101] },.string { data:=#[102,97,117,108,116] }]) (.int .i64 0)).run Tryz.prog W=.ok (.string { data:=#[102,117,101,108] }) W:=by kernel_rfl
theorem Qte (W:World):(Instr.index 145 (.agg #[.string { data:=#[102,117,101,108] },.string { data:=#[100,111,110,101] },.string { data:=#[102,97,117,108,116] }]) (.int .i64 1)).run Tryz.prog W=.ok (.string { data:=#[100,111,110,101] }) W:=by kernel_rfl
theorem Qtd (W:World):(Instr.index 145 (.agg #[.string { data:=#[102,117,101,108] },.string { data:=#[100,111,110,101] },.string { data:=#[102,97,117,108,116] }]) (.int .i64 2)).run Tryz.prog W=.ok (.string { data:=#[102,97,117,108,116] }) W:=by kernel_rfl
set_option maxRecDepth 100000 in
set_option maxHeartbeats 8000000 in
theorem Qca (E fin value:Int) (steps:Nat) (seen:List LSee) (mem:List (List Int)) (v:Value) (w:World) (hv:Q52 w v fin value steps seen mem) (hE:R64 E) (h0:0≤fin) (h2:fin≤2) (h64:R64 value) (hst:steps≤1000000) (ht:Tabs w) :
  Calls Tryz.prog 47 #[v,.int .i64 E] w (Ql6 E fin value steps seen.length w):=by
 obtain ⟨vs,vm,rfl,⟨os,cs,bs,us,rfl,hs1,hs2,-⟩,-⟩:=hv
 have HE:=zh hE
 have Ht:=zh ht
 have H64:=zh h64
 have hsl:=Q5h hs1 hs2
 have Hsl:Hid (R64 (seen.length:Int)):=zh ⟨by omega,by omega⟩
 have Hst:Hid (R64 (steps:Int)):=zh ⟨by omega,by omega⟩
 clear hE h64 ht
 go_enter Tryz.func47,Tryz.ntmps47
 go_upto_region 1 with fail
 obtain ⟨W,g,hg,hW,hx,bS⟩:=Q16 w #[.int .i64 fin,.int .i64 value,.int .i64 (steps:Int),.slice os seen.length cs,vm] 44
 rw [hW,hg]
 have X:=zh hx
 have bS':=bS
 have hgl:=bS.lt
 clear hW hg hx
 by_cases hE0:E=0
 ·subst hE0
  have HR:Hid (ranT 0 fin value steps seen.length=sayT (endT fin) [value,(steps:Int),(seen.length:Int)]):=zh (by unfold ranT;rw [if_pos rfl])
  have q0:∀ Wx,Ext W Wx→Wx.cell? ⟨g,0,none⟩=some (.int .i64 fin):=fun _ h=>h.kept (by rw [bS.cell];rfl)
  have q1:∀ Wx,Ext W Wx→Wx.cell? ⟨g,1,none⟩=some (.int .i64 value):=fun _ h=>h.kept (by rw [bS.cell];rfl)
  have q2:∀ Wx,Ext W Wx→Wx.cell? ⟨g,2,none⟩=some (.int .i64 (steps:Int)):=fun _ h=>h.kept (by rw [bS.cell];rfl)
  have q3:∀ Wx,Ext W Wx→Wx.cell? ⟨g,3,none⟩=some (.slice os seen.length cs):=fun _ h=>h.kept (by rw [bS.cell];rfl)
  clear bS bS'
  rcases (show fin=0∨fin=1∨fin=2 by omega) with rfl | rfl | rfl
  ·have hie:=Qtf
   go_upto_region 3 with fail
   refine Q23 [11,12,13] 2 (by kernel_rfl) (by kernel_rfl) ?_
   repeat (first | (refine Q1x ?_ ?_;(decide)) | (refine Q1o ?_ ?_ ?_;(decide);(first | rfl | (focus (go_simp;done)));apply Exists.intro;refine ⟨fun wc hE=>?_,?_⟩;(go_simp;exact rfl);go_simp) | (refine Q1v ?_ ?_ ?_;(decide);(focus (go_simp;done));go_simp))
   refine Q1w ?_
   intro w3 hx
   have X3:=zh (X.out.trans hx)
   have XX:=zh hx
   clear q0 q1 q2 q3 hx hgl
   refine Q01 rfl ?_
   go_wp2
   refine ⟨XX.out.alloc _,?_⟩
   refine Q01 rfl ?_
   go_wp2_with fail
   (with_reducible refine (Qd5 [102,117,101,108] value (steps:Int) (seen.length:Int) H64.out Hst.out Hsl.out _ _ _ (Blk.new w3 2 #[.int .i64 value,.int .i64 (steps:Int),.int .i64 (seen.length:Int)]) (by simp) (Ht.out.ext (X3.out.alloc _))).mono ?_)
   rintro e w4 ⟨rfl,hx⟩
   have X4:=zh ((X3.out.alloc (.cells #[.int .i64 value,.int .i64 (steps:Int),.int .i64 (seen.length:Int)] 2)).trans hx)
   have X4':=zh ((XX.out.alloc (.cells #[.int .i64 value,.int .i64 (steps:Int),.int .i64 (seen.length:Int)] 2)).trans hx)
   clear hx
   go_wp2
   refine ⟨X4'.out,?_⟩
   refine Q1q (Q0c rfl (Q22)) ?_
   go_wp2
   go_ret
   exact ⟨by rw [HR.out];rfl,X4.out⟩
  ·have hie:=Qte
   go_upto_region 3 with fail
   refine Q23 [11,12,13] 2 (by kernel_rfl) (by kernel_rfl) ?_
   repeat (first | (refine Q1x ?_ ?_;(decide)) | (refine Q1o ?_ ?_ ?_;(decide);(first | rfl | (focus (go_simp;done)));apply Exists.intro;refine ⟨fun wc hE=>?_,?_⟩;(go_simp;exact rfl);go_simp) | (refine Q1v ?_ ?_ ?_;(decide);(focus (go_simp;done));go_simp))
   refine Q1w ?_
   intro w3 hx
   have X3:=zh (X.out.trans hx)
   have XX:=zh hx
   clear q0 q1 q2 q3 hx hgl
   refine Q01 rfl ?_
   go_wp2
   refine ⟨XX.out.alloc _,?_⟩
   refine Q01 rfl ?_
   go_wp2_with fail
   (with_reducible refine (Qd5 [100,111,110,101] value (steps:Int) (seen.length:Int) H64.out Hst.out Hsl.out _ _ _ (Blk.new w3 2 #[.int .i64 value,.int .i64 (steps:Int),.int .i64 (seen.length:Int)]) (by simp) (Ht.out.ext (X3.out.alloc _))).mono ?_)
   rintro e w4 ⟨rfl,hx⟩
   have X4:=zh ((X3.out.alloc (.cells #[.int .i64 value,.int .i64 (steps:Int),.int .i64 (seen.length:Int)] 2)).trans hx)
   have X4':=zh ((XX.out.alloc (.cells #[.int .i64 value,.int .i64 (steps:Int),.int .i64 (seen.length:Int)] 2)).trans hx)
   clear hx
   go_wp2
   refine ⟨X4'.out,?_⟩
   refine Q1q (Q0c rfl (Q22)) ?_
   go_wp2
   go_ret
   exact ⟨by rw [HR.out];rfl,X4.out⟩
  ·have hie:=Qtd
   go_upto_region 3 with fail
   refine Q23 [11,12,13] 2 (by kernel_rfl) (by kernel_rfl) ?_
   repeat (first | (refine Q1x ?_ ?_;(decide)) | (refine Q1o ?_ ?_ ?_;(decide);(first | rfl | (focus (go_simp;done)));apply Exists.intro;refine ⟨fun wc hE=>?_,?_⟩;(go_simp;exact rfl);go_simp) | (refine Q1v ?_ ?_ ?_;(decide);(focus (go_simp;done));go_simp))
   refine Q1w ?_
   intro w3 hx
   have X3:=zh (X.out.trans hx)
   have XX:=zh hx
   clear q0 q1 q2 q3 hx hgl
   refine Q01 rfl ?_
   go_wp2
   refine ⟨XX.out.alloc _,?_⟩
   refine Q01 rfl ?_
   go_wp2_with fail
   (with_reducible refine (Qd5 [102,97,117,108,116] value (steps:Int) (seen.length:Int) H64.out Hst.out Hsl.out _ _ _ (Blk.new w3 2 #[.int .i64 value,.int .i64 (steps:Int),.int .i64 (seen.length:Int)]) (by simp) (Ht.out.ext (X3.out.alloc _))).mono ?_)
   rintro e w4 ⟨rfl,hx⟩
   have X4:=zh ((X3.out.alloc (.cells #[.int .i64 value,.int .i64 (steps:Int),.int .i64 (seen.length:Int)] 2)).trans hx)
   have X4':=zh ((XX.out.alloc (.cells #[.int .i64 value,.int .i64 (steps:Int),.int .i64 (seen.length:Int)] 2)).trans hx)
   clear hx
   go_wp2
   refine ⟨X4'.out,?_⟩
   refine Q1q (Q0c rfl (Q22)) ?_
   go_wp2
   go_ret
   exact ⟨by rw [HR.out];rfl,X4.out⟩
 ·have q:(E != 0)=true:=by simpa using hE0
  have HR:Hid (ranT E fin value steps seen.length=sayT badW [E]):=zh (by unfold ranT;rw [if_neg hE0])
  clear bS bS'
  go_wp2_with fail
  (with_reducible refine (Q89 [98,97,100] E HE.out _ _ _ (Blk.new W 3 #[.int .i64 E]) (by simp) (Ht.out.ext (X.out.alloc _))).mono ?_)
  rintro e w4 ⟨rfl,hx⟩
  have X4:=zh ((X.out.alloc (.cells #[.int .i64 E] 3)).trans hx)
  clear hx
  go_wp2
  go_ret
  exact ⟨by rw [HR.out];rfl,X4.out⟩
set_option maxHeartbeats 8000000 in
theorem Q2x (E fin value:Int) (steps n:Nat) (os:Option Addr) (cs:Nat) (vm:Value) (w:World) (hs1:n≤cs) (hs2:cs≤maxLen) (hE:R64 E) (h0:0≤fin) (h2:fin≤2) (h64:R64 value) (hst:steps≤1000000) :
  Calls Tryz.prog 12 #[.agg #[.int .i64 fin,.int .i64 value,.int .i64 (steps:Int),.slice os n cs,vm],.int .i64 E] w (Ql6 E fin value steps n w):=by
 have HE:=zh hE
 have H64:=zh h64
 have hsl:=Q5h hs1 hs2
 have Hsl:Hid (R64 (n:Int)):=zh ⟨by omega,by omega⟩
 have Hst:Hid (R64 (steps:Int)):=zh ⟨by omega,by omega⟩
 clear hE h64
 go_enter Tryz.func12,Tryz.ntmps12
 go_upto_region 1 with fail
 obtain ⟨W,g,hg,hW,hx,bS⟩:=Q16 w #[.int .i64 fin,.int .i64 value,.int .i64 (steps:Int),.slice os n cs,vm] 44
 rw [hW,hg]
 have X:=zh hx
 have BS:=zh bS
 have hgl:=bS.lt
 clear hW hg hx bS
 by_cases hE0:E=0
 ·subst hE0
  go_upto_region 4 with fail
  obtain ⟨W2,kn,hkn,hW,hx,bN⟩:=Q16 W #[str Qeu,str Qf3,str Qf0] 9
  have hW:W.alloc (.cells #[.string { data:=#[102,117,101,108] },.string { data:=#[100,111,110,101] },.string { data:=#[102,97,117,108,116] }] 9)=W2:=hW
  rw [hW,hkn]
  have X2:=zh (X.out.trans hx)
  have bS:=BS.out.ext hx
  have s0:W2.cell? ⟨g,0,none⟩=some (.int .i64 fin):=by rw [bS.cell];rfl
  have hgl:=bS.lt
  have hix:=Q5l (oa:=some ⟨kn,0,none⟩) (n:=3) (b:=kn) (o:=0) (cap:=3) (fun _=>rfl)
  have hcn:W2.cell? ⟨kn,fin.toNat,none⟩=some (str (endT fin)):=by
   rw [bN.cell]
   rcases (show fin=0∨fin=1∨fin=2 by omega) with rfl | rfl | rfl <;> rfl
  have h3:fin < 3:=by omega
  have hkl:(endT fin).length≤1000:=by unfold endT Qeu Qf3 Qf0;split;simp;split <;> simp
  have q0:∀ Wx,Ext W2 Wx→Wx.cell? ⟨g,0,none⟩=some (.int .i64 fin):=fun _ h=>h.kept s0
  have q1:∀ Wx,Ext W2 Wx→Wx.cell? ⟨g,1,none⟩=some (.int .i64 value):=fun _ h=>h.kept (by rw [bS.cell];rfl)
  have q2:∀ Wx,Ext W2 Wx→Wx.cell? ⟨g,2,none⟩=some (.int .i64 (steps:Int)):=fun _ h=>h.kept (by rw [bS.cell];rfl)
  have q3:∀ Wx,Ext W2 Wx→Wx.cell? ⟨g,3,none⟩=some (.slice os n cs):=fun _ h=>h.kept (by rw [bS.cell];rfl)
  have q4:∀ Wx,Ext W2 Wx→Wx.cell? ⟨kn,fin.toNat,none⟩=some (str (endT fin)):=fun _ h=>h.kept hcn
  have HR:Hid (ranT 0 fin value steps n=sayT (endT fin) [value,(steps:Int),(n:Int)]):=zh (by unfold ranT;rw [if_pos rfl])
  generalize endT fin=kw at *
  clear hW hkn hx bS bN hcn
  go_upto_region 6 with fail
  clear s0
  refine Q23 [12,13,14] 2 (by kernel_rfl) (by kernel_rfl) ?_
  repeat (first | (refine Q1x ?_ ?_;(decide)) | (refine Q1o ?_ ?_ ?_;(decide);(first | rfl | (focus (go_simp;done)));apply Exists.intro;refine ⟨fun wc hE=>?_,?_⟩;(go_simp;exact rfl);go_simp) | (refine Q1v ?_ ?_ ?_;(decide);(focus (go_simp;done));go_simp))
  refine Q1w ?_
  intro w3 hx
  have X3:=zh (X2.out.trans hx)
  have XX:=zh hx
  clear q0 q1 q2 q3 q4 hx hgl
  refine Q01 rfl ?_
  go_wp2
  refine ⟨XX.out.alloc _,?_⟩
  refine Q01 rfl ?_
  go_wp2_with fail
  (with_reducible refine (Qnq kw value (steps:Int) (n:Int) H64.out Hst.out Hsl.out _ _ _ (Blk.new w3 2 #[.int .i64 value,.int .i64 (steps:Int),.int .i64 (n:Int)]) hkl).mono ?_)
  rintro e w4 ⟨rfl,hx⟩
  have X4:=zh ((X3.out.alloc (.cells #[.int .i64 value,.int .i64 (steps:Int),.int .i64 (n:Int)] 2)).trans hx)
  have X4':=zh ((XX.out.alloc (.cells #[.int .i64 value,.int .i64 (steps:Int),.int .i64 (n:Int)] 2)).trans hx)
  clear hx
  go_wp2
  refine ⟨X4'.out,?_⟩
  refine Q1q (Q0c rfl (Q22)) ?_
  go_wp2
  go_ret
  exact ⟨by rw [HR.out];rfl,X4.out⟩
 ·have q:(E != 0)=true:=by simpa using hE0
  have HR:Hid (ranT E fin value steps n=sayT badW [E]):=zh (by unfold ranT;rw [if_neg hE0])
  go_wp2_with fail
  (with_reducible refine (Q8a [98,97,100] E HE.out _ _ _ (Blk.new W 2 #[.int .i64 E]) (by simp)).mono ?_)
  rintro e w4 ⟨rfl,hx⟩
  have X4:=zh ((X.out.alloc (.cells #[.int .i64 E] 2)).trans hx)
  clear hx
  go_wp2
  go_ret
  exact ⟨by rw [HR.out];rfl,X4.out⟩
theorem Qb9 {w:World} {a b c:Value} {o1 o2:Option Addr} {n n1 n2 n3:Nat} {fin value:Int} {steps:Nat} {seen:List LSee} {mem:List (List Int)} (h:Q52 w (.agg #[a,b,c,.slice o1 n n1,.slice o2 n2 n3]) fin value steps seen mem):n≤n1∧n1≤maxLen:=by
 obtain ⟨vs,vm,hv,⟨os,cs,bs,us,rfl,hs1,hs2,-⟩,-⟩:=h
 simp only [Value.agg.injEq,Array.mk.injEq,List.cons.injEq,Value.slice.injEq] at hv
 obtain ⟨-,-,-,⟨-,rfl,rfl⟩,-⟩:=hv
 exact ⟨hs1,hs2⟩
end Go.Proofs.YtiafchefbehfbaaGreatDoor
