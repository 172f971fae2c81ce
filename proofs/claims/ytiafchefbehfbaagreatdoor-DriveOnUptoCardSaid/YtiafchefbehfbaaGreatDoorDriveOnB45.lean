/- Laid together from: Dr5. -/
import Derived.Test.YtiafchefbehfbaaGreatDoorDriveOnB44
import Derived.Test.YtiafchefbehfbaaGreatDoorDriveOnB14
import Derived.Test.YtiafchefbehfbaaGreatDoorDriveOnB19

namespace Go.Proofs.YtiafchefbehfbaaGreatDoor
open Go.ChangeShapes Go.WideShapes Go.ChangeAt Go.RowKit
set_option linter.unusedVariables false
set_option linter.unusedSimpArgs false
theorem Qdc {w:World} {k T:Nat} {l:List Int} (h:Blk w k T (l.map (Value.int .i64)).toArray) (hl:∀ x ∈ l,R64 x) (hn:l.length≤1000):Q2z w (.slice (some ⟨k,0,none⟩) l.length l.length) l:=by
 refine ⟨hl,_,_,k,0,rfl,Nat.le_refl _,by unfold maxLen;omega,fun _=>rfl,fun i j hi hj=>?_⟩
 obtain rfl:j=0:=by omega
 rw [h.cell]
 simp [hi]
theorem Q6u (kw:List UInt8) (a:Int) (ha:R64 a) (k T:Nat) (w:World) (h:Blk w k T #[.int .i64 a]) (hk:kw.length≤1000) (ht:Tabs w) :
  Calls Tryz.prog 45 #[str kw,.slice (some ⟨k,0,none⟩) 1 1] w (Q8x kw [a] w) :=
 Qfp kw [a] _ w (Qdc (l:=[a]) h (fun x hx=>by
  simp only [List.mem_cons,List.not_mem_nil,or_false] at hx
  rw [hx]
  exact ha
 ) (by simp)) hk (by simp) ht
theorem Qlv (kw:List UInt8) (a b:Int) (ha:R64 a) (hb:R64 b) (k T:Nat) (w:World) (h:Blk w k T #[.int .i64 a,.int .i64 b]) (hk:kw.length≤1000) (ht:Tabs w) :
  Calls Tryz.prog 45 #[str kw,.slice (some ⟨k,0,none⟩) 2 2] w (Q8x kw [a,b] w) :=
 Qfp kw [a,b] _ w (Qdc (l:=[a,b]) h (fun x hx=>by
  simp only [List.mem_cons,List.not_mem_nil,or_false] at hx
  rcases hx with rfl | rfl
  ·exact ha
  ·exact hb
 ) (by simp)) hk (by simp) ht
theorem Qc3 (kw:List UInt8) (a b c:Int) (ha:R64 a) (hb:R64 b) (hc:R64 c) (k T:Nat) (w:World) (h:Blk w k T #[.int .i64 a,.int .i64 b,.int .i64 c]) (hk:kw.length≤1000) (ht:Tabs w) :
  Calls Tryz.prog 49 #[str kw,.slice (some ⟨k,0,none⟩) 3 3] w (Q8x kw [a,b,c] w) :=
 Qfr kw [a,b,c] _ w (Qdc (l:=[a,b,c]) h (fun x hx=>by
  simp only [List.mem_cons,List.not_mem_nil,or_false] at hx
  rcases hx with rfl | rfl | rfl
  ·exact ha
  ·exact hb
  ·exact hc
 ) (by simp)) hk (by simp) ht
set_option maxHeartbeats 4000000 in
theorem Qe3 (a b:Int) (ha:R64 a) (hb:R64 b) (w:World) (ht:Tabs w) :
  Calls Tryz.prog 81 #[.agg #[.int .i64 a,.int .i64 b]] w (Q8x badW [a,b] w):=by
 have Ha:=Lib.hid ha
 have Hb:=Lib.hid hb
 clear ha hb
 have Ht:=Lib.hid ht
 clear ht
 go_enter Tryz.func81,Tryz.ntmps81
 go_upto_region 1 with fail
 obtain ⟨W,g,hg,hW,hx,bF⟩:=Q2p w #[.int .i64 a,.int .i64 b] 52
 rw [hW,hg]
 have X:=Lib.hid hx
 have c0:W.cell? ⟨g,0,none⟩=some (.int .i64 a):=by rw [bF.cell];rfl
 have c1:W.cell? ⟨g,1,none⟩=some (.int .i64 b):=by rw [bF.cell];rfl
 have hgl:=bF.lt
 clear hW hg hx bF
 go_wp2_with fail
 (with_reducible refine (Qlv [98,97,100] a b Ha.out Hb.out _ _ _ (Blk.new W 3 #[.int .i64 a,.int .i64 b]) (by simp) (Ht.out.ext (X.out.alloc _))).mono ?_)
 rintro e w1 ⟨rfl,hx⟩
 have X1:=Lib.hid ((X.out.alloc (.cells #[.int .i64 a,.int .i64 b] 3)).trans hx)
 clear hx c0 c1
 go_wp2
 go_ret
 exact ⟨rfl,X1.out⟩
def Qsj:List UInt8:=[102,117,101,108]
def Qt5:List UInt8:=[100,111,110,101]
def Qss:List UInt8:=[102,97,117,108,116]
def endT (fin:Int):List UInt8:=if fin=0 then Qsj else if fin=1 then Qt5 else Qss
def ranT (E fin value:Int) (steps seen:Nat):List UInt8:=if E=0 then sayT (endT fin) [value,(steps:Int),(seen:Int)] else sayT badW [E]
def Qv3 (E fin value:Int) (steps seen:Nat) (w:World) (e:Ending) (w':World):Prop:=e=.returned (str (ranT E fin value steps seen))∧Ext w w'
theorem Qs1 (W:World):(Instr.index 145 (.agg #[.string { data:=#[102,117,101,108] },.string { data:=#[100,111,110,101] },.string { data:=#[102,97,117,108,116] }]) (.int .i64 0)).run Tryz.prog W=.ok (.string { data:=#[102,117,101,108] }) W:=by kernel_rfl
theorem Qs0 (W:World):(Instr.index 145 (.agg #[.string { data:=#[102,117,101,108] },.string { data:=#[100,111,110,101] },.string { data:=#[102,97,117,108,116] }]) (.int .i64 1)).run Tryz.prog W=.ok (.string { data:=#[100,111,110,101] }) W:=by kernel_rfl
theorem Qrz (W:World):(Instr.index 145 (.agg #[.string { data:=#[102,117,101,108] },.string { data:=#[100,111,110,101] },.string { data:=#[102,97,117,108,116] }]) (.int .i64 2)).run Tryz.prog W=.ok (.string { data:=#[102,97,117,108,116] }) W:=by kernel_rfl
set_option maxRecDepth 100000 in
set_option maxHeartbeats 8000000 in
theorem Qbg (E fin value:Int) (steps:Nat) (seen:List LSee) (mem:List (List Int)) (v:Value) (w:World) (hv:Q58 w v fin value steps seen mem) (hE:R64 E) (h0:0≤fin) (h2:fin≤2) (h64:R64 value) (hst:steps≤1000000) (ht:Tabs w) :
  Calls Tryz.prog 47 #[v,.int .i64 E] w (Qv3 E fin value steps seen.length w):=by
 obtain ⟨vs,vm,rfl,⟨os,cs,bs,us,rfl,hs1,hs2,-⟩,-⟩:=hv
 have HE:=Lib.hid hE
 have Ht:=Lib.hid ht
 have H64:=Lib.hid h64
 have hsl:=Q5h hs1 hs2
 have Hsl:Hid (R64 (seen.length:Int)):=Lib.hid ⟨by omega,by omega⟩
 have Hst:Hid (R64 (steps:Int)):=Lib.hid ⟨by omega,by omega⟩
 clear hE h64 ht
 go_enter Tryz.func47,Tryz.ntmps47
 go_upto_region 1 with fail
 obtain ⟨W,g,hg,hW,hx,bS⟩:=Q2p w #[.int .i64 fin,.int .i64 value,.int .i64 (steps:Int),.slice os seen.length cs,vm] 44
 rw [hW,hg]
 have X:=Lib.hid hx
 have bS':=bS
 have hgl:=bS.lt
 clear hW hg hx
 by_cases hE0:E=0
 ·subst hE0
  have HR:Hid (ranT 0 fin value steps seen.length=sayT (endT fin) [value,(steps:Int),(seen.length:Int)]):=Lib.hid (by unfold ranT;rw [if_pos rfl])
  have q0:∀ Wx,Ext W Wx→Wx.cell? ⟨g,0,none⟩=some (.int .i64 fin):=fun _ h=>h.kept (by rw [bS.cell];rfl)
  have q1:∀ Wx,Ext W Wx→Wx.cell? ⟨g,1,none⟩=some (.int .i64 value):=fun _ h=>h.kept (by rw [bS.cell];rfl)
  have q2:∀ Wx,Ext W Wx→Wx.cell? ⟨g,2,none⟩=some (.int .i64 (steps:Int)):=fun _ h=>h.kept (by rw [bS.cell];rfl)
  have q3:∀ Wx,Ext W Wx→Wx.cell? ⟨g,3,none⟩=some (.slice os seen.length cs):=fun _ h=>h.kept (by rw [bS.cell];rfl)
  clear bS bS'
  rcases (show fin=0∨fin=1∨fin=2 by omega) with rfl | rfl | rfl
  ·have hie:=Qs1
   go_upto_region 3 with fail
   refine Q26 [11,12,13] 2 (by kernel_rfl) (by kernel_rfl) ?_
   repeat (first | (refine Q29 ?_ ?_;(decide)) | (refine Q23 ?_ ?_ ?_;(decide);(first | rfl | (focus (go_simp;done)));apply Exists.intro;refine ⟨fun wc hE=>?_,?_⟩;(go_simp;exact rfl);go_simp) | (refine Q27 ?_ ?_ ?_;(decide);(focus (go_simp;done));go_simp))
   refine Q28 ?_
   intro w3 hx
   have X3:=Lib.hid (X.out.trans hx)
   have XX:=Lib.hid hx
   clear q0 q1 q2 q3 hx hgl
   refine Q11 rfl ?_
   go_wp2
   refine ⟨XX.out.alloc _,?_⟩
   refine Q11 rfl ?_
   go_wp2_with fail
   (with_reducible refine (Qc3 [102,117,101,108] value (steps:Int) (seen.length:Int) H64.out Hst.out Hsl.out _ _ _ (Blk.new w3 2 #[.int .i64 value,.int .i64 (steps:Int),.int .i64 (seen.length:Int)]) (by simp) (Ht.out.ext (X3.out.alloc _))).mono ?_)
   rintro e w4 ⟨rfl,hx⟩
   have X4:=Lib.hid ((X3.out.alloc (.cells #[.int .i64 value,.int .i64 (steps:Int),.int .i64 (seen.length:Int)] 2)).trans hx)
   have X4':=Lib.hid ((XX.out.alloc (.cells #[.int .i64 value,.int .i64 (steps:Int),.int .i64 (seen.length:Int)] 2)).trans hx)
   clear hx
   go_wp2
   refine ⟨X4'.out,?_⟩
   refine Q1u (Q09 rfl (Q22)) ?_
   go_wp2
   go_ret
   exact ⟨by rw [HR.out];rfl,X4.out⟩
  ·have hie:=Qs0
   go_upto_region 3 with fail
   refine Q26 [11,12,13] 2 (by kernel_rfl) (by kernel_rfl) ?_
   repeat (first | (refine Q29 ?_ ?_;(decide)) | (refine Q23 ?_ ?_ ?_;(decide);(first | rfl | (focus (go_simp;done)));apply Exists.intro;refine ⟨fun wc hE=>?_,?_⟩;(go_simp;exact rfl);go_simp) | (refine Q27 ?_ ?_ ?_;(decide);(focus (go_simp;done));go_simp))
   refine Q28 ?_
   intro w3 hx
   have X3:=Lib.hid (X.out.trans hx)
   have XX:=Lib.hid hx
   clear q0 q1 q2 q3 hx hgl
   refine Q11 rfl ?_
   go_wp2
   refine ⟨XX.out.alloc _,?_⟩
   refine Q11 rfl ?_
   go_wp2_with fail
   (with_reducible refine (Qc3 [100,111,110,101] value (steps:Int) (seen.length:Int) H64.out Hst.out Hsl.out _ _ _ (Blk.new w3 2 #[.int .i64 value,.int .i64 (steps:Int),.int .i64 (seen.length:Int)]) (by simp) (Ht.out.ext (X3.out.alloc _))).mono ?_)
   rintro e w4 ⟨rfl,hx⟩
   have X4:=Lib.hid ((X3.out.alloc (.cells #[.int .i64 value,.int .i64 (steps:Int),.int .i64 (seen.length:Int)] 2)).trans hx)
   have X4':=Lib.hid ((XX.out.alloc (.cells #[.int .i64 value,.int .i64 (steps:Int),.int .i64 (seen.length:Int)] 2)).trans hx)
   clear hx
   go_wp2
   refine ⟨X4'.out,?_⟩
   refine Q1u (Q09 rfl (Q22)) ?_
   go_wp2
   go_ret
   exact ⟨by rw [HR.out];rfl,X4.out⟩
  ·have hie:=Qrz
   go_upto_region 3 with fail
   refine Q26 [11,12,13] 2 (by kernel_rfl) (by kernel_rfl) ?_
   repeat (first | (refine Q29 ?_ ?_;(decide)) | (refine Q23 ?_ ?_ ?_;(decide);(first | rfl | (focus (go_simp;done)));apply Exists.intro;refine ⟨fun wc hE=>?_,?_⟩;(go_simp;exact rfl);go_simp) | (refine Q27 ?_ ?_ ?_;(decide);(focus (go_simp;done));go_simp))
   refine Q28 ?_
   intro w3 hx
   have X3:=Lib.hid (X.out.trans hx)
   have XX:=Lib.hid hx
   clear q0 q1 q2 q3 hx hgl
   refine Q11 rfl ?_
   go_wp2
   refine ⟨XX.out.alloc _,?_⟩
   refine Q11 rfl ?_
   go_wp2_with fail
   (with_reducible refine (Qc3 [102,97,117,108,116] value (steps:Int) (seen.length:Int) H64.out Hst.out Hsl.out _ _ _ (Blk.new w3 2 #[.int .i64 value,.int .i64 (steps:Int),.int .i64 (seen.length:Int)]) (by simp) (Ht.out.ext (X3.out.alloc _))).mono ?_)
   rintro e w4 ⟨rfl,hx⟩
   have X4:=Lib.hid ((X3.out.alloc (.cells #[.int .i64 value,.int .i64 (steps:Int),.int .i64 (seen.length:Int)] 2)).trans hx)
   have X4':=Lib.hid ((XX.out.alloc (.cells #[.int .i64 value,.int .i64 (steps:Int),.int .i64 (seen.length:Int)] 2)).trans hx)
   clear hx
   go_wp2
   refine ⟨X4'.out,?_⟩
   refine Q1u (Q09 rfl (Q22)) ?_
   go_wp2
   go_ret
   exact ⟨by rw [HR.out];rfl,X4.out⟩
 ·have q:(E != 0)=true:=by simpa using hE0
  have HR:Hid (ranT E fin value steps seen.length=sayT badW [E]):=Lib.hid (by unfold ranT;rw [if_neg hE0])
  clear bS bS'
  go_wp2_with fail
  (with_reducible refine (Q6u [98,97,100] E HE.out _ _ _ (Blk.new W 3 #[.int .i64 E]) (by simp) (Ht.out.ext (X.out.alloc _))).mono ?_)
  rintro e w4 ⟨rfl,hx⟩
  have X4:=Lib.hid ((X.out.alloc (.cells #[.int .i64 E] 3)).trans hx)
  clear hx
  go_wp2
  go_ret
  exact ⟨by rw [HR.out];rfl,X4.out⟩
end Go.Proofs.YtiafchefbehfbaaGreatDoor
