/- Laid together from: Known, KnownOp. -/
import Derived.Test.YtiafchefbehfbaaGreatDoorDriveTellsB21
import Derived.Test.YtiafchefbehfbaaGreatDoorDriveTellsB11
import Derived.Test.YtiafchefbehfbaaGreatDoorDriveTellsB2
import Derived.Deep.RegionWith
import Derived.Deep.DeepCutAuto

namespace Go.Proofs.YtiafchefbehfbaaGreatDoor
open Go.ChangeShapes Go.WideShapes Go.ChangeAt Go.RowKit
theorem Q9j:(Tryz.prog.info? 92).map (·.size)=some 2:=by kernel_rfl
theorem Q6n {a b:Int} {s t:Bool} (h1:a=b) (h2:s=t):Ending.returned (.agg #[.int .i64 a,.bool s])=.returned (.agg #[.int .i64 b,.bool t]):=by rw [h1,h2]
set_option maxHeartbeats 1000000 in
theorem Qdw (b:Int) (s:Bool) (w:World) :
  Calls Tryz.prog 92 #[.agg #[.int .i64 b,.bool s]] w fun e w'=>e=.returned (.agg #[.int .i64 (nrm b),.bool s])∧Ext w w':=by
 by_cases h:b < 0∨17 < b
 ·have hn:nrm b=17:=by unfold nrm;rw [if_pos h]
  have Hn:=zh hn
  clear hn
  by_cases h0:b < 0
  ·go_enter Tryz.func92,Tryz.ntmps92
   go_wp2
   exact bodyPost_ret (v:=.agg #[.int .i64 17,.bool s]) (by simp [results,Tryz.results92,go_sem]) rfl ⟨Q6n Hn.out.symm rfl,((Ext.refl _).alloc _).alloc _⟩
  ·have h1:17 < b:=by omega
   clear h
   go_enter Tryz.func92,Tryz.ntmps92
   go_wp2
   exact bodyPost_ret (v:=.agg #[.int .i64 17,.bool s]) (by simp [results,Tryz.results92,go_sem]) rfl ⟨Q6n Hn.out.symm rfl,((Ext.refl _).alloc _).alloc _⟩
 ·have hn:nrm b=b:=by unfold nrm;rw [if_neg h]
  have Hn:=zh hn
  have h0:0≤b:=by omega
  have h1:b≤17:=by omega
  clear hn h
  go_enter Tryz.func92,Tryz.ntmps92
  go_wp2
  exact bodyPost_ret (v:=.agg #[.int .i64 b,.bool s]) (by simp [results,Tryz.results92,go_sem]) rfl ⟨Q6n Hn.out.symm rfl,((Ext.refl _).alloc _).alloc _⟩
theorem Qcr (w:World) (T:TypeId) (a0 a1 b0 b1 c0 c1:Value):∃ W g,w.heap.size=g∧((w.alloc (.cells #[a0,a1] T)).alloc (.cells #[b0,b1] T)).alloc (.cells #[c0,c1] T)=W∧Ext w W ∧
  (W.cell? ⟨g,0,none⟩=some a0∧W.frozen? ⟨g,0,none⟩=false)∧(W.cell? ⟨g,1,none⟩=some a1∧W.frozen? ⟨g,1,none⟩=false) ∧
  (W.cell? ⟨g+1,0,none⟩=some b0∧W.frozen? ⟨g+1,0,none⟩=false)∧(W.cell? ⟨g+1,1,none⟩=some b1∧W.frozen? ⟨g+1,1,none⟩=false) ∧
  (W.cell? ⟨g+1+1,0,none⟩=some c0∧W.frozen? ⟨g+1+1,0,none⟩=false)∧(W.cell? ⟨g+1+1,1,none⟩=some c1∧W.frozen? ⟨g+1+1,1,none⟩=false)∧Blk W (g+1+1) T #[c0,c1]:=by
 refine ⟨_,_,rfl,rfl,(((Ext.refl _).alloc _).alloc _).alloc _,?_⟩
 have h0:=((Blk.new w T #[a0,a1]).alloc (.cells #[b0,b1] T)).alloc (.cells #[c0,c1] T)
 have h1:=(Blk.new (w.alloc (.cells #[a0,a1] T)) T #[b0,b1]).alloc (.cells #[c0,c1] T)
 have h2:=Blk.new ((w.alloc (.cells #[a0,a1] T)).alloc (.cells #[b0,b1] T)) T #[c0,c1]
 simp only [World.size_alloc] at h1 h2
 exact ⟨⟨by rw [h0.cell];rfl,h0.frozen 0⟩,⟨by rw [h0.cell];rfl,h0.frozen 1⟩,⟨by rw [h1.cell];rfl,h1.frozen 0⟩,⟨by rw [h1.cell];rfl,h1.frozen 1⟩,⟨by rw [h2.cell];rfl,h2.frozen 0⟩,⟨by rw [h2.cell];rfl,h2.frozen 1⟩,h2⟩
def Qcl (w wx:World) (g:Nat) (b c:Int) (s t:Bool):Prop :=
 Ext w wx∧(wx.cell? ⟨g,0,none⟩=some (.int .i64 (nrm b))∧wx.frozen? ⟨g,0,none⟩=false)∧(wx.cell? ⟨g,1,none⟩=some (.bool s)∧wx.frozen? ⟨g,1,none⟩=false) ∧
  (wx.cell? ⟨g+1,0,none⟩=some (.int .i64 (nrm c))∧wx.frozen? ⟨g+1,0,none⟩=false)∧(wx.cell? ⟨g+1,1,none⟩=some (.bool t)∧wx.frozen? ⟨g+1,1,none⟩=false) ∧
  (wx.cell? ⟨g+1+1,0,none⟩=some (.int .i64 0)∧wx.frozen? ⟨g+1+1,0,none⟩=false)∧(wx.cell? ⟨g+1+1,1,none⟩=some (.bool false)∧wx.frozen? ⟨g+1+1,1,none⟩=false)
theorem Qdv {w w1:World} {g:Nat} {b c x y:Int} {s s' t t':Bool} (hg:w.heap.size≤g) (hE:Ext w w1) (p0:w1.cell? ⟨g,0,none⟩=some (.int .i64 x)∧w1.frozen? ⟨g,0,none⟩=false) (p1:w1.cell? ⟨g,1,none⟩=some (.bool s')∧w1.frozen? ⟨g,1,none⟩=false)
  (p2:w1.cell? ⟨g+1,0,none⟩=some (.int .i64 y)∧w1.frozen? ⟨g+1,0,none⟩=false) (p3:w1.cell? ⟨g+1,1,none⟩=some (.bool t')∧w1.frozen? ⟨g+1,1,none⟩=false)
  (p4:w1.cell? ⟨g+1+1,0,none⟩=some (.int .i64 0)∧w1.frozen? ⟨g+1+1,0,none⟩=false) (p5:w1.cell? ⟨g+1+1,1,none⟩=some (.bool false)∧w1.frozen? ⟨g+1+1,1,none⟩=false) :
  Qcl w ((((w1.setCell ⟨g,0,none⟩ (.int .i64 (nrm b))).setCell ⟨g,1,none⟩ (.bool s)).setCell ⟨g+1,0,none⟩ (.int .i64 (nrm c))).setCell ⟨g+1,1,none⟩ (.bool t)) g b c s t:=by
 refine ⟨(((hE.setCell hg _).setCell hg _).setCell (by simp;omega) _).setCell (by simp;omega) _,?_,?_,?_,?_,?_,?_⟩
 ·exact Q3t (by simp) (Q3t (by simp) (Q3t (by simp) (Q87 p0)))
 ·exact Q3t (by simp) (Q3t (by simp) (Q87 (Q3t (by simp) p1)))
 ·exact Q3t (by simp) (Q87 (Q3t (by simp) (Q3t (by simp) p2)))
 ·exact Q87 (Q3t (by simp) (Q3t (by simp) (Q3t (by simp) p3)))
 ·exact Q3t (by simp) (Q3t (by simp) (Q3t (by simp) (Q3t (by simp) p4)))
 ·exact Q3t (by simp) (Q3t (by simp) (Q3t (by simp) (Q3t (by simp) p5)))
set_option maxHeartbeats 2000000 in
theorem Qjk (b c:Int) (s t:Bool) (w:World) :
  Calls Tryz.prog 62 #[.agg #[.int .i64 b,.bool s],.agg #[.int .i64 c,.bool t]] w fun e w'=>e=.returned (.agg #[.int .i64 (max (nrm b) (nrm c)),.bool (s || t)])∧Ext w w':=by
 go_enter Tryz.func62,Tryz.ntmps62
 go_wp2
 obtain ⟨W,g,hg,hW,hE,p0,p1,p2,p3,p4,p5,_⟩:=Qcr w 92 (.int .i64 b) (.bool s) (.int .i64 c) (.bool t) (.int .i64 0) (.bool false)
 rw [hW,hg]
 have hgs:w.heap.size≤g:=by omega
 clear hW hg
 go_cut [] (fun wx=>Qcl w wx g b c s t)
 case first =>
  go_region_with (go_at_call 92;refine (Qdw _ _ _).mono ?_;rintro e w1 ⟨rfl,hx⟩;have p0:=Q0i hx p0;have p1:=Q0i hx p1;have p2:=Q0i hx p2;have p3:=Q0i hx p3;have p4:=Q0i hx p4;have p5:=Q0i hx p5)
  all_goals (go_wp2_with fail;go_meet;refine Qdv hgs ?_ p0 p1 p2 p3 p4 p5)
  all_goals (repeat' first | (with_reducible exact Ext.refl _) | (with_reducible assumption) | (with_reducible refine Ext.drew ?_) | (with_reducible refine Ext.drewN ?_ _) | (with_reducible refine Ext.alloc ?_ _) | (with_reducible refine Ext.setCell ?_ (by first | (simp;done) | (simp;omega) | omega) _) | (with_reducible refine Ext.trans ?_ (by with_reducible assumption)))
 case rest =>
  obtain ⟨hX,q0,q1,q2,q3,q4,q5⟩:=hcut
  have hgx:=hX.size
  cases s
  all_goals go_wp2
  all_goals refine bodyPost_ret (Qbc (by repeat' first | (with_reducible exact Q7c q4) | (with_reducible refine Q7b ?_)) (by repeat' first | (with_reducible exact Q7c q5) | (with_reducible refine Q7b ?_)) rfl _ rfl Tryz.underlying92 rfl Q9j) rfl ⟨Q6n (by omega) rfl,?_⟩
  all_goals (repeat' first | (with_reducible exact Ext.refl _) | (with_reducible assumption) | (with_reducible refine Ext.drew ?_) | (with_reducible refine Ext.drewN ?_ _) | (with_reducible refine Ext.alloc ?_ _) | (with_reducible refine Ext.setCell ?_ (by first | (simp;done) | (simp;omega) | omega) _) | (with_reducible refine Ext.trans ?_ (by with_reducible assumption)))
set_option maxHeartbeats 2000000 in
theorem Q6z (b c:Int) (s t:Bool) (w:World) :
  Calls Tryz.prog 66 #[.agg #[.int .i64 b,.bool s],.agg #[.int .i64 c,.bool t]] w fun e w'=>e=.returned (.agg #[.int .i64 (min (nrm b) (nrm c)),.bool s])∧Ext w w':=by
 go_enter Tryz.func66,Tryz.ntmps66
 go_wp2
 obtain ⟨W,g,hg,hW,hE,p0,p1,p2,p3,p4,p5,_⟩:=Qcr w 92 (.int .i64 b) (.bool s) (.int .i64 c) (.bool t) (.int .i64 0) (.bool false)
 rw [hW,hg]
 have hgs:w.heap.size≤g:=by omega
 clear hW hg
 go_cut [] (fun wx=>Qcl w wx g b c s t)
 case first =>
  go_region_with (go_at_call 92;refine (Qdw _ _ _).mono ?_;rintro e w1 ⟨rfl,hx⟩;have p0:=Q0i hx p0;have p1:=Q0i hx p1;have p2:=Q0i hx p2;have p3:=Q0i hx p3;have p4:=Q0i hx p4;have p5:=Q0i hx p5)
  all_goals (go_wp2_with fail;go_meet;refine Qdv hgs ?_ p0 p1 p2 p3 p4 p5)
  all_goals (repeat' first | (with_reducible exact Ext.refl _) | (with_reducible assumption) | (with_reducible refine Ext.drew ?_) | (with_reducible refine Ext.drewN ?_ _) | (with_reducible refine Ext.alloc ?_ _) | (with_reducible refine Ext.setCell ?_ (by first | (simp;done) | (simp;omega) | omega) _) | (with_reducible refine Ext.trans ?_ (by with_reducible assumption)))
 case rest =>
  obtain ⟨hX,q0,q1,q2,q3,q4,q5⟩:=hcut
  have hgx:=hX.size
  go_wp2
  all_goals refine bodyPost_ret (Qbc (by repeat' first | (with_reducible exact Q7c q4) | (with_reducible refine Q7b ?_)) (by repeat' first | (with_reducible exact Q7c q5) | (with_reducible refine Q7b ?_)) rfl _ rfl Tryz.underlying92 rfl Q9j) rfl ⟨Q6n (by omega) rfl,?_⟩
  all_goals (repeat' first | (with_reducible exact Ext.refl _) | (with_reducible assumption) | (with_reducible refine Ext.drew ?_) | (with_reducible refine Ext.drewN ?_ _) | (with_reducible refine Ext.alloc ?_ _) | (with_reducible refine Ext.setCell ?_ (by first | (simp;done) | (simp;omega) | omega) _) | (with_reducible refine Ext.trans ?_ (by with_reducible assumption)))
set_option maxHeartbeats 8000000 in
theorem Qji (op b c:Int) (s t:Bool) (w:World) :
  Calls Tryz.prog 67 #[.int .i64 op,.agg #[.int .i64 b,.bool s],.agg #[.int .i64 c,.bool t]] w fun e w'=>e=.returned (.agg #[.int .i64 (kop op (nrm b) (nrm c)),.bool (s || t)])∧Ext w w':=by
 obtain ⟨b0,b1⟩:=Q66 b
 obtain ⟨c0,c1⟩:=Q66 c
 go_enter Tryz.func67,Tryz.ntmps67
 go_wp2
 obtain ⟨W,g,hg,hW,hE,p0,p1,p2,p3,p4,p5,_⟩:=Qcr w 92 (.int .i64 b) (.bool s) (.int .i64 c) (.bool t) (.int .i64 0) (.bool false)
 rw [hW,hg]
 have hgs:w.heap.size≤g:=by omega
 clear hW hg
 go_cut [] (fun wx=>Qcl w wx g b c s t)
 case first =>
  go_region_with (go_at_call 92;refine (Qdw _ _ _).mono ?_;rintro e w1 ⟨rfl,hx⟩;have p0:=Q0i hx p0;have p1:=Q0i hx p1;have p2:=Q0i hx p2;have p3:=Q0i hx p3;have p4:=Q0i hx p4;have p5:=Q0i hx p5)
  all_goals (go_wp2_with fail;go_meet;refine Qdv hgs ?_ p0 p1 p2 p3 p4 p5)
  all_goals (repeat' first | (with_reducible exact Ext.refl _) | (with_reducible assumption) | (with_reducible refine Ext.drew ?_) | (with_reducible refine Ext.drewN ?_ _) | (with_reducible refine Ext.alloc ?_ _) | (with_reducible refine Ext.setCell ?_ (by first | (simp;done) | (simp;omega) | omega) _) | (with_reducible refine Ext.trans ?_ (by with_reducible assumption)))
 case rest =>
  obtain ⟨hX,q0,q1,q2,q3,q4,q5⟩:=hcut
  have hgx:=hX.size
  clear hE p0 p1 p2 p3 p4 p5
  by_cases h:op=1∨op=3∨op=4∨op=5∨op=6∨op=8∨op=9∨op=10
  ·rcases h with rfl | rfl | rfl | rfl | rfl | rfl | rfl | rfl
   all_goals cases s
   all_goals go_wp2
   all_goals refine bodyPost_ret (Qbc (by repeat' first | (with_reducible exact Q7c q4) | (with_reducible refine Q7b ?_)) (by repeat' first | (with_reducible exact Q7c q5) | (with_reducible refine Q7b ?_)) rfl _ rfl Tryz.underlying92 rfl Q9j) rfl ⟨Q6n (by first | (simp [kop,kopN] <;> omega) | (simp only [beq_iff_eq,beq_eq_false_iff_ne,ne_eq] at *;simp [kop,kopN] <;> omega)) rfl,?_⟩
   all_goals (repeat' first | (with_reducible exact Ext.refl _) | (with_reducible assumption) | (with_reducible refine Ext.drew ?_) | (with_reducible refine Ext.drewN ?_ _) | (with_reducible refine Ext.alloc ?_ _) | (with_reducible refine Ext.setCell ?_ (by first | (simp;done) | (simp;omega) | omega) _) | (with_reducible refine Ext.trans ?_ (by with_reducible assumption)))
  ·have Hk:=zh (Qrw (op:=op) (nrm b) (nrm c) (by omega) (by omega) (by omega) (by omega) (by omega) (by omega) (by omega) (by omega))
   have q1:(op == 1)=false:=by rw [beq_eq_false_iff_ne];omega
   have q3':(op == 3)=false:=by rw [beq_eq_false_iff_ne];omega
   have q4':(op == 4)=false:=by rw [beq_eq_false_iff_ne];omega
   have q5':(op == 5)=false:=by rw [beq_eq_false_iff_ne];omega
   have q6:(op == 6)=false:=by rw [beq_eq_false_iff_ne];omega
   have q8:(op == 8)=false:=by rw [beq_eq_false_iff_ne];omega
   have q9:(op == 9)=false:=by rw [beq_eq_false_iff_ne];omega
   have q10:(op == 10)=false:=by rw [beq_eq_false_iff_ne];omega
   clear h
   cases s
   all_goals go_wp2
   all_goals refine bodyPost_ret (Qbc (by repeat' first | (with_reducible exact Q7c q4) | (with_reducible refine Q7b ?_)) (by repeat' first | (with_reducible exact Q7c q5) | (with_reducible refine Q7b ?_)) rfl _ rfl Tryz.underlying92 rfl Q9j) rfl ⟨Q6n (by unfold kop;rw [Hk.out];rfl) rfl,?_⟩
   all_goals (repeat' first | (with_reducible exact Ext.refl _) | (with_reducible assumption) | (with_reducible refine Ext.drew ?_) | (with_reducible refine Ext.drewN ?_ _) | (with_reducible refine Ext.alloc ?_ _) | (with_reducible refine Ext.setCell ?_ (by first | (simp;done) | (simp;omega) | omega) _) | (with_reducible refine Ext.trans ?_ (by with_reducible assumption)))
end Go.Proofs.YtiafchefbehfbaaGreatDoor
