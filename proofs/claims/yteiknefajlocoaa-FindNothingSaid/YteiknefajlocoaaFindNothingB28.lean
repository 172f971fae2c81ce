/- Laid together from: KOf, R5. -/
import Derived.Test.YteiknefajlocoaaFindNothingB27
import Derived.Test.YteiknefajlocoaaFindNothingB4
import Derived.Deep.DeepCutAuto

namespace Go.Proofs.Yteiknefajlocoaa
open Go.ChangeShapes Go.WideShapes Go.ChangeAt Go.RowKit
set_option maxHeartbeats 1000000 in
theorem Qdf (n:Int) (w:World) :
  Calls Try.prog 89 #[.int .i64 n] w fun e w'=>e=.returned (.agg #[.int .i64 (kof n),.bool false])∧Ext w w':=by
 have Hk:Hid (kof n=if n < 0∨65536≤n then (17:Int) else ((Lib.bitLen n.toNat:Nat):Int)):=rfl
 by_cases h0:n < 0
 ·go_enter Try.func89,Try.ntmps89
  go_wp2
  exact bodyPost_ret (v:=.agg #[.int .i64 17,.bool false]) (by simp [results,Try.results89,go_sem]) rfl ⟨Q3v (by rw [Hk.out,if_pos (.inl h0)]) rfl,(Ext.refl _).alloc _⟩
 by_cases h1:65536≤n
 ·go_enter Try.func89,Try.ntmps89
  go_wp2
  exact bodyPost_ret (v:=.agg #[.int .i64 17,.bool false]) (by simp [results,Try.results89,go_sem]) rfl ⟨Q3v (by rw [Hk.out,if_pos (.inr h1)]) rfl,(Ext.refl _).alloc _⟩
 have hu:IntKind.u64.wrap n=n:=IntWalk.u64_in n (by omega)
 go_enter Try.func89,Try.ntmps89
 go_wp2_with (go_at_call 124;refine (Try.bits_Len64 n _ (by omega) (by omega)).mono ?_;rintro e w' ⟨rfl,rfl⟩)
 exact bodyPost_ret (v:=.agg #[.int .i64 (Lib.bitLen n.toNat:Nat),.bool false]) (by simp [results,Try.results89,go_sem]) rfl ⟨Q3v (by rw [Hk.out,if_neg (by omega)]) rfl,(Ext.refl _).alloc _⟩
theorem Qp3 (b:Int):(if b < 0∨16 < b then 17 else b)=nrm b:=by unfold nrm;split <;> split <;> omega
set_option maxHeartbeats 1000000 in
theorem Q7l (b:Int) (s:Bool) (w:World) :
  Calls Try.prog 127 #[.agg #[.int .i64 b,.bool s]] w fun e w'=>e=.returned (.agg #[.int .i64 (nrm b),.bool s])∧Ext w w':=by
 have Hn:=Lib.hid (Qp3 b)
 by_cases h0:b < 0
 ·go_enter Try.func127,Try.ntmps127
  go_wp2
  exact bodyPost_ret (v:=.agg #[.int .i64 17,.bool s]) (by simp [results,Try.results127,go_sem]) rfl ⟨Q3v (by rw [← Hn.out,if_pos (.inl h0)]) rfl,((Ext.refl _).alloc _).alloc _⟩
 by_cases h1:16 < b
 ·go_enter Try.func127,Try.ntmps127
  go_wp2
  exact bodyPost_ret (v:=.agg #[.int .i64 17,.bool s]) (by simp [results,Try.results127,go_sem]) rfl ⟨Q3v (by rw [← Hn.out,if_pos (.inr h1)]) rfl,((Ext.refl _).alloc _).alloc _⟩
 have h0':0≤b:=by omega
 have h1':b≤16:=by omega
 go_enter Try.func127,Try.ntmps127
 go_wp2
 exact bodyPost_ret (v:=.agg #[.int .i64 b,.bool s]) (by simp [results,Try.results127,go_sem]) rfl ⟨Q3v (by rw [← Hn.out,if_neg (by omega)]) rfl,((Ext.refl _).alloc _).alloc _⟩
set_option maxHeartbeats 1000000 in
theorem Qnt (m:Nat) (hm:m≤16) (w:World) :
  Calls Try.prog 146 #[.int .i64 (m:Int)] w fun e w'=>e=.returned (.int .i64 (2 ^ m))∧w=w':=by
 go_enter Try.func146,Try.ntmps146
 go_wp2
 go_loop [3,4] (fun s i => ∃ k:Nat,k≤m∧i=.int .i64 k∧s=.int .i64 (2 ^ k)) (fun _ i=>m - (intOf i).toNat)
 case atStart=>exact ⟨0,by omega,rfl,rfl⟩
 case round =>
  obtain ⟨k,hk,rfl,rfl⟩:=hrel
  by_cases hlt:k < m
  ·have hp0:(0:Int) < 2 ^ k:=Int.pow_pos (by omega)
   have hp1:(2:Int) ^ k≤65536:=Q4g k 16 (by omega)
   have Hp:Hid ((2:Int) ^ k+2 ^ k=2 ^ (k+1)):=by show _=_;rw [Int.pow_succ];omega
   generalize (2:Int) ^ k=p at *
   go_wp2
   go_round
   case rel=>exact ⟨k+1,by omega,by go_num,by rw [Hp.out]⟩
   case measure=>first | (simp [intOf];done) | (simp [intOf];omega)
  ·obtain rfl:k=m:=by omega
   go_wp2
   go_ret
   exact ⟨rfl,rfl⟩
set_option maxHeartbeats 1000000 in
theorem Qfy (b n:Int) (s:Bool) (w:World) :
  Calls Try.prog 126 #[.agg #[.int .i64 b,.bool s],.int .i64 n] w fun e w'=>e=.returned (.bool (khas b n))∧Ext w w':=by
 obtain ⟨b0,b1⟩:=Q41 b
 go_enter Try.func126,Try.ntmps126
 go_wp2_with fail
 obtain ⟨p0,p1⟩:=Q6m w 78 (.int .i64 b) (.bool s)
 refine (Q7l _ _ _).mono ?_
 rintro e w1 ⟨rfl,hx⟩
 have p0:=Q0a hx p0
 have p1:=Q0a hx p1
 have Hr:Hid (khas b n=kfit (nrm b) n):=rfl
 obtain ⟨m,hm⟩:=Int.eq_ofNat_of_zero_le b0
 rw [hm] at b1 Hr ⊢
 clear hm b0
 by_cases h17:m=17
 ·subst h17
  go_wp2
  go_ret
  refine ⟨Q04 (by rw [Hr.out];rfl),?_⟩
  (repeat' first | (with_reducible exact Ext.refl _) | (with_reducible assumption) | (with_reducible refine Ext.drew ?_) | (with_reducible refine Ext.drewN ?_ _) | (with_reducible refine Ext.alloc ?_ _) | (with_reducible refine Ext.setCell ?_ (by first | (simp;done) | (simp;omega) | omega) _) | (with_reducible refine Ext.trans ?_ (by with_reducible assumption)))
 ·have hne:((m:Int) == 17)=false:=by rw [beq_eq_false_iff_ne];omega
  by_cases hn:0≤n
  ·go_wp2_with (go_at_call 146;refine (Qnt m (by omega) _).mono ?_;rintro e w' ⟨rfl,rfl⟩)
   all_goals go_ret
   all_goals refine ⟨Q04 ?_,?_⟩
   all_goals first | (rw [Hr.out];simp [kfit,hn];omega) | skip
   all_goals (repeat' first | (with_reducible exact Ext.refl _) | (with_reducible assumption) | (with_reducible refine Ext.drew ?_) | (with_reducible refine Ext.drewN ?_ _) | (with_reducible refine Ext.alloc ?_ _) | (with_reducible refine Ext.setCell ?_ (by first | (simp;done) | (simp;omega) | omega) _) | (with_reducible refine Ext.trans ?_ (by with_reducible assumption)))
  ·go_wp2
   all_goals go_ret
   all_goals refine ⟨Q04 ?_,?_⟩
   all_goals first | (rw [Hr.out];simp [kfit];omega) | skip
   all_goals (repeat' first | (with_reducible exact Ext.refl _) | (with_reducible assumption) | (with_reducible refine Ext.drew ?_) | (with_reducible refine Ext.drewN ?_ _) | (with_reducible refine Ext.alloc ?_ _) | (with_reducible refine Ext.setCell ?_ (by first | (simp;done) | (simp;omega) | omega) _) | (with_reducible refine Ext.trans ?_ (by with_reducible assumption)))
def Q5p (w W:World) (g:Nat) (a0 a1 b0 b1 c0 c1:Value):Prop :=
 Ext w W∧(W.cell? ⟨g,0,none⟩=some a0∧W.frozen? ⟨g,0,none⟩=false)∧(W.cell? ⟨g,1,none⟩=some a1∧W.frozen? ⟨g,1,none⟩=false) ∧
  (W.cell? ⟨g+1,0,none⟩=some b0∧W.frozen? ⟨g+1,0,none⟩=false)∧(W.cell? ⟨g+1,1,none⟩=some b1∧W.frozen? ⟨g+1,1,none⟩=false) ∧
  (W.cell? ⟨g+1+1,0,none⟩=some c0∧W.frozen? ⟨g+1+1,0,none⟩=false)∧(W.cell? ⟨g+1+1,1,none⟩=some c1∧W.frozen? ⟨g+1+1,1,none⟩=false)
section
variable {w W W' : World} {g : Nat} {a0 a1 b0 b1 c0 c1 : Value}
theorem Qe5 (w:World) (T:TypeId) (a0 a1 b0 b1 c0 c1:Value):∃ W g,w.heap.size=g∧((w.alloc (.cells #[a0,a1] T)).alloc (.cells #[b0,b1] T)).alloc (.cells #[c0,c1] T)=W∧Q5p w W g a0 a1 b0 b1 c0 c1:=by
 obtain ⟨W,g,h1,h2,h3,h4,h5,h6,h7,h8,h9,_⟩:=Q9s w T a0 a1 b0 b1 c0 c1
 exact ⟨W,g,h1,h2,h3,h4,h5,h6,h7,h8,h9⟩
theorem Q5p.ext (h:Q5p w W g a0 a1 b0 b1 c0 c1) (hx:Ext W W'):Q5p w W' g a0 a1 b0 b1 c0 c1 :=
 ⟨h.1.trans hx,Q0a hx h.2.1,Q0a hx h.2.2.1,Q0a hx h.2.2.2.1,Q0a hx h.2.2.2.2.1,Q0a hx h.2.2.2.2.2.1,Q0a hx h.2.2.2.2.2.2⟩
theorem Q5p.set01 (h:Q5p w W g a0 a1 b0 b1 c0 c1) (hg:w.heap.size≤g) (x y:Value):Q5p w ((W.setCell ⟨g,0,none⟩ x).setCell ⟨g,1,none⟩ y) g x y b0 b1 c0 c1 :=
 ⟨(h.1.setCell hg _).setCell hg _,Q1s (by simp) (Q6i h.2.1),Q6i (Q1s (by simp) h.2.2.1),Q1s (by simp) (Q1s (by simp) h.2.2.2.1),
  Q1s (by simp) (Q1s (by simp) h.2.2.2.2.1),Q1s (by simp) (Q1s (by simp) h.2.2.2.2.2.1),Q1s (by simp) (Q1s (by simp) h.2.2.2.2.2.2)⟩
theorem Q5p.set23 (h:Q5p w W g a0 a1 b0 b1 c0 c1) (hg:w.heap.size≤g) (x y:Value):Q5p w ((W.setCell ⟨g+1,0,none⟩ x).setCell ⟨g+1,1,none⟩ y) g a0 a1 x y c0 c1 :=
 ⟨(h.1.setCell (by simp;omega) _).setCell (by simp;omega) _,Q1s (by simp) (Q1s (by simp) h.2.1),Q1s (by simp) (Q1s (by simp) h.2.2.1),Q1s (by simp) (Q6i h.2.2.2.1),
  Q6i (Q1s (by simp) h.2.2.2.2.1),Q1s (by simp) (Q1s (by simp) h.2.2.2.2.2.1),Q1s (by simp) (Q1s (by simp) h.2.2.2.2.2.2)⟩
end
set_option maxHeartbeats 1000000 in
theorem Qjw (n:Int) (w:World) :
  Calls Try.prog 128 #[.int .i64 n] w fun e w'=>e=.returned (.int .i64 (if 16 < n then 17 else n))∧w=w':=by
 have Hi:=Lib.hid (rfl:(if 16 < n then 17 else n)=(if 16 < n then (17:Int) else n))
 by_cases h:16 < n
 ·rw [if_pos h]
  go_enter Try.func128,Try.ntmps128
  go_wp2
  go_ret
  exact ⟨rfl,rfl⟩
 ·rw [if_neg h]
  go_enter Try.func128,Try.ntmps128
  go_wp2
  go_ret
  exact ⟨rfl,rfl⟩
set_option maxHeartbeats 2000000 in
theorem Qmu (b c:Int) (s t:Bool) (w:World) :
  Calls Try.prog 125 #[.agg #[.int .i64 b,.bool s],.agg #[.int .i64 c,.bool t]] w fun e w'=>e=.returned (.agg #[.int .i64 (max (nrm b) (nrm c)),.bool (s || t)])∧Ext w w':=by
 go_enter Try.func125,Try.ntmps125
 go_wp2_with fail
 obtain ⟨W,g,hg,hW,H⟩:=Qe5 w 78 (.int .i64 b) (.bool s) (.int .i64 c) (.bool t) (.int .i64 0) (.bool false)
 rw [hW,hg]
 have hgs:w.heap.size≤g:=by omega
 clear hW hg
 refine (Q7l _ _ _).mono ?_
 rintro e w1 ⟨rfl,hx⟩
 have H:=H.ext hx
 clear hx
 obtain ⟨hX,q0,q1,q2,q3,q4,q5⟩:=id H
 go_wp2_with fail
 have H:=H.set01 hgs (.int .i64 (nrm b)) (.bool s)
 clear hX q0 q1 q2 q3 q4 q5
 generalize (w1.setCell ⟨g,0,none⟩ (.int .i64 (nrm b))).setCell ⟨g,1,none⟩ (.bool s)=w2 at *
 refine (Q7l _ _ _).mono ?_
 rintro e w3 ⟨rfl,hx⟩
 have H:=H.ext hx
 clear hx
 have H2:=H.set23 hgs (.int .i64 (nrm c)) (.bool t)
 obtain ⟨hX,q0,q1,q2,q3,q4,q5⟩:=H
 clear H2
 cases s
 all_goals go_wp2
 all_goals refine bodyPost_ret (Q64 (by repeat' first | (with_reducible exact Q3n q4) | (with_reducible refine Q3m ?_) | (with_reducible refine Q6w ?_)) (by repeat' first | (with_reducible exact Q3n q5) | (with_reducible refine Q3m ?_) | (with_reducible refine Q6w ?_)) rfl _ rfl Try.underlying78 rfl Q52) rfl ⟨Q3v (by omega) rfl,?_⟩
 all_goals (repeat' first | (with_reducible exact Ext.refl _) | (with_reducible assumption) | (with_reducible refine Ext.drew ?_) | (with_reducible refine Ext.drewN ?_ _) | (with_reducible refine Ext.alloc ?_ _) | (with_reducible refine Ext.setCell ?_ (by first | (simp;done) | (simp;omega) | omega) _) | (with_reducible refine Ext.trans ?_ (by with_reducible assumption)))
set_option maxHeartbeats 2000000 in
theorem Qfw (b c:Int) (s t:Bool) (w:World) :
  Calls Try.prog 98 #[.agg #[.int .i64 b,.bool s],.agg #[.int .i64 c,.bool t]] w fun e w'=>e=.returned (.agg #[.int .i64 (min (nrm b) (nrm c)),.bool s])∧Ext w w':=by
 go_enter Try.func98,Try.ntmps98
 go_wp2_with fail
 obtain ⟨W,g,hg,hW,H⟩:=Qe5 w 78 (.int .i64 b) (.bool s) (.int .i64 c) (.bool t) (.int .i64 0) (.bool false)
 rw [hW,hg]
 have hgs:w.heap.size≤g:=by omega
 clear hW hg
 refine (Q7l _ _ _).mono ?_
 rintro e w1 ⟨rfl,hx⟩
 have H:=H.ext hx
 clear hx
 obtain ⟨hX,q0,q1,q2,q3,q4,q5⟩:=id H
 go_wp2_with fail
 have H:=H.set01 hgs (.int .i64 (nrm b)) (.bool s)
 clear hX q0 q1 q2 q3 q4 q5
 generalize (w1.setCell ⟨g,0,none⟩ (.int .i64 (nrm b))).setCell ⟨g,1,none⟩ (.bool s)=w2 at *
 refine (Q7l _ _ _).mono ?_
 rintro e w3 ⟨rfl,hx⟩
 have H:=H.ext hx
 clear hx
 have H2:=H.set23 hgs (.int .i64 (nrm c)) (.bool t)
 obtain ⟨hX,q0,q1,q2,q3,q4,q5⟩:=H
 clear H2
 go_wp2
 all_goals refine bodyPost_ret (Q64 (by repeat' first | (with_reducible exact Q3n q4) | (with_reducible refine Q3m ?_) | (with_reducible refine Q6w ?_)) (by repeat' first | (with_reducible exact Q3n q5) | (with_reducible refine Q3m ?_) | (with_reducible refine Q6w ?_)) rfl _ rfl Try.underlying78 rfl Q52) rfl ⟨Q3v (by omega) rfl,?_⟩
 all_goals (repeat' first | (with_reducible exact Ext.refl _) | (with_reducible assumption) | (with_reducible refine Ext.drew ?_) | (with_reducible refine Ext.drewN ?_ _) | (with_reducible refine Ext.alloc ?_ _) | (with_reducible refine Ext.setCell ?_ (by first | (simp;done) | (simp;omega) | omega) _) | (with_reducible refine Ext.trans ?_ (by with_reducible assumption)))
theorem Qsy {w W:World} {g:Nat} {a0 a1 b0 b1 c0 c1:Value} (h:Q5p w W g a0 a1 b0 b1 c0 c1) (T:TypeId) (x y:Value):∃ W' k,W.heap.size=k∧W.alloc (.cells #[x,y] T)=W'∧g+1+1 < k∧Q5p w W' g a0 a1 b0 b1 c0 c1 ∧
  (W'.cell? ⟨k,0,none⟩=some x∧W'.frozen? ⟨k,0,none⟩=false)∧(W'.cell? ⟨k,1,none⟩=some y∧W'.frozen? ⟨k,1,none⟩=false) :=
 ⟨_,_,rfl,rfl,Q09 h.2.2.2.2.2.1.1,h.ext ((Ext.refl _).alloc _),(Q6m W T x y).1,(Q6m W T x y).2⟩
set_option maxHeartbeats 8000000 in
theorem Qfx (op b c:Int) (s t:Bool) (w:World) :
  Calls Try.prog 99 #[.int .i64 op,.agg #[.int .i64 b,.bool s],.agg #[.int .i64 c,.bool t]] w fun e w'=>e=.returned (.agg #[.int .i64 (kop op (nrm b) (nrm c)),.bool (s || t)])∧Ext w w':=by
 obtain ⟨b0,b1⟩:=Q41 b
 obtain ⟨c0,c1⟩:=Q41 c
 go_enter Try.func99,Try.ntmps99
 go_wp2_with fail
 obtain ⟨W,g,hg,hW,H⟩:=Qe5 w 78 (.int .i64 b) (.bool s) (.int .i64 c) (.bool t) (.int .i64 0) (.bool false)
 rw [hW,hg]
 have hgs:w.heap.size≤g:=by omega
 clear hW hg
 refine (Q7l _ _ _).mono ?_
 rintro e w1 ⟨rfl,hx⟩
 have H:=H.ext hx
 clear hx
 obtain ⟨hX,q0,q1,q2,q3,q4,q5⟩:=id H
 go_wp2_with fail
 have H:=H.set01 hgs (.int .i64 (nrm b)) (.bool s)
 clear hX q0 q1 q2 q3 q4 q5
 generalize (w1.setCell ⟨g,0,none⟩ (.int .i64 (nrm b))).setCell ⟨g,1,none⟩ (.bool s)=w2 at *
 refine (Q7l _ _ _).mono ?_
 rintro e w3 ⟨rfl,hx⟩
 have H:=H.ext hx
 clear hx
 have H2:=H.set23 hgs (.int .i64 (nrm c)) (.bool t)
 obtain ⟨hX,q0,q1,q2,q3,q4,q5⟩:=H
 go_upto_region 3 with fail
 clear hX q0 q1 q2 q3 q4 q5
 generalize (w3.setCell ⟨g+1,0,none⟩ (.int .i64 (nrm c))).setCell ⟨g+1,1,none⟩ (.bool t)=w4 at *
 obtain ⟨hX,q0,q1,q2,q3,q4,q5⟩:=id H2
 have hlt:g+1+1 < w4.heap.size:=Q09 q4.1
 have hlt1:g+1 < w4.heap.size:=by omega
 have hlt0:g < w4.heap.size:=by omega
 cases s
 all_goals
  go_upto_region 4 with fail
  obtain ⟨w5,k,hk,hW,hgk,H,k0,k1⟩:=Qsy H2 78 (.int .i64 17) _
  rw [hW,hk]
  clear hW hk H2 hX q0 q1 q2 q3 q4 q5 hlt hlt1 hlt0
  obtain ⟨hX,q0,q1,q2,q3,q4,q5⟩:=H
  have hgz:=hX.size
  go_upto_if 29 with fail
  go_cut [8,9] (fun s8 s9 wx=>s8=.int .i64 (max (nrm b) (nrm c))∧s9=.int .i64 (min (nrm b) (nrm c))∧wx=w5)
  case first =>
   go_wp2
   all_goals
    go_meet
    exact ⟨congrArg (Value.int IntKind.i64) (by omega),congrArg (Value.int IntKind.i64) (by omega),rfl⟩
  case rest =>
   obtain ⟨rfl,rfl,rfl⟩:=hcut
   by_cases h:op=1∨op=3∨op=4∨op=5∨op=6∨op=8∨op=9∨op=10
   ·rcases h with rfl | rfl | rfl | rfl | rfl | rfl | rfl | rfl
    all_goals go_wp2_with (go_at_call 128;refine (Qjw _ _).mono ?_;rintro e w' ⟨rfl,rfl⟩)
    all_goals refine bodyPost_ret (Q64 (by repeat' first | (with_reducible exact Q3n q4) | (with_reducible refine Q3m ?_)) (by repeat' first | (with_reducible exact Q3n q5) | (with_reducible refine Q3m ?_)) rfl _ rfl Try.underlying78 rfl Q52) rfl ⟨Q3v (by first | (simp [kop,kopN];omega) | (simp only [beq_iff_eq,beq_eq_false_iff_ne,ne_eq] at *;simp [kop,kopN];omega) | (simp only [beq_iff_eq,beq_eq_false_iff_ne,ne_eq] at *;simp [kop,kopN];split <;> omega)) rfl,?_⟩
    all_goals (repeat' first | (with_reducible exact Ext.refl _) | (with_reducible assumption) | (with_reducible refine Ext.drew ?_) | (with_reducible refine Ext.drewN ?_ _) | (with_reducible refine Ext.alloc ?_ _) | (with_reducible refine Ext.setCell ?_ (by first | (simp;done) | (simp;omega) | omega) _) | (with_reducible refine Ext.trans ?_ (by with_reducible assumption)))
   ·have Hk:=Lib.hid (Qd6 (op:=op) (nrm b) (nrm c) (by omega) (by omega) (by omega) (by omega) (by omega) (by omega) (by omega) (by omega))
    have e1:(op == 1)=false:=by rw [beq_eq_false_iff_ne];omega
    have e3:(op == 3)=false:=by rw [beq_eq_false_iff_ne];omega
    have e4:(op == 4)=false:=by rw [beq_eq_false_iff_ne];omega
    have e5:(op == 5)=false:=by rw [beq_eq_false_iff_ne];omega
    have e6:(op == 6)=false:=by rw [beq_eq_false_iff_ne];omega
    have e8:(op == 8)=false:=by rw [beq_eq_false_iff_ne];omega
    have e9:(op == 9)=false:=by rw [beq_eq_false_iff_ne];omega
    have e10:(op == 10)=false:=by rw [beq_eq_false_iff_ne];omega
    clear h
    go_wp2
    refine bodyPost_ret (Q64 (by repeat' first | (with_reducible exact Q3n q4) | (with_reducible refine Q3m ?_)) (by repeat' first | (with_reducible exact Q3n q5) | (with_reducible refine Q3m ?_)) rfl _ rfl Try.underlying78 rfl Q52) rfl ⟨Q3v (by unfold kop;rw [Hk.out];rfl) rfl,?_⟩
    (repeat' first | (with_reducible exact Ext.refl _) | (with_reducible assumption) | (with_reducible refine Ext.drew ?_) | (with_reducible refine Ext.drewN ?_ _) | (with_reducible refine Ext.alloc ?_ _) | (with_reducible refine Ext.setCell ?_ (by first | (simp;done) | (simp;omega) | omega) _) | (with_reducible refine Ext.trans ?_ (by with_reducible assumption)))
set_option maxHeartbeats 1000000 in
theorem Qcf (n:Int) (w:World) :
  Calls Try.prog 97 #[.int .i64 n] w fun e w'=>e=.returned (.agg #[.int .i64 (kof n),.bool false])∧Ext w w':=by
 obtain ⟨k0,k1⟩:=Qd8 n
 have Hf:Hid (∀ k:Nat,k≤16→khas k n=decide (kof n≤k)):=fun k hk=>Qhm n k hk
 go_enter Try.func97,Try.ntmps97
 go_wp2
 go_loopw [3] (fun i wr => ∃ k:Nat,k≤17∧i=.int .i64 k∧(k:Int)≤kof n∧Ext w wr∧Blk wr w.heap.size 78 #[.int .i64 0,.bool false]) (fun i _=>17 - (intOf i).toNat)
 case atStart=>exact ⟨0,by omega,rfl,by omega,(Ext.refl _).alloc _,Blk.new _ _ _⟩
 case round =>
  obtain ⟨k,hk,rfl,hle,hX,hB⟩:=hrel
  have q4:wr.cell? ⟨w.heap.size,0,none⟩=some (.int .i64 0)∧wr.frozen? ⟨w.heap.size,0,none⟩=false:=⟨by rw [hB.cell];rfl,hB.frozen 0⟩
  have q5:wr.cell? ⟨w.heap.size,1,none⟩=some (.bool false)∧wr.frozen? ⟨w.heap.size,1,none⟩=false:=⟨by rw [hB.cell];rfl,hB.frozen 1⟩
  by_cases hlt:k < 17
  ·have hfk:=Hf.out k (by omega)
   have HB:=Lib.hid hB
   clear hB
   by_cases hh:kof n≤k
   ·have he:kof n=k:=by omega
    have He:=Lib.hid he
    have hfk':khas k n=true:=by rw [hfk];simp;omega
    clear hfk he hh
    go_wp2_with fail
    refine (Qfy _ _ _ _).mono ?_
    rintro e w1 ⟨rfl,hx⟩
    rw [hfk']
    have q4:=Q0a hx q4
    have q5:=Q0a hx q5
    go_wp2
    refine bodyPost_ret (Q64 (by repeat' first | (with_reducible exact Q3n q4) | (with_reducible refine Q3m ?_) | (with_reducible refine Q6w ?_)) (by repeat' first | (with_reducible exact Q3n q5) | (with_reducible refine Q3m ?_) | (with_reducible refine Q6w ?_)) rfl _ rfl Try.underlying78 rfl Q52) rfl ⟨Q3v He.out.symm rfl,?_⟩
    (repeat' first | (with_reducible exact Ext.refl _) | (with_reducible assumption) | (with_reducible refine Ext.drew ?_) | (with_reducible refine Ext.drewN ?_ _) | (with_reducible refine Ext.alloc ?_ _) | (with_reducible refine Ext.setCell ?_ (by first | (simp;done) | (simp;omega) | omega) _) | (with_reducible refine Ext.trans ?_ (by with_reducible assumption)))
   ·have hfk':khas k n=false:=by rw [hfk];simp;omega
    clear hfk
    go_wp2_with fail
    refine (Qfy _ _ _ _).mono ?_
    rintro e w1 ⟨rfl,hx⟩
    rw [hfk']
    go_wp2
    go_roundw
    case rel=>exact ⟨k+1,by omega,by go_num,by omega,hX.trans hx,HB.out.ext hx⟩
    case measure=>first | (simp [intOf];done) | (simp [intOf];omega)
  ·obtain rfl:k=17:=by omega
   have He:Hid (kof n=17):=by show _=_;omega
   clear hlt hle
   go_wp2
   refine bodyPost_ret (Q64 (by repeat' first | (with_reducible exact Q3n q4) | (with_reducible refine Q3m ?_) | (with_reducible refine Q6w ?_)) (by repeat' first | (with_reducible exact Q3n q5) | (with_reducible refine Q3m ?_) | (with_reducible refine Q6w ?_)) rfl _ rfl Try.underlying78 rfl Q52) rfl ⟨Q3v He.out.symm rfl,?_⟩
   (repeat' first | (with_reducible exact Ext.refl _) | (with_reducible assumption) | (with_reducible refine Ext.drew ?_) | (with_reducible refine Ext.drewN ?_ _) | (with_reducible refine Ext.alloc ?_ _) | (with_reducible refine Ext.setCell ?_ (by first | (simp;done) | (simp;omega) | omega) _) | (with_reducible refine Ext.trans ?_ (by with_reducible assumption)))
end Go.Proofs.Yteiknefajlocoaa
