/- Laid together from: Ref6e. -/
import Derived.Test.YteiknefajlocoaaFindNothingB41

namespace Go.Proofs.Yteiknefajlocoaa
open Go.ChangeShapes Go.WideShapes Go.ChangeAt Go.RowKit
set_option linter.unusedVariables false
set_option linter.unusedSimpArgs false
set_option maxRecDepth 100000 in
set_option maxHeartbeats 4000000 in
theorem Qlo (p:Q00) {oa:Option Addr} {capa:Nat} {oc:Option Addr} {capc:Nat} (s:KSt) (op a b c n:Int) (hop:op=3) (hr:Q02 p.regs=true) (hok:Q01 p 8 ⟨op,a,b,c,n⟩=true) (w:World) (hp:Q0b w (.agg #[.slice oa p.regs.length capa,.slice oc p.code.length capc]) p) {B ba cap:Nat} (hk:KnAt w B (.slice (some ⟨ba,0,none⟩) 8 cap) s) :
  Calls Try.prog 58 #[.agg #[.slice oa p.regs.length capa,.slice oc p.code.length capc],.agg #[.int .i64 op,.int .i64 a,.int .i64 b,.int .i64 c,.int .i64 n],.slice (some ⟨ba,0,none⟩) 8 cap] w fun e w'=>e=.returned (.bool (!Q0t p s ⟨op,a,b,c,n⟩))∧Ext w w':=by
 subst hop
 have hb:okIn 8 b=true:=by unfold Q01 at hok;simp [okIn] at hok ⊢;omega
 obtain ⟨bz0,bz1⟩:=Q08.1 hb
 obtain ⟨v1,v2,hv,hR,-⟩:=hp
 simp only [Value.agg.injEq,Array.mk.injEq,List.cons.injEq,and_true] at hv
 obtain ⟨rfl,rfl⟩:=hv
 obtain ⟨-,⟨kb,-⟩⟩:=hk.cell hb
 have hixs:=Q2l ba cap
 have Hq:Hid ((!Q0t p s ⟨3,a,b,c,n⟩)=(kg s b).sec):=Lib.hid (by simp [Q0t])
 generalize (kg s b).sec=sb at *
 clear hk hR hr hok
 go_enter Try.func58,Try.ntmps58
 go_upto_region 1 with fail
 obtain ⟨W,g,hg,hW,hx,bP,bI⟩:=Q0i w #[.slice oa p.regs.length capa,.slice oc p.code.length capc] #[.int .i64 3,.int .i64 a,.int .i64 b,.int .i64 c,.int .i64 n] 25 70
 rw [hW,hg]
 have X:=Lib.hid hx
 have p0:W.cell? ⟨g,0,none⟩=some (.slice oa p.regs.length capa):=by rw [bP.cell];rfl
 have i0:W.cell? ⟨g+1,0,none⟩=some (.int .i64 3):=by rw [bI.cell];rfl
 have i1:W.cell? ⟨g+1,1,none⟩=some (.int .i64 a):=by rw [bI.cell];rfl
 have i2:W.cell? ⟨g+1,2,none⟩=some (.int .i64 b):=by rw [bI.cell];rfl
 have i3:W.cell? ⟨g+1,3,none⟩=some (.int .i64 c):=by rw [bI.cell];rfl
 have kb:=hx.kept kb
 clear hW hg hx bP bI
 cases sb
 all_goals go_wp2
 all_goals go_ret
 all_goals rw [Hq.out]
 all_goals exact ⟨rfl,X.out⟩
set_option maxRecDepth 100000 in
set_option maxHeartbeats 4000000 in
theorem Qc0 (p:Q00) {oa:Option Addr} {capa:Nat} {oc:Option Addr} {capc:Nat} (s:KSt) (op a b c n:Int) (hop:op=4) (hr:Q02 p.regs=true) (hok:Q01 p 8 ⟨op,a,b,c,n⟩=true) (w:World) (hp:Q0b w (.agg #[.slice oa p.regs.length capa,.slice oc p.code.length capc]) p) {B ba cap:Nat} (hk:KnAt w B (.slice (some ⟨ba,0,none⟩) 8 cap) s) :
  Calls Try.prog 58 #[.agg #[.slice oa p.regs.length capa,.slice oc p.code.length capc],.agg #[.int .i64 op,.int .i64 a,.int .i64 b,.int .i64 c,.int .i64 n],.slice (some ⟨ba,0,none⟩) 8 cap] w fun e w'=>e=.returned (.bool (!Q0t p s ⟨op,a,b,c,n⟩))∧Ext w w':=by
 subst hop
 have hb:okIn 8 b=true:=by unfold Q01 at hok;simp [okIn] at hok ⊢;omega
 have ha:okIn 8 a=true:=by unfold Q01 at hok;simp [okIn] at hok ⊢;omega
 obtain ⟨bz0,bz1⟩:=Q08.1 hb
 obtain ⟨az0,az1⟩:=Q08.1 ha
 obtain ⟨v1,v2,hv,hR,-⟩:=hp
 simp only [Value.agg.injEq,Array.mk.injEq,List.cons.injEq,and_true] at hv
 obtain ⟨rfl,rfl⟩:=hv
 obtain ⟨hc0,hc1'⟩:=Q35 hok (by unfold Q0s Q0m;simp)
 simp only at hc0 hc1'
 obtain ⟨-,oa',capa',br,orr,hv3,hd1,hd2,hrow2⟩:=hR
 simp only [Value.slice.injEq,true_and] at hv3
 obtain ⟨rfl,rfl⟩:=hv3
 obtain ⟨-,rsec⟩:=hrow2.reg c.toNat hc1'
 have hixr:=Q33 (cap:=capa) hrow2.at_
 have hlen:=Q3o hr
 have hcl2:c < (p.regs.length:Int):=by omega
 have hrf:p.regs.getD c.toNat default=Q0c p ⟨4,a,b,c,n⟩:=rfl
 rw [hrf] at rsec
 clear hrow2 hd1 hd2 hrf
 obtain ⟨-,⟨kb,-⟩⟩:=hk.cell hb
 obtain ⟨-,⟨ka,-⟩⟩:=hk.cell ha
 have hixs:=Q2l ba cap
 have Hq:Hid ((!Q0t p s ⟨4,a,b,c,n⟩)=((kg s b).sec || ((kg s a).sec && !(Q0c p ⟨4,a,b,c,n⟩).secret))):=Lib.hid (by simp [Q0t])
 generalize (kg s b).sec=sb at *
 generalize (kg s a).sec=sa at *
 generalize (Q0c p ⟨4,a,b,c,n⟩).secret=sr at *
 clear hk hr hok
 go_enter Try.func58,Try.ntmps58
 go_upto_region 1 with fail
 obtain ⟨W,g,hg,hW,hx,bP,bI⟩:=Q0i w #[.slice oa p.regs.length capa,.slice oc p.code.length capc] #[.int .i64 4,.int .i64 a,.int .i64 b,.int .i64 c,.int .i64 n] 25 70
 rw [hW,hg]
 have X:=Lib.hid hx
 have p0:W.cell? ⟨g,0,none⟩=some (.slice oa p.regs.length capa):=by rw [bP.cell];rfl
 have i0:W.cell? ⟨g+1,0,none⟩=some (.int .i64 4):=by rw [bI.cell];rfl
 have i1:W.cell? ⟨g+1,1,none⟩=some (.int .i64 a):=by rw [bI.cell];rfl
 have i2:W.cell? ⟨g+1,2,none⟩=some (.int .i64 b):=by rw [bI.cell];rfl
 have i3:W.cell? ⟨g+1,3,none⟩=some (.int .i64 c):=by rw [bI.cell];rfl
 have kb:=hx.kept kb
 have ka:=hx.kept ka
 have rsec:=hx.kept rsec
 clear hW hg hx bP bI
 cases sb
 all_goals cases sa
 all_goals cases sr
 all_goals go_wp2
 all_goals go_ret
 all_goals rw [Hq.out]
 all_goals exact ⟨rfl,X.out⟩
set_option maxRecDepth 100000 in
set_option maxHeartbeats 4000000 in
theorem Qln (p:Q00) {oa:Option Addr} {capa:Nat} {oc:Option Addr} {capc:Nat} (s:KSt) (op a b c n:Int) (hop:op=6) (hr:Q02 p.regs=true) (hok:Q01 p 8 ⟨op,a,b,c,n⟩=true) (w:World) (hp:Q0b w (.agg #[.slice oa p.regs.length capa,.slice oc p.code.length capc]) p) {B ba cap:Nat} (hk:KnAt w B (.slice (some ⟨ba,0,none⟩) 8 cap) s) :
  Calls Try.prog 58 #[.agg #[.slice oa p.regs.length capa,.slice oc p.code.length capc],.agg #[.int .i64 op,.int .i64 a,.int .i64 b,.int .i64 c,.int .i64 n],.slice (some ⟨ba,0,none⟩) 8 cap] w fun e w'=>e=.returned (.bool (!Q0t p s ⟨op,a,b,c,n⟩))∧Ext w w':=by
 subst hop
 have ha:okIn 8 a=true:=by unfold Q01 at hok;simp [okIn] at hok ⊢;omega
 obtain ⟨az0,az1⟩:=Q08.1 ha
 obtain ⟨v1,v2,hv,hR,-⟩:=hp
 simp only [Value.agg.injEq,Array.mk.injEq,List.cons.injEq,and_true] at hv
 obtain ⟨rfl,rfl⟩:=hv
 obtain ⟨hc0,hc1'⟩:=Q35 hok (by unfold Q0s Q0m;simp)
 simp only at hc0 hc1'
 obtain ⟨-,oa',capa',br,orr,hv3,hd1,hd2,hrow2⟩:=hR
 simp only [Value.slice.injEq,true_and] at hv3
 obtain ⟨rfl,rfl⟩:=hv3
 obtain ⟨-,rsec⟩:=hrow2.reg c.toNat hc1'
 have hixr:=Q33 (cap:=capa) hrow2.at_
 have hlen:=Q3o hr
 have hcl2:c < (p.regs.length:Int):=by omega
 have hrf:p.regs.getD c.toNat default=Q0c p ⟨6,a,b,c,n⟩:=rfl
 rw [hrf] at rsec
 clear hrow2 hd1 hd2 hrf
 obtain ⟨-,⟨ka,-⟩⟩:=hk.cell ha
 have hixs:=Q2l ba cap
 have Hq:Hid ((!Q0t p s ⟨6,a,b,c,n⟩)=((kg s a).sec && !(Q0c p ⟨6,a,b,c,n⟩).secret)):=Lib.hid (by simp [Q0t])
 generalize (kg s a).sec=sa at *
 generalize (Q0c p ⟨6,a,b,c,n⟩).secret=sr at *
 clear hk hr hok
 go_enter Try.func58,Try.ntmps58
 go_upto_region 1 with fail
 obtain ⟨W,g,hg,hW,hx,bP,bI⟩:=Q0i w #[.slice oa p.regs.length capa,.slice oc p.code.length capc] #[.int .i64 6,.int .i64 a,.int .i64 b,.int .i64 c,.int .i64 n] 25 70
 rw [hW,hg]
 have X:=Lib.hid hx
 have p0:W.cell? ⟨g,0,none⟩=some (.slice oa p.regs.length capa):=by rw [bP.cell];rfl
 have i0:W.cell? ⟨g+1,0,none⟩=some (.int .i64 6):=by rw [bI.cell];rfl
 have i1:W.cell? ⟨g+1,1,none⟩=some (.int .i64 a):=by rw [bI.cell];rfl
 have i2:W.cell? ⟨g+1,2,none⟩=some (.int .i64 b):=by rw [bI.cell];rfl
 have i3:W.cell? ⟨g+1,3,none⟩=some (.int .i64 c):=by rw [bI.cell];rfl
 have ka:=hx.kept ka
 have rsec:=hx.kept rsec
 clear hW hg hx bP bI
 cases sa
 all_goals cases sr
 all_goals go_wp2
 all_goals go_ret
 all_goals rw [Hq.out]
 all_goals exact ⟨rfl,X.out⟩
set_option maxRecDepth 100000 in
set_option maxHeartbeats 4000000 in
theorem Qlp (p:Q00) {oa:Option Addr} {capa:Nat} {oc:Option Addr} {capc:Nat} (s:KSt) (op a b c n:Int) (hop:op=8) (hr:Q02 p.regs=true) (hok:Q01 p 8 ⟨op,a,b,c,n⟩=true) (w:World) (hp:Q0b w (.agg #[.slice oa p.regs.length capa,.slice oc p.code.length capc]) p) {B ba cap:Nat} (hk:KnAt w B (.slice (some ⟨ba,0,none⟩) 8 cap) s) :
  Calls Try.prog 58 #[.agg #[.slice oa p.regs.length capa,.slice oc p.code.length capc],.agg #[.int .i64 op,.int .i64 a,.int .i64 b,.int .i64 c,.int .i64 n],.slice (some ⟨ba,0,none⟩) 8 cap] w fun e w'=>e=.returned (.bool (!Q0t p s ⟨op,a,b,c,n⟩))∧Ext w w':=by
 subst hop
 have ha:okIn 8 a=true:=by unfold Q01 at hok;simp [okIn] at hok ⊢;omega
 have hb:okIn 8 b=true:=by unfold Q01 at hok;simp [okIn] at hok ⊢;omega
 obtain ⟨az0,az1⟩:=Q08.1 ha
 obtain ⟨bz0,bz1⟩:=Q08.1 hb
 obtain ⟨v1,v2,hv,hR,-⟩:=hp
 simp only [Value.agg.injEq,Array.mk.injEq,List.cons.injEq,and_true] at hv
 obtain ⟨rfl,rfl⟩:=hv
 obtain ⟨-,⟨ka,-⟩⟩:=hk.cell ha
 obtain ⟨-,⟨kb,-⟩⟩:=hk.cell hb
 have hixs:=Q2l ba cap
 have Hq:Hid ((!Q0t p s ⟨8,a,b,c,n⟩)=((kg s a).sec || (kg s b).sec)):=Lib.hid (by simp [Q0t])
 generalize (kg s a).sec=sa at *
 generalize (kg s b).sec=sb at *
 clear hk hR hr hok
 go_enter Try.func58,Try.ntmps58
 go_upto_region 1 with fail
 obtain ⟨W,g,hg,hW,hx,bP,bI⟩:=Q0i w #[.slice oa p.regs.length capa,.slice oc p.code.length capc] #[.int .i64 8,.int .i64 a,.int .i64 b,.int .i64 c,.int .i64 n] 25 70
 rw [hW,hg]
 have X:=Lib.hid hx
 have p0:W.cell? ⟨g,0,none⟩=some (.slice oa p.regs.length capa):=by rw [bP.cell];rfl
 have i0:W.cell? ⟨g+1,0,none⟩=some (.int .i64 8):=by rw [bI.cell];rfl
 have i1:W.cell? ⟨g+1,1,none⟩=some (.int .i64 a):=by rw [bI.cell];rfl
 have i2:W.cell? ⟨g+1,2,none⟩=some (.int .i64 b):=by rw [bI.cell];rfl
 have i3:W.cell? ⟨g+1,3,none⟩=some (.int .i64 c):=by rw [bI.cell];rfl
 have ka:=hx.kept ka
 have kb:=hx.kept kb
 clear hW hg hx bP bI
 cases sa
 all_goals cases sb
 all_goals go_wp2
 all_goals go_ret
 all_goals rw [Hq.out]
 all_goals exact ⟨rfl,X.out⟩
set_option maxRecDepth 100000 in
set_option maxHeartbeats 4000000 in
theorem Qlq (p:Q00) {oa:Option Addr} {capa:Nat} {oc:Option Addr} {capc:Nat} (s:KSt) (op a b c n:Int) (hop:op=9) (hr:Q02 p.regs=true) (hok:Q01 p 8 ⟨op,a,b,c,n⟩=true) (w:World) (hp:Q0b w (.agg #[.slice oa p.regs.length capa,.slice oc p.code.length capc]) p) {B ba cap:Nat} (hk:KnAt w B (.slice (some ⟨ba,0,none⟩) 8 cap) s) :
  Calls Try.prog 58 #[.agg #[.slice oa p.regs.length capa,.slice oc p.code.length capc],.agg #[.int .i64 op,.int .i64 a,.int .i64 b,.int .i64 c,.int .i64 n],.slice (some ⟨ba,0,none⟩) 8 cap] w fun e w'=>e=.returned (.bool (!Q0t p s ⟨op,a,b,c,n⟩))∧Ext w w':=by
 subst hop
 have ha:okIn 8 a=true:=by unfold Q01 at hok;simp [okIn] at hok ⊢;omega
 obtain ⟨az0,az1⟩:=Q08.1 ha
 obtain ⟨v1,v2,hv,hR,-⟩:=hp
 simp only [Value.agg.injEq,Array.mk.injEq,List.cons.injEq,and_true] at hv
 obtain ⟨rfl,rfl⟩:=hv
 obtain ⟨-,⟨ka,-⟩⟩:=hk.cell ha
 have hixs:=Q2l ba cap
 have Hq:Hid ((!Q0t p s ⟨9,a,b,c,n⟩)=(kg s a).sec):=Lib.hid (by simp [Q0t])
 generalize (kg s a).sec=sa at *
 clear hk hR hr hok
 go_enter Try.func58,Try.ntmps58
 go_upto_region 1 with fail
 obtain ⟨W,g,hg,hW,hx,bP,bI⟩:=Q0i w #[.slice oa p.regs.length capa,.slice oc p.code.length capc] #[.int .i64 9,.int .i64 a,.int .i64 b,.int .i64 c,.int .i64 n] 25 70
 rw [hW,hg]
 have X:=Lib.hid hx
 have p0:W.cell? ⟨g,0,none⟩=some (.slice oa p.regs.length capa):=by rw [bP.cell];rfl
 have i0:W.cell? ⟨g+1,0,none⟩=some (.int .i64 9):=by rw [bI.cell];rfl
 have i1:W.cell? ⟨g+1,1,none⟩=some (.int .i64 a):=by rw [bI.cell];rfl
 have i2:W.cell? ⟨g+1,2,none⟩=some (.int .i64 b):=by rw [bI.cell];rfl
 have i3:W.cell? ⟨g+1,3,none⟩=some (.int .i64 c):=by rw [bI.cell];rfl
 have ka:=hx.kept ka
 clear hW hg hx bP bI
 cases sa
 all_goals go_wp2
 all_goals go_ret
 all_goals rw [Hq.out]
 all_goals exact ⟨rfl,X.out⟩
set_option maxRecDepth 100000 in
set_option maxHeartbeats 4000000 in
theorem Qls (p:Q00) {oa:Option Addr} {capa:Nat} {oc:Option Addr} {capc:Nat} (s:KSt) (op a b c n:Int) (hop:op=29) (hr:Q02 p.regs=true) (hok:Q01 p 8 ⟨op,a,b,c,n⟩=true) (w:World) (hp:Q0b w (.agg #[.slice oa p.regs.length capa,.slice oc p.code.length capc]) p) {B ba cap:Nat} (hk:KnAt w B (.slice (some ⟨ba,0,none⟩) 8 cap) s) :
  Calls Try.prog 58 #[.agg #[.slice oa p.regs.length capa,.slice oc p.code.length capc],.agg #[.int .i64 op,.int .i64 a,.int .i64 b,.int .i64 c,.int .i64 n],.slice (some ⟨ba,0,none⟩) 8 cap] w fun e w'=>e=.returned (.bool (!Q0t p s ⟨op,a,b,c,n⟩))∧Ext w w':=by
 subst hop
 have hb:okIn 8 b=true:=by unfold Q01 at hok;simp [okIn] at hok ⊢;omega
 have hc:okIn 8 c=true:=by unfold Q01 at hok;simp [okIn] at hok ⊢;omega
 obtain ⟨bz0,bz1⟩:=Q08.1 hb
 obtain ⟨cz0,cz1⟩:=Q08.1 hc
 obtain ⟨v1,v2,hv,hR,-⟩:=hp
 simp only [Value.agg.injEq,Array.mk.injEq,List.cons.injEq,and_true] at hv
 obtain ⟨rfl,rfl⟩:=hv
 obtain ⟨-,⟨kb,-⟩⟩:=hk.cell hb
 obtain ⟨-,⟨kc,-⟩⟩:=hk.cell hc
 have hixs:=Q2l ba cap
 have Hq:Hid ((!Q0t p s ⟨29,a,b,c,n⟩)=((kg s b).sec || (kg s c).sec)):=Lib.hid (by simp [Q0t])
 generalize (kg s b).sec=sb at *
 generalize (kg s c).sec=sc at *
 clear hk hR hr hok
 go_enter Try.func58,Try.ntmps58
 go_upto_region 1 with fail
 obtain ⟨W,g,hg,hW,hx,bP,bI⟩:=Q0i w #[.slice oa p.regs.length capa,.slice oc p.code.length capc] #[.int .i64 29,.int .i64 a,.int .i64 b,.int .i64 c,.int .i64 n] 25 70
 rw [hW,hg]
 have X:=Lib.hid hx
 have p0:W.cell? ⟨g,0,none⟩=some (.slice oa p.regs.length capa):=by rw [bP.cell];rfl
 have i0:W.cell? ⟨g+1,0,none⟩=some (.int .i64 29):=by rw [bI.cell];rfl
 have i1:W.cell? ⟨g+1,1,none⟩=some (.int .i64 a):=by rw [bI.cell];rfl
 have i2:W.cell? ⟨g+1,2,none⟩=some (.int .i64 b):=by rw [bI.cell];rfl
 have i3:W.cell? ⟨g+1,3,none⟩=some (.int .i64 c):=by rw [bI.cell];rfl
 have kb:=hx.kept kb
 have kc:=hx.kept kc
 clear hW hg hx bP bI
 cases sb
 all_goals cases sc
 all_goals go_wp2
 all_goals go_ret
 all_goals rw [Hq.out]
 all_goals exact ⟨rfl,X.out⟩
set_option maxRecDepth 100000 in
set_option maxHeartbeats 4000000 in
theorem Qlr (p:Q00) {oa:Option Addr} {capa:Nat} {oc:Option Addr} {capc:Nat} (s:KSt) (op a b c n:Int) (hop:op=30) (hr:Q02 p.regs=true) (hok:Q01 p 8 ⟨op,a,b,c,n⟩=true) (w:World) (hp:Q0b w (.agg #[.slice oa p.regs.length capa,.slice oc p.code.length capc]) p) {B ba cap:Nat} (hk:KnAt w B (.slice (some ⟨ba,0,none⟩) 8 cap) s) :
  Calls Try.prog 58 #[.agg #[.slice oa p.regs.length capa,.slice oc p.code.length capc],.agg #[.int .i64 op,.int .i64 a,.int .i64 b,.int .i64 c,.int .i64 n],.slice (some ⟨ba,0,none⟩) 8 cap] w fun e w'=>e=.returned (.bool (!Q0t p s ⟨op,a,b,c,n⟩))∧Ext w w':=by
 subst hop
 have hb:okIn 8 b=true:=by unfold Q01 at hok;simp [okIn] at hok ⊢;omega
 have hc:okIn 8 c=true:=by unfold Q01 at hok;simp [okIn] at hok ⊢;omega
 obtain ⟨bz0,bz1⟩:=Q08.1 hb
 obtain ⟨cz0,cz1⟩:=Q08.1 hc
 obtain ⟨v1,v2,hv,hR,-⟩:=hp
 simp only [Value.agg.injEq,Array.mk.injEq,List.cons.injEq,and_true] at hv
 obtain ⟨rfl,rfl⟩:=hv
 obtain ⟨-,⟨kb,-⟩⟩:=hk.cell hb
 obtain ⟨-,⟨kc,-⟩⟩:=hk.cell hc
 have hixs:=Q2l ba cap
 have Hq:Hid ((!Q0t p s ⟨30,a,b,c,n⟩)=((kg s b).sec || (kg s c).sec)):=Lib.hid (by simp [Q0t])
 generalize (kg s b).sec=sb at *
 generalize (kg s c).sec=sc at *
 clear hk hR hr hok
 go_enter Try.func58,Try.ntmps58
 go_upto_region 1 with fail
 obtain ⟨W,g,hg,hW,hx,bP,bI⟩:=Q0i w #[.slice oa p.regs.length capa,.slice oc p.code.length capc] #[.int .i64 30,.int .i64 a,.int .i64 b,.int .i64 c,.int .i64 n] 25 70
 rw [hW,hg]
 have X:=Lib.hid hx
 have p0:W.cell? ⟨g,0,none⟩=some (.slice oa p.regs.length capa):=by rw [bP.cell];rfl
 have i0:W.cell? ⟨g+1,0,none⟩=some (.int .i64 30):=by rw [bI.cell];rfl
 have i1:W.cell? ⟨g+1,1,none⟩=some (.int .i64 a):=by rw [bI.cell];rfl
 have i2:W.cell? ⟨g+1,2,none⟩=some (.int .i64 b):=by rw [bI.cell];rfl
 have i3:W.cell? ⟨g+1,3,none⟩=some (.int .i64 c):=by rw [bI.cell];rfl
 have kb:=hx.kept kb
 have kc:=hx.kept kc
 clear hW hg hx bP bI
 cases sb
 all_goals cases sc
 all_goals go_wp2
 all_goals go_ret
 all_goals rw [Hq.out]
 all_goals exact ⟨rfl,X.out⟩
set_option maxRecDepth 100000 in
set_option maxHeartbeats 4000000 in
theorem Qlm (p:Q00) {oa:Option Addr} {capa:Nat} {oc:Option Addr} {capc:Nat} (s:KSt) (op a b c n:Int) (hop:op≠3∧op≠4∧op≠6∧op≠8∧op≠9∧op≠29∧op≠30) (hr:Q02 p.regs=true) (hok:Q01 p 8 ⟨op,a,b,c,n⟩=true) (w:World) (hp:Q0b w (.agg #[.slice oa p.regs.length capa,.slice oc p.code.length capc]) p) {B ba cap:Nat} (hk:KnAt w B (.slice (some ⟨ba,0,none⟩) 8 cap) s) :
  Calls Try.prog 58 #[.agg #[.slice oa p.regs.length capa,.slice oc p.code.length capc],.agg #[.int .i64 op,.int .i64 a,.int .i64 b,.int .i64 c,.int .i64 n],.slice (some ⟨ba,0,none⟩) 8 cap] w fun e w'=>e=.returned (.bool (!Q0t p s ⟨op,a,b,c,n⟩))∧Ext w w':=by
 obtain ⟨h3,h4,h6,h8,h9,h29,h30⟩:=hop
 have hq3:(op == (3:Int))=false:=by simpa using h3
 have hq4:(op == (4:Int))=false:=by simpa using h4
 have hq6:(op == (6:Int))=false:=by simpa using h6
 have hq8:(op == (8:Int))=false:=by simpa using h8
 have hq9:(op == (9:Int))=false:=by simpa using h9
 have hq29:(op == (29:Int))=false:=by simpa using h29
 have hq30:(op == (30:Int))=false:=by simpa using h30
 obtain ⟨v1,v2,hv,hR,-⟩:=hp
 simp only [Value.agg.injEq,Array.mk.injEq,List.cons.injEq,and_true] at hv
 obtain ⟨rfl,rfl⟩:=hv
 have hixs:=Q2l ba cap
 have Hq:Hid ((!Q0t p s ⟨op,a,b,c,n⟩)=false):=Lib.hid (by unfold Q0t;simp only;rw [if_neg (by omega),if_neg (by omega),if_neg (by omega),if_neg (by omega),if_neg (by omega),if_neg (by omega)];rfl)
 clear hk hR hr hok
 go_enter Try.func58,Try.ntmps58
 go_upto_region 1 with fail
 obtain ⟨W,g,hg,hW,hx,bP,bI⟩:=Q0i w #[.slice oa p.regs.length capa,.slice oc p.code.length capc] #[.int .i64 op,.int .i64 a,.int .i64 b,.int .i64 c,.int .i64 n] 25 70
 rw [hW,hg]
 have X:=Lib.hid hx
 have p0:W.cell? ⟨g,0,none⟩=some (.slice oa p.regs.length capa):=by rw [bP.cell];rfl
 have i0:W.cell? ⟨g+1,0,none⟩=some (.int .i64 op):=by rw [bI.cell];rfl
 have i1:W.cell? ⟨g+1,1,none⟩=some (.int .i64 a):=by rw [bI.cell];rfl
 have i2:W.cell? ⟨g+1,2,none⟩=some (.int .i64 b):=by rw [bI.cell];rfl
 have i3:W.cell? ⟨g+1,3,none⟩=some (.int .i64 c):=by rw [bI.cell];rfl
 clear hW hg hx bP bI
 all_goals go_wp2
 all_goals go_ret
 all_goals rw [Hq.out]
 all_goals exact ⟨rfl,X.out⟩
theorem Qc1 (p:Q00) {oa:Option Addr} {capa:Nat} {oc:Option Addr} {capc:Nat} (s:KSt) (op a b c n:Int) (hr:Q02 p.regs=true) (hok:Q01 p 8 ⟨op,a,b,c,n⟩=true) (w:World) (hp:Q0b w (.agg #[.slice oa p.regs.length capa,.slice oc p.code.length capc]) p) {B ba cap:Nat} (hk:KnAt w B (.slice (some ⟨ba,0,none⟩) 8 cap) s) :
  Calls Try.prog 58 #[.agg #[.slice oa p.regs.length capa,.slice oc p.code.length capc],.agg #[.int .i64 op,.int .i64 a,.int .i64 b,.int .i64 c,.int .i64 n],.slice (some ⟨ba,0,none⟩) 8 cap] w fun e w'=>e=.returned (.bool (!Q0t p s ⟨op,a,b,c,n⟩))∧Ext w w':=by
 by_cases e3:op=3
 ·exact Qlo p s op a b c n e3 hr hok w hp hk
 by_cases e4:op=4
 ·exact Qc0 p s op a b c n e4 hr hok w hp hk
 by_cases e6:op=6
 ·exact Qln p s op a b c n e6 hr hok w hp hk
 by_cases e8:op=8
 ·exact Qlp p s op a b c n e8 hr hok w hp hk
 by_cases e9:op=9
 ·exact Qlq p s op a b c n e9 hr hok w hp hk
 by_cases e29:op=29
 ·exact Qls p s op a b c n e29 hr hok w hp hk
 by_cases e30:op=30
 ·exact Qlr p s op a b c n e30 hr hok w hp hk
 exact Qlm p s op a b c n ⟨e3,e4,e6,e8,e9,e29,e30⟩ hr hok w hp hk
end Go.Proofs.Yteiknefajlocoaa
