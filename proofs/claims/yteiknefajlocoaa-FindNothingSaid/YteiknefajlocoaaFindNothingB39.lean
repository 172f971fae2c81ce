/- Laid together from: Ck6. -/
import Derived.Test.YteiknefajlocoaaFindNothingB38

namespace Go.Proofs.Yteiknefajlocoaa
open Go.ChangeShapes Go.WideShapes Go.ChangeAt Go.RowKit
set_option linter.unusedVariables false
set_option linter.unusedSimpArgs false
set_option maxRecDepth 100000 in
set_option maxHeartbeats 4000000 in
theorem Qt2 (p:Q00) {B g ks:Nat} {oa:Option Addr} {capa:Nat} {vK:Value} {oc:Option Addr} {capc:Nat} {T:Tab} {wk:List Int} (at_:Nat) (s:KSt) (op a b c n:Int) (hop:op=7) (hs:Sok s) (hr:Q02 p.regs=true) (hcl:p.code.length≤200) (hat:at_ < p.code.length) (hi:Q0d p at_=⟨op,a,b,c,n⟩) (hok:Q01 p 8 ⟨op,a,b,c,n⟩=true) (w:World) (hp:Q0b w (.agg #[.slice oa p.regs.length capa,.slice oc p.code.length capc]) p) (h:CSt w B g ks (.slice oa p.regs.length capa) (.slice oc p.code.length capc) vK p T wk) :
  Calls Try.prog 53 #[.pointer (some ⟨g,0,none⟩),.int .i64 (at_:Int),.agg (stV s)] w fun e w'=>e=.returned (.bool (Q1d p at_ s ⟨7,a,b,c,n⟩))∧Ext w w':=by
 obtain ⟨v1,v2,hv,hR,⟨-,oc',capc',bc,oo,hv2,hc1,hc2,hrow⟩⟩:=hp
 simp only [Value.agg.injEq,Array.mk.injEq,List.cons.injEq,and_true] at hv
 obtain ⟨rfl,rfl⟩:=hv
 simp only [Value.slice.injEq,true_and] at hv2
 obtain ⟨rfl,rfl⟩:=hv2
 have hix:=Q1g (cap:=capc) hrow.at_
 obtain ⟨e0,e1,e2,e3,e4⟩:=hrow.ins at_ hat
 have hgi:p.code.getD at_ default=⟨op,a,b,c,n⟩:=hi
 rw [hgi] at e0 e1 e2 e3 e4
 simp only at e0 e1 e2 e3 e4
 obtain ⟨g0,c1,-,-⟩:=h.cells
 have hgl:=h.box.lt
 have hst:=Q26
 have Hs:=Lib.hid hs
 have hl:=hs.len
 have HR:=Lib.hid hR
 have Hok:=Lib.hid hok
 have hbl:=Q09 e0
 simp only at hbl
 subst hop
 clear h hs hrow hi hgi hR hr hc1 hc2 hok
 by_cases hla:at_+1=p.code.length
 ·have hl1:(((at_:Int)+1) == (p.code.length:Int))=true:=by simp;omega
  have hlb:Q2k p at_=true:=by simp [Q2k,hla]
  have Hlb:=Lib.hid hlb
  clear hlb
  go_enter Try.func53,Try.ntmps53
  go_upto_region 3 with fail
  obtain ⟨W,e,he,hW,hx,bS,bI⟩:=Q0i w (stV s) #[.int .i64 7,.int .i64 a,.int .i64 b,.int .i64 c,.int .i64 n] 80 70
  rw [hW,he]
  have X:=Lib.hid hx
  have i0:W.cell? ⟨e+1,0,none⟩=some (.int .i64 7):=by rw [bI.cell];rfl
  have i1:W.cell? ⟨e+1,1,none⟩=some (.int .i64 a):=by rw [bI.cell];rfl
  have i2:W.cell? ⟨e+1,2,none⟩=some (.int .i64 b):=by rw [bI.cell];rfl
  have i3:W.cell? ⟨e+1,3,none⟩=some (.int .i64 c):=by rw [bI.cell];rfl
  have i4:W.cell? ⟨e+1,4,none⟩=some (.int .i64 n):=by rw [bI.cell];rfl
  have hel0:=bS.lt
  have hel1:=bI.lt
  have g0:=hx.kept g0.1
  clear hW he e0 e1 e2 e3 e4 bI hbl
  clear bS hx
  go_wp2
  go_ret
  exact ⟨Q04 (by simp [Q1d]),X.out⟩
 ·have hl1:(((at_:Int)+1) == (p.code.length:Int))=false:=by simp;omega
  have hlb:Q2k p at_=false:=by simp [Q2k,hla]
  have Hlb:=Lib.hid hlb
  clear hlb hla
  go_enter Try.func53,Try.ntmps53
  go_upto_region 3 with fail
  obtain ⟨W,e,he,hW,hx,bS,bI⟩:=Q0i w (stV s) #[.int .i64 7,.int .i64 a,.int .i64 b,.int .i64 c,.int .i64 n] 80 70
  rw [hW,he]
  have X:=Lib.hid hx
  have i0:W.cell? ⟨e+1,0,none⟩=some (.int .i64 7):=by rw [bI.cell];rfl
  have i1:W.cell? ⟨e+1,1,none⟩=some (.int .i64 a):=by rw [bI.cell];rfl
  have i2:W.cell? ⟨e+1,2,none⟩=some (.int .i64 b):=by rw [bI.cell];rfl
  have i3:W.cell? ⟨e+1,3,none⟩=some (.int .i64 c):=by rw [bI.cell];rfl
  have i4:W.cell? ⟨e+1,4,none⟩=some (.int .i64 n):=by rw [bI.cell];rfl
  have hel0:=bS.lt
  have hel1:=bI.lt
  have g0:=hx.kept g0.1
  clear hW he e0 e1 e2 e3 e4 bI hbl
  clear bS hx
  go_wp2
  go_ret
  exact ⟨Q04 (by simp [Q1d]),X.out⟩
set_option maxRecDepth 100000 in
set_option maxHeartbeats 4000000 in
theorem Qt1 (p:Q00) {B g ks:Nat} {oa:Option Addr} {capa:Nat} {vK:Value} {oc:Option Addr} {capc:Nat} {T:Tab} {wk:List Int} (at_:Nat) (s:KSt) (op a b c n:Int) (hop:op=9) (hs:Sok s) (hr:Q02 p.regs=true) (hcl:p.code.length≤200) (hat:at_ < p.code.length) (hi:Q0d p at_=⟨op,a,b,c,n⟩) (hok:Q01 p 8 ⟨op,a,b,c,n⟩=true) (w:World) (hp:Q0b w (.agg #[.slice oa p.regs.length capa,.slice oc p.code.length capc]) p) (h:CSt w B g ks (.slice oa p.regs.length capa) (.slice oc p.code.length capc) vK p T wk) :
  Calls Try.prog 53 #[.pointer (some ⟨g,0,none⟩),.int .i64 (at_:Int),.agg (stV s)] w fun e w'=>e=.returned (.bool (Q1d p at_ s ⟨9,a,b,c,n⟩))∧Ext w w':=by
 obtain ⟨v1,v2,hv,hR,⟨-,oc',capc',bc,oo,hv2,hc1,hc2,hrow⟩⟩:=hp
 simp only [Value.agg.injEq,Array.mk.injEq,List.cons.injEq,and_true] at hv
 obtain ⟨rfl,rfl⟩:=hv
 simp only [Value.slice.injEq,true_and] at hv2
 obtain ⟨rfl,rfl⟩:=hv2
 have hix:=Q1g (cap:=capc) hrow.at_
 obtain ⟨e0,e1,e2,e3,e4⟩:=hrow.ins at_ hat
 have hgi:p.code.getD at_ default=⟨op,a,b,c,n⟩:=hi
 rw [hgi] at e0 e1 e2 e3 e4
 simp only at e0 e1 e2 e3 e4
 obtain ⟨g0,c1,-,-⟩:=h.cells
 have hgl:=h.box.lt
 have hst:=Q26
 have Hs:=Lib.hid hs
 have hl:=hs.len
 have HR:=Lib.hid hR
 have Hok:=Lib.hid hok
 have hbl:=Q09 e0
 simp only at hbl
 subst hop
 clear h hs hrow hi hgi hR hr hc1 hc2 hok
 by_cases hla:at_+1=p.code.length
 ·have hl1:(((at_:Int)+1) == (p.code.length:Int))=true:=by simp;omega
  have hlb:Q2k p at_=true:=by simp [Q2k,hla]
  have Hlb:=Lib.hid hlb
  clear hlb
  go_enter Try.func53,Try.ntmps53
  go_upto_region 3 with fail
  obtain ⟨W,e,he,hW,hx,bS,bI⟩:=Q0i w (stV s) #[.int .i64 9,.int .i64 a,.int .i64 b,.int .i64 c,.int .i64 n] 80 70
  rw [hW,he]
  have X:=Lib.hid hx
  have i0:W.cell? ⟨e+1,0,none⟩=some (.int .i64 9):=by rw [bI.cell];rfl
  have i1:W.cell? ⟨e+1,1,none⟩=some (.int .i64 a):=by rw [bI.cell];rfl
  have i2:W.cell? ⟨e+1,2,none⟩=some (.int .i64 b):=by rw [bI.cell];rfl
  have i3:W.cell? ⟨e+1,3,none⟩=some (.int .i64 c):=by rw [bI.cell];rfl
  have i4:W.cell? ⟨e+1,4,none⟩=some (.int .i64 n):=by rw [bI.cell];rfl
  have hel0:=bS.lt
  have hel1:=bI.lt
  have g0:=hx.kept g0.1
  clear hW he e0 e1 e2 e3 e4 bI hbl
  clear bS hx
  go_wp2
  go_ret
  exact ⟨Q04 (by simp [Q1d]),X.out⟩
 ·have hl1:(((at_:Int)+1) == (p.code.length:Int))=false:=by simp;omega
  have hlb:Q2k p at_=false:=by simp [Q2k,hla]
  have Hlb:=Lib.hid hlb
  clear hlb hla
  go_enter Try.func53,Try.ntmps53
  go_upto_region 3 with fail
  obtain ⟨W,e,he,hW,hx,bS,bI⟩:=Q0i w (stV s) #[.int .i64 9,.int .i64 a,.int .i64 b,.int .i64 c,.int .i64 n] 80 70
  rw [hW,he]
  have X:=Lib.hid hx
  have i0:W.cell? ⟨e+1,0,none⟩=some (.int .i64 9):=by rw [bI.cell];rfl
  have i1:W.cell? ⟨e+1,1,none⟩=some (.int .i64 a):=by rw [bI.cell];rfl
  have i2:W.cell? ⟨e+1,2,none⟩=some (.int .i64 b):=by rw [bI.cell];rfl
  have i3:W.cell? ⟨e+1,3,none⟩=some (.int .i64 c):=by rw [bI.cell];rfl
  have i4:W.cell? ⟨e+1,4,none⟩=some (.int .i64 n):=by rw [bI.cell];rfl
  have hel0:=bS.lt
  have hel1:=bI.lt
  have g0:=hx.kept g0.1
  clear hW he e0 e1 e2 e3 e4 bI hbl
  clear bS hx
  go_wp2
  go_ret
  exact ⟨Q04 (by simp [Q1d]),X.out⟩
set_option maxRecDepth 100000 in
set_option maxHeartbeats 4000000 in
theorem Qt5 (p:Q00) {B g ks:Nat} {oa:Option Addr} {capa:Nat} {vK:Value} {oc:Option Addr} {capc:Nat} {T:Tab} {wk:List Int} (at_:Nat) (s:KSt) (op a b c n:Int) (hop:op≠7∧op≠9∧op≠3∧op≠4) (hs:Sok s) (hr:Q02 p.regs=true) (hcl:p.code.length≤200) (hat:at_ < p.code.length) (hi:Q0d p at_=⟨op,a,b,c,n⟩) (hok:Q01 p 8 ⟨op,a,b,c,n⟩=true) (w:World) (hp:Q0b w (.agg #[.slice oa p.regs.length capa,.slice oc p.code.length capc]) p) (h:CSt w B g ks (.slice oa p.regs.length capa) (.slice oc p.code.length capc) vK p T wk) :
  Calls Try.prog 53 #[.pointer (some ⟨g,0,none⟩),.int .i64 (at_:Int),.agg (stV s)] w fun e w'=>e=.returned (.bool (Q1d p at_ s ⟨op,a,b,c,n⟩))∧Ext w w':=by
 obtain ⟨v1,v2,hv,hR,⟨-,oc',capc',bc,oo,hv2,hc1,hc2,hrow⟩⟩:=hp
 simp only [Value.agg.injEq,Array.mk.injEq,List.cons.injEq,and_true] at hv
 obtain ⟨rfl,rfl⟩:=hv
 simp only [Value.slice.injEq,true_and] at hv2
 obtain ⟨rfl,rfl⟩:=hv2
 have hix:=Q1g (cap:=capc) hrow.at_
 obtain ⟨e0,e1,e2,e3,e4⟩:=hrow.ins at_ hat
 have hgi:p.code.getD at_ default=⟨op,a,b,c,n⟩:=hi
 rw [hgi] at e0 e1 e2 e3 e4
 simp only at e0 e1 e2 e3 e4
 obtain ⟨g0,c1,-,-⟩:=h.cells
 have hgl:=h.box.lt
 have hst:=Q26
 have Hs:=Lib.hid hs
 have hl:=hs.len
 have HR:=Lib.hid hR
 have Hok:=Lib.hid hok
 have hbl:=Q09 e0
 simp only at hbl
 have hbk:Q1d p at_ s ⟨op,a,b,c,n⟩ = !Q2k p at_:=by unfold Q1d;rw [if_neg (by simp only;omega),if_neg (by simp only;omega)]
 have Hbk:=Lib.hid hbk
 clear hbk
 have hq7:(op == (7:Int))=false:=by simp;omega
 have hq9:(op == (9:Int))=false:=by simp;omega
 have hq3:(op == (3:Int))=false:=by simp;omega
 have hq4:(op == (4:Int))=false:=by simp;omega
 clear h hs hrow hi hgi hR hr hc1 hc2 hok
 by_cases hla:at_+1=p.code.length
 ·have hl1:(((at_:Int)+1) == (p.code.length:Int))=true:=by simp;omega
  have hlb:Q2k p at_=true:=by simp [Q2k,hla]
  have Hlb:=Lib.hid hlb
  clear hlb
  go_enter Try.func53,Try.ntmps53
  go_upto_region 3 with fail
  obtain ⟨W,e,he,hW,hx,bS,bI⟩:=Q0i w (stV s) #[.int .i64 op,.int .i64 a,.int .i64 b,.int .i64 c,.int .i64 n] 80 70
  rw [hW,he]
  have X:=Lib.hid hx
  have i0:W.cell? ⟨e+1,0,none⟩=some (.int .i64 op):=by rw [bI.cell];rfl
  have i1:W.cell? ⟨e+1,1,none⟩=some (.int .i64 a):=by rw [bI.cell];rfl
  have i2:W.cell? ⟨e+1,2,none⟩=some (.int .i64 b):=by rw [bI.cell];rfl
  have i3:W.cell? ⟨e+1,3,none⟩=some (.int .i64 c):=by rw [bI.cell];rfl
  have i4:W.cell? ⟨e+1,4,none⟩=some (.int .i64 n):=by rw [bI.cell];rfl
  have hel0:=bS.lt
  have hel1:=bI.lt
  have g0:=hx.kept g0.1
  clear hW he e0 e1 e2 e3 e4 bI hbl
  clear bS hx
  go_wp2
  go_ret
  exact ⟨Q04 (by rw [Hbk.out,Hlb.out];rfl),X.out⟩
 ·have hl1:(((at_:Int)+1) == (p.code.length:Int))=false:=by simp;omega
  have hlb:Q2k p at_=false:=by simp [Q2k,hla]
  have Hlb:=Lib.hid hlb
  clear hlb hla
  go_enter Try.func53,Try.ntmps53
  go_upto_region 3 with fail
  obtain ⟨W,e,he,hW,hx,bS,bI⟩:=Q0i w (stV s) #[.int .i64 op,.int .i64 a,.int .i64 b,.int .i64 c,.int .i64 n] 80 70
  rw [hW,he]
  have X:=Lib.hid hx
  have i0:W.cell? ⟨e+1,0,none⟩=some (.int .i64 op):=by rw [bI.cell];rfl
  have i1:W.cell? ⟨e+1,1,none⟩=some (.int .i64 a):=by rw [bI.cell];rfl
  have i2:W.cell? ⟨e+1,2,none⟩=some (.int .i64 b):=by rw [bI.cell];rfl
  have i3:W.cell? ⟨e+1,3,none⟩=some (.int .i64 c):=by rw [bI.cell];rfl
  have i4:W.cell? ⟨e+1,4,none⟩=some (.int .i64 n):=by rw [bI.cell];rfl
  have hel0:=bS.lt
  have hel1:=bI.lt
  have g0:=hx.kept g0.1
  clear hW he e0 e1 e2 e3 e4 bI hbl
  clear bS hx
  go_wp2
  go_ret
  exact ⟨Q04 (by rw [Hbk.out,Hlb.out];rfl),X.out⟩
set_option maxRecDepth 100000 in
set_option maxHeartbeats 4000000 in
theorem Qt4 (p:Q00) {B g ks:Nat} {oa:Option Addr} {capa:Nat} {vK:Value} {oc:Option Addr} {capc:Nat} {T:Tab} {wk:List Int} (at_:Nat) (s:KSt) (op a b c n:Int) (hop:op=3) (hs:Sok s) (hr:Q02 p.regs=true) (hcl:p.code.length≤200) (hat:at_ < p.code.length) (hi:Q0d p at_=⟨op,a,b,c,n⟩) (hok:Q01 p 8 ⟨op,a,b,c,n⟩=true) (w:World) (hp:Q0b w (.agg #[.slice oa p.regs.length capa,.slice oc p.code.length capc]) p) (h:CSt w B g ks (.slice oa p.regs.length capa) (.slice oc p.code.length capc) vK p T wk) :
  Calls Try.prog 53 #[.pointer (some ⟨g,0,none⟩),.int .i64 (at_:Int),.agg (stV s)] w fun e w'=>e=.returned (.bool (Q1d p at_ s ⟨3,a,b,c,n⟩))∧Ext w w':=by
 obtain ⟨v1,v2,hv,hR,⟨-,oc',capc',bc,oo,hv2,hc1,hc2,hrow⟩⟩:=hp
 simp only [Value.agg.injEq,Array.mk.injEq,List.cons.injEq,and_true] at hv
 obtain ⟨rfl,rfl⟩:=hv
 simp only [Value.slice.injEq,true_and] at hv2
 obtain ⟨rfl,rfl⟩:=hv2
 have hix:=Q1g (cap:=capc) hrow.at_
 obtain ⟨e0,e1,e2,e3,e4⟩:=hrow.ins at_ hat
 have hgi:p.code.getD at_ default=⟨op,a,b,c,n⟩:=hi
 rw [hgi] at e0 e1 e2 e3 e4
 simp only at e0 e1 e2 e3 e4
 obtain ⟨g0,c1,-,-⟩:=h.cells
 have hgl:=h.box.lt
 have hst:=Q26
 have Hs:=Lib.hid hs
 have hl:=hs.len
 have HR:=Lib.hid hR
 have Hok:=Lib.hid hok
 have hbl:=Q09 e0
 simp only at hbl
 subst hop
 obtain ⟨hc0,hc1'⟩:=Q35 hok (by unfold Q0s Q0m;simp)
 simp only at hc0 hc1'
 have hR2:=hR
 obtain ⟨-,oa',capa',br,orr,hv3,hd1,hd2,hrow2⟩:=hR2
 simp only [Value.slice.injEq,true_and] at hv3
 obtain ⟨rfl,rfl⟩:=hv3
 obtain ⟨rlog,rsec⟩:=hrow2.reg c.toNat hc1'
 have hixr:=Q33 (cap:=capa) hrow2.at_
 have hlen:=Q3o hr
 have hcl2:c < (p.regs.length:Int):=by omega
 have hrf:p.regs.getD c.toNat default=Q0c p ⟨3,a,b,c,n⟩:=rfl
 rw [hrf] at rsec rlog
 have ha:okIn 8 a=true:=by unfold Q01 at hok;simp [okIn] at hok ⊢;omega
 obtain ⟨a0,a1⟩:=Q08.1 ha
 have hb:okIn 8 b=true:=by unfold Q01 at hok;simp [okIn] at hok ⊢;omega
 obtain ⟨b0,b1⟩:=Q08.1 hb
 clear h hs hrow hi hgi hR hr hc1 hc2 hok
 clear hrow2 hd1 hd2 rsec hrf
 by_cases hla:at_+1=p.code.length
 ·have hl1:(((at_:Int)+1) == (p.code.length:Int))=true:=by simp;omega
  have hlb:Q2k p at_=true:=by simp [Q2k,hla]
  have Hlb:=Lib.hid hlb
  clear hlb
  go_enter Try.func53,Try.ntmps53
  go_upto_region 9 with fail
  obtain ⟨W,e,he,hW,hx,bS,bI⟩:=Q0i w (stV s) #[.int .i64 3,.int .i64 a,.int .i64 b,.int .i64 c,.int .i64 n] 80 70
  rw [hW,he]
  have X:=Lib.hid hx
  have i0:W.cell? ⟨e+1,0,none⟩=some (.int .i64 3):=by rw [bI.cell];rfl
  have i1:W.cell? ⟨e+1,1,none⟩=some (.int .i64 a):=by rw [bI.cell];rfl
  have i2:W.cell? ⟨e+1,2,none⟩=some (.int .i64 b):=by rw [bI.cell];rfl
  have i3:W.cell? ⟨e+1,3,none⟩=some (.int .i64 c):=by rw [bI.cell];rfl
  have i4:W.cell? ⟨e+1,4,none⟩=some (.int .i64 n):=by rw [bI.cell];rfl
  have hel0:=bS.lt
  have hel1:=bI.lt
  have g0:=hx.kept g0.1
  clear hW he e0 e1 e2 e3 e4 bI hbl
  obtain ⟨⟨bx0,-⟩,⟨bx1,-⟩⟩:=Q1t bS hl hb
  have k2:∀ Wx,Ext W Wx→Wx.cell? ⟨e+1,2,none⟩=some (.int .i64 b):=fun _ h=>h.kept i2
  have k3:∀ Wx,Ext W Wx→Wx.cell? ⟨e+1,3,none⟩=some (.int .i64 c):=fun _ h=>h.kept i3
  have k4:∀ Wx,Ext W Wx→Wx.cell? ⟨e+1,4,none⟩=some (.int .i64 n):=fun _ h=>h.kept i4
  have mb:∀ Wx,Ext W Wx→Wx.cell? ⟨e,b.toNat * 2,none⟩=some (.int .i64 (kg s b).bits):=fun _ h=>h.kept bx0
  have nb:∀ Wx,Ext W Wx→Wx.cell? ⟨e,b.toNat * 2+1,none⟩=some (.bool (kg s b).sec):=fun _ h=>h.kept bx1
  have kg0:∀ Wx,Ext W Wx→Wx.cell? ⟨g,0,none⟩=some (.slice oa p.regs.length capa):=fun _ h=>h.kept g0
  have kr0:∀ Wx,Ext W Wx→Wx.cell? ⟨br,orr+c.toNat * 2,none⟩=some (.int .i64 (Q0c p ⟨3,a,b,c,n⟩).log):=fun _ h=>h.kept (hx.kept rlog)
  clear i0 i1 i2 i3 i4 bx0 bx1 g0 bS hx
  refine Q0z 29 (by kernel_rfl) (by kernel_rfl) ?_
  simp only [List.take_succ_cons,List.take_zero,List.drop_succ_cons,List.drop_zero]
  repeat (first | (refine Q0p ?_ ?_ (fun wc hE=>?_) ?_;(decide);rfl;(focus (go_simp;done));go_simp) | (refine Q0h ?_ ?_ ?_;(decide);(first | rfl | (focus (go_simp;done)));apply Exists.intro;refine ⟨fun wc hE=>?_,?_⟩;(go_simp;exact rfl);go_simp) | (refine Q0q ?_ ?_ ?_;(decide);(first | rfl | (focus (go_simp;done)));apply Exists.intro;refine ⟨fun wc hE=>?_,?_⟩;(go_simp;(first | fail));go_simp) | (refine Q0n ?_ ?_ ?_;(decide);(focus (go_simp;done));go_simp))
  refine Q0o ?_
  intro wy hx
  have X:=Lib.hid (X.out.trans hx)
  clear hx k2 k3 k4 mb nb kg0 kr0
  go_wp2
  go_ret
  exact ⟨Q04 (by simp [Q1d,Hlb.out]),X.out⟩
 ·have hl1:(((at_:Int)+1) == (p.code.length:Int))=false:=by simp;omega
  have hlb:Q2k p at_=false:=by simp [Q2k,hla]
  have Hlb:=Lib.hid hlb
  clear hlb hla
  go_enter Try.func53,Try.ntmps53
  go_upto_region 9 with fail
  obtain ⟨W,e,he,hW,hx,bS,bI⟩:=Q0i w (stV s) #[.int .i64 3,.int .i64 a,.int .i64 b,.int .i64 c,.int .i64 n] 80 70
  rw [hW,he]
  have X:=Lib.hid hx
  have i0:W.cell? ⟨e+1,0,none⟩=some (.int .i64 3):=by rw [bI.cell];rfl
  have i1:W.cell? ⟨e+1,1,none⟩=some (.int .i64 a):=by rw [bI.cell];rfl
  have i2:W.cell? ⟨e+1,2,none⟩=some (.int .i64 b):=by rw [bI.cell];rfl
  have i3:W.cell? ⟨e+1,3,none⟩=some (.int .i64 c):=by rw [bI.cell];rfl
  have i4:W.cell? ⟨e+1,4,none⟩=some (.int .i64 n):=by rw [bI.cell];rfl
  have hel0:=bS.lt
  have hel1:=bI.lt
  have g0:=hx.kept g0.1
  clear hW he e0 e1 e2 e3 e4 bI hbl
  obtain ⟨⟨bx0,-⟩,⟨bx1,-⟩⟩:=Q1t bS hl hb
  by_cases hn:0≤n
  ·have hnd:decide (0≤n)=true:=by simpa using hn
   have k2:∀ Wx,Ext W Wx→Wx.cell? ⟨e+1,2,none⟩=some (.int .i64 b):=fun _ h=>h.kept i2
   have k3:∀ Wx,Ext W Wx→Wx.cell? ⟨e+1,3,none⟩=some (.int .i64 c):=fun _ h=>h.kept i3
   have k4:∀ Wx,Ext W Wx→Wx.cell? ⟨e+1,4,none⟩=some (.int .i64 n):=fun _ h=>h.kept i4
   have mb:∀ Wx,Ext W Wx→Wx.cell? ⟨e,b.toNat * 2,none⟩=some (.int .i64 (kg s b).bits):=fun _ h=>h.kept bx0
   have nb:∀ Wx,Ext W Wx→Wx.cell? ⟨e,b.toNat * 2+1,none⟩=some (.bool (kg s b).sec):=fun _ h=>h.kept bx1
   have kg0:∀ Wx,Ext W Wx→Wx.cell? ⟨g,0,none⟩=some (.slice oa p.regs.length capa):=fun _ h=>h.kept g0
   have kr0:∀ Wx,Ext W Wx→Wx.cell? ⟨br,orr+c.toNat * 2,none⟩=some (.int .i64 (Q0c p ⟨3,a,b,c,n⟩).log):=fun _ h=>h.kept (hx.kept rlog)
   clear i0 i1 i2 i3 i4 bx0 bx1 g0 bS hx
   refine Q0z 29 (by kernel_rfl) (by kernel_rfl) ?_
   simp only [List.take_succ_cons,List.take_zero,List.drop_succ_cons,List.drop_zero]
   repeat (first | (refine Q0p ?_ ?_ (fun wc hE=>?_) ?_;(decide);rfl;(focus (go_simp;done));go_simp) | (refine Q0h ?_ ?_ ?_;(decide);(first | rfl | (focus (go_simp;done)));apply Exists.intro;refine ⟨fun wc hE=>?_,?_⟩;(go_simp;exact rfl);go_simp) | (refine Q0q ?_ ?_ ?_;(decide);(first | rfl | (focus (go_simp;done)));apply Exists.intro;refine ⟨fun wc hE=>?_,?_⟩;(go_simp;(first | (with_reducible exact Q1p (sum_c' (kg s b) n _))));go_simp) | (refine Q0n ?_ ?_ ?_;(decide);(focus (go_simp;done));go_simp))
   refine Q0o ?_
   intro wy hx
   have X:=Lib.hid (X.out.trans hx)
   clear hx k2 k3 k4 mb nb kg0 kr0
   go_wp2
   go_ret
   exact ⟨Q04 (by simp [Q1d,Hlb.out,hn]),X.out⟩
  ·have hnd:decide (0≤n)=false:=by simpa using hn
   have Hn:=Lib.hid hn
   clear hn
   have k2:∀ Wx,Ext W Wx→Wx.cell? ⟨e+1,2,none⟩=some (.int .i64 b):=fun _ h=>h.kept i2
   have k3:∀ Wx,Ext W Wx→Wx.cell? ⟨e+1,3,none⟩=some (.int .i64 c):=fun _ h=>h.kept i3
   have k4:∀ Wx,Ext W Wx→Wx.cell? ⟨e+1,4,none⟩=some (.int .i64 n):=fun _ h=>h.kept i4
   have mb:∀ Wx,Ext W Wx→Wx.cell? ⟨e,b.toNat * 2,none⟩=some (.int .i64 (kg s b).bits):=fun _ h=>h.kept bx0
   have nb:∀ Wx,Ext W Wx→Wx.cell? ⟨e,b.toNat * 2+1,none⟩=some (.bool (kg s b).sec):=fun _ h=>h.kept bx1
   have kg0:∀ Wx,Ext W Wx→Wx.cell? ⟨g,0,none⟩=some (.slice oa p.regs.length capa):=fun _ h=>h.kept g0
   have kr0:∀ Wx,Ext W Wx→Wx.cell? ⟨br,orr+c.toNat * 2,none⟩=some (.int .i64 (Q0c p ⟨3,a,b,c,n⟩).log):=fun _ h=>h.kept (hx.kept rlog)
   clear i0 i1 i2 i3 i4 bx0 bx1 g0 bS hx
   refine Q0z 29 (by kernel_rfl) (by kernel_rfl) ?_
   simp only [List.take_succ_cons,List.take_zero,List.drop_succ_cons,List.drop_zero]
   repeat (first | (refine Q0p ?_ ?_ (fun wc hE=>?_) ?_;(decide);rfl;(focus (go_simp;done));go_simp) | (refine Q0h ?_ ?_ ?_;(decide);(first | rfl | (focus (go_simp;done)));apply Exists.intro;refine ⟨fun wc hE=>?_,?_⟩;(go_simp;exact rfl);go_simp) | (refine Q0q ?_ ?_ ?_;(decide);(first | rfl | (focus (go_simp;done)));apply Exists.intro;refine ⟨fun wc hE=>?_,?_⟩;(go_simp;(first | fail));go_simp) | (refine Q0n ?_ ?_ ?_;(decide);(focus (go_simp;done));go_simp))
   refine Q0o ?_
   intro wy hx
   have X:=Lib.hid (X.out.trans hx)
   clear hx k2 k3 k4 mb nb kg0 kr0
   go_wp2
   go_ret
   exact ⟨Q04 (by simp [Q1d,Hlb.out];intro h;have:=Hn.out;omega),X.out⟩
set_option maxRecDepth 100000 in
set_option maxHeartbeats 4000000 in
theorem Qt3 (p:Q00) {B g ks:Nat} {oa:Option Addr} {capa:Nat} {vK:Value} {oc:Option Addr} {capc:Nat} {T:Tab} {wk:List Int} (at_:Nat) (s:KSt) (op a b c n:Int) (hop:op=4) (hs:Sok s) (hr:Q02 p.regs=true) (hcl:p.code.length≤200) (hat:at_ < p.code.length) (hi:Q0d p at_=⟨op,a,b,c,n⟩) (hok:Q01 p 8 ⟨op,a,b,c,n⟩=true) (w:World) (hp:Q0b w (.agg #[.slice oa p.regs.length capa,.slice oc p.code.length capc]) p) (h:CSt w B g ks (.slice oa p.regs.length capa) (.slice oc p.code.length capc) vK p T wk) :
  Calls Try.prog 53 #[.pointer (some ⟨g,0,none⟩),.int .i64 (at_:Int),.agg (stV s)] w fun e w'=>e=.returned (.bool (Q1d p at_ s ⟨4,a,b,c,n⟩))∧Ext w w':=by
 obtain ⟨v1,v2,hv,hR,⟨-,oc',capc',bc,oo,hv2,hc1,hc2,hrow⟩⟩:=hp
 simp only [Value.agg.injEq,Array.mk.injEq,List.cons.injEq,and_true] at hv
 obtain ⟨rfl,rfl⟩:=hv
 simp only [Value.slice.injEq,true_and] at hv2
 obtain ⟨rfl,rfl⟩:=hv2
 have hix:=Q1g (cap:=capc) hrow.at_
 obtain ⟨e0,e1,e2,e3,e4⟩:=hrow.ins at_ hat
 have hgi:p.code.getD at_ default=⟨op,a,b,c,n⟩:=hi
 rw [hgi] at e0 e1 e2 e3 e4
 simp only at e0 e1 e2 e3 e4
 obtain ⟨g0,c1,-,-⟩:=h.cells
 have hgl:=h.box.lt
 have hst:=Q26
 have Hs:=Lib.hid hs
 have hl:=hs.len
 have HR:=Lib.hid hR
 have Hok:=Lib.hid hok
 have hbl:=Q09 e0
 simp only at hbl
 subst hop
 obtain ⟨hc0,hc1'⟩:=Q35 hok (by unfold Q0s Q0m;simp)
 simp only at hc0 hc1'
 have hR2:=hR
 obtain ⟨-,oa',capa',br,orr,hv3,hd1,hd2,hrow2⟩:=hR2
 simp only [Value.slice.injEq,true_and] at hv3
 obtain ⟨rfl,rfl⟩:=hv3
 obtain ⟨rlog,rsec⟩:=hrow2.reg c.toNat hc1'
 have hixr:=Q33 (cap:=capa) hrow2.at_
 have hlen:=Q3o hr
 have hcl2:c < (p.regs.length:Int):=by omega
 have hrf:p.regs.getD c.toNat default=Q0c p ⟨4,a,b,c,n⟩:=rfl
 rw [hrf] at rsec rlog
 have ha:okIn 8 a=true:=by unfold Q01 at hok;simp [okIn] at hok ⊢;omega
 obtain ⟨a0,a1⟩:=Q08.1 ha
 have hb:okIn 8 b=true:=by unfold Q01 at hok;simp [okIn] at hok ⊢;omega
 obtain ⟨b0,b1⟩:=Q08.1 hb
 clear h hs hrow hi hgi hR hr hc1 hc2 hok
 clear hrow2 hd1 hd2 rsec hrf
 by_cases hla:at_+1=p.code.length
 ·have hl1:(((at_:Int)+1) == (p.code.length:Int))=true:=by simp;omega
  have hlb:Q2k p at_=true:=by simp [Q2k,hla]
  have Hlb:=Lib.hid hlb
  clear hlb
  go_enter Try.func53,Try.ntmps53
  go_upto_region 9 with fail
  obtain ⟨W,e,he,hW,hx,bS,bI⟩:=Q0i w (stV s) #[.int .i64 4,.int .i64 a,.int .i64 b,.int .i64 c,.int .i64 n] 80 70
  rw [hW,he]
  have X:=Lib.hid hx
  have i0:W.cell? ⟨e+1,0,none⟩=some (.int .i64 4):=by rw [bI.cell];rfl
  have i1:W.cell? ⟨e+1,1,none⟩=some (.int .i64 a):=by rw [bI.cell];rfl
  have i2:W.cell? ⟨e+1,2,none⟩=some (.int .i64 b):=by rw [bI.cell];rfl
  have i3:W.cell? ⟨e+1,3,none⟩=some (.int .i64 c):=by rw [bI.cell];rfl
  have i4:W.cell? ⟨e+1,4,none⟩=some (.int .i64 n):=by rw [bI.cell];rfl
  have hel0:=bS.lt
  have hel1:=bI.lt
  have g0:=hx.kept g0.1
  clear hW he e0 e1 e2 e3 e4 bI hbl
  obtain ⟨⟨bx0,-⟩,⟨bx1,-⟩⟩:=Q1t bS hl hb
  have k2:∀ Wx,Ext W Wx→Wx.cell? ⟨e+1,2,none⟩=some (.int .i64 b):=fun _ h=>h.kept i2
  have k3:∀ Wx,Ext W Wx→Wx.cell? ⟨e+1,3,none⟩=some (.int .i64 c):=fun _ h=>h.kept i3
  have k4:∀ Wx,Ext W Wx→Wx.cell? ⟨e+1,4,none⟩=some (.int .i64 n):=fun _ h=>h.kept i4
  have mb:∀ Wx,Ext W Wx→Wx.cell? ⟨e,b.toNat * 2,none⟩=some (.int .i64 (kg s b).bits):=fun _ h=>h.kept bx0
  have nb:∀ Wx,Ext W Wx→Wx.cell? ⟨e,b.toNat * 2+1,none⟩=some (.bool (kg s b).sec):=fun _ h=>h.kept bx1
  have kg0:∀ Wx,Ext W Wx→Wx.cell? ⟨g,0,none⟩=some (.slice oa p.regs.length capa):=fun _ h=>h.kept g0
  have kr0:∀ Wx,Ext W Wx→Wx.cell? ⟨br,orr+c.toNat * 2,none⟩=some (.int .i64 (Q0c p ⟨4,a,b,c,n⟩).log):=fun _ h=>h.kept (hx.kept rlog)
  clear i0 i1 i2 i3 i4 bx0 bx1 g0 bS hx
  refine Q0z 29 (by kernel_rfl) (by kernel_rfl) ?_
  simp only [List.take_succ_cons,List.take_zero,List.drop_succ_cons,List.drop_zero]
  repeat (first | (refine Q0p ?_ ?_ (fun wc hE=>?_) ?_;(decide);rfl;(focus (go_simp;done));go_simp) | (refine Q0h ?_ ?_ ?_;(decide);(first | rfl | (focus (go_simp;done)));apply Exists.intro;refine ⟨fun wc hE=>?_,?_⟩;(go_simp;exact rfl);go_simp) | (refine Q0q ?_ ?_ ?_;(decide);(first | rfl | (focus (go_simp;done)));apply Exists.intro;refine ⟨fun wc hE=>?_,?_⟩;(go_simp;(first | fail));go_simp) | (refine Q0n ?_ ?_ ?_;(decide);(focus (go_simp;done));go_simp))
  refine Q0o ?_
  intro wy hx
  have X:=Lib.hid (X.out.trans hx)
  clear hx k2 k3 k4 mb nb kg0 kr0
  go_wp2
  go_ret
  exact ⟨Q04 (by simp [Q1d,Hlb.out]),X.out⟩
 ·have hl1:(((at_:Int)+1) == (p.code.length:Int))=false:=by simp;omega
  have hlb:Q2k p at_=false:=by simp [Q2k,hla]
  have Hlb:=Lib.hid hlb
  clear hlb hla
  go_enter Try.func53,Try.ntmps53
  go_upto_region 9 with fail
  obtain ⟨W,e,he,hW,hx,bS,bI⟩:=Q0i w (stV s) #[.int .i64 4,.int .i64 a,.int .i64 b,.int .i64 c,.int .i64 n] 80 70
  rw [hW,he]
  have X:=Lib.hid hx
  have i0:W.cell? ⟨e+1,0,none⟩=some (.int .i64 4):=by rw [bI.cell];rfl
  have i1:W.cell? ⟨e+1,1,none⟩=some (.int .i64 a):=by rw [bI.cell];rfl
  have i2:W.cell? ⟨e+1,2,none⟩=some (.int .i64 b):=by rw [bI.cell];rfl
  have i3:W.cell? ⟨e+1,3,none⟩=some (.int .i64 c):=by rw [bI.cell];rfl
  have i4:W.cell? ⟨e+1,4,none⟩=some (.int .i64 n):=by rw [bI.cell];rfl
  have hel0:=bS.lt
  have hel1:=bI.lt
  have g0:=hx.kept g0.1
  clear hW he e0 e1 e2 e3 e4 bI hbl
  obtain ⟨⟨bx0,-⟩,⟨bx1,-⟩⟩:=Q1t bS hl hb
  by_cases hn:0≤n
  ·have hnd:decide (0≤n)=true:=by simpa using hn
   have k2:∀ Wx,Ext W Wx→Wx.cell? ⟨e+1,2,none⟩=some (.int .i64 b):=fun _ h=>h.kept i2
   have k3:∀ Wx,Ext W Wx→Wx.cell? ⟨e+1,3,none⟩=some (.int .i64 c):=fun _ h=>h.kept i3
   have k4:∀ Wx,Ext W Wx→Wx.cell? ⟨e+1,4,none⟩=some (.int .i64 n):=fun _ h=>h.kept i4
   have mb:∀ Wx,Ext W Wx→Wx.cell? ⟨e,b.toNat * 2,none⟩=some (.int .i64 (kg s b).bits):=fun _ h=>h.kept bx0
   have nb:∀ Wx,Ext W Wx→Wx.cell? ⟨e,b.toNat * 2+1,none⟩=some (.bool (kg s b).sec):=fun _ h=>h.kept bx1
   have kg0:∀ Wx,Ext W Wx→Wx.cell? ⟨g,0,none⟩=some (.slice oa p.regs.length capa):=fun _ h=>h.kept g0
   have kr0:∀ Wx,Ext W Wx→Wx.cell? ⟨br,orr+c.toNat * 2,none⟩=some (.int .i64 (Q0c p ⟨4,a,b,c,n⟩).log):=fun _ h=>h.kept (hx.kept rlog)
   clear i0 i1 i2 i3 i4 bx0 bx1 g0 bS hx
   refine Q0z 29 (by kernel_rfl) (by kernel_rfl) ?_
   simp only [List.take_succ_cons,List.take_zero,List.drop_succ_cons,List.drop_zero]
   repeat (first | (refine Q0p ?_ ?_ (fun wc hE=>?_) ?_;(decide);rfl;(focus (go_simp;done));go_simp) | (refine Q0h ?_ ?_ ?_;(decide);(first | rfl | (focus (go_simp;done)));apply Exists.intro;refine ⟨fun wc hE=>?_,?_⟩;(go_simp;exact rfl);go_simp) | (refine Q0q ?_ ?_ ?_;(decide);(first | rfl | (focus (go_simp;done)));apply Exists.intro;refine ⟨fun wc hE=>?_,?_⟩;(go_simp;(first | (with_reducible exact Q1p (sum_c' (kg s b) n _))));go_simp) | (refine Q0n ?_ ?_ ?_;(decide);(focus (go_simp;done));go_simp))
   refine Q0o ?_
   intro wy hx
   have X:=Lib.hid (X.out.trans hx)
   clear hx k2 k3 k4 mb nb kg0 kr0
   go_wp2
   go_ret
   exact ⟨Q04 (by simp [Q1d,Hlb.out,hn]),X.out⟩
  ·have hnd:decide (0≤n)=false:=by simpa using hn
   have Hn:=Lib.hid hn
   clear hn
   have k2:∀ Wx,Ext W Wx→Wx.cell? ⟨e+1,2,none⟩=some (.int .i64 b):=fun _ h=>h.kept i2
   have k3:∀ Wx,Ext W Wx→Wx.cell? ⟨e+1,3,none⟩=some (.int .i64 c):=fun _ h=>h.kept i3
   have k4:∀ Wx,Ext W Wx→Wx.cell? ⟨e+1,4,none⟩=some (.int .i64 n):=fun _ h=>h.kept i4
   have mb:∀ Wx,Ext W Wx→Wx.cell? ⟨e,b.toNat * 2,none⟩=some (.int .i64 (kg s b).bits):=fun _ h=>h.kept bx0
   have nb:∀ Wx,Ext W Wx→Wx.cell? ⟨e,b.toNat * 2+1,none⟩=some (.bool (kg s b).sec):=fun _ h=>h.kept bx1
   have kg0:∀ Wx,Ext W Wx→Wx.cell? ⟨g,0,none⟩=some (.slice oa p.regs.length capa):=fun _ h=>h.kept g0
   have kr0:∀ Wx,Ext W Wx→Wx.cell? ⟨br,orr+c.toNat * 2,none⟩=some (.int .i64 (Q0c p ⟨4,a,b,c,n⟩).log):=fun _ h=>h.kept (hx.kept rlog)
   clear i0 i1 i2 i3 i4 bx0 bx1 g0 bS hx
   refine Q0z 29 (by kernel_rfl) (by kernel_rfl) ?_
   simp only [List.take_succ_cons,List.take_zero,List.drop_succ_cons,List.drop_zero]
   repeat (first | (refine Q0p ?_ ?_ (fun wc hE=>?_) ?_;(decide);rfl;(focus (go_simp;done));go_simp) | (refine Q0h ?_ ?_ ?_;(decide);(first | rfl | (focus (go_simp;done)));apply Exists.intro;refine ⟨fun wc hE=>?_,?_⟩;(go_simp;exact rfl);go_simp) | (refine Q0q ?_ ?_ ?_;(decide);(first | rfl | (focus (go_simp;done)));apply Exists.intro;refine ⟨fun wc hE=>?_,?_⟩;(go_simp;(first | fail));go_simp) | (refine Q0n ?_ ?_ ?_;(decide);(focus (go_simp;done));go_simp))
   refine Q0o ?_
   intro wy hx
   have X:=Lib.hid (X.out.trans hx)
   clear hx k2 k3 k4 mb nb kg0 kr0
   go_wp2
   go_ret
   exact ⟨Q04 (by simp [Q1d,Hlb.out];intro h;have:=Hn.out;omega),X.out⟩
set_option maxRecDepth 100000 in
set_option maxHeartbeats 4000000 in
theorem Qch (p:Q00) {B g ks:Nat} {oa:Option Addr} {capa:Nat} {vK:Value} {oc:Option Addr} {capc:Nat} {T:Tab} {wk:List Int} (at_:Nat) (s:KSt) (op a b c n:Int) (hop:op=3) (hs:Sok s) (hr:Q02 p.regs=true) (hcl:p.code.length≤200) (hat:at_ < p.code.length) (hi:Q0d p at_=⟨op,a,b,c,n⟩) (hok:Q01 p 8 ⟨op,a,b,c,n⟩=true) (w:World) (hp:Q0b w (.agg #[.slice oa p.regs.length capa,.slice oc p.code.length capc]) p) (h:CSt w B g ks (.slice oa p.regs.length capa) (.slice oc p.code.length capc) vK p T wk) :
  Calls Try.prog 54 #[.pointer (some ⟨g,0,none⟩),.int .i64 (at_:Int),.agg (stV s)] w fun e w'=>e=.returned (.bool (Q0t p s ⟨3,a,b,c,n⟩))∧Ext w w':=by
 obtain ⟨v1,v2,hv,hR,⟨-,oc',capc',bc,oo,hv2,hc1,hc2,hrow⟩⟩:=hp
 simp only [Value.agg.injEq,Array.mk.injEq,List.cons.injEq,and_true] at hv
 obtain ⟨rfl,rfl⟩:=hv
 simp only [Value.slice.injEq,true_and] at hv2
 obtain ⟨rfl,rfl⟩:=hv2
 have hix:=Q1g (cap:=capc) hrow.at_
 obtain ⟨e0,e1,e2,e3,e4⟩:=hrow.ins at_ hat
 have hgi:p.code.getD at_ default=⟨op,a,b,c,n⟩:=hi
 rw [hgi] at e0 e1 e2 e3 e4
 simp only at e0 e1 e2 e3 e4
 obtain ⟨g0,c1,-,-⟩:=h.cells
 have hgl:=h.box.lt
 have hst:=Q26
 have Hs:=Lib.hid hs
 have hl:=hs.len
 have HR:=Lib.hid hR
 have Hok:=Lib.hid hok
 have hbl:=Q09 e0
 simp only at hbl
 subst hop
 have hb:okIn 8 b=true:=by unfold Q01 at hok;simp [okIn] at hok ⊢;omega
 obtain ⟨b0,b1⟩:=Q08.1 hb
 clear h hs hrow hi hgi hR hr hc1 hc2 hok
 go_enter Try.func54,Try.ntmps54
 go_upto_region 3 with fail
 obtain ⟨W,e,he,hW,hx,bS,bI⟩:=Q0i w (stV s) #[.int .i64 3,.int .i64 a,.int .i64 b,.int .i64 c,.int .i64 n] 80 70
 rw [hW,he]
 have X:=Lib.hid hx
 have i0:W.cell? ⟨e+1,0,none⟩=some (.int .i64 3):=by rw [bI.cell];rfl
 have i1:W.cell? ⟨e+1,1,none⟩=some (.int .i64 a):=by rw [bI.cell];rfl
 have i2:W.cell? ⟨e+1,2,none⟩=some (.int .i64 b):=by rw [bI.cell];rfl
 have i3:W.cell? ⟨e+1,3,none⟩=some (.int .i64 c):=by rw [bI.cell];rfl
 have i4:W.cell? ⟨e+1,4,none⟩=some (.int .i64 n):=by rw [bI.cell];rfl
 have hel0:=bS.lt
 have hel1:=bI.lt
 have g0:=hx.kept g0.1
 clear hW he e0 e1 e2 e3 e4 bI hbl
 obtain ⟨⟨bx0,-⟩,⟨bx1,-⟩⟩:=Q1t bS hl hb
 generalize hsb:(kg s b).sec=sb at *
 clear bS hx
 cases sb <;> (
  go_wp2
  go_ret
  exact ⟨Q04 (by simp [Q0t,hsb]),X.out⟩)
set_option maxRecDepth 100000 in
set_option maxHeartbeats 4000000 in
theorem Qnc (p:Q00) {B g ks:Nat} {oa:Option Addr} {capa:Nat} {vK:Value} {oc:Option Addr} {capc:Nat} {T:Tab} {wk:List Int} (at_:Nat) (s:KSt) (op a b c n:Int) (hop:op=8) (hs:Sok s) (hr:Q02 p.regs=true) (hcl:p.code.length≤200) (hat:at_ < p.code.length) (hi:Q0d p at_=⟨op,a,b,c,n⟩) (hok:Q01 p 8 ⟨op,a,b,c,n⟩=true) (w:World) (hp:Q0b w (.agg #[.slice oa p.regs.length capa,.slice oc p.code.length capc]) p) (h:CSt w B g ks (.slice oa p.regs.length capa) (.slice oc p.code.length capc) vK p T wk) :
  Calls Try.prog 54 #[.pointer (some ⟨g,0,none⟩),.int .i64 (at_:Int),.agg (stV s)] w fun e w'=>e=.returned (.bool (Q0t p s ⟨8,a,b,c,n⟩))∧Ext w w':=by
 obtain ⟨v1,v2,hv,hR,⟨-,oc',capc',bc,oo,hv2,hc1,hc2,hrow⟩⟩:=hp
 simp only [Value.agg.injEq,Array.mk.injEq,List.cons.injEq,and_true] at hv
 obtain ⟨rfl,rfl⟩:=hv
 simp only [Value.slice.injEq,true_and] at hv2
 obtain ⟨rfl,rfl⟩:=hv2
 have hix:=Q1g (cap:=capc) hrow.at_
 obtain ⟨e0,e1,e2,e3,e4⟩:=hrow.ins at_ hat
 have hgi:p.code.getD at_ default=⟨op,a,b,c,n⟩:=hi
 rw [hgi] at e0 e1 e2 e3 e4
 simp only at e0 e1 e2 e3 e4
 obtain ⟨g0,c1,-,-⟩:=h.cells
 have hgl:=h.box.lt
 have hst:=Q26
 have Hs:=Lib.hid hs
 have hl:=hs.len
 have HR:=Lib.hid hR
 have Hok:=Lib.hid hok
 have hbl:=Q09 e0
 simp only at hbl
 subst hop
 have ha:okIn 8 a=true:=by unfold Q01 at hok;simp [okIn] at hok ⊢;omega
 obtain ⟨a0,a1⟩:=Q08.1 ha
 have hb:okIn 8 b=true:=by unfold Q01 at hok;simp [okIn] at hok ⊢;omega
 obtain ⟨b0,b1⟩:=Q08.1 hb
 clear h hs hrow hi hgi hR hr hc1 hc2 hok
 go_enter Try.func54,Try.ntmps54
 go_upto_region 3 with fail
 obtain ⟨W,e,he,hW,hx,bS,bI⟩:=Q0i w (stV s) #[.int .i64 8,.int .i64 a,.int .i64 b,.int .i64 c,.int .i64 n] 80 70
 rw [hW,he]
 have X:=Lib.hid hx
 have i0:W.cell? ⟨e+1,0,none⟩=some (.int .i64 8):=by rw [bI.cell];rfl
 have i1:W.cell? ⟨e+1,1,none⟩=some (.int .i64 a):=by rw [bI.cell];rfl
 have i2:W.cell? ⟨e+1,2,none⟩=some (.int .i64 b):=by rw [bI.cell];rfl
 have i3:W.cell? ⟨e+1,3,none⟩=some (.int .i64 c):=by rw [bI.cell];rfl
 have i4:W.cell? ⟨e+1,4,none⟩=some (.int .i64 n):=by rw [bI.cell];rfl
 have hel0:=bS.lt
 have hel1:=bI.lt
 have g0:=hx.kept g0.1
 clear hW he e0 e1 e2 e3 e4 bI hbl
 obtain ⟨⟨ax0,-⟩,⟨ax1,-⟩⟩:=Q1t bS hl ha
 obtain ⟨⟨bx0,-⟩,⟨bx1,-⟩⟩:=Q1t bS hl hb
 generalize hsa:(kg s a).sec=sa at *
 generalize hsb:(kg s b).sec=sb at *
 clear bS hx
 cases sa <;> cases sb <;> (
  go_wp2
  go_ret
  exact ⟨Q04 (by simp [Q0t,hsa,hsb]),X.out⟩)
set_option maxRecDepth 100000 in
set_option maxHeartbeats 4000000 in
theorem Qnb (p:Q00) {B g ks:Nat} {oa:Option Addr} {capa:Nat} {vK:Value} {oc:Option Addr} {capc:Nat} {T:Tab} {wk:List Int} (at_:Nat) (s:KSt) (op a b c n:Int) (hop:op=9) (hs:Sok s) (hr:Q02 p.regs=true) (hcl:p.code.length≤200) (hat:at_ < p.code.length) (hi:Q0d p at_=⟨op,a,b,c,n⟩) (hok:Q01 p 8 ⟨op,a,b,c,n⟩=true) (w:World) (hp:Q0b w (.agg #[.slice oa p.regs.length capa,.slice oc p.code.length capc]) p) (h:CSt w B g ks (.slice oa p.regs.length capa) (.slice oc p.code.length capc) vK p T wk) :
  Calls Try.prog 54 #[.pointer (some ⟨g,0,none⟩),.int .i64 (at_:Int),.agg (stV s)] w fun e w'=>e=.returned (.bool (Q0t p s ⟨9,a,b,c,n⟩))∧Ext w w':=by
 obtain ⟨v1,v2,hv,hR,⟨-,oc',capc',bc,oo,hv2,hc1,hc2,hrow⟩⟩:=hp
 simp only [Value.agg.injEq,Array.mk.injEq,List.cons.injEq,and_true] at hv
 obtain ⟨rfl,rfl⟩:=hv
 simp only [Value.slice.injEq,true_and] at hv2
 obtain ⟨rfl,rfl⟩:=hv2
 have hix:=Q1g (cap:=capc) hrow.at_
 obtain ⟨e0,e1,e2,e3,e4⟩:=hrow.ins at_ hat
 have hgi:p.code.getD at_ default=⟨op,a,b,c,n⟩:=hi
 rw [hgi] at e0 e1 e2 e3 e4
 simp only at e0 e1 e2 e3 e4
 obtain ⟨g0,c1,-,-⟩:=h.cells
 have hgl:=h.box.lt
 have hst:=Q26
 have Hs:=Lib.hid hs
 have hl:=hs.len
 have HR:=Lib.hid hR
 have Hok:=Lib.hid hok
 have hbl:=Q09 e0
 simp only at hbl
 subst hop
 have ha:okIn 8 a=true:=by unfold Q01 at hok;simp [okIn] at hok ⊢;omega
 obtain ⟨a0,a1⟩:=Q08.1 ha
 clear h hs hrow hi hgi hR hr hc1 hc2 hok
 go_enter Try.func54,Try.ntmps54
 go_upto_region 3 with fail
 obtain ⟨W,e,he,hW,hx,bS,bI⟩:=Q0i w (stV s) #[.int .i64 9,.int .i64 a,.int .i64 b,.int .i64 c,.int .i64 n] 80 70
 rw [hW,he]
 have X:=Lib.hid hx
 have i0:W.cell? ⟨e+1,0,none⟩=some (.int .i64 9):=by rw [bI.cell];rfl
 have i1:W.cell? ⟨e+1,1,none⟩=some (.int .i64 a):=by rw [bI.cell];rfl
 have i2:W.cell? ⟨e+1,2,none⟩=some (.int .i64 b):=by rw [bI.cell];rfl
 have i3:W.cell? ⟨e+1,3,none⟩=some (.int .i64 c):=by rw [bI.cell];rfl
 have i4:W.cell? ⟨e+1,4,none⟩=some (.int .i64 n):=by rw [bI.cell];rfl
 have hel0:=bS.lt
 have hel1:=bI.lt
 have g0:=hx.kept g0.1
 clear hW he e0 e1 e2 e3 e4 bI hbl
 obtain ⟨⟨ax0,-⟩,⟨ax1,-⟩⟩:=Q1t bS hl ha
 generalize hsa:(kg s a).sec=sa at *
 clear bS hx
 cases sa <;> (
  go_wp2
  go_ret
  exact ⟨Q04 (by simp [Q0t,hsa]),X.out⟩)
set_option maxRecDepth 100000 in
set_option maxHeartbeats 4000000 in
theorem Qng (p:Q00) {B g ks:Nat} {oa:Option Addr} {capa:Nat} {vK:Value} {oc:Option Addr} {capc:Nat} {T:Tab} {wk:List Int} (at_:Nat) (s:KSt) (op a b c n:Int) (hop:op=29) (hs:Sok s) (hr:Q02 p.regs=true) (hcl:p.code.length≤200) (hat:at_ < p.code.length) (hi:Q0d p at_=⟨op,a,b,c,n⟩) (hok:Q01 p 8 ⟨op,a,b,c,n⟩=true) (w:World) (hp:Q0b w (.agg #[.slice oa p.regs.length capa,.slice oc p.code.length capc]) p) (h:CSt w B g ks (.slice oa p.regs.length capa) (.slice oc p.code.length capc) vK p T wk) :
  Calls Try.prog 54 #[.pointer (some ⟨g,0,none⟩),.int .i64 (at_:Int),.agg (stV s)] w fun e w'=>e=.returned (.bool (Q0t p s ⟨29,a,b,c,n⟩))∧Ext w w':=by
 obtain ⟨v1,v2,hv,hR,⟨-,oc',capc',bc,oo,hv2,hc1,hc2,hrow⟩⟩:=hp
 simp only [Value.agg.injEq,Array.mk.injEq,List.cons.injEq,and_true] at hv
 obtain ⟨rfl,rfl⟩:=hv
 simp only [Value.slice.injEq,true_and] at hv2
 obtain ⟨rfl,rfl⟩:=hv2
 have hix:=Q1g (cap:=capc) hrow.at_
 obtain ⟨e0,e1,e2,e3,e4⟩:=hrow.ins at_ hat
 have hgi:p.code.getD at_ default=⟨op,a,b,c,n⟩:=hi
 rw [hgi] at e0 e1 e2 e3 e4
 simp only at e0 e1 e2 e3 e4
 obtain ⟨g0,c1,-,-⟩:=h.cells
 have hgl:=h.box.lt
 have hst:=Q26
 have Hs:=Lib.hid hs
 have hl:=hs.len
 have HR:=Lib.hid hR
 have Hok:=Lib.hid hok
 have hbl:=Q09 e0
 simp only at hbl
 subst hop
 have hb:okIn 8 b=true:=by unfold Q01 at hok;simp [okIn] at hok ⊢;omega
 obtain ⟨b0,b1⟩:=Q08.1 hb
 have hc:okIn 8 c=true:=by unfold Q01 at hok;simp [okIn] at hok ⊢;omega
 obtain ⟨c0,c1⟩:=Q08.1 hc
 clear h hs hrow hi hgi hR hr hc1 hc2 hok
 go_enter Try.func54,Try.ntmps54
 go_upto_region 3 with fail
 obtain ⟨W,e,he,hW,hx,bS,bI⟩:=Q0i w (stV s) #[.int .i64 29,.int .i64 a,.int .i64 b,.int .i64 c,.int .i64 n] 80 70
 rw [hW,he]
 have X:=Lib.hid hx
 have i0:W.cell? ⟨e+1,0,none⟩=some (.int .i64 29):=by rw [bI.cell];rfl
 have i1:W.cell? ⟨e+1,1,none⟩=some (.int .i64 a):=by rw [bI.cell];rfl
 have i2:W.cell? ⟨e+1,2,none⟩=some (.int .i64 b):=by rw [bI.cell];rfl
 have i3:W.cell? ⟨e+1,3,none⟩=some (.int .i64 c):=by rw [bI.cell];rfl
 have i4:W.cell? ⟨e+1,4,none⟩=some (.int .i64 n):=by rw [bI.cell];rfl
 have hel0:=bS.lt
 have hel1:=bI.lt
 have g0:=hx.kept g0.1
 clear hW he e0 e1 e2 e3 e4 bI hbl
 obtain ⟨⟨bx0,-⟩,⟨bx1,-⟩⟩:=Q1t bS hl hb
 obtain ⟨⟨cx0,-⟩,⟨cx1,-⟩⟩:=Q1t bS hl hc
 generalize hsb:(kg s b).sec=sb at *
 generalize hsc:(kg s c).sec=sc at *
 clear bS hx
 cases sb <;> cases sc <;> (
  go_wp2
  go_ret
  exact ⟨Q04 (by simp [Q0t,hsb,hsc]),X.out⟩)
set_option maxRecDepth 100000 in
set_option maxHeartbeats 4000000 in
theorem Qnf (p:Q00) {B g ks:Nat} {oa:Option Addr} {capa:Nat} {vK:Value} {oc:Option Addr} {capc:Nat} {T:Tab} {wk:List Int} (at_:Nat) (s:KSt) (op a b c n:Int) (hop:op=30) (hs:Sok s) (hr:Q02 p.regs=true) (hcl:p.code.length≤200) (hat:at_ < p.code.length) (hi:Q0d p at_=⟨op,a,b,c,n⟩) (hok:Q01 p 8 ⟨op,a,b,c,n⟩=true) (w:World) (hp:Q0b w (.agg #[.slice oa p.regs.length capa,.slice oc p.code.length capc]) p) (h:CSt w B g ks (.slice oa p.regs.length capa) (.slice oc p.code.length capc) vK p T wk) :
  Calls Try.prog 54 #[.pointer (some ⟨g,0,none⟩),.int .i64 (at_:Int),.agg (stV s)] w fun e w'=>e=.returned (.bool (Q0t p s ⟨30,a,b,c,n⟩))∧Ext w w':=by
 obtain ⟨v1,v2,hv,hR,⟨-,oc',capc',bc,oo,hv2,hc1,hc2,hrow⟩⟩:=hp
 simp only [Value.agg.injEq,Array.mk.injEq,List.cons.injEq,and_true] at hv
 obtain ⟨rfl,rfl⟩:=hv
 simp only [Value.slice.injEq,true_and] at hv2
 obtain ⟨rfl,rfl⟩:=hv2
 have hix:=Q1g (cap:=capc) hrow.at_
 obtain ⟨e0,e1,e2,e3,e4⟩:=hrow.ins at_ hat
 have hgi:p.code.getD at_ default=⟨op,a,b,c,n⟩:=hi
 rw [hgi] at e0 e1 e2 e3 e4
 simp only at e0 e1 e2 e3 e4
 obtain ⟨g0,c1,-,-⟩:=h.cells
 have hgl:=h.box.lt
 have hst:=Q26
 have Hs:=Lib.hid hs
 have hl:=hs.len
 have HR:=Lib.hid hR
 have Hok:=Lib.hid hok
 have hbl:=Q09 e0
 simp only at hbl
 subst hop
 have hb:okIn 8 b=true:=by unfold Q01 at hok;simp [okIn] at hok ⊢;omega
 obtain ⟨b0,b1⟩:=Q08.1 hb
 have hc:okIn 8 c=true:=by unfold Q01 at hok;simp [okIn] at hok ⊢;omega
 obtain ⟨c0,c1⟩:=Q08.1 hc
 clear h hs hrow hi hgi hR hr hc1 hc2 hok
 go_enter Try.func54,Try.ntmps54
 go_upto_region 3 with fail
 obtain ⟨W,e,he,hW,hx,bS,bI⟩:=Q0i w (stV s) #[.int .i64 30,.int .i64 a,.int .i64 b,.int .i64 c,.int .i64 n] 80 70
 rw [hW,he]
 have X:=Lib.hid hx
 have i0:W.cell? ⟨e+1,0,none⟩=some (.int .i64 30):=by rw [bI.cell];rfl
 have i1:W.cell? ⟨e+1,1,none⟩=some (.int .i64 a):=by rw [bI.cell];rfl
 have i2:W.cell? ⟨e+1,2,none⟩=some (.int .i64 b):=by rw [bI.cell];rfl
 have i3:W.cell? ⟨e+1,3,none⟩=some (.int .i64 c):=by rw [bI.cell];rfl
 have i4:W.cell? ⟨e+1,4,none⟩=some (.int .i64 n):=by rw [bI.cell];rfl
 have hel0:=bS.lt
 have hel1:=bI.lt
 have g0:=hx.kept g0.1
 clear hW he e0 e1 e2 e3 e4 bI hbl
 obtain ⟨⟨bx0,-⟩,⟨bx1,-⟩⟩:=Q1t bS hl hb
 obtain ⟨⟨cx0,-⟩,⟨cx1,-⟩⟩:=Q1t bS hl hc
 generalize hsb:(kg s b).sec=sb at *
 generalize hsc:(kg s c).sec=sc at *
 clear bS hx
 cases sb <;> cases sc <;> (
  go_wp2
  go_ret
  exact ⟨Q04 (by simp [Q0t,hsb,hsc]),X.out⟩)
set_option maxRecDepth 100000 in
set_option maxHeartbeats 4000000 in
theorem Qne (p:Q00) {B g ks:Nat} {oa:Option Addr} {capa:Nat} {vK:Value} {oc:Option Addr} {capc:Nat} {T:Tab} {wk:List Int} (at_:Nat) (s:KSt) (op a b c n:Int) (hop:op=4) (hs:Sok s) (hr:Q02 p.regs=true) (hcl:p.code.length≤200) (hat:at_ < p.code.length) (hi:Q0d p at_=⟨op,a,b,c,n⟩) (hok:Q01 p 8 ⟨op,a,b,c,n⟩=true) (w:World) (hp:Q0b w (.agg #[.slice oa p.regs.length capa,.slice oc p.code.length capc]) p) (h:CSt w B g ks (.slice oa p.regs.length capa) (.slice oc p.code.length capc) vK p T wk) :
  Calls Try.prog 54 #[.pointer (some ⟨g,0,none⟩),.int .i64 (at_:Int),.agg (stV s)] w fun e w'=>e=.returned (.bool (Q0t p s ⟨4,a,b,c,n⟩))∧Ext w w':=by
 obtain ⟨v1,v2,hv,hR,⟨-,oc',capc',bc,oo,hv2,hc1,hc2,hrow⟩⟩:=hp
 simp only [Value.agg.injEq,Array.mk.injEq,List.cons.injEq,and_true] at hv
 obtain ⟨rfl,rfl⟩:=hv
 simp only [Value.slice.injEq,true_and] at hv2
 obtain ⟨rfl,rfl⟩:=hv2
 have hix:=Q1g (cap:=capc) hrow.at_
 obtain ⟨e0,e1,e2,e3,e4⟩:=hrow.ins at_ hat
 have hgi:p.code.getD at_ default=⟨op,a,b,c,n⟩:=hi
 rw [hgi] at e0 e1 e2 e3 e4
 simp only at e0 e1 e2 e3 e4
 obtain ⟨g0,c1,-,-⟩:=h.cells
 have hgl:=h.box.lt
 have hst:=Q26
 have Hs:=Lib.hid hs
 have hl:=hs.len
 have HR:=Lib.hid hR
 have Hok:=Lib.hid hok
 have hbl:=Q09 e0
 simp only at hbl
 subst hop
 obtain ⟨hc0,hc1'⟩:=Q35 hok (by unfold Q0s Q0m;simp)
 simp only at hc0 hc1'
 have hR2:=hR
 obtain ⟨-,oa',capa',br,orr,hv3,hd1,hd2,hrow2⟩:=hR2
 simp only [Value.slice.injEq,true_and] at hv3
 obtain ⟨rfl,rfl⟩:=hv3
 obtain ⟨rlog,rsec⟩:=hrow2.reg c.toNat hc1'
 have hixr:=Q33 (cap:=capa) hrow2.at_
 have hlen:=Q3o hr
 have hcl2:c < (p.regs.length:Int):=by omega
 have hrf:p.regs.getD c.toNat default=Q0c p ⟨4,a,b,c,n⟩:=rfl
 rw [hrf] at rsec rlog
 have ha:okIn 8 a=true:=by unfold Q01 at hok;simp [okIn] at hok ⊢;omega
 obtain ⟨a0,a1⟩:=Q08.1 ha
 have hb:okIn 8 b=true:=by unfold Q01 at hok;simp [okIn] at hok ⊢;omega
 obtain ⟨b0,b1⟩:=Q08.1 hb
 clear h hs hrow hi hgi hR hr hc1 hc2 hok
 clear hrow2 hd1 hd2 rlog hrf
 go_enter Try.func54,Try.ntmps54
 go_upto_region 6 with fail
 obtain ⟨W,e,he,hW,hx,bS,bI⟩:=Q0i w (stV s) #[.int .i64 4,.int .i64 a,.int .i64 b,.int .i64 c,.int .i64 n] 80 70
 rw [hW,he]
 have X:=Lib.hid hx
 have i0:W.cell? ⟨e+1,0,none⟩=some (.int .i64 4):=by rw [bI.cell];rfl
 have i1:W.cell? ⟨e+1,1,none⟩=some (.int .i64 a):=by rw [bI.cell];rfl
 have i2:W.cell? ⟨e+1,2,none⟩=some (.int .i64 b):=by rw [bI.cell];rfl
 have i3:W.cell? ⟨e+1,3,none⟩=some (.int .i64 c):=by rw [bI.cell];rfl
 have i4:W.cell? ⟨e+1,4,none⟩=some (.int .i64 n):=by rw [bI.cell];rfl
 have hel0:=bS.lt
 have hel1:=bI.lt
 have g0:=hx.kept g0.1
 clear hW he e0 e1 e2 e3 e4 bI hbl
 obtain ⟨⟨bx0,-⟩,⟨bx1,-⟩⟩:=Q1t bS hl hb
 obtain ⟨⟨ax0,-⟩,⟨ax1,-⟩⟩:=Q1t bS hl ha
 generalize hsb:(kg s b).sec=sb at *
 generalize hsa:(kg s a).sec=sa at *
 generalize hsr:(Q0c p ⟨4,a,b,c,n⟩).secret=sr at *
 have k1:∀ Wx,Ext W Wx→Wx.cell? ⟨e+1,1,none⟩=some (.int .i64 a):=fun _ h=>h.kept i1
 have k2:∀ Wx,Ext W Wx→Wx.cell? ⟨e+1,2,none⟩=some (.int .i64 b):=fun _ h=>h.kept i2
 have k3:∀ Wx,Ext W Wx→Wx.cell? ⟨e+1,3,none⟩=some (.int .i64 c):=fun _ h=>h.kept i3
 have nb:∀ Wx,Ext W Wx→Wx.cell? ⟨e,b.toNat * 2+1,none⟩=some (.bool sb):=fun _ h=>h.kept bx1
 have na:∀ Wx,Ext W Wx→Wx.cell? ⟨e,a.toNat * 2+1,none⟩=some (.bool sa):=fun _ h=>h.kept ax1
 have kg0:∀ Wx,Ext W Wx→Wx.cell? ⟨g,0,none⟩=some (.slice oa p.regs.length capa):=fun _ h=>h.kept g0
 have kr1:∀ Wx,Ext W Wx→Wx.cell? ⟨br,orr+c.toNat * 2+1,none⟩=some (.bool sr):=fun _ h=>h.kept (hx.kept rsec)
 have hres:Q0t p s ⟨4,a,b,c,n⟩=(!sb && (!sa || sr)):=by simp [Q0t,hsb,hsa,hsr]
 have Hres:=Lib.hid hres
 clear i0 i1 i2 i3 i4 bx0 bx1 ax0 ax1 g0 bS hx rsec hres
 cases sb <;> cases sa <;> (
  refine Q0z 27 (by kernel_rfl) (by kernel_rfl) ?_
  simp only [List.take_succ_cons,List.take_zero,List.drop_succ_cons,List.drop_zero]
  repeat (first | (refine Q0p ?_ ?_ (fun wc hE=>?_) ?_;(decide);rfl;(focus (go_simp;done));go_simp) | (refine Q0h ?_ ?_ ?_;(decide);(first | rfl | (focus (go_simp;done)));apply Exists.intro;refine ⟨fun wc hE=>?_,?_⟩;(go_simp;exact rfl);go_simp) | (refine Q0q ?_ ?_ ?_;(decide);(first | rfl | (focus (go_simp;done)));apply Exists.intro;refine ⟨fun wc hE=>?_,?_⟩;(go_simp;(first | fail));go_simp) | (refine Q0n ?_ ?_ ?_;(decide);(first | rfl | (focus (go_simp;done)));go_simp))
  refine Q0o ?_
  intro wy hx
  have X:=Lib.hid (X.out.trans hx)
  clear hx k1 k2 k3 nb na kg0 kr1
  go_wp2
  go_ret
  exact ⟨Q04 (by rw [Hres.out];simp),X.out⟩)
set_option maxRecDepth 100000 in
set_option maxHeartbeats 4000000 in
theorem Qnd (p:Q00) {B g ks:Nat} {oa:Option Addr} {capa:Nat} {vK:Value} {oc:Option Addr} {capc:Nat} {T:Tab} {wk:List Int} (at_:Nat) (s:KSt) (op a b c n:Int) (hop:op=6) (hs:Sok s) (hr:Q02 p.regs=true) (hcl:p.code.length≤200) (hat:at_ < p.code.length) (hi:Q0d p at_=⟨op,a,b,c,n⟩) (hok:Q01 p 8 ⟨op,a,b,c,n⟩=true) (w:World) (hp:Q0b w (.agg #[.slice oa p.regs.length capa,.slice oc p.code.length capc]) p) (h:CSt w B g ks (.slice oa p.regs.length capa) (.slice oc p.code.length capc) vK p T wk) :
  Calls Try.prog 54 #[.pointer (some ⟨g,0,none⟩),.int .i64 (at_:Int),.agg (stV s)] w fun e w'=>e=.returned (.bool (Q0t p s ⟨6,a,b,c,n⟩))∧Ext w w':=by
 obtain ⟨v1,v2,hv,hR,⟨-,oc',capc',bc,oo,hv2,hc1,hc2,hrow⟩⟩:=hp
 simp only [Value.agg.injEq,Array.mk.injEq,List.cons.injEq,and_true] at hv
 obtain ⟨rfl,rfl⟩:=hv
 simp only [Value.slice.injEq,true_and] at hv2
 obtain ⟨rfl,rfl⟩:=hv2
 have hix:=Q1g (cap:=capc) hrow.at_
 obtain ⟨e0,e1,e2,e3,e4⟩:=hrow.ins at_ hat
 have hgi:p.code.getD at_ default=⟨op,a,b,c,n⟩:=hi
 rw [hgi] at e0 e1 e2 e3 e4
 simp only at e0 e1 e2 e3 e4
 obtain ⟨g0,c1,-,-⟩:=h.cells
 have hgl:=h.box.lt
 have hst:=Q26
 have Hs:=Lib.hid hs
 have hl:=hs.len
 have HR:=Lib.hid hR
 have Hok:=Lib.hid hok
 have hbl:=Q09 e0
 simp only at hbl
 subst hop
 obtain ⟨hc0,hc1'⟩:=Q35 hok (by unfold Q0s Q0m;simp)
 simp only at hc0 hc1'
 have hR2:=hR
 obtain ⟨-,oa',capa',br,orr,hv3,hd1,hd2,hrow2⟩:=hR2
 simp only [Value.slice.injEq,true_and] at hv3
 obtain ⟨rfl,rfl⟩:=hv3
 obtain ⟨rlog,rsec⟩:=hrow2.reg c.toNat hc1'
 have hixr:=Q33 (cap:=capa) hrow2.at_
 have hlen:=Q3o hr
 have hcl2:c < (p.regs.length:Int):=by omega
 have hrf:p.regs.getD c.toNat default=Q0c p ⟨6,a,b,c,n⟩:=rfl
 rw [hrf] at rsec rlog
 have ha:okIn 8 a=true:=by unfold Q01 at hok;simp [okIn] at hok ⊢;omega
 obtain ⟨a0,a1⟩:=Q08.1 ha
 clear h hs hrow hi hgi hR hr hc1 hc2 hok
 clear hrow2 hd1 hd2 rlog hrf
 go_enter Try.func54,Try.ntmps54
 go_upto_region 8 with fail
 obtain ⟨W,e,he,hW,hx,bS,bI⟩:=Q0i w (stV s) #[.int .i64 6,.int .i64 a,.int .i64 b,.int .i64 c,.int .i64 n] 80 70
 rw [hW,he]
 have X:=Lib.hid hx
 have i0:W.cell? ⟨e+1,0,none⟩=some (.int .i64 6):=by rw [bI.cell];rfl
 have i1:W.cell? ⟨e+1,1,none⟩=some (.int .i64 a):=by rw [bI.cell];rfl
 have i2:W.cell? ⟨e+1,2,none⟩=some (.int .i64 b):=by rw [bI.cell];rfl
 have i3:W.cell? ⟨e+1,3,none⟩=some (.int .i64 c):=by rw [bI.cell];rfl
 have i4:W.cell? ⟨e+1,4,none⟩=some (.int .i64 n):=by rw [bI.cell];rfl
 have hel0:=bS.lt
 have hel1:=bI.lt
 have g0:=hx.kept g0.1
 clear hW he e0 e1 e2 e3 e4 bI hbl
 obtain ⟨⟨ax0,-⟩,⟨ax1,-⟩⟩:=Q1t bS hl ha
 generalize hsa:(kg s a).sec=sa at *
 generalize hsr:(Q0c p ⟨6,a,b,c,n⟩).secret=sr at *
 have k1:∀ Wx,Ext W Wx→Wx.cell? ⟨e+1,1,none⟩=some (.int .i64 a):=fun _ h=>h.kept i1
 have k2:∀ Wx,Ext W Wx→Wx.cell? ⟨e+1,2,none⟩=some (.int .i64 b):=fun _ h=>h.kept i2
 have k3:∀ Wx,Ext W Wx→Wx.cell? ⟨e+1,3,none⟩=some (.int .i64 c):=fun _ h=>h.kept i3
 have na:∀ Wx,Ext W Wx→Wx.cell? ⟨e,a.toNat * 2+1,none⟩=some (.bool sa):=fun _ h=>h.kept ax1
 have kg0:∀ Wx,Ext W Wx→Wx.cell? ⟨g,0,none⟩=some (.slice oa p.regs.length capa):=fun _ h=>h.kept g0
 have kr1:∀ Wx,Ext W Wx→Wx.cell? ⟨br,orr+c.toNat * 2+1,none⟩=some (.bool sr):=fun _ h=>h.kept (hx.kept rsec)
 have hres:Q0t p s ⟨6,a,b,c,n⟩=(!sa || sr):=by simp [Q0t,hsa,hsr]
 have Hres:=Lib.hid hres
 clear i0 i1 i2 i3 i4 ax0 ax1 g0 bS hx rsec hres
 cases sa <;> (
  refine Q0z 19 (by kernel_rfl) (by kernel_rfl) ?_
  simp only [List.take_succ_cons,List.take_zero,List.drop_succ_cons,List.drop_zero]
  repeat (first | (refine Q0p ?_ ?_ (fun wc hE=>?_) ?_;(decide);rfl;(focus (go_simp;done));go_simp) | (refine Q0h ?_ ?_ ?_;(decide);(first | rfl | (focus (go_simp;done)));apply Exists.intro;refine ⟨fun wc hE=>?_,?_⟩;(go_simp;exact rfl);go_simp) | (refine Q0q ?_ ?_ ?_;(decide);(first | rfl | (focus (go_simp;done)));apply Exists.intro;refine ⟨fun wc hE=>?_,?_⟩;(go_simp;(first | fail));go_simp) | (refine Q0n ?_ ?_ ?_;(decide);(first | rfl | (focus (go_simp;done)));go_simp))
  refine Q0o ?_
  intro wy hx
  have X:=Lib.hid (X.out.trans hx)
  clear hx k1 k2 k3 na kg0 kr1
  go_wp2
  go_ret
  exact ⟨Q04 (by rw [Hres.out];simp),X.out⟩)
set_option maxRecDepth 100000 in
set_option maxHeartbeats 4000000 in
theorem Qnh (p:Q00) {B g ks:Nat} {oa:Option Addr} {capa:Nat} {vK:Value} {oc:Option Addr} {capc:Nat} {T:Tab} {wk:List Int} (at_:Nat) (s:KSt) (op a b c n:Int) (hop:op≠3∧op≠4∧op≠6∧op≠8∧op≠29∧op≠30∧op≠9) (hs:Sok s) (hr:Q02 p.regs=true) (hcl:p.code.length≤200) (hat:at_ < p.code.length) (hi:Q0d p at_=⟨op,a,b,c,n⟩) (hok:Q01 p 8 ⟨op,a,b,c,n⟩=true) (w:World) (hp:Q0b w (.agg #[.slice oa p.regs.length capa,.slice oc p.code.length capc]) p) (h:CSt w B g ks (.slice oa p.regs.length capa) (.slice oc p.code.length capc) vK p T wk) :
  Calls Try.prog 54 #[.pointer (some ⟨g,0,none⟩),.int .i64 (at_:Int),.agg (stV s)] w fun e w'=>e=.returned (.bool (Q0t p s ⟨op,a,b,c,n⟩))∧Ext w w':=by
 obtain ⟨v1,v2,hv,hR,⟨-,oc',capc',bc,oo,hv2,hc1,hc2,hrow⟩⟩:=hp
 simp only [Value.agg.injEq,Array.mk.injEq,List.cons.injEq,and_true] at hv
 obtain ⟨rfl,rfl⟩:=hv
 simp only [Value.slice.injEq,true_and] at hv2
 obtain ⟨rfl,rfl⟩:=hv2
 have hix:=Q1g (cap:=capc) hrow.at_
 obtain ⟨e0,e1,e2,e3,e4⟩:=hrow.ins at_ hat
 have hgi:p.code.getD at_ default=⟨op,a,b,c,n⟩:=hi
 rw [hgi] at e0 e1 e2 e3 e4
 simp only at e0 e1 e2 e3 e4
 obtain ⟨g0,c1,-,-⟩:=h.cells
 have hgl:=h.box.lt
 have hst:=Q26
 have Hs:=Lib.hid hs
 have hl:=hs.len
 have HR:=Lib.hid hR
 have Hok:=Lib.hid hok
 have hbl:=Q09 e0
 simp only at hbl
 have hbk:Q0t p s ⟨op,a,b,c,n⟩=true:=by unfold Q0t;rw [if_neg (by simp only;omega),if_neg (by simp only;omega),if_neg (by simp only;omega),if_neg (by simp only;omega),if_neg (by simp only;omega),if_neg (by simp only;omega)]
 have Hbk:=Lib.hid hbk
 clear hbk
 have hq3:(op == (3:Int))=false:=by simp;omega
 have hq4:(op == (4:Int))=false:=by simp;omega
 have hq6:(op == (6:Int))=false:=by simp;omega
 have hq8:(op == (8:Int))=false:=by simp;omega
 have hq29:(op == (29:Int))=false:=by simp;omega
 have hq30:(op == (30:Int))=false:=by simp;omega
 have hq9:(op == (9:Int))=false:=by simp;omega
 clear h hs hrow hi hgi hR hr hc1 hc2 hok
 go_enter Try.func54,Try.ntmps54
 go_upto_region 3 with fail
 obtain ⟨W,e,he,hW,hx,bS,bI⟩:=Q0i w (stV s) #[.int .i64 op,.int .i64 a,.int .i64 b,.int .i64 c,.int .i64 n] 80 70
 rw [hW,he]
 have X:=Lib.hid hx
 have i0:W.cell? ⟨e+1,0,none⟩=some (.int .i64 op):=by rw [bI.cell];rfl
 have i1:W.cell? ⟨e+1,1,none⟩=some (.int .i64 a):=by rw [bI.cell];rfl
 have i2:W.cell? ⟨e+1,2,none⟩=some (.int .i64 b):=by rw [bI.cell];rfl
 have i3:W.cell? ⟨e+1,3,none⟩=some (.int .i64 c):=by rw [bI.cell];rfl
 have i4:W.cell? ⟨e+1,4,none⟩=some (.int .i64 n):=by rw [bI.cell];rfl
 have hel0:=bS.lt
 have hel1:=bI.lt
 have g0:=hx.kept g0.1
 clear hW he e0 e1 e2 e3 e4 bI hbl
 clear bS hx
 go_wp2
 go_ret
 exact ⟨Q04 (by rw [Hbk.out]),X.out⟩
theorem Qt6 (p:Q00) {B g ks:Nat} {oa:Option Addr} {capa:Nat} {vK:Value} {oc:Option Addr} {capc:Nat} {T:Tab} {wk:List Int} (at_:Nat) (s:KSt) (hs:Sok s) (hr:Q02 p.regs=true) (hcl:p.code.length≤200) (hat:at_ < p.code.length) (hok:Q01 p 8 (Q0d p at_)=true) (w:World) (hp:Q0b w (.agg #[.slice oa p.regs.length capa,.slice oc p.code.length capc]) p) (h:CSt w B g ks (.slice oa p.regs.length capa) (.slice oc p.code.length capc) vK p T wk) :
  Calls Try.prog 53 #[.pointer (some ⟨g,0,none⟩),.int .i64 (at_:Int),.agg (stV s)] w fun e w'=>e=.returned (.bool (Q1d p at_ s (Q0d p at_)))∧Ext w w':=by
 generalize hi:Q0d p at_=i at *
 obtain ⟨op,a,b,c,n⟩:=i
 by_cases e7:op=7
 ·subst e7;exact Qt2 p at_ s _ a b c n rfl hs hr hcl hat hi hok w hp h
 by_cases e9:op=9
 ·subst e9;exact Qt1 p at_ s _ a b c n rfl hs hr hcl hat hi hok w hp h
 by_cases e3:op=3
 ·subst e3;exact Qt4 p at_ s _ a b c n rfl hs hr hcl hat hi hok w hp h
 by_cases e4:op=4
 ·subst e4;exact Qt3 p at_ s _ a b c n rfl hs hr hcl hat hi hok w hp h
 exact Qt5 p at_ s op a b c n ⟨e7,e9,e3,e4⟩ hs hr hcl hat hi hok w hp h
theorem Qni (p:Q00) {B g ks:Nat} {oa:Option Addr} {capa:Nat} {vK:Value} {oc:Option Addr} {capc:Nat} {T:Tab} {wk:List Int} (at_:Nat) (s:KSt) (hs:Sok s) (hr:Q02 p.regs=true) (hcl:p.code.length≤200) (hat:at_ < p.code.length) (hok:Q01 p 8 (Q0d p at_)=true) (w:World) (hp:Q0b w (.agg #[.slice oa p.regs.length capa,.slice oc p.code.length capc]) p) (h:CSt w B g ks (.slice oa p.regs.length capa) (.slice oc p.code.length capc) vK p T wk) :
  Calls Try.prog 54 #[.pointer (some ⟨g,0,none⟩),.int .i64 (at_:Int),.agg (stV s)] w fun e w'=>e=.returned (.bool (Q0t p s (Q0d p at_)))∧Ext w w':=by
 generalize hi:Q0d p at_=i at *
 obtain ⟨op,a,b,c,n⟩:=i
 by_cases e3:op=3
 ·subst e3;exact Qch p at_ s _ a b c n rfl hs hr hcl hat hi hok w hp h
 by_cases e4:op=4
 ·subst e4;exact Qne p at_ s _ a b c n rfl hs hr hcl hat hi hok w hp h
 by_cases e6:op=6
 ·subst e6;exact Qnd p at_ s _ a b c n rfl hs hr hcl hat hi hok w hp h
 by_cases e8:op=8
 ·subst e8;exact Qnc p at_ s _ a b c n rfl hs hr hcl hat hi hok w hp h
 by_cases e29:op=29
 ·subst e29;exact Qng p at_ s _ a b c n rfl hs hr hcl hat hi hok w hp h
 by_cases e30:op=30
 ·subst e30;exact Qnf p at_ s _ a b c n rfl hs hr hcl hat hi hok w hp h
 by_cases e9:op=9
 ·subst e9;exact Qnb p at_ s _ a b c n rfl hs hr hcl hat hi hok w hp h
 exact Qnh p at_ s op a b c n ⟨e3,e4,e6,e8,e29,e30,e9⟩ hs hr hcl hat hi hok w hp h
end Go.Proofs.Yteiknefajlocoaa
