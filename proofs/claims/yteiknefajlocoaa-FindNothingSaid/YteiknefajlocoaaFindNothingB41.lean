/- Laid together from: Ref6c. -/
import Derived.Test.YteiknefajlocoaaFindNothingB40
import Derived.Test.YteiknefajlocoaaFindNothingB38

namespace Go.Proofs.Yteiknefajlocoaa
open Go.ChangeShapes Go.WideShapes Go.ChangeAt Go.RowKit
set_option linter.unusedVariables false
set_option linter.unusedSimpArgs false
structure LdAt (w0 W:World) (gp gi e b cap b1 cap1:Nat) (vR vC:Value) (op a b' c n:Int) (s:KSt):Prop where
 bp:Blk W gp 25 #[vR,vC]
 bt:Blk W (gp+1) 87 #[.bool true,.slice (some ⟨b,0,none⟩) 8 cap]
 bi:Blk W gi 70 #[.int .i64 op,.int .i64 a,.int .i64 b',.int .i64 c,.int .i64 n]
 be:Blk W e 87 #[.bool true,.slice (some ⟨b1,0,none⟩) 8 cap1]
 ks:KnAt W 0 (.slice (some ⟨b,0,none⟩) 8 cap) s
 kt:KnAt W w0.heap.size (.slice (some ⟨b1,0,none⟩) 8 cap1) s
 ext:Ext w0 W
theorem LdAt.extend {w0 W W':World} {gp gi e b cap b1 cap1:Nat} {vR vC:Value} {op a b' c n:Int} {s:KSt} (h:LdAt w0 W gp gi e b cap b1 cap1 vR vC op a b' c n s) (hx:Ext W W'):LdAt w0 W' gp gi e b cap b1 cap1 vR vC op a b' c n s :=
 ⟨h.bp.ext hx,h.bt.ext hx,h.bi.ext hx,h.be.ext hx,h.ks.ext hx,h.kt.ext hx,h.ext.trans hx⟩
def Q58 (w:World) (l:List (Nat × KSt)) (e:Ending) (w':World):Prop :=
 ∃ oa cap,e=.returned (.slice oa l.length cap)∧Q4v w' w.heap.size (.slice oa l.length cap) l∧Ext w w'
theorem Qqa (w:World) (B:Nat):Q4v w B (.slice none 0 0) [] :=
 ⟨none,0,B,rfl,by simp,by decide,Nat.le_refl _,fun h=>by simp at h,fun _=>undef,fun k hk=>by simp at hk⟩
theorem Q5u {w:World} {B b cap dt:Nat} {s:KSt} (h:KnAt w B (.slice (some ⟨b,0,none⟩) 8 cap) s) (hB:B≤w.heap.size) :
  Q4v (w.alloc (.cells #[.int .i64 (dt:Int),.bool true,.slice (some ⟨b,0,none⟩) 8 cap] 91)) B (.slice (some ⟨w.heap.size,0,none⟩) 1 1) [(dt,s)]:=by
 have hb:=Blk.new w 91 #[.int .i64 (dt:Int),.bool true,.slice (some ⟨b,0,none⟩) 8 cap]
 refine ⟨some ⟨w.heap.size,0,none⟩,1,w.heap.size,rfl,by simp,by decide,hB,fun _=>rfl,fun _=>.slice (some ⟨b,0,none⟩) 8 cap,fun k hk=>?_⟩
 obtain rfl:k=0:=by simpa using hk
 exact ⟨by rw [hb.cell];rfl,by rw [hb.cell];rfl,by rw [hb.cell];rfl,h.ext ((Ext.refl w).alloc _)⟩
theorem Qat {w:World} {B b cap b' cap' dt dt':Nat} {s t:KSt} (h:KnAt w B (.slice (some ⟨b,0,none⟩) 8 cap) s) (h':KnAt w B (.slice (some ⟨b',0,none⟩) 8 cap') t) (hB:B≤w.heap.size) :
  Q4v (w.alloc (.cells #[.int .i64 (dt:Int),.bool true,.slice (some ⟨b,0,none⟩) 8 cap,.int .i64 (dt':Int),.bool true,.slice (some ⟨b',0,none⟩) 8 cap'] 91)) B (.slice (some ⟨w.heap.size,0,none⟩) 2 2) [(dt,s),(dt',t)]:=by
 have hb:=Blk.new w 91 #[.int .i64 (dt:Int),.bool true,.slice (some ⟨b,0,none⟩) 8 cap,.int .i64 (dt':Int),.bool true,.slice (some ⟨b',0,none⟩) 8 cap']
 refine ⟨some ⟨w.heap.size,0,none⟩,2,w.heap.size,rfl,by simp,by decide,hB,fun _=>rfl,fun k=>if k=0 then .slice (some ⟨b,0,none⟩) 8 cap else .slice (some ⟨b',0,none⟩) 8 cap',fun k hk=>?_⟩
 have hk2:k=0∨k=1:=by simp at hk;omega
 rcases hk2 with rfl | rfl
 ·exact ⟨by rw [hb.cell];rfl,by rw [hb.cell];rfl,by rw [hb.cell];rfl,h.ext ((Ext.refl w).alloc _)⟩
 ·exact ⟨by rw [hb.cell];rfl,by rw [hb.cell];rfl,by rw [hb.cell];rfl,h'.ext ((Ext.refl w).alloc _)⟩
set_option maxRecDepth 100000 in
set_option maxHeartbeats 4000000 in
theorem Qq5 (p:Q00) {oa:Option Addr} {capa:Nat} {oc:Option Addr} {capc:Nat} (at_:Nat) (s:KSt) (op a b c n:Int) (hop:op=1) (hr:Q02 p.regs=true) (hcl:p.code.length≤200) (hat:at_ < p.code.length) (hi:Q0d p at_=⟨op,a,b,c,n⟩) (hok:Q01 p 8 ⟨op,a,b,c,n⟩=true) (w:World) (hp:Q0b w (.agg #[.slice oa p.regs.length capa,.slice oc p.code.length capc]) p) {B ba cap:Nat} (hk:KnAt w B (.slice (some ⟨ba,0,none⟩) 8 cap) s) :
  Calls Try.prog 56 #[.agg #[.slice oa p.regs.length capa,.slice oc p.code.length capc],.int .i64 (at_:Int),.agg #[.bool true,.slice (some ⟨ba,0,none⟩) 8 cap]] w (Q58 w (Q0u p at_ s ⟨op,a,b,c,n⟩)):=by
 obtain ⟨v1,v2,hv,hR,⟨-,oc',capc',bc,oo,hv2,hc1,hc2,hrow⟩⟩:=hp
 simp only [Value.agg.injEq,Array.mk.injEq,List.cons.injEq,and_true] at hv
 obtain ⟨rfl,rfl⟩:=hv
 simp only [Value.slice.injEq,true_and] at hv2
 obtain ⟨rfl,rfl⟩:=hv2
 have hix:=Q1g (cap:=capc) hrow.at_
 obtain ⟨e0,e1,e2,e3,e4⟩:=hrow.ins at_ hat
 have hgi:p.code.getD at_ default=⟨op,a,b,c,n⟩:=hi
 rw [hgi] at e0 e1 e2 e3 e4
 simp only at e0 e1 e2 e3 e4
 have HR:=Lib.hid hR
 have Hr:=Lib.hid hr
 have Hok:=Lib.hid hok
 have HK:=Lib.hid hk
 have hbl:=Q09 e0
 simp only at hbl
 subst hop
 have ha:okIn 8 a=true:=by unfold Q01 at hok;simp [okIn] at hok ⊢;omega
 clear hrow hi hgi hR hr hc1 hc2 hok hk
 go_enter Try.func56,Try.ntmps56
 go_upto_region 1 with fail
 obtain ⟨W,gp,hg,hW,hx,bP,bT⟩:=Q0i w #[.slice oa p.regs.length capa,.slice oc p.code.length capc] #[.bool true,.slice (some ⟨ba,0,none⟩) 8 cap] 25 87
 rw [hW,hg]
 have X:=Lib.hid hx
 have BP:=Lib.hid bP
 have BT:=Lib.hid bT
 have p1:W.cell? ⟨gp,1,none⟩=some (.slice oc p.code.length capc):=by rw [bP.cell];rfl
 have e0:=hx.kept e0
 have e1:=hx.kept e1
 have e2:=hx.kept e2
 have e3:=hx.kept e3
 have e4:=hx.kept e4
 have hgl:=bP.lt
 clear hW hg hx bP bT
 go_upto_region 2 with fail
 obtain ⟨w1,gi,hg,hW,hx,bI⟩:=Q1f W #[.int .i64 1,.int .i64 a,.int .i64 b,.int .i64 c,.int .i64 n] 70
 rw [hW,hg]
 have X:=Lib.hid (X.out.trans hx)
 have BP:=Lib.hid (BP.out.ext hx)
 have bT:=BT.out.ext hx
 have BT:=Lib.hid bT
 have BI:=Lib.hid bI
 have t0:w1.cell? ⟨gp+1,0,none⟩=some (.bool true):=by rw [bT.cell];rfl
 have t1:w1.cell? ⟨gp+1,1,none⟩=some (.slice (some ⟨ba,0,none⟩) 8 cap):=by rw [bT.cell];rfl
 have hgl2:=bT.lt
 clear hW hg hx p1 e0 e1 e2 e3 e4 bI bT hgl hbl
 go_wp2_with fail
 have C:=Q4k true ba cap s w1 (HK.out.ext X.out)
 (with_reducible refine C.mono ?_)
 clear C
 rintro er w2 ⟨b1,cap1,rfl,hK,hx⟩
 have X1:=Lib.hid hx
 have KT:=Lib.hid hK
 clear hK hx t0 t1
 go_upto_region 3 with fail
 obtain ⟨w3,e,hg,hW,hx,bE⟩:=Q1f w2 #[.bool true,.slice (some ⟨b1,0,none⟩) 8 cap1] 87
 rw [hW,hg]
 have hX:=X1.out.trans hx
 have LD:=Lib.hid (show LdAt w w3 gp gi e ba cap b1 cap1 _ _ 1 a b c n s from ⟨BP.out.ext hX,BT.out.ext hX,BI.out.ext hX,bE,(HK.out.ext (X.out.trans hX)).mono (Nat.zero_le _),(KT.out.mono X.out.size).ext hx,X.out.trans hX⟩)
 clear hW hg hx hX bE X1 KT X BP BT BI hgl2
 have i0:w3.cell? ⟨gi,0,none⟩=some (.int .i64 1):=by rw [LD.out.bi.cell];rfl
 obtain ⟨az0,az1⟩:=Q08.1 ha
 have Ha:=Lib.hid ha
 have hld:Q0u p at_ s ⟨1,a,b,c,n⟩=[(at_+1,kset s a (kofK n))]:=by simp [Q0u,oneK]
 have Hld:=Lib.hid hld
 clear hld
 go_upto_region 26 with fail
 clear i0
 have qa:∀ Wx,Ext w3 Wx→Wx.cell? ⟨gi,1,none⟩=some (.int .i64 a):=fun _ h=>h.kept (by rw [LD.out.bi.cell];rfl)
 have qn:∀ Wx,Ext w3 Wx→Wx.cell? ⟨gi,4,none⟩=some (.int .i64 n):=fun _ h=>h.kept (by rw [LD.out.bi.cell];rfl)
 have qe:∀ Wx,Ext w3 Wx→Wx.cell? ⟨e,1,none⟩=some (.slice (some ⟨b1,0,none⟩) 8 cap1):=fun _ h=>h.kept (by rw [LD.out.be.cell];rfl)
 have hixt:=Q2l b1 cap1
 refine Q2d [6,7,8] 1 (by kernel_rfl) (by kernel_rfl) ?_
 repeat (first | (refine Q2o ?_ ?_;(decide)) | (refine Q2i ?_ ?_ ?_;(decide);(first | rfl | (focus (go_simp;done)));apply Exists.intro;refine ⟨fun wc hE=>?_,?_⟩;(go_simp;exact rfl);go_simp) | (refine Q2m ?_ ?_ ?_;(decide);(focus (go_simp;done));go_simp))
 refine Q2n ?_
 intro w4 hx
 have X4:=Lib.hid hx
 have LD:=Lib.hid (LD.out.extend hx)
 clear hx qe qa qn  
 refine Q39 rfl ?_
 go_wp2_with fail
 (with_reducible refine (Qcf n w4).mono ?_)
 rintro er w4' ⟨rfl,hx⟩
 have LD:=Lib.hid (LD.out.extend hx)
 have X4:=Lib.hid (X4.out.trans hx)
 clear hx
 have kc:=LD.out.kt.cell Ha.out
 obtain ⟨kc0,kc1⟩:=kc
 have hbl:=Q09 kc0.1
 simp only at hbl
 go_wp2
 refine ⟨X4.out,?_⟩
 refine Q23 (Q10 rfl (Q10 rfl (Q2a))) ?_
 obtain ⟨w5,hw5,K5,BE5,X5⟩:∃ w5,(w4'.setCell ⟨b1,a.toNat * 2,none⟩ (.int .i64 (kof n))).setCell ⟨b1,a.toNat * 2+1,none⟩ (.bool (false))=w5∧KnAt w5 w.heap.size (.slice (some ⟨b1,0,none⟩) 8 cap1) (kset s a (kofK n))∧Blk w5 e 87 #[.bool true,.slice (some ⟨b1,0,none⟩) 8 cap1]∧Ext w w5:=by
  have hne:b1≠e:=LD.out.kt.ne LD.out.be (by decide)
  have hB:=LD.out.kt.base
  refine ⟨_,rfl,LD.out.kt.put Ha.out (kofK n),(LD.out.be.far (p:=⟨b1,_,none⟩) (fun h=>hne h.symm) _).far (p:=⟨b1,_,none⟩) (fun h=>hne h.symm) _,(LD.out.ext.setCell (p:=⟨b1,_,none⟩) hB _).setCell (p:=⟨b1,_,none⟩) hB _⟩
 have K5:=Lib.hid K5
 have X5:=Lib.hid X5
 have BE5:=Lib.hid BE5
 go_upto_region 40 with fail
 try rw [hw5]
 clear hw5 kc0 kc1 hbl
 have q0:w5.cell? ⟨e,0,none⟩=some (.bool true):=by rw [BE5.out.cell];rfl
 have q1:w5.cell? ⟨e,1,none⟩=some (.slice (some ⟨b1,0,none⟩) 8 cap1):=by rw [BE5.out.cell];rfl
 go_wp2
 go_ret
 rw [Hld.out]
 exact ⟨_,_,rfl,Q5u (dt:=at_+1) K5.out X5.out.size,X5.out.alloc _⟩
set_option maxRecDepth 100000 in
set_option maxHeartbeats 4000000 in
theorem Qqb (p:Q00) {oa:Option Addr} {capa:Nat} {oc:Option Addr} {capc:Nat} (at_:Nat) (s:KSt) (op a b c n:Int) (hop:op=2) (hr:Q02 p.regs=true) (hcl:p.code.length≤200) (hat:at_ < p.code.length) (hi:Q0d p at_=⟨op,a,b,c,n⟩) (hok:Q01 p 8 ⟨op,a,b,c,n⟩=true) (w:World) (hp:Q0b w (.agg #[.slice oa p.regs.length capa,.slice oc p.code.length capc]) p) {B ba cap:Nat} (hk:KnAt w B (.slice (some ⟨ba,0,none⟩) 8 cap) s) :
  Calls Try.prog 56 #[.agg #[.slice oa p.regs.length capa,.slice oc p.code.length capc],.int .i64 (at_:Int),.agg #[.bool true,.slice (some ⟨ba,0,none⟩) 8 cap]] w (Q58 w (Q0u p at_ s ⟨op,a,b,c,n⟩)):=by
 obtain ⟨v1,v2,hv,hR,⟨-,oc',capc',bc,oo,hv2,hc1,hc2,hrow⟩⟩:=hp
 simp only [Value.agg.injEq,Array.mk.injEq,List.cons.injEq,and_true] at hv
 obtain ⟨rfl,rfl⟩:=hv
 simp only [Value.slice.injEq,true_and] at hv2
 obtain ⟨rfl,rfl⟩:=hv2
 have hix:=Q1g (cap:=capc) hrow.at_
 obtain ⟨e0,e1,e2,e3,e4⟩:=hrow.ins at_ hat
 have hgi:p.code.getD at_ default=⟨op,a,b,c,n⟩:=hi
 rw [hgi] at e0 e1 e2 e3 e4
 simp only at e0 e1 e2 e3 e4
 have HR:=Lib.hid hR
 have Hr:=Lib.hid hr
 have Hok:=Lib.hid hok
 have HK:=Lib.hid hk
 have hbl:=Q09 e0
 simp only at hbl
 subst hop
 have ha:okIn 8 a=true:=by unfold Q01 at hok;simp [okIn] at hok ⊢;omega
 have hb:okIn 8 b=true:=by unfold Q01 at hok;simp [okIn] at hok ⊢;omega
 clear hrow hi hgi hR hr hc1 hc2 hok hk
 go_enter Try.func56,Try.ntmps56
 go_upto_region 1 with fail
 obtain ⟨W,gp,hg,hW,hx,bP,bT⟩:=Q0i w #[.slice oa p.regs.length capa,.slice oc p.code.length capc] #[.bool true,.slice (some ⟨ba,0,none⟩) 8 cap] 25 87
 rw [hW,hg]
 have X:=Lib.hid hx
 have BP:=Lib.hid bP
 have BT:=Lib.hid bT
 have p1:W.cell? ⟨gp,1,none⟩=some (.slice oc p.code.length capc):=by rw [bP.cell];rfl
 have e0:=hx.kept e0
 have e1:=hx.kept e1
 have e2:=hx.kept e2
 have e3:=hx.kept e3
 have e4:=hx.kept e4
 have hgl:=bP.lt
 clear hW hg hx bP bT
 go_upto_region 2 with fail
 obtain ⟨w1,gi,hg,hW,hx,bI⟩:=Q1f W #[.int .i64 2,.int .i64 a,.int .i64 b,.int .i64 c,.int .i64 n] 70
 rw [hW,hg]
 have X:=Lib.hid (X.out.trans hx)
 have BP:=Lib.hid (BP.out.ext hx)
 have bT:=BT.out.ext hx
 have BT:=Lib.hid bT
 have BI:=Lib.hid bI
 have t0:w1.cell? ⟨gp+1,0,none⟩=some (.bool true):=by rw [bT.cell];rfl
 have t1:w1.cell? ⟨gp+1,1,none⟩=some (.slice (some ⟨ba,0,none⟩) 8 cap):=by rw [bT.cell];rfl
 have hgl2:=bT.lt
 clear hW hg hx p1 e0 e1 e2 e3 e4 bI bT hgl hbl
 go_wp2_with fail
 have C:=Q4k true ba cap s w1 (HK.out.ext X.out)
 (with_reducible refine C.mono ?_)
 clear C
 rintro er w2 ⟨b1,cap1,rfl,hK,hx⟩
 have X1:=Lib.hid hx
 have KT:=Lib.hid hK
 clear hK hx t0 t1
 go_upto_region 3 with fail
 obtain ⟨w3,e,hg,hW,hx,bE⟩:=Q1f w2 #[.bool true,.slice (some ⟨b1,0,none⟩) 8 cap1] 87
 rw [hW,hg]
 have hX:=X1.out.trans hx
 have LD:=Lib.hid (show LdAt w w3 gp gi e ba cap b1 cap1 _ _ 2 a b c n s from ⟨BP.out.ext hX,BT.out.ext hX,BI.out.ext hX,bE,(HK.out.ext (X.out.trans hX)).mono (Nat.zero_le _),(KT.out.mono X.out.size).ext hx,X.out.trans hX⟩)
 clear hW hg hx hX bE X1 KT X BP BT BI hgl2
 have i0:w3.cell? ⟨gi,0,none⟩=some (.int .i64 2):=by rw [LD.out.bi.cell];rfl
 obtain ⟨az0,az1⟩:=Q08.1 ha
 have Ha:=Lib.hid ha
 obtain ⟨bz0,bz1⟩:=Q08.1 hb
 have Hb:=Lib.hid hb
 have hld:Q0u p at_ s ⟨2,a,b,c,n⟩=[(at_+1,kset s a (kg s b))]:=by simp [Q0u,oneK]
 have Hld:=Lib.hid hld
 clear hld
 go_upto_region 28 with fail
 clear i0
 have qa:∀ Wx,Ext w3 Wx→Wx.cell? ⟨gi,1,none⟩=some (.int .i64 a):=fun _ h=>h.kept (by rw [LD.out.bi.cell];rfl)
 have qb:∀ Wx,Ext w3 Wx→Wx.cell? ⟨gi,2,none⟩=some (.int .i64 b):=fun _ h=>h.kept (by rw [LD.out.bi.cell];rfl)
 have qe:∀ Wx,Ext w3 Wx→Wx.cell? ⟨e,1,none⟩=some (.slice (some ⟨b1,0,none⟩) 8 cap1):=fun _ h=>h.kept (by rw [LD.out.be.cell];rfl)
 have qt:∀ Wx,Ext w3 Wx→Wx.cell? ⟨gp+1,1,none⟩=some (.slice (some ⟨ba,0,none⟩) 8 cap):=fun _ h=>h.kept (by rw [LD.out.bt.cell];rfl)
 have hixs:=Q2l ba cap
 have mb:∀ Wx,Ext w3 Wx→Wx.cell? ⟨ba,b.toNat * 2,none⟩=some (.int .i64 (kg s b).bits):=fun _ h=>h.kept (LD.out.ks.cell Hb.out).1.1
 have nb:∀ Wx,Ext w3 Wx→Wx.cell? ⟨ba,b.toNat * 2+1,none⟩=some (.bool (kg s b).sec):=fun _ h=>h.kept (LD.out.ks.cell Hb.out).2.1
 have hixt:=Q2l b1 cap1
 refine Q2d [11] 0 (by kernel_rfl) (by kernel_rfl) ?_
 repeat (first | (refine Q2o ?_ ?_;(decide)) | (refine Q2i ?_ ?_ ?_;(decide);(first | rfl | (focus (go_simp;done)));apply Exists.intro;refine ⟨fun wc hE=>?_,?_⟩;(go_simp;exact rfl);go_simp) | (refine Q2m ?_ ?_ ?_;(decide);(focus (go_simp;done));go_simp))
 refine Q2n ?_
 intro w4 hx
 have X4:=Lib.hid hx
 have LD:=Lib.hid (LD.out.extend hx)
 clear hx qe qa qb qt mb nb
 have kc:=LD.out.kt.cell Ha.out
 obtain ⟨kc0,kc1⟩:=kc
 have hbl:=Q09 kc0.1
 simp only at hbl
 refine Q23 (Q10 rfl (Q2a)) ?_
 obtain ⟨w5,hw5,K5,BE5,X5⟩:∃ w5,(w4.setCell ⟨b1,a.toNat * 2,none⟩ (.int .i64 ((kg s b).bits))).setCell ⟨b1,a.toNat * 2+1,none⟩ (.bool ((kg s b).sec))=w5∧KnAt w5 w.heap.size (.slice (some ⟨b1,0,none⟩) 8 cap1) (kset s a (kg s b))∧Blk w5 e 87 #[.bool true,.slice (some ⟨b1,0,none⟩) 8 cap1]∧Ext w w5:=by
  have hne:b1≠e:=LD.out.kt.ne LD.out.be (by decide)
  have hB:=LD.out.kt.base
  refine ⟨_,rfl,LD.out.kt.put Ha.out (kg s b),(LD.out.be.far (p:=⟨b1,_,none⟩) (fun h=>hne h.symm) _).far (p:=⟨b1,_,none⟩) (fun h=>hne h.symm) _,(LD.out.ext.setCell (p:=⟨b1,_,none⟩) hB _).setCell (p:=⟨b1,_,none⟩) hB _⟩
 have K5:=Lib.hid K5
 have X5:=Lib.hid X5
 have BE5:=Lib.hid BE5
 go_upto_region 40 with fail
 try rw [hw5]
 clear hw5 kc0 kc1 hbl
 have q0:w5.cell? ⟨e,0,none⟩=some (.bool true):=by rw [BE5.out.cell];rfl
 have q1:w5.cell? ⟨e,1,none⟩=some (.slice (some ⟨b1,0,none⟩) 8 cap1):=by rw [BE5.out.cell];rfl
 go_wp2
 go_ret
 rw [Hld.out]
 exact ⟨_,_,rfl,Q5u (dt:=at_+1) K5.out X5.out.size,X5.out.alloc _⟩
set_option maxRecDepth 100000 in
set_option maxHeartbeats 4000000 in
theorem Qqi (p:Q00) {oa:Option Addr} {capa:Nat} {oc:Option Addr} {capc:Nat} (at_:Nat) (s:KSt) (op a b c n:Int) (hop:op=10) (hr:Q02 p.regs=true) (hcl:p.code.length≤200) (hat:at_ < p.code.length) (hi:Q0d p at_=⟨op,a,b,c,n⟩) (hok:Q01 p 8 ⟨op,a,b,c,n⟩=true) (w:World) (hp:Q0b w (.agg #[.slice oa p.regs.length capa,.slice oc p.code.length capc]) p) {B ba cap:Nat} (hk:KnAt w B (.slice (some ⟨ba,0,none⟩) 8 cap) s) :
  Calls Try.prog 56 #[.agg #[.slice oa p.regs.length capa,.slice oc p.code.length capc],.int .i64 (at_:Int),.agg #[.bool true,.slice (some ⟨ba,0,none⟩) 8 cap]] w (Q58 w (Q0u p at_ s ⟨op,a,b,c,n⟩)):=by
 obtain ⟨v1,v2,hv,hR,⟨-,oc',capc',bc,oo,hv2,hc1,hc2,hrow⟩⟩:=hp
 simp only [Value.agg.injEq,Array.mk.injEq,List.cons.injEq,and_true] at hv
 obtain ⟨rfl,rfl⟩:=hv
 simp only [Value.slice.injEq,true_and] at hv2
 obtain ⟨rfl,rfl⟩:=hv2
 have hix:=Q1g (cap:=capc) hrow.at_
 obtain ⟨e0,e1,e2,e3,e4⟩:=hrow.ins at_ hat
 have hgi:p.code.getD at_ default=⟨op,a,b,c,n⟩:=hi
 rw [hgi] at e0 e1 e2 e3 e4
 simp only at e0 e1 e2 e3 e4
 have HR:=Lib.hid hR
 have Hr:=Lib.hid hr
 have Hok:=Lib.hid hok
 have HK:=Lib.hid hk
 have hbl:=Q09 e0
 simp only at hbl
 subst hop
 have ha:okIn 8 a=true:=by unfold Q01 at hok;simp [okIn] at hok ⊢;omega
 have hb:okIn 8 b=true:=by unfold Q01 at hok;simp [okIn] at hok ⊢;omega
 clear hrow hi hgi hR hr hc1 hc2 hok hk
 go_enter Try.func56,Try.ntmps56
 go_upto_region 1 with fail
 obtain ⟨W,gp,hg,hW,hx,bP,bT⟩:=Q0i w #[.slice oa p.regs.length capa,.slice oc p.code.length capc] #[.bool true,.slice (some ⟨ba,0,none⟩) 8 cap] 25 87
 rw [hW,hg]
 have X:=Lib.hid hx
 have BP:=Lib.hid bP
 have BT:=Lib.hid bT
 have p1:W.cell? ⟨gp,1,none⟩=some (.slice oc p.code.length capc):=by rw [bP.cell];rfl
 have e0:=hx.kept e0
 have e1:=hx.kept e1
 have e2:=hx.kept e2
 have e3:=hx.kept e3
 have e4:=hx.kept e4
 have hgl:=bP.lt
 clear hW hg hx bP bT
 go_upto_region 2 with fail
 obtain ⟨w1,gi,hg,hW,hx,bI⟩:=Q1f W #[.int .i64 10,.int .i64 a,.int .i64 b,.int .i64 c,.int .i64 n] 70
 rw [hW,hg]
 have X:=Lib.hid (X.out.trans hx)
 have BP:=Lib.hid (BP.out.ext hx)
 have bT:=BT.out.ext hx
 have BT:=Lib.hid bT
 have BI:=Lib.hid bI
 have t0:w1.cell? ⟨gp+1,0,none⟩=some (.bool true):=by rw [bT.cell];rfl
 have t1:w1.cell? ⟨gp+1,1,none⟩=some (.slice (some ⟨ba,0,none⟩) 8 cap):=by rw [bT.cell];rfl
 have hgl2:=bT.lt
 clear hW hg hx p1 e0 e1 e2 e3 e4 bI bT hgl hbl
 go_wp2_with fail
 have C:=Q4k true ba cap s w1 (HK.out.ext X.out)
 (with_reducible refine C.mono ?_)
 clear C
 rintro er w2 ⟨b1,cap1,rfl,hK,hx⟩
 have X1:=Lib.hid hx
 have KT:=Lib.hid hK
 clear hK hx t0 t1
 go_upto_region 3 with fail
 obtain ⟨w3,e,hg,hW,hx,bE⟩:=Q1f w2 #[.bool true,.slice (some ⟨b1,0,none⟩) 8 cap1] 87
 rw [hW,hg]
 have hX:=X1.out.trans hx
 have LD:=Lib.hid (show LdAt w w3 gp gi e ba cap b1 cap1 _ _ 10 a b c n s from ⟨BP.out.ext hX,BT.out.ext hX,BI.out.ext hX,bE,(HK.out.ext (X.out.trans hX)).mono (Nat.zero_le _),(KT.out.mono X.out.size).ext hx,X.out.trans hX⟩)
 clear hW hg hx hX bE X1 KT X BP BT BI hgl2
 have i0:w3.cell? ⟨gi,0,none⟩=some (.int .i64 10):=by rw [LD.out.bi.cell];rfl
 obtain ⟨az0,az1⟩:=Q08.1 ha
 have Ha:=Lib.hid ha
 obtain ⟨bz0,bz1⟩:=Q08.1 hb
 have Hb:=Lib.hid hb
 have hld:Q0u p at_ s ⟨10,a,b,c,n⟩=[(at_+1,kset s a (ksum (kg s b) n))]:=by simp [Q0u,oneK]
 have Hld:=Lib.hid hld
 clear hld
 go_upto_region 30 with fail
 clear i0
 have qa:∀ Wx,Ext w3 Wx→Wx.cell? ⟨gi,1,none⟩=some (.int .i64 a):=fun _ h=>h.kept (by rw [LD.out.bi.cell];rfl)
 have qb:∀ Wx,Ext w3 Wx→Wx.cell? ⟨gi,2,none⟩=some (.int .i64 b):=fun _ h=>h.kept (by rw [LD.out.bi.cell];rfl)
 have qn:∀ Wx,Ext w3 Wx→Wx.cell? ⟨gi,4,none⟩=some (.int .i64 n):=fun _ h=>h.kept (by rw [LD.out.bi.cell];rfl)
 have qe:∀ Wx,Ext w3 Wx→Wx.cell? ⟨e,1,none⟩=some (.slice (some ⟨b1,0,none⟩) 8 cap1):=fun _ h=>h.kept (by rw [LD.out.be.cell];rfl)
 have qt:∀ Wx,Ext w3 Wx→Wx.cell? ⟨gp+1,1,none⟩=some (.slice (some ⟨ba,0,none⟩) 8 cap):=fun _ h=>h.kept (by rw [LD.out.bt.cell];rfl)
 have hixs:=Q2l ba cap
 have mb:∀ Wx,Ext w3 Wx→Wx.cell? ⟨ba,b.toNat * 2,none⟩=some (.int .i64 (kg s b).bits):=fun _ h=>h.kept (LD.out.ks.cell Hb.out).1.1
 have nb:∀ Wx,Ext w3 Wx→Wx.cell? ⟨ba,b.toNat * 2+1,none⟩=some (.bool (kg s b).sec):=fun _ h=>h.kept (LD.out.ks.cell Hb.out).2.1
 have hixt:=Q2l b1 cap1
 refine Q2d [12,13,14] 1 (by kernel_rfl) (by kernel_rfl) ?_
 repeat (first | (refine Q2o ?_ ?_;(decide)) | (refine Q2i ?_ ?_ ?_;(decide);(first | rfl | (focus (go_simp;done)));apply Exists.intro;refine ⟨fun wc hE=>?_,?_⟩;(go_simp;exact rfl);go_simp) | (refine Q2m ?_ ?_ ?_;(decide);(focus (go_simp;done));go_simp))
 refine Q2n ?_
 intro w4 hx
 have X4:=Lib.hid hx
 have LD:=Lib.hid (LD.out.extend hx)
 clear hx qe qa qb qn qt mb nb
 refine Q39 rfl ?_
 go_wp2_with fail
 (with_reducible refine (Qdn (kg s b) n w4).mono ?_)
 rintro er w4' ⟨rfl,hx⟩
 have LD:=Lib.hid (LD.out.extend hx)
 have X4:=Lib.hid (X4.out.trans hx)
 clear hx
 have kc:=LD.out.kt.cell Ha.out
 obtain ⟨kc0,kc1⟩:=kc
 have hbl:=Q09 kc0.1
 simp only at hbl
 go_wp2
 refine ⟨X4.out,?_⟩
 refine Q23 (Q10 rfl (Q10 rfl (Q2a))) ?_
 obtain ⟨w5,hw5,K5,BE5,X5⟩:∃ w5,(w4'.setCell ⟨b1,a.toNat * 2,none⟩ (.int .i64 ((ksum (kg s b) n).bits))).setCell ⟨b1,a.toNat * 2+1,none⟩ (.bool ((ksum (kg s b) n).sec))=w5∧KnAt w5 w.heap.size (.slice (some ⟨b1,0,none⟩) 8 cap1) (kset s a (ksum (kg s b) n))∧Blk w5 e 87 #[.bool true,.slice (some ⟨b1,0,none⟩) 8 cap1]∧Ext w w5:=by
  have hne:b1≠e:=LD.out.kt.ne LD.out.be (by decide)
  have hB:=LD.out.kt.base
  refine ⟨_,rfl,LD.out.kt.put Ha.out (ksum (kg s b) n),(LD.out.be.far (p:=⟨b1,_,none⟩) (fun h=>hne h.symm) _).far (p:=⟨b1,_,none⟩) (fun h=>hne h.symm) _,(LD.out.ext.setCell (p:=⟨b1,_,none⟩) hB _).setCell (p:=⟨b1,_,none⟩) hB _⟩
 have K5:=Lib.hid K5
 have X5:=Lib.hid X5
 have BE5:=Lib.hid BE5
 go_upto_region 40 with fail
 try rw [hw5]
 clear hw5 kc0 kc1 hbl
 have q0:w5.cell? ⟨e,0,none⟩=some (.bool true):=by rw [BE5.out.cell];rfl
 have q1:w5.cell? ⟨e,1,none⟩=some (.slice (some ⟨b1,0,none⟩) 8 cap1):=by rw [BE5.out.cell];rfl
 go_wp2
 go_ret
 rw [Hld.out]
 exact ⟨_,_,rfl,Q5u (dt:=at_+1) K5.out X5.out.size,X5.out.alloc _⟩
set_option maxRecDepth 100000 in
set_option maxHeartbeats 4000000 in
theorem Qqe (p:Q00) {oa:Option Addr} {capa:Nat} {oc:Option Addr} {capc:Nat} (at_:Nat) (s:KSt) (op a b c n:Int) (hop:op=3) (hr:Q02 p.regs=true) (hcl:p.code.length≤200) (hat:at_ < p.code.length) (hi:Q0d p at_=⟨op,a,b,c,n⟩) (hok:Q01 p 8 ⟨op,a,b,c,n⟩=true) (w:World) (hp:Q0b w (.agg #[.slice oa p.regs.length capa,.slice oc p.code.length capc]) p) {B ba cap:Nat} (hk:KnAt w B (.slice (some ⟨ba,0,none⟩) 8 cap) s) :
  Calls Try.prog 56 #[.agg #[.slice oa p.regs.length capa,.slice oc p.code.length capc],.int .i64 (at_:Int),.agg #[.bool true,.slice (some ⟨ba,0,none⟩) 8 cap]] w (Q58 w (Q0u p at_ s ⟨op,a,b,c,n⟩)):=by
 obtain ⟨v1,v2,hv,hR,⟨-,oc',capc',bc,oo,hv2,hc1,hc2,hrow⟩⟩:=hp
 simp only [Value.agg.injEq,Array.mk.injEq,List.cons.injEq,and_true] at hv
 obtain ⟨rfl,rfl⟩:=hv
 simp only [Value.slice.injEq,true_and] at hv2
 obtain ⟨rfl,rfl⟩:=hv2
 have hix:=Q1g (cap:=capc) hrow.at_
 obtain ⟨e0,e1,e2,e3,e4⟩:=hrow.ins at_ hat
 have hgi:p.code.getD at_ default=⟨op,a,b,c,n⟩:=hi
 rw [hgi] at e0 e1 e2 e3 e4
 simp only at e0 e1 e2 e3 e4
 have Hr:=Lib.hid hr
 have Hok:=Lib.hid hok
 have HK:=Lib.hid hk
 have hbl:=Q09 e0
 simp only at hbl
 subst hop
 have ha:okIn 8 a=true:=by unfold Q01 at hok;simp [okIn] at hok ⊢;omega
 obtain ⟨hc0,hc1'⟩:=Q35 hok (by unfold Q0s Q0m;simp)
 simp only at hc0 hc1'
 obtain ⟨-,oa',capa',br,orr,hv3,hd1,hd2,hrow2⟩:=hR
 simp only [Value.slice.injEq,true_and] at hv3
 obtain ⟨rfl,rfl⟩:=hv3
 obtain ⟨-,rsec⟩:=hrow2.reg c.toNat hc1'
 have hixr:=Q33 (cap:=capa) hrow2.at_
 have hlen:=Q3o hr
 have hcl2:c < (p.regs.length:Int):=by omega
 have hrf:p.regs.getD c.toNat default=Q0c p ⟨3,a,b,c,n⟩:=rfl
 rw [hrf] at rsec
 have Rsec:=Lib.hid rsec
 clear hrow2 hd1 hd2 hrf rsec
 clear hrow hi hgi hr hc1 hc2 hok hk
 go_enter Try.func56,Try.ntmps56
 go_upto_region 1 with fail
 obtain ⟨W,gp,hg,hW,hx,bP,bT⟩:=Q0i w #[.slice oa p.regs.length capa,.slice oc p.code.length capc] #[.bool true,.slice (some ⟨ba,0,none⟩) 8 cap] 25 87
 rw [hW,hg]
 have X:=Lib.hid hx
 have BP:=Lib.hid bP
 have BT:=Lib.hid bT
 have p1:W.cell? ⟨gp,1,none⟩=some (.slice oc p.code.length capc):=by rw [bP.cell];rfl
 have e0:=hx.kept e0
 have e1:=hx.kept e1
 have e2:=hx.kept e2
 have e3:=hx.kept e3
 have e4:=hx.kept e4
 have hgl:=bP.lt
 clear hW hg hx bP bT
 go_upto_region 2 with fail
 obtain ⟨w1,gi,hg,hW,hx,bI⟩:=Q1f W #[.int .i64 3,.int .i64 a,.int .i64 b,.int .i64 c,.int .i64 n] 70
 rw [hW,hg]
 have X:=Lib.hid (X.out.trans hx)
 have BP:=Lib.hid (BP.out.ext hx)
 have bT:=BT.out.ext hx
 have BT:=Lib.hid bT
 have BI:=Lib.hid bI
 have t0:w1.cell? ⟨gp+1,0,none⟩=some (.bool true):=by rw [bT.cell];rfl
 have t1:w1.cell? ⟨gp+1,1,none⟩=some (.slice (some ⟨ba,0,none⟩) 8 cap):=by rw [bT.cell];rfl
 have hgl2:=bT.lt
 clear hW hg hx p1 e0 e1 e2 e3 e4 bI bT hgl hbl
 go_wp2_with fail
 have C:=Q4k true ba cap s w1 (HK.out.ext X.out)
 (with_reducible refine C.mono ?_)
 clear C
 rintro er w2 ⟨b1,cap1,rfl,hK,hx⟩
 have X1:=Lib.hid hx
 have KT:=Lib.hid hK
 clear hK hx t0 t1
 go_upto_region 3 with fail
 obtain ⟨w3,e,hg,hW,hx,bE⟩:=Q1f w2 #[.bool true,.slice (some ⟨b1,0,none⟩) 8 cap1] 87
 rw [hW,hg]
 have hX:=X1.out.trans hx
 have LD:=Lib.hid (show LdAt w w3 gp gi e ba cap b1 cap1 _ _ 3 a b c n s from ⟨BP.out.ext hX,BT.out.ext hX,BI.out.ext hX,bE,(HK.out.ext (X.out.trans hX)).mono (Nat.zero_le _),(KT.out.mono X.out.size).ext hx,X.out.trans hX⟩)
 clear hW hg hx hX bE X1 KT X BP BT BI hgl2
 have i0:w3.cell? ⟨gi,0,none⟩=some (.int .i64 3):=by rw [LD.out.bi.cell];rfl
 obtain ⟨az0,az1⟩:=Q08.1 ha
 have Ha:=Lib.hid ha
 have hld:Q0u p at_ s ⟨3,a,b,c,n⟩=[(at_+1,kset s a ⟨17,(Q0c p ⟨3,a,b,c,n⟩).secret⟩)]:=by simp [Q0u,oneK]
 have Hld:=Lib.hid hld
 clear hld
 go_upto_region 33 with fail
 clear i0
 have qa:∀ Wx,Ext w3 Wx→Wx.cell? ⟨gi,1,none⟩=some (.int .i64 a):=fun _ h=>h.kept (by rw [LD.out.bi.cell];rfl)
 have qc:∀ Wx,Ext w3 Wx→Wx.cell? ⟨gi,3,none⟩=some (.int .i64 c):=fun _ h=>h.kept (by rw [LD.out.bi.cell];rfl)
 have qe:∀ Wx,Ext w3 Wx→Wx.cell? ⟨e,1,none⟩=some (.slice (some ⟨b1,0,none⟩) 8 cap1):=fun _ h=>h.kept (by rw [LD.out.be.cell];rfl)
 have kp:∀ Wx,Ext w3 Wx→Wx.cell? ⟨gp,0,none⟩=some (.slice oa p.regs.length capa):=fun _ h=>h.kept (by rw [LD.out.bp.cell];rfl)
 have kr:∀ Wx,Ext w3 Wx→Wx.cell? ⟨br,orr+c.toNat * 2+1,none⟩=some (.bool (Q0c p ⟨3,a,b,c,n⟩).secret):=fun _ h=>h.kept (LD.out.ext.kept Rsec.out)
 generalize hsec:(Q0c p ⟨3,a,b,c,n⟩).secret=sec at *
 have hixt:=Q2l b1 cap1
 refine Q2d [13] 0 (by kernel_rfl) (by kernel_rfl) ?_
 repeat (first | (refine Q2o ?_ ?_;(decide)) | (refine Q2i ?_ ?_ ?_;(decide);(first | rfl | (focus (go_simp;done)));apply Exists.intro;refine ⟨fun wc hE=>?_,?_⟩;(go_simp;exact rfl);go_simp) | (refine Q2m ?_ ?_ ?_;(decide);(focus (go_simp;done));go_simp))
 refine Q2n ?_
 intro w4 hx
 have X4:=Lib.hid hx
 have LD:=Lib.hid (LD.out.extend hx)
 clear hx qe qa qc kp kr 
 have kc:=LD.out.kt.cell Ha.out
 obtain ⟨kc0,kc1⟩:=kc
 have hbl:=Q09 kc0.1
 simp only at hbl
 refine Q23 (Q10 rfl (Q2a)) ?_
 obtain ⟨w5,hw5,K5,BE5,X5⟩:∃ w5,(w4.setCell ⟨b1,a.toNat * 2,none⟩ (.int .i64 (17))).setCell ⟨b1,a.toNat * 2+1,none⟩ (.bool (sec))=w5∧KnAt w5 w.heap.size (.slice (some ⟨b1,0,none⟩) 8 cap1) (kset s a ⟨17,sec⟩)∧Blk w5 e 87 #[.bool true,.slice (some ⟨b1,0,none⟩) 8 cap1]∧Ext w w5:=by
  have hne:b1≠e:=LD.out.kt.ne LD.out.be (by decide)
  have hB:=LD.out.kt.base
  refine ⟨_,rfl,LD.out.kt.put Ha.out ⟨17,sec⟩,(LD.out.be.far (p:=⟨b1,_,none⟩) (fun h=>hne h.symm) _).far (p:=⟨b1,_,none⟩) (fun h=>hne h.symm) _,(LD.out.ext.setCell (p:=⟨b1,_,none⟩) hB _).setCell (p:=⟨b1,_,none⟩) hB _⟩
 have K5:=Lib.hid K5
 have X5:=Lib.hid X5
 have BE5:=Lib.hid BE5
 go_upto_region 40 with fail
 try rw [hw5]
 clear hw5 kc0 kc1 hbl
 have q0:w5.cell? ⟨e,0,none⟩=some (.bool true):=by rw [BE5.out.cell];rfl
 have q1:w5.cell? ⟨e,1,none⟩=some (.slice (some ⟨b1,0,none⟩) 8 cap1):=by rw [BE5.out.cell];rfl
 go_wp2
 go_ret
 rw [Hld.out]
 exact ⟨_,_,rfl,Q5u (dt:=at_+1) K5.out X5.out.size,X5.out.alloc _⟩
set_option maxRecDepth 100000 in
set_option maxHeartbeats 4000000 in
theorem Qqd (p:Q00) {oa:Option Addr} {capa:Nat} {oc:Option Addr} {capc:Nat} (at_:Nat) (s:KSt) (op a b c n:Int) (hop:op=5) (hr:Q02 p.regs=true) (hcl:p.code.length≤200) (hat:at_ < p.code.length) (hi:Q0d p at_=⟨op,a,b,c,n⟩) (hok:Q01 p 8 ⟨op,a,b,c,n⟩=true) (w:World) (hp:Q0b w (.agg #[.slice oa p.regs.length capa,.slice oc p.code.length capc]) p) {B ba cap:Nat} (hk:KnAt w B (.slice (some ⟨ba,0,none⟩) 8 cap) s) :
  Calls Try.prog 56 #[.agg #[.slice oa p.regs.length capa,.slice oc p.code.length capc],.int .i64 (at_:Int),.agg #[.bool true,.slice (some ⟨ba,0,none⟩) 8 cap]] w (Q58 w (Q0u p at_ s ⟨op,a,b,c,n⟩)):=by
 obtain ⟨v1,v2,hv,hR,⟨-,oc',capc',bc,oo,hv2,hc1,hc2,hrow⟩⟩:=hp
 simp only [Value.agg.injEq,Array.mk.injEq,List.cons.injEq,and_true] at hv
 obtain ⟨rfl,rfl⟩:=hv
 simp only [Value.slice.injEq,true_and] at hv2
 obtain ⟨rfl,rfl⟩:=hv2
 have hix:=Q1g (cap:=capc) hrow.at_
 obtain ⟨e0,e1,e2,e3,e4⟩:=hrow.ins at_ hat
 have hgi:p.code.getD at_ default=⟨op,a,b,c,n⟩:=hi
 rw [hgi] at e0 e1 e2 e3 e4
 simp only at e0 e1 e2 e3 e4
 have Hr:=Lib.hid hr
 have Hok:=Lib.hid hok
 have HK:=Lib.hid hk
 have hbl:=Q09 e0
 simp only at hbl
 subst hop
 have ha:okIn 8 a=true:=by unfold Q01 at hok;simp [okIn] at hok ⊢;omega
 obtain ⟨hc0,hc1'⟩:=Q35 hok (by unfold Q0s Q0m;simp)
 simp only at hc0 hc1'
 obtain ⟨-,oa',capa',br,orr,hv3,hd1,hd2,hrow2⟩:=hR
 simp only [Value.slice.injEq,true_and] at hv3
 obtain ⟨rfl,rfl⟩:=hv3
 obtain ⟨-,rsec⟩:=hrow2.reg c.toNat hc1'
 have hixr:=Q33 (cap:=capa) hrow2.at_
 have hlen:=Q3o hr
 have hcl2:c < (p.regs.length:Int):=by omega
 have hrf:p.regs.getD c.toNat default=Q0c p ⟨5,a,b,c,n⟩:=rfl
 rw [hrf] at rsec
 have Rsec:=Lib.hid rsec
 clear hrow2 hd1 hd2 hrf rsec
 clear hrow hi hgi hr hc1 hc2 hok hk
 go_enter Try.func56,Try.ntmps56
 go_upto_region 1 with fail
 obtain ⟨W,gp,hg,hW,hx,bP,bT⟩:=Q0i w #[.slice oa p.regs.length capa,.slice oc p.code.length capc] #[.bool true,.slice (some ⟨ba,0,none⟩) 8 cap] 25 87
 rw [hW,hg]
 have X:=Lib.hid hx
 have BP:=Lib.hid bP
 have BT:=Lib.hid bT
 have p1:W.cell? ⟨gp,1,none⟩=some (.slice oc p.code.length capc):=by rw [bP.cell];rfl
 have e0:=hx.kept e0
 have e1:=hx.kept e1
 have e2:=hx.kept e2
 have e3:=hx.kept e3
 have e4:=hx.kept e4
 have hgl:=bP.lt
 clear hW hg hx bP bT
 go_upto_region 2 with fail
 obtain ⟨w1,gi,hg,hW,hx,bI⟩:=Q1f W #[.int .i64 5,.int .i64 a,.int .i64 b,.int .i64 c,.int .i64 n] 70
 rw [hW,hg]
 have X:=Lib.hid (X.out.trans hx)
 have BP:=Lib.hid (BP.out.ext hx)
 have bT:=BT.out.ext hx
 have BT:=Lib.hid bT
 have BI:=Lib.hid bI
 have t0:w1.cell? ⟨gp+1,0,none⟩=some (.bool true):=by rw [bT.cell];rfl
 have t1:w1.cell? ⟨gp+1,1,none⟩=some (.slice (some ⟨ba,0,none⟩) 8 cap):=by rw [bT.cell];rfl
 have hgl2:=bT.lt
 clear hW hg hx p1 e0 e1 e2 e3 e4 bI bT hgl hbl
 go_wp2_with fail
 have C:=Q4k true ba cap s w1 (HK.out.ext X.out)
 (with_reducible refine C.mono ?_)
 clear C
 rintro er w2 ⟨b1,cap1,rfl,hK,hx⟩
 have X1:=Lib.hid hx
 have KT:=Lib.hid hK
 clear hK hx t0 t1
 go_upto_region 3 with fail
 obtain ⟨w3,e,hg,hW,hx,bE⟩:=Q1f w2 #[.bool true,.slice (some ⟨b1,0,none⟩) 8 cap1] 87
 rw [hW,hg]
 have hX:=X1.out.trans hx
 have LD:=Lib.hid (show LdAt w w3 gp gi e ba cap b1 cap1 _ _ 5 a b c n s from ⟨BP.out.ext hX,BT.out.ext hX,BI.out.ext hX,bE,(HK.out.ext (X.out.trans hX)).mono (Nat.zero_le _),(KT.out.mono X.out.size).ext hx,X.out.trans hX⟩)
 clear hW hg hx hX bE X1 KT X BP BT BI hgl2
 have i0:w3.cell? ⟨gi,0,none⟩=some (.int .i64 5):=by rw [LD.out.bi.cell];rfl
 obtain ⟨az0,az1⟩:=Q08.1 ha
 have Ha:=Lib.hid ha
 have hld:Q0u p at_ s ⟨5,a,b,c,n⟩=[(at_+1,kset s a ⟨17,(Q0c p ⟨5,a,b,c,n⟩).secret⟩)]:=by simp [Q0u,oneK]
 have Hld:=Lib.hid hld
 clear hld
 go_upto_region 33 with fail
 clear i0
 have qa:∀ Wx,Ext w3 Wx→Wx.cell? ⟨gi,1,none⟩=some (.int .i64 a):=fun _ h=>h.kept (by rw [LD.out.bi.cell];rfl)
 have qc:∀ Wx,Ext w3 Wx→Wx.cell? ⟨gi,3,none⟩=some (.int .i64 c):=fun _ h=>h.kept (by rw [LD.out.bi.cell];rfl)
 have qe:∀ Wx,Ext w3 Wx→Wx.cell? ⟨e,1,none⟩=some (.slice (some ⟨b1,0,none⟩) 8 cap1):=fun _ h=>h.kept (by rw [LD.out.be.cell];rfl)
 have kp:∀ Wx,Ext w3 Wx→Wx.cell? ⟨gp,0,none⟩=some (.slice oa p.regs.length capa):=fun _ h=>h.kept (by rw [LD.out.bp.cell];rfl)
 have kr:∀ Wx,Ext w3 Wx→Wx.cell? ⟨br,orr+c.toNat * 2+1,none⟩=some (.bool (Q0c p ⟨5,a,b,c,n⟩).secret):=fun _ h=>h.kept (LD.out.ext.kept Rsec.out)
 generalize hsec:(Q0c p ⟨5,a,b,c,n⟩).secret=sec at *
 have hixt:=Q2l b1 cap1
 refine Q2d [13] 0 (by kernel_rfl) (by kernel_rfl) ?_
 repeat (first | (refine Q2o ?_ ?_;(decide)) | (refine Q2i ?_ ?_ ?_;(decide);(first | rfl | (focus (go_simp;done)));apply Exists.intro;refine ⟨fun wc hE=>?_,?_⟩;(go_simp;exact rfl);go_simp) | (refine Q2m ?_ ?_ ?_;(decide);(focus (go_simp;done));go_simp))
 refine Q2n ?_
 intro w4 hx
 have X4:=Lib.hid hx
 have LD:=Lib.hid (LD.out.extend hx)
 clear hx qe qa qc kp kr 
 have kc:=LD.out.kt.cell Ha.out
 obtain ⟨kc0,kc1⟩:=kc
 have hbl:=Q09 kc0.1
 simp only at hbl
 refine Q23 (Q10 rfl (Q2a)) ?_
 obtain ⟨w5,hw5,K5,BE5,X5⟩:∃ w5,(w4.setCell ⟨b1,a.toNat * 2,none⟩ (.int .i64 (17))).setCell ⟨b1,a.toNat * 2+1,none⟩ (.bool (sec))=w5∧KnAt w5 w.heap.size (.slice (some ⟨b1,0,none⟩) 8 cap1) (kset s a ⟨17,sec⟩)∧Blk w5 e 87 #[.bool true,.slice (some ⟨b1,0,none⟩) 8 cap1]∧Ext w w5:=by
  have hne:b1≠e:=LD.out.kt.ne LD.out.be (by decide)
  have hB:=LD.out.kt.base
  refine ⟨_,rfl,LD.out.kt.put Ha.out ⟨17,sec⟩,(LD.out.be.far (p:=⟨b1,_,none⟩) (fun h=>hne h.symm) _).far (p:=⟨b1,_,none⟩) (fun h=>hne h.symm) _,(LD.out.ext.setCell (p:=⟨b1,_,none⟩) hB _).setCell (p:=⟨b1,_,none⟩) hB _⟩
 have K5:=Lib.hid K5
 have X5:=Lib.hid X5
 have BE5:=Lib.hid BE5
 go_upto_region 40 with fail
 try rw [hw5]
 clear hw5 kc0 kc1 hbl
 have q0:w5.cell? ⟨e,0,none⟩=some (.bool true):=by rw [BE5.out.cell];rfl
 have q1:w5.cell? ⟨e,1,none⟩=some (.slice (some ⟨b1,0,none⟩) 8 cap1):=by rw [BE5.out.cell];rfl
 go_wp2
 go_ret
 rw [Hld.out]
 exact ⟨_,_,rfl,Q5u (dt:=at_+1) K5.out X5.out.size,X5.out.alloc _⟩
set_option maxRecDepth 100000 in
set_option maxHeartbeats 4000000 in
theorem Qqc (p:Q00) {oa:Option Addr} {capa:Nat} {oc:Option Addr} {capc:Nat} (at_:Nat) (s:KSt) (op a b c n:Int) (hop:op=11) (hr:Q02 p.regs=true) (hcl:p.code.length≤200) (hat:at_ < p.code.length) (hi:Q0d p at_=⟨op,a,b,c,n⟩) (hok:Q01 p 8 ⟨op,a,b,c,n⟩=true) (w:World) (hp:Q0b w (.agg #[.slice oa p.regs.length capa,.slice oc p.code.length capc]) p) {B ba cap:Nat} (hk:KnAt w B (.slice (some ⟨ba,0,none⟩) 8 cap) s) :
  Calls Try.prog 56 #[.agg #[.slice oa p.regs.length capa,.slice oc p.code.length capc],.int .i64 (at_:Int),.agg #[.bool true,.slice (some ⟨ba,0,none⟩) 8 cap]] w (Q58 w (Q0u p at_ s ⟨op,a,b,c,n⟩)):=by
 obtain ⟨v1,v2,hv,hR,⟨-,oc',capc',bc,oo,hv2,hc1,hc2,hrow⟩⟩:=hp
 simp only [Value.agg.injEq,Array.mk.injEq,List.cons.injEq,and_true] at hv
 obtain ⟨rfl,rfl⟩:=hv
 simp only [Value.slice.injEq,true_and] at hv2
 obtain ⟨rfl,rfl⟩:=hv2
 have hix:=Q1g (cap:=capc) hrow.at_
 obtain ⟨e0,e1,e2,e3,e4⟩:=hrow.ins at_ hat
 have hgi:p.code.getD at_ default=⟨op,a,b,c,n⟩:=hi
 rw [hgi] at e0 e1 e2 e3 e4
 simp only at e0 e1 e2 e3 e4
 have HR:=Lib.hid hR
 have Hr:=Lib.hid hr
 have Hok:=Lib.hid hok
 have HK:=Lib.hid hk
 have hbl:=Q09 e0
 simp only at hbl
 subst hop
 have ha:okIn 8 a=true:=by unfold Q01 at hok;simp [okIn] at hok ⊢;omega
 have hn:1≤n∧n≤64:=by unfold Q01 at hok;simp [okIn] at hok;omega
 have hsub:IntKind.i64.wrap (n - 1)=n - 1:=Go.IntWalk.i64_in _ (by omega)
 clear hrow hi hgi hR hr hc1 hc2 hok hk
 go_enter Try.func56,Try.ntmps56
 go_upto_region 1 with fail
 obtain ⟨W,gp,hg,hW,hx,bP,bT⟩:=Q0i w #[.slice oa p.regs.length capa,.slice oc p.code.length capc] #[.bool true,.slice (some ⟨ba,0,none⟩) 8 cap] 25 87
 rw [hW,hg]
 have X:=Lib.hid hx
 have BP:=Lib.hid bP
 have BT:=Lib.hid bT
 have p1:W.cell? ⟨gp,1,none⟩=some (.slice oc p.code.length capc):=by rw [bP.cell];rfl
 have e0:=hx.kept e0
 have e1:=hx.kept e1
 have e2:=hx.kept e2
 have e3:=hx.kept e3
 have e4:=hx.kept e4
 have hgl:=bP.lt
 clear hW hg hx bP bT
 go_upto_region 2 with fail
 obtain ⟨w1,gi,hg,hW,hx,bI⟩:=Q1f W #[.int .i64 11,.int .i64 a,.int .i64 b,.int .i64 c,.int .i64 n] 70
 rw [hW,hg]
 have X:=Lib.hid (X.out.trans hx)
 have BP:=Lib.hid (BP.out.ext hx)
 have bT:=BT.out.ext hx
 have BT:=Lib.hid bT
 have BI:=Lib.hid bI
 have t0:w1.cell? ⟨gp+1,0,none⟩=some (.bool true):=by rw [bT.cell];rfl
 have t1:w1.cell? ⟨gp+1,1,none⟩=some (.slice (some ⟨ba,0,none⟩) 8 cap):=by rw [bT.cell];rfl
 have hgl2:=bT.lt
 clear hW hg hx p1 e0 e1 e2 e3 e4 bI bT hgl hbl
 go_wp2_with fail
 have C:=Q4k true ba cap s w1 (HK.out.ext X.out)
 (with_reducible refine C.mono ?_)
 clear C
 rintro er w2 ⟨b1,cap1,rfl,hK,hx⟩
 have X1:=Lib.hid hx
 have KT:=Lib.hid hK
 clear hK hx t0 t1
 go_upto_region 3 with fail
 obtain ⟨w3,e,hg,hW,hx,bE⟩:=Q1f w2 #[.bool true,.slice (some ⟨b1,0,none⟩) 8 cap1] 87
 rw [hW,hg]
 have hX:=X1.out.trans hx
 have LD:=Lib.hid (show LdAt w w3 gp gi e ba cap b1 cap1 _ _ 11 a b c n s from ⟨BP.out.ext hX,BT.out.ext hX,BI.out.ext hX,bE,(HK.out.ext (X.out.trans hX)).mono (Nat.zero_le _),(KT.out.mono X.out.size).ext hx,X.out.trans hX⟩)
 clear hW hg hx hX bE X1 KT X BP BT BI hgl2
 have i0:w3.cell? ⟨gi,0,none⟩=some (.int .i64 11):=by rw [LD.out.bi.cell];rfl
 obtain ⟨az0,az1⟩:=Q08.1 ha
 have Ha:=Lib.hid ha
 have hld:Q0u p at_ s ⟨11,a,b,c,n⟩=[(at_+1,kset s a (Q0r (kg s a) (kofK (n - 1))))]:=by simp [Q0u,oneK]
 have Hld:=Lib.hid hld
 clear hld
 have i4:w3.cell? ⟨gi,4,none⟩=some (.int .i64 n):=by rw [LD.out.bi.cell];rfl
 go_wp2_with fail
 (with_reducible refine (Qcf (n - 1) w3).mono ?_)
 rintro er w3' ⟨rfl,hx⟩
 have LD:=Lib.hid (LD.out.extend hx)
 clear hx i0 i4
 go_upto_region 36 with fail
 obtain ⟨w3,go,hg,hW,hx,bO⟩:=Q1f w3' #[.int .i64 (kof (n - 1)),.bool false] 78
 rw [hW,hg]
 have LD:=Lib.hid (LD.out.extend hx)
 have qo0:∀ Wx,Ext w3 Wx→Wx.cell? ⟨go,0,none⟩=some (.int .i64 (kof (n - 1))):=fun _ h=>h.kept (by rw [bO.cell];rfl)
 have qo1:∀ Wx,Ext w3 Wx→Wx.cell? ⟨go,1,none⟩=some (.bool false):=fun _ h=>h.kept (by rw [bO.cell];rfl)
 clear hW hg hx bO
 have qa:∀ Wx,Ext w3 Wx→Wx.cell? ⟨gi,1,none⟩=some (.int .i64 a):=fun _ h=>h.kept (by rw [LD.out.bi.cell];rfl)
 have qe:∀ Wx,Ext w3 Wx→Wx.cell? ⟨e,1,none⟩=some (.slice (some ⟨b1,0,none⟩) 8 cap1):=fun _ h=>h.kept (by rw [LD.out.be.cell];rfl)
 have qt:∀ Wx,Ext w3 Wx→Wx.cell? ⟨gp+1,1,none⟩=some (.slice (some ⟨ba,0,none⟩) 8 cap):=fun _ h=>h.kept (by rw [LD.out.bt.cell];rfl)
 have hixs:=Q2l ba cap
 have ma:∀ Wx,Ext w3 Wx→Wx.cell? ⟨ba,a.toNat * 2,none⟩=some (.int .i64 (kg s a).bits):=fun _ h=>h.kept (LD.out.ks.cell Ha.out).1.1
 have na:∀ Wx,Ext w3 Wx→Wx.cell? ⟨ba,a.toNat * 2+1,none⟩=some (.bool (kg s a).sec):=fun _ h=>h.kept (LD.out.ks.cell Ha.out).2.1
 have hixt:=Q2l b1 cap1
 refine Q2d [11,12,13] 1 (by kernel_rfl) (by kernel_rfl) ?_
 repeat (first | (refine Q2o ?_ ?_;(decide)) | (refine Q2i ?_ ?_ ?_;(decide);(first | rfl | (focus (go_simp;done)));apply Exists.intro;refine ⟨fun wc hE=>?_,?_⟩;(go_simp;exact rfl);go_simp) | (refine Q2m ?_ ?_ ?_;(decide);(focus (go_simp;done));go_simp))
 refine Q2n ?_
 intro w4 hx
 have X4:=Lib.hid hx
 have LD:=Lib.hid (LD.out.extend hx)
 clear hx qe qa qo0 qo1 qt ma na
 refine Q39 rfl ?_
 go_wp2_with fail
 (with_reducible refine (Qfw (kg s a).bits (kof (n - 1)) (kg s a).sec false w4).mono ?_)
 rintro er w4' ⟨rfl,hx⟩
 have LD:=Lib.hid (LD.out.extend hx)
 have X4:=Lib.hid (X4.out.trans hx)
 clear hx
 have kc:=LD.out.kt.cell Ha.out
 obtain ⟨kc0,kc1⟩:=kc
 have hbl:=Q09 kc0.1
 simp only at hbl
 go_wp2
 refine ⟨X4.out,?_⟩
 refine Q23 (Q10 rfl (Q10 rfl (Q2a))) ?_
 obtain ⟨w5,hw5,K5,BE5,X5⟩:∃ w5,(w4'.setCell ⟨b1,a.toNat * 2,none⟩ (.int .i64 (min (nrm (kg s a).bits) (nrm (kof (n - 1)))))).setCell ⟨b1,a.toNat * 2+1,none⟩ (.bool ((kg s a).sec))=w5∧KnAt w5 w.heap.size (.slice (some ⟨b1,0,none⟩) 8 cap1) (kset s a (Q0r (kg s a) (kofK (n - 1))))∧Blk w5 e 87 #[.bool true,.slice (some ⟨b1,0,none⟩) 8 cap1]∧Ext w w5:=by
  have hne:b1≠e:=LD.out.kt.ne LD.out.be (by decide)
  have hB:=LD.out.kt.base
  refine ⟨_,rfl,LD.out.kt.put Ha.out (Q0r (kg s a) (kofK (n - 1))),(LD.out.be.far (p:=⟨b1,_,none⟩) (fun h=>hne h.symm) _).far (p:=⟨b1,_,none⟩) (fun h=>hne h.symm) _,(LD.out.ext.setCell (p:=⟨b1,_,none⟩) hB _).setCell (p:=⟨b1,_,none⟩) hB _⟩
 have K5:=Lib.hid K5
 have X5:=Lib.hid X5
 have BE5:=Lib.hid BE5
 go_upto_region 40 with fail
 try rw [hw5]
 clear hw5 kc0 kc1 hbl
 have q0:w5.cell? ⟨e,0,none⟩=some (.bool true):=by rw [BE5.out.cell];rfl
 have q1:w5.cell? ⟨e,1,none⟩=some (.slice (some ⟨b1,0,none⟩) 8 cap1):=by rw [BE5.out.cell];rfl
 go_wp2
 go_ret
 rw [Hld.out]
 exact ⟨_,_,rfl,Q5u (dt:=at_+1) K5.out X5.out.size,X5.out.alloc _⟩
set_option maxRecDepth 100000 in
set_option maxHeartbeats 4000000 in
theorem Qq9 (p:Q00) {oa:Option Addr} {capa:Nat} {oc:Option Addr} {capc:Nat} (at_:Nat) (s:KSt) (op a b c n:Int) (hop:13≤op) (hr:Q02 p.regs=true) (hcl:p.code.length≤200) (hat:at_ < p.code.length) (hi:Q0d p at_=⟨op,a,b,c,n⟩) (hok:Q01 p 8 ⟨op,a,b,c,n⟩=true) (w:World) (hp:Q0b w (.agg #[.slice oa p.regs.length capa,.slice oc p.code.length capc]) p) {B ba cap:Nat} (hk:KnAt w B (.slice (some ⟨ba,0,none⟩) 8 cap) s) :
  Calls Try.prog 56 #[.agg #[.slice oa p.regs.length capa,.slice oc p.code.length capc],.int .i64 (at_:Int),.agg #[.bool true,.slice (some ⟨ba,0,none⟩) 8 cap]] w (Q58 w (Q0u p at_ s ⟨op,a,b,c,n⟩)):=by
 obtain ⟨v1,v2,hv,hR,⟨-,oc',capc',bc,oo,hv2,hc1,hc2,hrow⟩⟩:=hp
 simp only [Value.agg.injEq,Array.mk.injEq,List.cons.injEq,and_true] at hv
 obtain ⟨rfl,rfl⟩:=hv
 simp only [Value.slice.injEq,true_and] at hv2
 obtain ⟨rfl,rfl⟩:=hv2
 have hix:=Q1g (cap:=capc) hrow.at_
 obtain ⟨e0,e1,e2,e3,e4⟩:=hrow.ins at_ hat
 have hgi:p.code.getD at_ default=⟨op,a,b,c,n⟩:=hi
 rw [hgi] at e0 e1 e2 e3 e4
 simp only at e0 e1 e2 e3 e4
 have HR:=Lib.hid hR
 have Hr:=Lib.hid hr
 have Hok:=Lib.hid hok
 have HK:=Lib.hid hk
 have hbl:=Q09 e0
 simp only at hbl
 have hh:=Qhz hok hop
 obtain ⟨ha,hb,hc,hop1,hop2⟩:=hh
 have hsub:IntKind.i64.wrap (op - 20)=op - 20:=Go.IntWalk.i64_in _ (by omega)
 have hq1:(op == (1:Int))=false:=by simp;omega
 have hq2:(op == (2:Int))=false:=by simp;omega
 have hq3:(op == (3:Int))=false:=by simp;omega
 have hq4:(op == (4:Int))=false:=by simp;omega
 have hq5:(op == (5:Int))=false:=by simp;omega
 have hq6:(op == (6:Int))=false:=by simp;omega
 have hq7:(op == (7:Int))=false:=by simp;omega
 have hq8:(op == (8:Int))=false:=by simp;omega
 have hq9:(op == (9:Int))=false:=by simp;omega
 have hq10:(op == (10:Int))=false:=by simp;omega
 have hq11:(op == (11:Int))=false:=by simp;omega
 have hq12:(op == (12:Int))=false:=by simp;omega
 clear hrow hi hgi hR hr hc1 hc2 hok hk
 go_enter Try.func56,Try.ntmps56
 go_upto_region 1 with fail
 obtain ⟨W,gp,hg,hW,hx,bP,bT⟩:=Q0i w #[.slice oa p.regs.length capa,.slice oc p.code.length capc] #[.bool true,.slice (some ⟨ba,0,none⟩) 8 cap] 25 87
 rw [hW,hg]
 have X:=Lib.hid hx
 have BP:=Lib.hid bP
 have BT:=Lib.hid bT
 have p1:W.cell? ⟨gp,1,none⟩=some (.slice oc p.code.length capc):=by rw [bP.cell];rfl
 have e0:=hx.kept e0
 have e1:=hx.kept e1
 have e2:=hx.kept e2
 have e3:=hx.kept e3
 have e4:=hx.kept e4
 have hgl:=bP.lt
 clear hW hg hx bP bT
 go_upto_region 2 with fail
 obtain ⟨w1,gi,hg,hW,hx,bI⟩:=Q1f W #[.int .i64 op,.int .i64 a,.int .i64 b,.int .i64 c,.int .i64 n] 70
 rw [hW,hg]
 have X:=Lib.hid (X.out.trans hx)
 have BP:=Lib.hid (BP.out.ext hx)
 have bT:=BT.out.ext hx
 have BT:=Lib.hid bT
 have BI:=Lib.hid bI
 have t0:w1.cell? ⟨gp+1,0,none⟩=some (.bool true):=by rw [bT.cell];rfl
 have t1:w1.cell? ⟨gp+1,1,none⟩=some (.slice (some ⟨ba,0,none⟩) 8 cap):=by rw [bT.cell];rfl
 have hgl2:=bT.lt
 clear hW hg hx p1 e0 e1 e2 e3 e4 bI bT hgl hbl
 go_wp2_with fail
 have C:=Q4k true ba cap s w1 (HK.out.ext X.out)
 (with_reducible refine C.mono ?_)
 clear C
 rintro er w2 ⟨b1,cap1,rfl,hK,hx⟩
 have X1:=Lib.hid hx
 have KT:=Lib.hid hK
 clear hK hx t0 t1
 go_upto_region 3 with fail
 obtain ⟨w3,e,hg,hW,hx,bE⟩:=Q1f w2 #[.bool true,.slice (some ⟨b1,0,none⟩) 8 cap1] 87
 rw [hW,hg]
 have hX:=X1.out.trans hx
 have LD:=Lib.hid (show LdAt w w3 gp gi e ba cap b1 cap1 _ _ op a b c n s from ⟨BP.out.ext hX,BT.out.ext hX,BI.out.ext hX,bE,(HK.out.ext (X.out.trans hX)).mono (Nat.zero_le _),(KT.out.mono X.out.size).ext hx,X.out.trans hX⟩)
 clear hW hg hx hX bE X1 KT X BP BT BI hgl2
 have i0:w3.cell? ⟨gi,0,none⟩=some (.int .i64 op):=by rw [LD.out.bi.cell];rfl
 obtain ⟨az0,az1⟩:=Q08.1 ha
 have Ha:=Lib.hid ha
 obtain ⟨bz0,bz1⟩:=Q08.1 hb
 have Hb:=Lib.hid hb
 obtain ⟨cz0,cz1⟩:=Q08.1 hc
 have Hc:=Lib.hid hc
 have hld:Q0u p at_ s ⟨op,a,b,c,n⟩=[(at_+1,kset s a (kopK (op - 20) (kg s b) (kg s c)))]:=by 
  unfold Q0u oneK
  rw [if_neg (by simp only;omega),if_neg (by simp only;omega),if_neg (by simp only;omega),if_neg (by simp only;omega),if_neg (by simp only;omega),if_neg (by simp only;omega),if_neg (by simp only;omega),if_neg (by simp only;omega),if_neg (by simp only;omega)]
 have Hld:=Lib.hid hld
 clear hld
 go_upto_region 4 with fail
 clear i0
 have qop:∀ Wx,Ext w3 Wx→Wx.cell? ⟨gi,0,none⟩=some (.int .i64 op):=fun _ h=>h.kept (by rw [LD.out.bi.cell];rfl)
 have qa:∀ Wx,Ext w3 Wx→Wx.cell? ⟨gi,1,none⟩=some (.int .i64 a):=fun _ h=>h.kept (by rw [LD.out.bi.cell];rfl)
 have qb:∀ Wx,Ext w3 Wx→Wx.cell? ⟨gi,2,none⟩=some (.int .i64 b):=fun _ h=>h.kept (by rw [LD.out.bi.cell];rfl)
 have qc:∀ Wx,Ext w3 Wx→Wx.cell? ⟨gi,3,none⟩=some (.int .i64 c):=fun _ h=>h.kept (by rw [LD.out.bi.cell];rfl)
 have qe:∀ Wx,Ext w3 Wx→Wx.cell? ⟨e,1,none⟩=some (.slice (some ⟨b1,0,none⟩) 8 cap1):=fun _ h=>h.kept (by rw [LD.out.be.cell];rfl)
 have qt:∀ Wx,Ext w3 Wx→Wx.cell? ⟨gp+1,1,none⟩=some (.slice (some ⟨ba,0,none⟩) 8 cap):=fun _ h=>h.kept (by rw [LD.out.bt.cell];rfl)
 have hixs:=Q2l ba cap
 have mb:∀ Wx,Ext w3 Wx→Wx.cell? ⟨ba,b.toNat * 2,none⟩=some (.int .i64 (kg s b).bits):=fun _ h=>h.kept (LD.out.ks.cell Hb.out).1.1
 have nb:∀ Wx,Ext w3 Wx→Wx.cell? ⟨ba,b.toNat * 2+1,none⟩=some (.bool (kg s b).sec):=fun _ h=>h.kept (LD.out.ks.cell Hb.out).2.1
 have mc:∀ Wx,Ext w3 Wx→Wx.cell? ⟨ba,c.toNat * 2,none⟩=some (.int .i64 (kg s c).bits):=fun _ h=>h.kept (LD.out.ks.cell Hc.out).1.1
 have nc:∀ Wx,Ext w3 Wx→Wx.cell? ⟨ba,c.toNat * 2+1,none⟩=some (.bool (kg s c).sec):=fun _ h=>h.kept (LD.out.ks.cell Hc.out).2.1
 have hixt:=Q2l b1 cap1
 refine Q2d [19,20,21] 1 (by kernel_rfl) (by kernel_rfl) ?_
 repeat (first | (refine Q2o ?_ ?_;(decide)) | (refine Q2i ?_ ?_ ?_;(decide);(first | rfl | (focus (go_simp;done)));apply Exists.intro;refine ⟨fun wc hE=>?_,?_⟩;(go_simp;exact rfl);go_simp) | (refine Q2m ?_ ?_ ?_;(decide);(focus (go_simp;done));go_simp))
 refine Q2n ?_
 intro w4 hx
 have X4:=Lib.hid hx
 have LD:=Lib.hid (LD.out.extend hx)
 clear hx qe qop qa qb qc qt mb nb mc nc
 refine Q39 rfl ?_
 go_wp2_with fail
 (with_reducible refine (Qfx (op - 20) (kg s b).bits (kg s c).bits (kg s b).sec (kg s c).sec w4).mono ?_)
 rintro er w4' ⟨rfl,hx⟩
 have LD:=Lib.hid (LD.out.extend hx)
 have X4:=Lib.hid (X4.out.trans hx)
 clear hx
 have kc:=LD.out.kt.cell Ha.out
 obtain ⟨kc0,kc1⟩:=kc
 have hbl:=Q09 kc0.1
 simp only at hbl
 go_wp2
 refine ⟨X4.out,?_⟩
 refine Q23 (Q10 rfl (Q10 rfl (Q2a))) ?_
 obtain ⟨w5,hw5,K5,BE5,X5⟩:∃ w5,(w4'.setCell ⟨b1,a.toNat * 2,none⟩ (.int .i64 (kop (op - 20) (nrm (kg s b).bits) (nrm (kg s c).bits)))).setCell ⟨b1,a.toNat * 2+1,none⟩ (.bool ((kg s b).sec || (kg s c).sec))=w5∧KnAt w5 w.heap.size (.slice (some ⟨b1,0,none⟩) 8 cap1) (kset s a (kopK (op - 20) (kg s b) (kg s c)))∧Blk w5 e 87 #[.bool true,.slice (some ⟨b1,0,none⟩) 8 cap1]∧Ext w w5:=by
  have hne:b1≠e:=LD.out.kt.ne LD.out.be (by decide)
  have hB:=LD.out.kt.base
  refine ⟨_,rfl,LD.out.kt.put Ha.out (kopK (op - 20) (kg s b) (kg s c)),(LD.out.be.far (p:=⟨b1,_,none⟩) (fun h=>hne h.symm) _).far (p:=⟨b1,_,none⟩) (fun h=>hne h.symm) _,(LD.out.ext.setCell (p:=⟨b1,_,none⟩) hB _).setCell (p:=⟨b1,_,none⟩) hB _⟩
 have K5:=Lib.hid K5
 have X5:=Lib.hid X5
 have BE5:=Lib.hid BE5
 go_upto_region 40 with fail
 try rw [hw5]
 clear hw5 kc0 kc1 hbl
 have q0:w5.cell? ⟨e,0,none⟩=some (.bool true):=by rw [BE5.out.cell];rfl
 have q1:w5.cell? ⟨e,1,none⟩=some (.slice (some ⟨b1,0,none⟩) 8 cap1):=by rw [BE5.out.cell];rfl
 go_wp2
 go_ret
 rw [Hld.out]
 exact ⟨_,_,rfl,Q5u (dt:=at_+1) K5.out X5.out.size,X5.out.alloc _⟩
set_option maxRecDepth 100000 in
set_option maxHeartbeats 4000000 in
theorem Qq7 (p:Q00) {oa:Option Addr} {capa:Nat} {oc:Option Addr} {capc:Nat} (at_:Nat) (s:KSt) (op a b c n:Int) (hop:op=4) (hr:Q02 p.regs=true) (hcl:p.code.length≤200) (hat:at_ < p.code.length) (hi:Q0d p at_=⟨op,a,b,c,n⟩) (hok:Q01 p 8 ⟨op,a,b,c,n⟩=true) (w:World) (hp:Q0b w (.agg #[.slice oa p.regs.length capa,.slice oc p.code.length capc]) p) {B ba cap:Nat} (hk:KnAt w B (.slice (some ⟨ba,0,none⟩) 8 cap) s) :
  Calls Try.prog 56 #[.agg #[.slice oa p.regs.length capa,.slice oc p.code.length capc],.int .i64 (at_:Int),.agg #[.bool true,.slice (some ⟨ba,0,none⟩) 8 cap]] w (Q58 w (Q0u p at_ s ⟨op,a,b,c,n⟩)):=by
 obtain ⟨v1,v2,hv,hR,⟨-,oc',capc',bc,oo,hv2,hc1,hc2,hrow⟩⟩:=hp
 simp only [Value.agg.injEq,Array.mk.injEq,List.cons.injEq,and_true] at hv
 obtain ⟨rfl,rfl⟩:=hv
 simp only [Value.slice.injEq,true_and] at hv2
 obtain ⟨rfl,rfl⟩:=hv2
 have hix:=Q1g (cap:=capc) hrow.at_
 obtain ⟨e0,e1,e2,e3,e4⟩:=hrow.ins at_ hat
 have hgi:p.code.getD at_ default=⟨op,a,b,c,n⟩:=hi
 rw [hgi] at e0 e1 e2 e3 e4
 simp only at e0 e1 e2 e3 e4
 have HR:=Lib.hid hR
 have Hr:=Lib.hid hr
 have Hok:=Lib.hid hok
 have HK:=Lib.hid hk
 have hbl:=Q09 e0
 simp only at hbl
 subst hop
 clear hrow hi hgi hR hr hc1 hc2 hok hk
 go_enter Try.func56,Try.ntmps56
 go_upto_region 1 with fail
 obtain ⟨W,gp,hg,hW,hx,bP,bT⟩:=Q0i w #[.slice oa p.regs.length capa,.slice oc p.code.length capc] #[.bool true,.slice (some ⟨ba,0,none⟩) 8 cap] 25 87
 rw [hW,hg]
 have X:=Lib.hid hx
 have BP:=Lib.hid bP
 have BT:=Lib.hid bT
 have p1:W.cell? ⟨gp,1,none⟩=some (.slice oc p.code.length capc):=by rw [bP.cell];rfl
 have e0:=hx.kept e0
 have e1:=hx.kept e1
 have e2:=hx.kept e2
 have e3:=hx.kept e3
 have e4:=hx.kept e4
 have hgl:=bP.lt
 clear hW hg hx bP bT
 go_upto_region 2 with fail
 obtain ⟨w1,gi,hg,hW,hx,bI⟩:=Q1f W #[.int .i64 4,.int .i64 a,.int .i64 b,.int .i64 c,.int .i64 n] 70
 rw [hW,hg]
 have X:=Lib.hid (X.out.trans hx)
 have BP:=Lib.hid (BP.out.ext hx)
 have bT:=BT.out.ext hx
 have BT:=Lib.hid bT
 have BI:=Lib.hid bI
 have t0:w1.cell? ⟨gp+1,0,none⟩=some (.bool true):=by rw [bT.cell];rfl
 have t1:w1.cell? ⟨gp+1,1,none⟩=some (.slice (some ⟨ba,0,none⟩) 8 cap):=by rw [bT.cell];rfl
 have hgl2:=bT.lt
 clear hW hg hx p1 e0 e1 e2 e3 e4 bI bT hgl hbl
 go_wp2_with fail
 have C:=Q4k true ba cap s w1 (HK.out.ext X.out)
 (with_reducible refine C.mono ?_)
 clear C
 rintro er w2 ⟨b1,cap1,rfl,hK,hx⟩
 have X1:=Lib.hid hx
 have KT:=Lib.hid hK
 clear hK hx t0 t1
 go_upto_region 3 with fail
 obtain ⟨w3,e,hg,hW,hx,bE⟩:=Q1f w2 #[.bool true,.slice (some ⟨b1,0,none⟩) 8 cap1] 87
 rw [hW,hg]
 have hX:=X1.out.trans hx
 have LD:=Lib.hid (show LdAt w w3 gp gi e ba cap b1 cap1 _ _ 4 a b c n s from ⟨BP.out.ext hX,BT.out.ext hX,BI.out.ext hX,bE,(HK.out.ext (X.out.trans hX)).mono (Nat.zero_le _),(KT.out.mono X.out.size).ext hx,X.out.trans hX⟩)
 clear hW hg hx hX bE X1 KT X BP BT BI hgl2
 have i0:w3.cell? ⟨gi,0,none⟩=some (.int .i64 4):=by rw [LD.out.bi.cell];rfl
 have hld:Q0u p at_ s ⟨4,a,b,c,n⟩=[(at_+1,s)]:=by simp [Q0u,oneK]
 have Hld:=Lib.hid hld
 clear hld
 have q0:w3.cell? ⟨e,0,none⟩=some (.bool true):=by rw [LD.out.be.cell];rfl
 have q1:w3.cell? ⟨e,1,none⟩=some (.slice (some ⟨b1,0,none⟩) 8 cap1):=by rw [LD.out.be.cell];rfl
 go_wp2
 go_ret
 rw [Hld.out]
 exact ⟨_,_,rfl,Q5u (dt:=at_+1) LD.out.kt LD.out.ext.size,LD.out.ext.alloc _⟩
set_option maxRecDepth 100000 in
set_option maxHeartbeats 4000000 in
theorem Qq6 (p:Q00) {oa:Option Addr} {capa:Nat} {oc:Option Addr} {capc:Nat} (at_:Nat) (s:KSt) (op a b c n:Int) (hop:op=6) (hr:Q02 p.regs=true) (hcl:p.code.length≤200) (hat:at_ < p.code.length) (hi:Q0d p at_=⟨op,a,b,c,n⟩) (hok:Q01 p 8 ⟨op,a,b,c,n⟩=true) (w:World) (hp:Q0b w (.agg #[.slice oa p.regs.length capa,.slice oc p.code.length capc]) p) {B ba cap:Nat} (hk:KnAt w B (.slice (some ⟨ba,0,none⟩) 8 cap) s) :
  Calls Try.prog 56 #[.agg #[.slice oa p.regs.length capa,.slice oc p.code.length capc],.int .i64 (at_:Int),.agg #[.bool true,.slice (some ⟨ba,0,none⟩) 8 cap]] w (Q58 w (Q0u p at_ s ⟨op,a,b,c,n⟩)):=by
 obtain ⟨v1,v2,hv,hR,⟨-,oc',capc',bc,oo,hv2,hc1,hc2,hrow⟩⟩:=hp
 simp only [Value.agg.injEq,Array.mk.injEq,List.cons.injEq,and_true] at hv
 obtain ⟨rfl,rfl⟩:=hv
 simp only [Value.slice.injEq,true_and] at hv2
 obtain ⟨rfl,rfl⟩:=hv2
 have hix:=Q1g (cap:=capc) hrow.at_
 obtain ⟨e0,e1,e2,e3,e4⟩:=hrow.ins at_ hat
 have hgi:p.code.getD at_ default=⟨op,a,b,c,n⟩:=hi
 rw [hgi] at e0 e1 e2 e3 e4
 simp only at e0 e1 e2 e3 e4
 have HR:=Lib.hid hR
 have Hr:=Lib.hid hr
 have Hok:=Lib.hid hok
 have HK:=Lib.hid hk
 have hbl:=Q09 e0
 simp only at hbl
 subst hop
 clear hrow hi hgi hR hr hc1 hc2 hok hk
 go_enter Try.func56,Try.ntmps56
 go_upto_region 1 with fail
 obtain ⟨W,gp,hg,hW,hx,bP,bT⟩:=Q0i w #[.slice oa p.regs.length capa,.slice oc p.code.length capc] #[.bool true,.slice (some ⟨ba,0,none⟩) 8 cap] 25 87
 rw [hW,hg]
 have X:=Lib.hid hx
 have BP:=Lib.hid bP
 have BT:=Lib.hid bT
 have p1:W.cell? ⟨gp,1,none⟩=some (.slice oc p.code.length capc):=by rw [bP.cell];rfl
 have e0:=hx.kept e0
 have e1:=hx.kept e1
 have e2:=hx.kept e2
 have e3:=hx.kept e3
 have e4:=hx.kept e4
 have hgl:=bP.lt
 clear hW hg hx bP bT
 go_upto_region 2 with fail
 obtain ⟨w1,gi,hg,hW,hx,bI⟩:=Q1f W #[.int .i64 6,.int .i64 a,.int .i64 b,.int .i64 c,.int .i64 n] 70
 rw [hW,hg]
 have X:=Lib.hid (X.out.trans hx)
 have BP:=Lib.hid (BP.out.ext hx)
 have bT:=BT.out.ext hx
 have BT:=Lib.hid bT
 have BI:=Lib.hid bI
 have t0:w1.cell? ⟨gp+1,0,none⟩=some (.bool true):=by rw [bT.cell];rfl
 have t1:w1.cell? ⟨gp+1,1,none⟩=some (.slice (some ⟨ba,0,none⟩) 8 cap):=by rw [bT.cell];rfl
 have hgl2:=bT.lt
 clear hW hg hx p1 e0 e1 e2 e3 e4 bI bT hgl hbl
 go_wp2_with fail
 have C:=Q4k true ba cap s w1 (HK.out.ext X.out)
 (with_reducible refine C.mono ?_)
 clear C
 rintro er w2 ⟨b1,cap1,rfl,hK,hx⟩
 have X1:=Lib.hid hx
 have KT:=Lib.hid hK
 clear hK hx t0 t1
 go_upto_region 3 with fail
 obtain ⟨w3,e,hg,hW,hx,bE⟩:=Q1f w2 #[.bool true,.slice (some ⟨b1,0,none⟩) 8 cap1] 87
 rw [hW,hg]
 have hX:=X1.out.trans hx
 have LD:=Lib.hid (show LdAt w w3 gp gi e ba cap b1 cap1 _ _ 6 a b c n s from ⟨BP.out.ext hX,BT.out.ext hX,BI.out.ext hX,bE,(HK.out.ext (X.out.trans hX)).mono (Nat.zero_le _),(KT.out.mono X.out.size).ext hx,X.out.trans hX⟩)
 clear hW hg hx hX bE X1 KT X BP BT BI hgl2
 have i0:w3.cell? ⟨gi,0,none⟩=some (.int .i64 6):=by rw [LD.out.bi.cell];rfl
 have hld:Q0u p at_ s ⟨6,a,b,c,n⟩=[(at_+1,s)]:=by simp [Q0u,oneK]
 have Hld:=Lib.hid hld
 clear hld
 have q0:w3.cell? ⟨e,0,none⟩=some (.bool true):=by rw [LD.out.be.cell];rfl
 have q1:w3.cell? ⟨e,1,none⟩=some (.slice (some ⟨b1,0,none⟩) 8 cap1):=by rw [LD.out.be.cell];rfl
 go_wp2
 go_ret
 rw [Hld.out]
 exact ⟨_,_,rfl,Q5u (dt:=at_+1) LD.out.kt LD.out.ext.size,LD.out.ext.alloc _⟩
set_option maxRecDepth 100000 in
set_option maxHeartbeats 4000000 in
theorem Qq8 (p:Q00) {oa:Option Addr} {capa:Nat} {oc:Option Addr} {capc:Nat} (at_:Nat) (s:KSt) (op a b c n:Int) (hop:op=12) (hr:Q02 p.regs=true) (hcl:p.code.length≤200) (hat:at_ < p.code.length) (hi:Q0d p at_=⟨op,a,b,c,n⟩) (hok:Q01 p 8 ⟨op,a,b,c,n⟩=true) (w:World) (hp:Q0b w (.agg #[.slice oa p.regs.length capa,.slice oc p.code.length capc]) p) {B ba cap:Nat} (hk:KnAt w B (.slice (some ⟨ba,0,none⟩) 8 cap) s) :
  Calls Try.prog 56 #[.agg #[.slice oa p.regs.length capa,.slice oc p.code.length capc],.int .i64 (at_:Int),.agg #[.bool true,.slice (some ⟨ba,0,none⟩) 8 cap]] w (Q58 w (Q0u p at_ s ⟨op,a,b,c,n⟩)):=by
 obtain ⟨v1,v2,hv,hR,⟨-,oc',capc',bc,oo,hv2,hc1,hc2,hrow⟩⟩:=hp
 simp only [Value.agg.injEq,Array.mk.injEq,List.cons.injEq,and_true] at hv
 obtain ⟨rfl,rfl⟩:=hv
 simp only [Value.slice.injEq,true_and] at hv2
 obtain ⟨rfl,rfl⟩:=hv2
 have hix:=Q1g (cap:=capc) hrow.at_
 obtain ⟨e0,e1,e2,e3,e4⟩:=hrow.ins at_ hat
 have hgi:p.code.getD at_ default=⟨op,a,b,c,n⟩:=hi
 rw [hgi] at e0 e1 e2 e3 e4
 simp only at e0 e1 e2 e3 e4
 have HR:=Lib.hid hR
 have Hr:=Lib.hid hr
 have Hok:=Lib.hid hok
 have HK:=Lib.hid hk
 have hbl:=Q09 e0
 simp only at hbl
 subst hop
 clear hrow hi hgi hR hr hc1 hc2 hok hk
 go_enter Try.func56,Try.ntmps56
 go_upto_region 1 with fail
 obtain ⟨W,gp,hg,hW,hx,bP,bT⟩:=Q0i w #[.slice oa p.regs.length capa,.slice oc p.code.length capc] #[.bool true,.slice (some ⟨ba,0,none⟩) 8 cap] 25 87
 rw [hW,hg]
 have X:=Lib.hid hx
 have BP:=Lib.hid bP
 have BT:=Lib.hid bT
 have p1:W.cell? ⟨gp,1,none⟩=some (.slice oc p.code.length capc):=by rw [bP.cell];rfl
 have e0:=hx.kept e0
 have e1:=hx.kept e1
 have e2:=hx.kept e2
 have e3:=hx.kept e3
 have e4:=hx.kept e4
 have hgl:=bP.lt
 clear hW hg hx bP bT
 go_upto_region 2 with fail
 obtain ⟨w1,gi,hg,hW,hx,bI⟩:=Q1f W #[.int .i64 12,.int .i64 a,.int .i64 b,.int .i64 c,.int .i64 n] 70
 rw [hW,hg]
 have X:=Lib.hid (X.out.trans hx)
 have BP:=Lib.hid (BP.out.ext hx)
 have bT:=BT.out.ext hx
 have BT:=Lib.hid bT
 have BI:=Lib.hid bI
 have t0:w1.cell? ⟨gp+1,0,none⟩=some (.bool true):=by rw [bT.cell];rfl
 have t1:w1.cell? ⟨gp+1,1,none⟩=some (.slice (some ⟨ba,0,none⟩) 8 cap):=by rw [bT.cell];rfl
 have hgl2:=bT.lt
 clear hW hg hx p1 e0 e1 e2 e3 e4 bI bT hgl hbl
 go_wp2_with fail
 have C:=Q4k true ba cap s w1 (HK.out.ext X.out)
 (with_reducible refine C.mono ?_)
 clear C
 rintro er w2 ⟨b1,cap1,rfl,hK,hx⟩
 have X1:=Lib.hid hx
 have KT:=Lib.hid hK
 clear hK hx t0 t1
 go_upto_region 3 with fail
 obtain ⟨w3,e,hg,hW,hx,bE⟩:=Q1f w2 #[.bool true,.slice (some ⟨b1,0,none⟩) 8 cap1] 87
 rw [hW,hg]
 have hX:=X1.out.trans hx
 have LD:=Lib.hid (show LdAt w w3 gp gi e ba cap b1 cap1 _ _ 12 a b c n s from ⟨BP.out.ext hX,BT.out.ext hX,BI.out.ext hX,bE,(HK.out.ext (X.out.trans hX)).mono (Nat.zero_le _),(KT.out.mono X.out.size).ext hx,X.out.trans hX⟩)
 clear hW hg hx hX bE X1 KT X BP BT BI hgl2
 have i0:w3.cell? ⟨gi,0,none⟩=some (.int .i64 12):=by rw [LD.out.bi.cell];rfl
 have hld:Q0u p at_ s ⟨12,a,b,c,n⟩=[(at_+1,s)]:=by simp [Q0u,oneK]
 have Hld:=Lib.hid hld
 clear hld
 have q0:w3.cell? ⟨e,0,none⟩=some (.bool true):=by rw [LD.out.be.cell];rfl
 have q1:w3.cell? ⟨e,1,none⟩=some (.slice (some ⟨b1,0,none⟩) 8 cap1):=by rw [LD.out.be.cell];rfl
 go_wp2
 go_ret
 rw [Hld.out]
 exact ⟨_,_,rfl,Q5u (dt:=at_+1) LD.out.kt LD.out.ext.size,LD.out.ext.alloc _⟩
set_option maxRecDepth 100000 in
set_option maxHeartbeats 4000000 in
theorem Qqf (p:Q00) {oa:Option Addr} {capa:Nat} {oc:Option Addr} {capc:Nat} (at_:Nat) (s:KSt) (op a b c n:Int) (hop:op=7) (hr:Q02 p.regs=true) (hcl:p.code.length≤200) (hat:at_ < p.code.length) (hi:Q0d p at_=⟨op,a,b,c,n⟩) (hok:Q01 p 8 ⟨op,a,b,c,n⟩=true) (w:World) (hp:Q0b w (.agg #[.slice oa p.regs.length capa,.slice oc p.code.length capc]) p) {B ba cap:Nat} (hk:KnAt w B (.slice (some ⟨ba,0,none⟩) 8 cap) s) :
  Calls Try.prog 56 #[.agg #[.slice oa p.regs.length capa,.slice oc p.code.length capc],.int .i64 (at_:Int),.agg #[.bool true,.slice (some ⟨ba,0,none⟩) 8 cap]] w (Q58 w (Q0u p at_ s ⟨op,a,b,c,n⟩)):=by
 obtain ⟨v1,v2,hv,hR,⟨-,oc',capc',bc,oo,hv2,hc1,hc2,hrow⟩⟩:=hp
 simp only [Value.agg.injEq,Array.mk.injEq,List.cons.injEq,and_true] at hv
 obtain ⟨rfl,rfl⟩:=hv
 simp only [Value.slice.injEq,true_and] at hv2
 obtain ⟨rfl,rfl⟩:=hv2
 have hix:=Q1g (cap:=capc) hrow.at_
 obtain ⟨e0,e1,e2,e3,e4⟩:=hrow.ins at_ hat
 have hgi:p.code.getD at_ default=⟨op,a,b,c,n⟩:=hi
 rw [hgi] at e0 e1 e2 e3 e4
 simp only at e0 e1 e2 e3 e4
 have HR:=Lib.hid hR
 have Hr:=Lib.hid hr
 have Hok:=Lib.hid hok
 have HK:=Lib.hid hk
 have hbl:=Q09 e0
 simp only at hbl
 subst hop
 have hn:0≤n∧n < (p.code.length:Int):=by unfold Q01 at hok;simp [okIn] at hok;omega
 clear hrow hi hgi hR hr hc1 hc2 hok hk
 go_enter Try.func56,Try.ntmps56
 go_upto_region 1 with fail
 obtain ⟨W,gp,hg,hW,hx,bP,bT⟩:=Q0i w #[.slice oa p.regs.length capa,.slice oc p.code.length capc] #[.bool true,.slice (some ⟨ba,0,none⟩) 8 cap] 25 87
 rw [hW,hg]
 have X:=Lib.hid hx
 have BP:=Lib.hid bP
 have BT:=Lib.hid bT
 have p1:W.cell? ⟨gp,1,none⟩=some (.slice oc p.code.length capc):=by rw [bP.cell];rfl
 have e0:=hx.kept e0
 have e1:=hx.kept e1
 have e2:=hx.kept e2
 have e3:=hx.kept e3
 have e4:=hx.kept e4
 have hgl:=bP.lt
 clear hW hg hx bP bT
 go_upto_region 2 with fail
 obtain ⟨w1,gi,hg,hW,hx,bI⟩:=Q1f W #[.int .i64 7,.int .i64 a,.int .i64 b,.int .i64 c,.int .i64 n] 70
 rw [hW,hg]
 have X:=Lib.hid (X.out.trans hx)
 have BP:=Lib.hid (BP.out.ext hx)
 have bT:=BT.out.ext hx
 have BT:=Lib.hid bT
 have BI:=Lib.hid bI
 have t0:w1.cell? ⟨gp+1,0,none⟩=some (.bool true):=by rw [bT.cell];rfl
 have t1:w1.cell? ⟨gp+1,1,none⟩=some (.slice (some ⟨ba,0,none⟩) 8 cap):=by rw [bT.cell];rfl
 have hgl2:=bT.lt
 clear hW hg hx p1 e0 e1 e2 e3 e4 bI bT hgl hbl
 go_wp2_with fail
 have C:=Q4k true ba cap s w1 (HK.out.ext X.out)
 (with_reducible refine C.mono ?_)
 clear C
 rintro er w2 ⟨b1,cap1,rfl,hK,hx⟩
 have X1:=Lib.hid hx
 have KT:=Lib.hid hK
 clear hK hx t0 t1
 go_upto_region 3 with fail
 obtain ⟨w3,e,hg,hW,hx,bE⟩:=Q1f w2 #[.bool true,.slice (some ⟨b1,0,none⟩) 8 cap1] 87
 rw [hW,hg]
 have hX:=X1.out.trans hx
 have LD:=Lib.hid (show LdAt w w3 gp gi e ba cap b1 cap1 _ _ 7 a b c n s from ⟨BP.out.ext hX,BT.out.ext hX,BI.out.ext hX,bE,(HK.out.ext (X.out.trans hX)).mono (Nat.zero_le _),(KT.out.mono X.out.size).ext hx,X.out.trans hX⟩)
 clear hW hg hx hX bE X1 KT X BP BT BI hgl2
 have i0:w3.cell? ⟨gi,0,none⟩=some (.int .i64 7):=by rw [LD.out.bi.cell];rfl
 have hld:Q0u p at_ s ⟨7,a,b,c,n⟩=[(n.toNat,s)]:=by simp [Q0u]
 have Hld:=Lib.hid hld
 clear hld
 have q0:w3.cell? ⟨e,0,none⟩=some (.bool true):=by rw [LD.out.be.cell];rfl
 have q1:w3.cell? ⟨e,1,none⟩=some (.slice (some ⟨b1,0,none⟩) 8 cap1):=by rw [LD.out.be.cell];rfl
 have i4:w3.cell? ⟨gi,4,none⟩=some (.int .i64 n):=by rw [LD.out.bi.cell];rfl
 go_wp2
 go_ret
 rw [Hld.out]
 have hl:=Q5u (dt:=n.toNat) LD.out.kt LD.out.ext.size
 rw [show ((n.toNat:Nat):Int)=n by omega] at hl
 exact ⟨_,_,rfl,hl,LD.out.ext.alloc _⟩
set_option maxRecDepth 100000 in
set_option maxHeartbeats 4000000 in
theorem Qqh (p:Q00) {oa:Option Addr} {capa:Nat} {oc:Option Addr} {capc:Nat} (at_:Nat) (s:KSt) (op a b c n:Int) (hop:op=9) (hr:Q02 p.regs=true) (hcl:p.code.length≤200) (hat:at_ < p.code.length) (hi:Q0d p at_=⟨op,a,b,c,n⟩) (hok:Q01 p 8 ⟨op,a,b,c,n⟩=true) (w:World) (hp:Q0b w (.agg #[.slice oa p.regs.length capa,.slice oc p.code.length capc]) p) {B ba cap:Nat} (hk:KnAt w B (.slice (some ⟨ba,0,none⟩) 8 cap) s) :
  Calls Try.prog 56 #[.agg #[.slice oa p.regs.length capa,.slice oc p.code.length capc],.int .i64 (at_:Int),.agg #[.bool true,.slice (some ⟨ba,0,none⟩) 8 cap]] w (Q58 w (Q0u p at_ s ⟨op,a,b,c,n⟩)):=by
 obtain ⟨v1,v2,hv,hR,⟨-,oc',capc',bc,oo,hv2,hc1,hc2,hrow⟩⟩:=hp
 simp only [Value.agg.injEq,Array.mk.injEq,List.cons.injEq,and_true] at hv
 obtain ⟨rfl,rfl⟩:=hv
 simp only [Value.slice.injEq,true_and] at hv2
 obtain ⟨rfl,rfl⟩:=hv2
 have hix:=Q1g (cap:=capc) hrow.at_
 obtain ⟨e0,e1,e2,e3,e4⟩:=hrow.ins at_ hat
 have hgi:p.code.getD at_ default=⟨op,a,b,c,n⟩:=hi
 rw [hgi] at e0 e1 e2 e3 e4
 simp only at e0 e1 e2 e3 e4
 have HR:=Lib.hid hR
 have Hr:=Lib.hid hr
 have Hok:=Lib.hid hok
 have HK:=Lib.hid hk
 have hbl:=Q09 e0
 simp only at hbl
 subst hop
 clear hrow hi hgi hR hr hc1 hc2 hok hk
 go_enter Try.func56,Try.ntmps56
 go_upto_region 1 with fail
 obtain ⟨W,gp,hg,hW,hx,bP,bT⟩:=Q0i w #[.slice oa p.regs.length capa,.slice oc p.code.length capc] #[.bool true,.slice (some ⟨ba,0,none⟩) 8 cap] 25 87
 rw [hW,hg]
 have X:=Lib.hid hx
 have BP:=Lib.hid bP
 have BT:=Lib.hid bT
 have p1:W.cell? ⟨gp,1,none⟩=some (.slice oc p.code.length capc):=by rw [bP.cell];rfl
 have e0:=hx.kept e0
 have e1:=hx.kept e1
 have e2:=hx.kept e2
 have e3:=hx.kept e3
 have e4:=hx.kept e4
 have hgl:=bP.lt
 clear hW hg hx bP bT
 go_upto_region 2 with fail
 obtain ⟨w1,gi,hg,hW,hx,bI⟩:=Q1f W #[.int .i64 9,.int .i64 a,.int .i64 b,.int .i64 c,.int .i64 n] 70
 rw [hW,hg]
 have X:=Lib.hid (X.out.trans hx)
 have BP:=Lib.hid (BP.out.ext hx)
 have bT:=BT.out.ext hx
 have BT:=Lib.hid bT
 have BI:=Lib.hid bI
 have t0:w1.cell? ⟨gp+1,0,none⟩=some (.bool true):=by rw [bT.cell];rfl
 have t1:w1.cell? ⟨gp+1,1,none⟩=some (.slice (some ⟨ba,0,none⟩) 8 cap):=by rw [bT.cell];rfl
 have hgl2:=bT.lt
 clear hW hg hx p1 e0 e1 e2 e3 e4 bI bT hgl hbl
 go_wp2_with fail
 have C:=Q4k true ba cap s w1 (HK.out.ext X.out)
 (with_reducible refine C.mono ?_)
 clear C
 rintro er w2 ⟨b1,cap1,rfl,hK,hx⟩
 have X1:=Lib.hid hx
 have KT:=Lib.hid hK
 clear hK hx t0 t1
 go_upto_region 3 with fail
 obtain ⟨w3,e,hg,hW,hx,bE⟩:=Q1f w2 #[.bool true,.slice (some ⟨b1,0,none⟩) 8 cap1] 87
 rw [hW,hg]
 have hX:=X1.out.trans hx
 have LD:=Lib.hid (show LdAt w w3 gp gi e ba cap b1 cap1 _ _ 9 a b c n s from ⟨BP.out.ext hX,BT.out.ext hX,BI.out.ext hX,bE,(HK.out.ext (X.out.trans hX)).mono (Nat.zero_le _),(KT.out.mono X.out.size).ext hx,X.out.trans hX⟩)
 clear hW hg hx hX bE X1 KT X BP BT BI hgl2
 have i0:w3.cell? ⟨gi,0,none⟩=some (.int .i64 9):=by rw [LD.out.bi.cell];rfl
 have hld:Q0u p at_ s ⟨9,a,b,c,n⟩=[]:=by simp [Q0u]
 have Hld:=Lib.hid hld
 clear hld
 go_wp2
 go_ret
 rw [Hld.out]
 exact ⟨_,_,rfl,Qqa _ _,LD.out.ext⟩
set_option maxRecDepth 100000 in
set_option maxHeartbeats 4000000 in
theorem Qqg (p:Q00) {oa:Option Addr} {capa:Nat} {oc:Option Addr} {capc:Nat} (at_:Nat) (s:KSt) (op a b c n:Int) (hop:op=8) (hr:Q02 p.regs=true) (hcl:p.code.length≤200) (hat:at_ < p.code.length) (hi:Q0d p at_=⟨op,a,b,c,n⟩) (hok:Q01 p 8 ⟨op,a,b,c,n⟩=true) (w:World) (hp:Q0b w (.agg #[.slice oa p.regs.length capa,.slice oc p.code.length capc]) p) {B ba cap:Nat} (hk:KnAt w B (.slice (some ⟨ba,0,none⟩) 8 cap) s) :
  Calls Try.prog 56 #[.agg #[.slice oa p.regs.length capa,.slice oc p.code.length capc],.int .i64 (at_:Int),.agg #[.bool true,.slice (some ⟨ba,0,none⟩) 8 cap]] w (Q58 w (Q0u p at_ s ⟨op,a,b,c,n⟩)):=by
 obtain ⟨v1,v2,hv,hR,⟨-,oc',capc',bc,oo,hv2,hc1,hc2,hrow⟩⟩:=hp
 simp only [Value.agg.injEq,Array.mk.injEq,List.cons.injEq,and_true] at hv
 obtain ⟨rfl,rfl⟩:=hv
 simp only [Value.slice.injEq,true_and] at hv2
 obtain ⟨rfl,rfl⟩:=hv2
 have hix:=Q1g (cap:=capc) hrow.at_
 obtain ⟨e0,e1,e2,e3,e4⟩:=hrow.ins at_ hat
 have hgi:p.code.getD at_ default=⟨op,a,b,c,n⟩:=hi
 rw [hgi] at e0 e1 e2 e3 e4
 simp only at e0 e1 e2 e3 e4
 have HR:=Lib.hid hR
 have Hr:=Lib.hid hr
 have Hok:=Lib.hid hok
 have HK:=Lib.hid hk
 have hbl:=Q09 e0
 simp only at hbl
 subst hop
 have ha:okIn 8 a=true:=by unfold Q01 at hok;simp [okIn] at hok ⊢;omega
 have hb:okIn 8 b=true:=by unfold Q01 at hok;simp [okIn] at hok ⊢;omega
 have hcc:1≤c∧c≤4:=by unfold Q01 at hok;simp [okIn] at hok;omega
 have hn:0≤n∧n < (p.code.length:Int):=by unfold Q01 at hok;simp [okIn] at hok;omega
 clear hrow hi hgi hR hr hc1 hc2 hok hk
 go_enter Try.func56,Try.ntmps56
 go_upto_region 1 with fail
 obtain ⟨W,gp,hg,hW,hx,bP,bT⟩:=Q0i w #[.slice oa p.regs.length capa,.slice oc p.code.length capc] #[.bool true,.slice (some ⟨ba,0,none⟩) 8 cap] 25 87
 rw [hW,hg]
 have X:=Lib.hid hx
 have BP:=Lib.hid bP
 have BT:=Lib.hid bT
 have p1:W.cell? ⟨gp,1,none⟩=some (.slice oc p.code.length capc):=by rw [bP.cell];rfl
 have e0:=hx.kept e0
 have e1:=hx.kept e1
 have e2:=hx.kept e2
 have e3:=hx.kept e3
 have e4:=hx.kept e4
 have hgl:=bP.lt
 clear hW hg hx bP bT
 go_upto_region 2 with fail
 obtain ⟨w1,gi,hg,hW,hx,bI⟩:=Q1f W #[.int .i64 8,.int .i64 a,.int .i64 b,.int .i64 c,.int .i64 n] 70
 rw [hW,hg]
 have X:=Lib.hid (X.out.trans hx)
 have BP:=Lib.hid (BP.out.ext hx)
 have bT:=BT.out.ext hx
 have BT:=Lib.hid bT
 have BI:=Lib.hid bI
 have t0:w1.cell? ⟨gp+1,0,none⟩=some (.bool true):=by rw [bT.cell];rfl
 have t1:w1.cell? ⟨gp+1,1,none⟩=some (.slice (some ⟨ba,0,none⟩) 8 cap):=by rw [bT.cell];rfl
 have hgl2:=bT.lt
 clear hW hg hx p1 e0 e1 e2 e3 e4 bI bT hgl hbl
 go_wp2_with fail
 have C:=Q4k true ba cap s w1 (HK.out.ext X.out)
 (with_reducible refine C.mono ?_)
 clear C
 rintro er w2 ⟨b1,cap1,rfl,hK,hx⟩
 have X1:=Lib.hid hx
 have KT:=Lib.hid hK
 clear hK hx t0 t1
 go_upto_region 3 with fail
 obtain ⟨w3,e,hg,hW,hx,bE⟩:=Q1f w2 #[.bool true,.slice (some ⟨b1,0,none⟩) 8 cap1] 87
 rw [hW,hg]
 have hX:=X1.out.trans hx
 have LD:=Lib.hid (show LdAt w w3 gp gi e ba cap b1 cap1 _ _ 8 a b c n s from ⟨BP.out.ext hX,BT.out.ext hX,BI.out.ext hX,bE,(HK.out.ext (X.out.trans hX)).mono (Nat.zero_le _),(KT.out.mono X.out.size).ext hx,X.out.trans hX⟩)
 clear hW hg hx hX bE X1 KT X BP BT BI hgl2
 have i0:w3.cell? ⟨gi,0,none⟩=some (.int .i64 8):=by rw [LD.out.bi.cell];rfl
 obtain ⟨az0,az1⟩:=Q08.1 ha
 obtain ⟨bz0,bz1⟩:=Q08.1 hb
 have Ha:=Lib.hid ha
 have Hb:=Lib.hid hb
 have hixs:=Q2l ba cap
 have kcga:=LD.out.ks.cell Ha.out
 obtain ⟨⟨gax0,-⟩,⟨gax1,-⟩⟩:=kcga
 have iga:w3.cell? ⟨gi,1,none⟩=some (.int .i64 a):=by rw [LD.out.bi.cell];rfl
 have itga:w3.cell? ⟨gp+1,1,none⟩=some (.slice (some ⟨ba,0,none⟩) 8 cap):=by rw [LD.out.bt.cell];rfl
 go_upto_region 11 with fail
 obtain ⟨w4,ga,hg,hW,hx,bga⟩:=Q1f w3 #[.int .i64 (kg s a).bits,.bool (kg s a).sec] 78
 rw [hW,hg]
 have LD:=Lib.hid (LD.out.extend hx)
 have Bga:=Lib.hid bga
 clear hW hg hx bga gax0 gax1 iga itga i0
 have kcgb:=LD.out.ks.cell Hb.out
 obtain ⟨⟨gbx0,-⟩,⟨gbx1,-⟩⟩:=kcgb
 have igb:w4.cell? ⟨gi,2,none⟩=some (.int .i64 b):=by rw [LD.out.bi.cell];rfl
 have itgb:w4.cell? ⟨gp+1,1,none⟩=some (.slice (some ⟨ba,0,none⟩) 8 cap):=by rw [LD.out.bt.cell];rfl
 go_upto_region 12 with fail
 obtain ⟨w5,gb,hg,hW,hx,bgb⟩:=Q1f w4 #[.int .i64 (kg s b).bits,.bool (kg s b).sec] 78
 rw [hW,hg]
 have LD:=Lib.hid (LD.out.extend hx)
 have Bgb:=Lib.hid bgb
 have Bga:=Lib.hid (Bga.out.ext hx)
 clear hW hg hx bgb gbx0 gbx1 igb itgb
 have j0:w5.cell? ⟨e,0,none⟩=some (.bool true):=by rw [LD.out.be.cell];rfl
 have j1:w5.cell? ⟨e,1,none⟩=some (.slice (some ⟨b1,0,none⟩) 8 cap1):=by rw [LD.out.be.cell];rfl
 have j2:w5.cell? ⟨gi,1,none⟩=some (.int .i64 a):=by rw [LD.out.bi.cell];rfl
 have j3:w5.cell? ⟨ga,0,none⟩=some (.int .i64 (kg s a).bits):=by rw [Bga.out.cell];rfl
 have j4:w5.cell? ⟨ga,1,none⟩=some (.bool (kg s a).sec):=by rw [Bga.out.cell];rfl
 have j5:w5.cell? ⟨gb,0,none⟩=some (.int .i64 (kg s b).bits):=by rw [Bgb.out.cell];rfl
 have j6:w5.cell? ⟨gb,1,none⟩=some (.bool (kg s b).sec):=by rw [Bgb.out.cell];rfl
 go_wp2_with fail
 have C:=Qd0 true b1 cap1 s a (kg s a) (kg s b) Ha.out w5 LD.out.kt
 (with_reducible refine C.mono ?_)
 clear C
 rintro er w6 ⟨f1,capf1,rfl,hK,hx⟩
 have hws:=LD.out.ext.size
 have K1:=Lib.hid (hK.mono hws)
 have X1:=Lib.hid hx
 clear hK hx j0 j1 j2 j3 j4 j5 j6 hws
 go_upto_region 13 with fail
 obtain ⟨w7,u1,hg,hW,hx,b1⟩:=Q1f w6 #[.bool true,.slice (some ⟨f1,0,none⟩) 8 capf1] 87
 rw [hW,hg]
 have X1:=Lib.hid (X1.out.trans hx)
 have LD:=Lib.hid (LD.out.extend X1.out)
 have K1:=Lib.hid (K1.out.ext hx)
 have U1:=Lib.hid b1
 clear hW hg hx b1
 have Bga:=Lib.hid (Bga.out.ext X1.out)
 have Bgb:=Lib.hid (Bgb.out.ext X1.out)
 have j0:w7.cell? ⟨e,0,none⟩=some (.bool true):=by rw [LD.out.be.cell];rfl
 have j1:w7.cell? ⟨e,1,none⟩=some (.slice (some ⟨b1,0,none⟩) 8 cap1):=by rw [LD.out.be.cell];rfl
 have j2:w7.cell? ⟨gi,2,none⟩=some (.int .i64 b):=by rw [LD.out.bi.cell];rfl
 have j3:w7.cell? ⟨gb,0,none⟩=some (.int .i64 (kg s b).bits):=by rw [Bgb.out.cell];rfl
 have j4:w7.cell? ⟨gb,1,none⟩=some (.bool (kg s b).sec):=by rw [Bgb.out.cell];rfl
 have j5:w7.cell? ⟨ga,0,none⟩=some (.int .i64 (kg s a).bits):=by rw [Bga.out.cell];rfl
 have j6:w7.cell? ⟨ga,1,none⟩=some (.bool (kg s a).sec):=by rw [Bga.out.cell];rfl
 go_wp2_with fail
 have C:=Qd0 true b1 cap1 s b (kg s b) (kg s a) Hb.out w7 LD.out.kt
 (with_reducible refine C.mono ?_)
 clear C
 rintro er w8 ⟨f2,capf2,rfl,hK,hx⟩
 have hws:=LD.out.ext.size
 have K2:=Lib.hid (hK.mono hws)
 have X1:=Lib.hid hx
 clear hK hx j0 j1 j2 j3 j4 j5 j6 hws
 go_upto_region 14 with fail
 obtain ⟨w9,u2,hg,hW,hx,b2⟩:=Q1f w8 #[.bool true,.slice (some ⟨f2,0,none⟩) 8 capf2] 87
 rw [hW,hg]
 have X1:=Lib.hid (X1.out.trans hx)
 have LD:=Lib.hid (LD.out.extend X1.out)
 have K2:=Lib.hid (K2.out.ext hx)
 have U2:=Lib.hid b2
 clear hW hg hx b2
 have Bga:=Lib.hid (Bga.out.ext X1.out)
 have Bgb:=Lib.hid (Bgb.out.ext X1.out)
 have K1:=Lib.hid (K1.out.ext X1.out)
 have U1:=Lib.hid (U1.out.ext X1.out)
 have j0:w9.cell? ⟨u1,0,none⟩=some (.bool true):=by rw [U1.out.cell];rfl
 have j1:w9.cell? ⟨u1,1,none⟩=some (.slice (some ⟨f1,0,none⟩) 8 capf1):=by rw [U1.out.cell];rfl
 have j2:w9.cell? ⟨gi,2,none⟩=some (.int .i64 b):=by rw [LD.out.bi.cell];rfl
 have j3:w9.cell? ⟨gb,0,none⟩=some (.int .i64 (kg s b).bits):=by rw [Bgb.out.cell];rfl
 have j4:w9.cell? ⟨gb,1,none⟩=some (.bool (kg s b).sec):=by rw [Bgb.out.cell];rfl
 have j5:w9.cell? ⟨ga,0,none⟩=some (.int .i64 (kg s a).bits):=by rw [Bga.out.cell];rfl
 have j6:w9.cell? ⟨ga,1,none⟩=some (.bool (kg s a).sec):=by rw [Bga.out.cell];rfl
 go_wp2_with fail
 have C:=Qd0 true f1 capf1 (kset s a (Q0r (kg s a) (kg s b))) b (kg s b) (kg s a) Hb.out w9 K1.out
 (with_reducible refine C.mono ?_)
 clear C
 rintro er w10 ⟨f3,capf3,rfl,hK,hx⟩
 have hws:=LD.out.ext.size
 have K3:=Lib.hid (hK.mono hws)
 have X1:=Lib.hid hx
 clear hK hx j0 j1 j2 j3 j4 j5 j6 hws
 go_upto_region 15 with fail
 obtain ⟨w11,u3,hg,hW,hx,b3⟩:=Q1f w10 #[.bool true,.slice (some ⟨f3,0,none⟩) 8 capf3] 87
 rw [hW,hg]
 have X1:=Lib.hid (X1.out.trans hx)
 have LD:=Lib.hid (LD.out.extend X1.out)
 have K3:=Lib.hid (K3.out.ext hx)
 have U3:=Lib.hid b3
 clear hW hg hx b3
 have Bga:=Lib.hid (Bga.out.ext X1.out)
 have Bgb:=Lib.hid (Bgb.out.ext X1.out)
 have K1:=Lib.hid (K1.out.ext X1.out)
 have U1:=Lib.hid (U1.out.ext X1.out)
 have K2:=Lib.hid (K2.out.ext X1.out)
 have U2:=Lib.hid (U2.out.ext X1.out)
 have i4:w11.cell? ⟨gi,4,none⟩=some (.int .i64 n):=by rw [LD.out.bi.cell];rfl
 have i3:w11.cell? ⟨gi,3,none⟩=some (.int .i64 c):=by rw [LD.out.bi.cell];rfl
 have y0:w11.cell? ⟨e,0,none⟩=some (.bool true):=by rw [LD.out.be.cell];rfl
 have y1:w11.cell? ⟨e,1,none⟩=some (.slice (some ⟨b1,0,none⟩) 8 cap1):=by rw [LD.out.be.cell];rfl
 have z0:w11.cell? ⟨u1,0,none⟩=some (.bool true):=by rw [U1.out.cell];rfl
 have z1:w11.cell? ⟨u1,1,none⟩=some (.slice (some ⟨f1,0,none⟩) 8 capf1):=by rw [U1.out.cell];rfl
 have z2:w11.cell? ⟨u2,0,none⟩=some (.bool true):=by rw [U2.out.cell];rfl
 have z3:w11.cell? ⟨u2,1,none⟩=some (.slice (some ⟨f2,0,none⟩) 8 capf2):=by rw [U2.out.cell];rfl
 have z4:w11.cell? ⟨u3,0,none⟩=some (.bool true):=by rw [U3.out.cell];rfl
 have z5:w11.cell? ⟨u3,1,none⟩=some (.slice (some ⟨f3,0,none⟩) 8 capf3):=by rw [U3.out.cell];rfl
 have hnn:((n.toNat:Nat):Int)=n:=by omega
 have Hnn:=Lib.hid hnn
 clear hnn
 rcases (show c=1∨c=2∨c=3∨c=4 by omega) with rfl | rfl | rfl | rfl
 ·have hl:=Qat (dt:=n.toNat) (dt':=at_+1) K3.out LD.out.kt LD.out.ext.size
  have hld:Q0u p at_ s ⟨8,a,b,1,n⟩=[(n.toNat,kset (kset s a (Q0r (kg s a) (kg s b))) b (Q0r (kg s b) (kg s a))),(at_+1,s)]:=by
   unfold Q0u Q16 Q3i Q4c
   simp
  rw [Hnn.out] at hl
  have HL:=Lib.hid hl
  have Hld:=Lib.hid hld
  clear hl hld
  go_wp2
  go_ret
  rw [Hld.out]
  exact ⟨_,_,rfl,HL.out,LD.out.ext.alloc _⟩
 ·have hl:=Qat (dt:=n.toNat) (dt':=at_+1) LD.out.kt K3.out LD.out.ext.size
  have hld:Q0u p at_ s ⟨8,a,b,2,n⟩=[(n.toNat,s),(at_+1,kset (kset s a (Q0r (kg s a) (kg s b))) b (Q0r (kg s b) (kg s a)))]:=by
   unfold Q0u Q16 Q3i Q4c
   simp
  rw [Hnn.out] at hl
  have HL:=Lib.hid hl
  have Hld:=Lib.hid hld
  clear hl hld
  go_wp2
  go_ret
  rw [Hld.out]
  exact ⟨_,_,rfl,HL.out,LD.out.ext.alloc _⟩
 ·have hl:=Qat (dt:=n.toNat) (dt':=at_+1) K1.out K2.out LD.out.ext.size
  have hld:Q0u p at_ s ⟨8,a,b,3,n⟩=[(n.toNat,kset s a (Q0r (kg s a) (kg s b))),(at_+1,kset s b (Q0r (kg s b) (kg s a)))]:=by
   unfold Q0u Q16 Q3i Q4c
   simp
  rw [Hnn.out] at hl
  have HL:=Lib.hid hl
  have Hld:=Lib.hid hld
  clear hl hld
  go_wp2
  go_ret
  rw [Hld.out]
  exact ⟨_,_,rfl,HL.out,LD.out.ext.alloc _⟩
 ·have hl:=Qat (dt:=n.toNat) (dt':=at_+1) K2.out K1.out LD.out.ext.size
  have hld:Q0u p at_ s ⟨8,a,b,4,n⟩=[(n.toNat,kset s b (Q0r (kg s b) (kg s a))),(at_+1,kset s a (Q0r (kg s a) (kg s b)))]:=by
   unfold Q0u Q16 Q3i Q4c
   simp
  rw [Hnn.out] at hl
  have HL:=Lib.hid hl
  have Hld:=Lib.hid hld
  clear hl hld
  go_wp2
  go_ret
  rw [Hld.out]
  exact ⟨_,_,rfl,HL.out,LD.out.ext.alloc _⟩
theorem Qhf (p:Q00) {oa:Option Addr} {capa:Nat} {oc:Option Addr} {capc:Nat} (at_:Nat) (s:KSt) (hr:Q02 p.regs=true) (hcl:p.code.length≤200) (hat:at_ < p.code.length) (hok:Q01 p 8 (Q0d p at_)=true) (w:World) (hp:Q0b w (.agg #[.slice oa p.regs.length capa,.slice oc p.code.length capc]) p) {B ba cap:Nat} (hk:KnAt w B (.slice (some ⟨ba,0,none⟩) 8 cap) s) :
  Calls Try.prog 56 #[.agg #[.slice oa p.regs.length capa,.slice oc p.code.length capc],.int .i64 (at_:Int),.agg #[.bool true,.slice (some ⟨ba,0,none⟩) 8 cap]] w (Q58 w (Q0u p at_ s (Q0d p at_))):=by
 generalize hi:Q0d p at_=i at *
 obtain ⟨op,a,b,c,n⟩:=i
 by_cases e1:op=1
 ·exact Qq5 p at_ s op a b c n e1 hr hcl hat hi hok w hp hk
 by_cases e2:op=2
 ·exact Qqb p at_ s op a b c n e2 hr hcl hat hi hok w hp hk
 by_cases e10:op=10
 ·exact Qqi p at_ s op a b c n e10 hr hcl hat hi hok w hp hk
 by_cases e3:op=3
 ·exact Qqe p at_ s op a b c n e3 hr hcl hat hi hok w hp hk
 by_cases e4:op=4
 ·exact Qq7 p at_ s op a b c n e4 hr hcl hat hi hok w hp hk
 by_cases e5:op=5
 ·exact Qqd p at_ s op a b c n e5 hr hcl hat hi hok w hp hk
 by_cases e6:op=6
 ·exact Qq6 p at_ s op a b c n e6 hr hcl hat hi hok w hp hk
 by_cases e7:op=7
 ·exact Qqf p at_ s op a b c n e7 hr hcl hat hi hok w hp hk
 by_cases e8:op=8
 ·exact Qqg p at_ s op a b c n e8 hr hcl hat hi hok w hp hk
 by_cases e9:op=9
 ·exact Qqh p at_ s op a b c n e9 hr hcl hat hi hok w hp hk
 by_cases e11:op=11
 ·exact Qqc p at_ s op a b c n e11 hr hcl hat hi hok w hp hk
 by_cases e12:op=12
 ·exact Qq8 p at_ s op a b c n e12 hr hcl hat hi hok w hp hk
 have hop:13≤op:=by
  by_cases h13:13≤op
  ·exact h13
  ·exfalso
   unfold Q01 at hok
   simp only at hok
   rw [if_neg e1,if_neg e2,if_neg e10,if_neg (by omega),if_neg (by omega),if_neg e7,if_neg e8,if_neg e9,if_neg e11,if_neg e12] at hok
   simp only [Bool.and_eq_true] at hok
   have:=Q08.1 hok.2
   omega
 exact Qq9 p at_ s op a b c n hop hr hcl hat hi hok w hp hk
end Go.Proofs.Yteiknefajlocoaa
