/- Laid together from: Ck5. -/
import Derived.Test.YteiknefajlocoaaFindNothingB37
import Derived.Test.YteiknefajlocoaaFindNothingB33

namespace Go.Proofs.Yteiknefajlocoaa
open Go.ChangeShapes Go.WideShapes Go.ChangeAt Go.RowKit
set_option linter.unusedVariables false
set_option linter.unusedSimpArgs false
def Q4r (p:Q00):List (Nat × KSt)→Tab × List Int→Tab × List Int
 | [],tw=>tw
 | x :: l,tw=>Q4r p l (Q51 p tw.1 x.1 x.2,Q4q p tw.1 tw.2 x.1 x.2)
def Q57 (p:Q00) (w:World) (B g ks:Nat) (vR vC:Value) (T:Tab) (wk:List Int) (l:List (Nat × KSt)) (e:Ending) (w':World):Prop :=
 e=.returned (.tuple #[])∧∃ vK',CSt w' B g ks vR vC vK' p (Q4r p l (T,wk)).1 (Q4r p l (T,wk)).2∧Below B w w'
theorem sum_c' (k:LKn) (n:Int) (w:World):Calls Try.prog 90 #[.agg #[.int .i64 k.bits,.bool k.sec],.int .i64 n] w fun e w'=>e=.returned (.agg #[.int .i64 (ksum k n).bits,.bool (ksum k n).sec])∧Ext w w':=Q4m k n w
theorem Qhz {p:Q00} {op a b c n:Int} (h:Q01 p 8 ⟨op,a,b,c,n⟩=true) (ho:13≤op):okIn 8 a=true∧okIn 8 b=true∧okIn 8 c=true∧21≤op∧op≤30:=by
 unfold Q01 at h
 simp only at h
 rw [if_neg (by omega),if_neg (by omega),if_neg (by omega),if_neg (by omega),if_neg (by omega),if_neg (by omega),if_neg (by omega),if_neg (by omega),if_neg (by omega),if_neg (by omega)] at h
 simp only [Bool.and_eq_true] at h
 obtain ⟨⟨⟨⟨h1,h2⟩,h3⟩,-⟩,h5⟩:=h
 have:=Q08.1 h5
 exact ⟨h1,h2,h3,by omega,by omega⟩
theorem Q50 {w w':World} {B g ks:Nat} {vR vC vK:Value} {p:Q00} {T:Tab} {wk:List Int} (h:CSt w B g ks vR vC vK p T wk) (ht:Turn (fun j=>j=g∨j=ks∨vK.ownBlock=some j) w w'):Below B w w' :=
 ht.below h.size (by
  rintro j (rfl | rfl | e)
  ·exact h.hg
  ·exact h.hk
  ·exact Q47 h.wk j e)
set_option maxRecDepth 100000 in
set_option maxHeartbeats 4000000 in
theorem Qom (p:Q00) {B g ks:Nat} {oa:Option Addr} {capa:Nat} {vK:Value} {oc:Option Addr} {capc:Nat} {T:Tab} {wk:List Int} (at_:Nat) (s:KSt) (op a b c n:Int) (hop:op=1) (hs:Sok s) (hr:Q02 p.regs=true) (hcl:p.code.length≤200) (hat:at_ < p.code.length) (hi:Q0d p at_=⟨op,a,b,c,n⟩) (hok:Q01 p 8 ⟨op,a,b,c,n⟩=true) (hwl:wk.length≤999990) (w:World) (hp:Q0b w (.agg #[.slice oa p.regs.length capa,.slice oc p.code.length capc]) p) (h:CSt w B g ks (.slice oa p.regs.length capa) (.slice oc p.code.length capc) vK p T wk) :
  Calls Try.prog 52 #[.pointer (some ⟨g,0,none⟩),.int .i64 (at_:Int),.agg (stV s)] w (Q57 p w B g ks (.slice oa p.regs.length capa) (.slice oc p.code.length capc) T wk (Q0f p at_ s ⟨op,a,b,c,n⟩)):=by
 obtain ⟨v1,v2,hv,hR,⟨-,oc',capc',bc,oo,hv2,hc1,hc2,hrow⟩⟩:=hp
 simp only [Value.agg.injEq,Array.mk.injEq,List.cons.injEq,and_true] at hv
 obtain ⟨rfl,rfl⟩:=hv
 simp only [Value.slice.injEq,true_and] at hv2
 obtain ⟨rfl,rfl⟩:=hv2
 have hix:=Q1g (cap:=capc) hrow.at_
 obtain ⟨e0,e1,e2,e3,e4⟩:=hrow.ins at_ hat
 have hgi:p.code.getD at_ default=⟨op,a,b,c,n⟩:=hi
 rw [hgi] at e0 e1 e2 e3 e4
 simp only at e0 e1 e2 e3 e4
 obtain ⟨-,c1,-,-⟩:=h.cells
 have hgl:=h.box.lt
 have hst:=Q26
 have H:=Lib.hid h
 have Hs:=Lib.hid hs
 have hl:=hs.len
 have HR:=Lib.hid hR
 have Hr:=Lib.hid hr
 have Hok:=Lib.hid hok
 have hbl:=Q09 e0
 simp only at hbl
 subst hop
 have ha:okIn 8 a=true:=by unfold Q01 at hok;simp [okIn] at hok ⊢;omega
 clear h hs hrow hi hgi hR hr hc1 hc2 hok
 go_enter Try.func52,Try.ntmps52
 go_upto_region 11 with fail
 obtain ⟨W,e,he,hW,hx,bS,bI⟩:=Q0i w (stV s) #[.int .i64 1,.int .i64 a,.int .i64 b,.int .i64 c,.int .i64 n] 80 70
 rw [hW,he]
 have X:=Lib.hid hx
 have HP:=Lib.hid (H.out.ext hx)
 have BS:=Lib.hid bS
 have i0:W.cell? ⟨e+1,0,none⟩=some (.int .i64 1):=by rw [bI.cell];rfl
 have i1:W.cell? ⟨e+1,1,none⟩=some (.int .i64 a):=by rw [bI.cell];rfl
 have i2:W.cell? ⟨e+1,2,none⟩=some (.int .i64 b):=by rw [bI.cell];rfl
 have i3:W.cell? ⟨e+1,3,none⟩=some (.int .i64 c):=by rw [bI.cell];rfl
 have i4:W.cell? ⟨e+1,4,none⟩=some (.int .i64 n):=by rw [bI.cell];rfl
 have Hew:=Lib.hid (show w.heap.size≤e by omega)
 have hel0:=bS.lt
 have hel1:=bI.lt
 have BI:=Lib.hid bI
 clear hW hx he e0 e1 e2 e3 e4 c1 bI hbl
 obtain ⟨a0,a1⟩:=Q08.1 ha
 have Ha:=Lib.hid ha
 have k1:∀ Wx,Ext W Wx→Wx.cell? ⟨e+1,1,none⟩=some (.int .i64 a):=fun _ h=>h.kept i1
 have k4:∀ Wx,Ext W Wx→Wx.cell? ⟨e+1,4,none⟩=some (.int .i64 n):=fun _ h=>h.kept i4
 clear i0 i1 i2 i3 i4  bS
 refine Q0z 5 (by kernel_rfl) (by kernel_rfl) ?_
 simp only [List.take_succ_cons,List.take_zero,List.drop_succ_cons,List.drop_zero]
 repeat (first | (refine Q0p ?_ ?_ (fun wc hE=>?_) ?_;(decide);rfl;(focus (go_simp;done));go_simp) | (refine Q0h ?_ ?_ ?_;(decide);(first | rfl | (focus (go_simp;done)));apply Exists.intro;refine ⟨fun wc hE=>?_,?_⟩;(go_simp;exact rfl);go_simp) | (refine Q0q ?_ ?_ ?_;(decide);(first | rfl | (focus (go_simp;done)));apply Exists.intro;refine ⟨fun wc hE=>?_,?_⟩;(go_simp;(first | (with_reducible exact Q1p (Qdf n _))));go_simp) | (refine Q0n ?_ ?_ ?_;(decide);(focus (go_simp;done));go_simp))
 refine Q0o ?_
 intro wy hx
 have X:=Lib.hid (X.out.trans hx)
 have HP:=Lib.hid (HP.out.ext hx)
 have bS:=BS.out.ext hx
 obtain ⟨rr0,rr1⟩:=Q1t bS hl Ha.out
 have hel:=bS.lt
 have hw2:∃ w2,(wy.setCell ⟨e,a.toNat * 2,none⟩ (.int .i64 (kof n))).setCell ⟨e,a.toNat * 2+1,none⟩ (.bool (false))=w2∧Blk w2 e 80 (stV (kset s a (kofK n)))∧CSt w2 B g ks (.slice oa p.regs.length capa) (.slice oc p.code.length capc) vK p T wk∧Ext w w2:=by
  have hb:=Q3j bS hl Ha.out (kofK n)
  refine ⟨_,rfl,hb,?_,(X.out.setCell (p:=⟨e,_,none⟩) Hew.out _).setCell (p:=⟨e,_,none⟩) Hew.out _⟩
  exact H.out.ext ((X.out.setCell (p:=⟨e,_,none⟩) Hew.out _).setCell (p:=⟨e,_,none⟩) Hew.out _)
 obtain ⟨w2,hw2,hB⟩:=hw2
 have HB:=Lib.hid hB
 clear hB hx k1 k4  bS
 have bS:=HB.out.1
 have hu:Sok (kset s a (kofK n)):=Hs.out.set a (by exact Q8e n)
 have hld:Q0f p at_ s ⟨1,a,b,c,n⟩=[(at_+1,kset s a (kofK n))]:=by
  simp [Q0f,oneK]
 have Hld:=Lib.hid hld
 have hl0:=hl
 have hl:(kset s a (kofK n)).length=8:=by rw [Q4s];exact hl0
 have hel2:=bS.lt
 generalize kset s a (kofK n)=u at *
 clear hl0 hld
 go_wp2_with (first | ((with_reducible refine Q37 bS ?_ Try.underlying80 ?_ ?_ ?_);rfl;rfl;(rw [Q15 hl];exact infoState')) | fail)
 try rw [hw2]
 have C:=Q4z p (at_+1) u hu hcl (by omega) w2 HB.out.2.1
 rw [show ((at_+1:Nat):Int)=(at_:Int)+1 by omega] at C
 (with_reducible refine C.mono ?_)
 clear C
 rintro er w3 ⟨rfl,vK',P',T'⟩
 have HB2:=Lib.hid (Q50 HB.out.2.1 T')
 have HX2:=Lib.hid HB.out.2.2
 have P':=Lib.hid P'
 clear T' bS hw2 rr0 rr1
 go_wp2
 try refine bodyPost_end (results_none rfl _ _ _) rfl ?_
 refine ⟨rfl,vK',?_,Below.trans (Below.mono HX2.out H.out.size) HB2.out⟩
 rw [Hld.out]
 exact P'.out
set_option maxRecDepth 100000 in
set_option maxHeartbeats 4000000 in
theorem Qor (p:Q00) {B g ks:Nat} {oa:Option Addr} {capa:Nat} {vK:Value} {oc:Option Addr} {capc:Nat} {T:Tab} {wk:List Int} (at_:Nat) (s:KSt) (op a b c n:Int) (hop:op=2) (hs:Sok s) (hr:Q02 p.regs=true) (hcl:p.code.length≤200) (hat:at_ < p.code.length) (hi:Q0d p at_=⟨op,a,b,c,n⟩) (hok:Q01 p 8 ⟨op,a,b,c,n⟩=true) (hwl:wk.length≤999990) (w:World) (hp:Q0b w (.agg #[.slice oa p.regs.length capa,.slice oc p.code.length capc]) p) (h:CSt w B g ks (.slice oa p.regs.length capa) (.slice oc p.code.length capc) vK p T wk) :
  Calls Try.prog 52 #[.pointer (some ⟨g,0,none⟩),.int .i64 (at_:Int),.agg (stV s)] w (Q57 p w B g ks (.slice oa p.regs.length capa) (.slice oc p.code.length capc) T wk (Q0f p at_ s ⟨op,a,b,c,n⟩)):=by
 obtain ⟨v1,v2,hv,hR,⟨-,oc',capc',bc,oo,hv2,hc1,hc2,hrow⟩⟩:=hp
 simp only [Value.agg.injEq,Array.mk.injEq,List.cons.injEq,and_true] at hv
 obtain ⟨rfl,rfl⟩:=hv
 simp only [Value.slice.injEq,true_and] at hv2
 obtain ⟨rfl,rfl⟩:=hv2
 have hix:=Q1g (cap:=capc) hrow.at_
 obtain ⟨e0,e1,e2,e3,e4⟩:=hrow.ins at_ hat
 have hgi:p.code.getD at_ default=⟨op,a,b,c,n⟩:=hi
 rw [hgi] at e0 e1 e2 e3 e4
 simp only at e0 e1 e2 e3 e4
 obtain ⟨-,c1,-,-⟩:=h.cells
 have hgl:=h.box.lt
 have hst:=Q26
 have H:=Lib.hid h
 have Hs:=Lib.hid hs
 have hl:=hs.len
 have HR:=Lib.hid hR
 have Hr:=Lib.hid hr
 have Hok:=Lib.hid hok
 have hbl:=Q09 e0
 simp only at hbl
 subst hop
 have ha:okIn 8 a=true:=by unfold Q01 at hok;simp [okIn] at hok ⊢;omega
 have hb:okIn 8 b=true:=by unfold Q01 at hok;simp [okIn] at hok ⊢;omega
 clear h hs hrow hi hgi hR hr hc1 hc2 hok
 go_enter Try.func52,Try.ntmps52
 go_upto_region 13 with fail
 obtain ⟨W,e,he,hW,hx,bS,bI⟩:=Q0i w (stV s) #[.int .i64 2,.int .i64 a,.int .i64 b,.int .i64 c,.int .i64 n] 80 70
 rw [hW,he]
 have X:=Lib.hid hx
 have HP:=Lib.hid (H.out.ext hx)
 have BS:=Lib.hid bS
 have i0:W.cell? ⟨e+1,0,none⟩=some (.int .i64 2):=by rw [bI.cell];rfl
 have i1:W.cell? ⟨e+1,1,none⟩=some (.int .i64 a):=by rw [bI.cell];rfl
 have i2:W.cell? ⟨e+1,2,none⟩=some (.int .i64 b):=by rw [bI.cell];rfl
 have i3:W.cell? ⟨e+1,3,none⟩=some (.int .i64 c):=by rw [bI.cell];rfl
 have i4:W.cell? ⟨e+1,4,none⟩=some (.int .i64 n):=by rw [bI.cell];rfl
 have Hew:=Lib.hid (show w.heap.size≤e by omega)
 have hel0:=bS.lt
 have hel1:=bI.lt
 have BI:=Lib.hid bI
 clear hW hx he e0 e1 e2 e3 e4 c1 bI hbl
 obtain ⟨a0,a1⟩:=Q08.1 ha
 have Ha:=Lib.hid ha
 obtain ⟨b0,b1⟩:=Q08.1 hb
 have Hb:=Lib.hid hb
 obtain ⟨⟨bx0,-⟩,⟨bx1,-⟩⟩:=Q1t bS hl Hb.out
 have k1:∀ Wx,Ext W Wx→Wx.cell? ⟨e+1,1,none⟩=some (.int .i64 a):=fun _ h=>h.kept i1
 have k2:∀ Wx,Ext W Wx→Wx.cell? ⟨e+1,2,none⟩=some (.int .i64 b):=fun _ h=>h.kept i2
 have mb:∀ Wx,Ext W Wx→Wx.cell? ⟨e,b.toNat * 2,none⟩=some (.int .i64 (kg s b).bits):=fun _ h=>h.kept bx0
 have nb:∀ Wx,Ext W Wx→Wx.cell? ⟨e,b.toNat * 2+1,none⟩=some (.bool (kg s b).sec):=fun _ h=>h.kept bx1
 clear i0 i1 i2 i3 i4 bx0 bx1 bS
 refine Q0z 6 (by kernel_rfl) (by kernel_rfl) ?_
 simp only [List.take_succ_cons,List.take_zero,List.drop_succ_cons,List.drop_zero]
 repeat (first | (refine Q0p ?_ ?_ (fun wc hE=>?_) ?_;(decide);rfl;(focus (go_simp;done));go_simp) | (refine Q0h ?_ ?_ ?_;(decide);(first | rfl | (focus (go_simp;done)));apply Exists.intro;refine ⟨fun wc hE=>?_,?_⟩;(go_simp;exact rfl);go_simp) | (refine Q0q ?_ ?_ ?_;(decide);(first | rfl | (focus (go_simp;done)));apply Exists.intro;refine ⟨fun wc hE=>?_,?_⟩;(go_simp;(first | fail));go_simp) | (refine Q0n ?_ ?_ ?_;(decide);(focus (go_simp;done));go_simp))
 refine Q0o ?_
 intro wy hx
 have X:=Lib.hid (X.out.trans hx)
 have HP:=Lib.hid (HP.out.ext hx)
 have bS:=BS.out.ext hx
 obtain ⟨rr0,rr1⟩:=Q1t bS hl Ha.out
 have hel:=bS.lt
 have hw2:∃ w2,(wy.setCell ⟨e,a.toNat * 2,none⟩ (.int .i64 ((kg s b).bits))).setCell ⟨e,a.toNat * 2+1,none⟩ (.bool ((kg s b).sec))=w2∧Blk w2 e 80 (stV (kset s a (kg s b)))∧CSt w2 B g ks (.slice oa p.regs.length capa) (.slice oc p.code.length capc) vK p T wk∧Ext w w2:=by
  have hb:=Q3j bS hl Ha.out (kg s b)
  refine ⟨_,rfl,hb,?_,(X.out.setCell (p:=⟨e,_,none⟩) Hew.out _).setCell (p:=⟨e,_,none⟩) Hew.out _⟩
  exact H.out.ext ((X.out.setCell (p:=⟨e,_,none⟩) Hew.out _).setCell (p:=⟨e,_,none⟩) Hew.out _)
 obtain ⟨w2,hw2,hB⟩:=hw2
 have HB:=Lib.hid hB
 clear hB hx k1 k2 mb nb bS
 have bS:=HB.out.1
 have hu:Sok (kset s a (kg s b)):=Hs.out.set a (by exact Hs.out.kg b)
 have hld:Q0f p at_ s ⟨2,a,b,c,n⟩=[(at_+1,kset s a (kg s b))]:=by
  simp [Q0f,oneK]
 have Hld:=Lib.hid hld
 have hl0:=hl
 have hl:(kset s a (kg s b)).length=8:=by rw [Q4s];exact hl0
 have hel2:=bS.lt
 generalize kset s a (kg s b)=u at *
 clear hl0 hld
 go_wp2_with (first | ((with_reducible refine Q37 bS ?_ Try.underlying80 ?_ ?_ ?_);rfl;rfl;(rw [Q15 hl];exact infoState')) | fail)
 try rw [hw2]
 have C:=Q4z p (at_+1) u hu hcl (by omega) w2 HB.out.2.1
 rw [show ((at_+1:Nat):Int)=(at_:Int)+1 by omega] at C
 (with_reducible refine C.mono ?_)
 clear C
 rintro er w3 ⟨rfl,vK',P',T'⟩
 have HB2:=Lib.hid (Q50 HB.out.2.1 T')
 have HX2:=Lib.hid HB.out.2.2
 have P':=Lib.hid P'
 clear T' bS hw2 rr0 rr1
 go_wp2
 try refine bodyPost_end (results_none rfl _ _ _) rfl ?_
 refine ⟨rfl,vK',?_,Below.trans (Below.mono HX2.out H.out.size) HB2.out⟩
 rw [Hld.out]
 exact P'.out
set_option maxRecDepth 100000 in
set_option maxHeartbeats 4000000 in
theorem Qoy (p:Q00) {B g ks:Nat} {oa:Option Addr} {capa:Nat} {vK:Value} {oc:Option Addr} {capc:Nat} {T:Tab} {wk:List Int} (at_:Nat) (s:KSt) (op a b c n:Int) (hop:op=10) (hs:Sok s) (hr:Q02 p.regs=true) (hcl:p.code.length≤200) (hat:at_ < p.code.length) (hi:Q0d p at_=⟨op,a,b,c,n⟩) (hok:Q01 p 8 ⟨op,a,b,c,n⟩=true) (hwl:wk.length≤999990) (w:World) (hp:Q0b w (.agg #[.slice oa p.regs.length capa,.slice oc p.code.length capc]) p) (h:CSt w B g ks (.slice oa p.regs.length capa) (.slice oc p.code.length capc) vK p T wk) :
  Calls Try.prog 52 #[.pointer (some ⟨g,0,none⟩),.int .i64 (at_:Int),.agg (stV s)] w (Q57 p w B g ks (.slice oa p.regs.length capa) (.slice oc p.code.length capc) T wk (Q0f p at_ s ⟨op,a,b,c,n⟩)):=by
 obtain ⟨v1,v2,hv,hR,⟨-,oc',capc',bc,oo,hv2,hc1,hc2,hrow⟩⟩:=hp
 simp only [Value.agg.injEq,Array.mk.injEq,List.cons.injEq,and_true] at hv
 obtain ⟨rfl,rfl⟩:=hv
 simp only [Value.slice.injEq,true_and] at hv2
 obtain ⟨rfl,rfl⟩:=hv2
 have hix:=Q1g (cap:=capc) hrow.at_
 obtain ⟨e0,e1,e2,e3,e4⟩:=hrow.ins at_ hat
 have hgi:p.code.getD at_ default=⟨op,a,b,c,n⟩:=hi
 rw [hgi] at e0 e1 e2 e3 e4
 simp only at e0 e1 e2 e3 e4
 obtain ⟨-,c1,-,-⟩:=h.cells
 have hgl:=h.box.lt
 have hst:=Q26
 have H:=Lib.hid h
 have Hs:=Lib.hid hs
 have hl:=hs.len
 have HR:=Lib.hid hR
 have Hr:=Lib.hid hr
 have Hok:=Lib.hid hok
 have hbl:=Q09 e0
 simp only at hbl
 subst hop
 have ha:okIn 8 a=true:=by unfold Q01 at hok;simp [okIn] at hok ⊢;omega
 have hb:okIn 8 b=true:=by unfold Q01 at hok;simp [okIn] at hok ⊢;omega
 clear h hs hrow hi hgi hR hr hc1 hc2 hok
 go_enter Try.func52,Try.ntmps52
 go_upto_region 15 with fail
 obtain ⟨W,e,he,hW,hx,bS,bI⟩:=Q0i w (stV s) #[.int .i64 10,.int .i64 a,.int .i64 b,.int .i64 c,.int .i64 n] 80 70
 rw [hW,he]
 have X:=Lib.hid hx
 have HP:=Lib.hid (H.out.ext hx)
 have BS:=Lib.hid bS
 have i0:W.cell? ⟨e+1,0,none⟩=some (.int .i64 10):=by rw [bI.cell];rfl
 have i1:W.cell? ⟨e+1,1,none⟩=some (.int .i64 a):=by rw [bI.cell];rfl
 have i2:W.cell? ⟨e+1,2,none⟩=some (.int .i64 b):=by rw [bI.cell];rfl
 have i3:W.cell? ⟨e+1,3,none⟩=some (.int .i64 c):=by rw [bI.cell];rfl
 have i4:W.cell? ⟨e+1,4,none⟩=some (.int .i64 n):=by rw [bI.cell];rfl
 have Hew:=Lib.hid (show w.heap.size≤e by omega)
 have hel0:=bS.lt
 have hel1:=bI.lt
 have BI:=Lib.hid bI
 clear hW hx he e0 e1 e2 e3 e4 c1 bI hbl
 obtain ⟨a0,a1⟩:=Q08.1 ha
 have Ha:=Lib.hid ha
 obtain ⟨b0,b1⟩:=Q08.1 hb
 have Hb:=Lib.hid hb
 obtain ⟨⟨bx0,-⟩,⟨bx1,-⟩⟩:=Q1t bS hl Hb.out
 have k1:∀ Wx,Ext W Wx→Wx.cell? ⟨e+1,1,none⟩=some (.int .i64 a):=fun _ h=>h.kept i1
 have k2:∀ Wx,Ext W Wx→Wx.cell? ⟨e+1,2,none⟩=some (.int .i64 b):=fun _ h=>h.kept i2
 have k4:∀ Wx,Ext W Wx→Wx.cell? ⟨e+1,4,none⟩=some (.int .i64 n):=fun _ h=>h.kept i4
 have mb:∀ Wx,Ext W Wx→Wx.cell? ⟨e,b.toNat * 2,none⟩=some (.int .i64 (kg s b).bits):=fun _ h=>h.kept bx0
 have nb:∀ Wx,Ext W Wx→Wx.cell? ⟨e,b.toNat * 2+1,none⟩=some (.bool (kg s b).sec):=fun _ h=>h.kept bx1
 clear i0 i1 i2 i3 i4 bx0 bx1 bS
 refine Q0z 9 (by kernel_rfl) (by kernel_rfl) ?_
 simp only [List.take_succ_cons,List.take_zero,List.drop_succ_cons,List.drop_zero]
 repeat (first | (refine Q0p ?_ ?_ (fun wc hE=>?_) ?_;(decide);rfl;(focus (go_simp;done));go_simp) | (refine Q0h ?_ ?_ ?_;(decide);(first | rfl | (focus (go_simp;done)));apply Exists.intro;refine ⟨fun wc hE=>?_,?_⟩;(go_simp;exact rfl);go_simp) | (refine Q0q ?_ ?_ ?_;(decide);(first | rfl | (focus (go_simp;done)));apply Exists.intro;refine ⟨fun wc hE=>?_,?_⟩;(go_simp;(first | (with_reducible exact Q1p (sum_c' (kg s b) n _))));go_simp) | (refine Q0n ?_ ?_ ?_;(decide);(focus (go_simp;done));go_simp))
 refine Q0o ?_
 intro wy hx
 have X:=Lib.hid (X.out.trans hx)
 have HP:=Lib.hid (HP.out.ext hx)
 have bS:=BS.out.ext hx
 obtain ⟨rr0,rr1⟩:=Q1t bS hl Ha.out
 have hel:=bS.lt
 have hw2:∃ w2,(wy.setCell ⟨e,a.toNat * 2,none⟩ (.int .i64 ((ksum (kg s b) n).bits))).setCell ⟨e,a.toNat * 2+1,none⟩ (.bool ((ksum (kg s b) n).sec))=w2∧Blk w2 e 80 (stV (kset s a (ksum (kg s b) n)))∧CSt w2 B g ks (.slice oa p.regs.length capa) (.slice oc p.code.length capc) vK p T wk∧Ext w w2:=by
  have hb:=Q3j bS hl Ha.out (ksum (kg s b) n)
  refine ⟨_,rfl,hb,?_,(X.out.setCell (p:=⟨e,_,none⟩) Hew.out _).setCell (p:=⟨e,_,none⟩) Hew.out _⟩
  exact H.out.ext ((X.out.setCell (p:=⟨e,_,none⟩) Hew.out _).setCell (p:=⟨e,_,none⟩) Hew.out _)
 obtain ⟨w2,hw2,hB⟩:=hw2
 have HB:=Lib.hid hB
 clear hB hx k1 k2 k4 mb nb bS
 have bS:=HB.out.1
 have hu:Sok (kset s a (ksum (kg s b) n)):=Hs.out.set a (by exact Qd3 _ _)
 have hld:Q0f p at_ s ⟨10,a,b,c,n⟩=[(at_+1,kset s a (ksum (kg s b) n))]:=by
  simp [Q0f,oneK]
 have Hld:=Lib.hid hld
 have hl0:=hl
 have hl:(kset s a (ksum (kg s b) n)).length=8:=by rw [Q4s];exact hl0
 have hel2:=bS.lt
 generalize kset s a (ksum (kg s b) n)=u at *
 clear hl0 hld
 go_wp2_with (first | ((with_reducible refine Q37 bS ?_ Try.underlying80 ?_ ?_ ?_);rfl;rfl;(rw [Q15 hl];exact infoState')) | fail)
 try rw [hw2]
 have C:=Q4z p (at_+1) u hu hcl (by omega) w2 HB.out.2.1
 rw [show ((at_+1:Nat):Int)=(at_:Int)+1 by omega] at C
 (with_reducible refine C.mono ?_)
 clear C
 rintro er w3 ⟨rfl,vK',P',T'⟩
 have HB2:=Lib.hid (Q50 HB.out.2.1 T')
 have HX2:=Lib.hid HB.out.2.2
 have P':=Lib.hid P'
 clear T' bS hw2 rr0 rr1
 go_wp2
 try refine bodyPost_end (results_none rfl _ _ _) rfl ?_
 refine ⟨rfl,vK',?_,Below.trans (Below.mono HX2.out H.out.size) HB2.out⟩
 rw [Hld.out]
 exact P'.out
set_option maxRecDepth 100000 in
set_option maxHeartbeats 4000000 in
theorem Qos (p:Q00) {B g ks:Nat} {oa:Option Addr} {capa:Nat} {vK:Value} {oc:Option Addr} {capc:Nat} {T:Tab} {wk:List Int} (at_:Nat) (s:KSt) (op a b c n:Int) (hop:op=11) (hs:Sok s) (hr:Q02 p.regs=true) (hcl:p.code.length≤200) (hat:at_ < p.code.length) (hi:Q0d p at_=⟨op,a,b,c,n⟩) (hok:Q01 p 8 ⟨op,a,b,c,n⟩=true) (hwl:wk.length≤999990) (w:World) (hp:Q0b w (.agg #[.slice oa p.regs.length capa,.slice oc p.code.length capc]) p) (h:CSt w B g ks (.slice oa p.regs.length capa) (.slice oc p.code.length capc) vK p T wk) :
  Calls Try.prog 52 #[.pointer (some ⟨g,0,none⟩),.int .i64 (at_:Int),.agg (stV s)] w (Q57 p w B g ks (.slice oa p.regs.length capa) (.slice oc p.code.length capc) T wk (Q0f p at_ s ⟨op,a,b,c,n⟩)):=by
 obtain ⟨v1,v2,hv,hR,⟨-,oc',capc',bc,oo,hv2,hc1,hc2,hrow⟩⟩:=hp
 simp only [Value.agg.injEq,Array.mk.injEq,List.cons.injEq,and_true] at hv
 obtain ⟨rfl,rfl⟩:=hv
 simp only [Value.slice.injEq,true_and] at hv2
 obtain ⟨rfl,rfl⟩:=hv2
 have hix:=Q1g (cap:=capc) hrow.at_
 obtain ⟨e0,e1,e2,e3,e4⟩:=hrow.ins at_ hat
 have hgi:p.code.getD at_ default=⟨op,a,b,c,n⟩:=hi
 rw [hgi] at e0 e1 e2 e3 e4
 simp only at e0 e1 e2 e3 e4
 obtain ⟨-,c1,-,-⟩:=h.cells
 have hgl:=h.box.lt
 have hst:=Q26
 have H:=Lib.hid h
 have Hs:=Lib.hid hs
 have hl:=hs.len
 have HR:=Lib.hid hR
 have Hr:=Lib.hid hr
 have Hok:=Lib.hid hok
 have hbl:=Q09 e0
 simp only at hbl
 subst hop
 have ha:okIn 8 a=true:=by unfold Q01 at hok;simp [okIn] at hok ⊢;omega
 have hn:1≤n∧n≤64:=by unfold Q01 at hok;simp [okIn] at hok;omega
 have hsub:IntKind.i64.wrap (n - 1)=n - 1:=Go.IntWalk.i64_in _ (by omega)
 clear h hs hrow hi hgi hR hr hc1 hc2 hok
 go_enter Try.func52,Try.ntmps52
 go_upto_region 20 with fail
 obtain ⟨W,e,he,hW,hx,bS,bI⟩:=Q0i w (stV s) #[.int .i64 11,.int .i64 a,.int .i64 b,.int .i64 c,.int .i64 n] 80 70
 rw [hW,he]
 have X:=Lib.hid hx
 have HP:=Lib.hid (H.out.ext hx)
 have BS:=Lib.hid bS
 have i0:W.cell? ⟨e+1,0,none⟩=some (.int .i64 11):=by rw [bI.cell];rfl
 have i1:W.cell? ⟨e+1,1,none⟩=some (.int .i64 a):=by rw [bI.cell];rfl
 have i2:W.cell? ⟨e+1,2,none⟩=some (.int .i64 b):=by rw [bI.cell];rfl
 have i3:W.cell? ⟨e+1,3,none⟩=some (.int .i64 c):=by rw [bI.cell];rfl
 have i4:W.cell? ⟨e+1,4,none⟩=some (.int .i64 n):=by rw [bI.cell];rfl
 have Hew:=Lib.hid (show w.heap.size≤e by omega)
 have hel0:=bS.lt
 have hel1:=bI.lt
 have BI:=Lib.hid bI
 clear hW hx he e0 e1 e2 e3 e4 c1 bI hbl
 obtain ⟨a0,a1⟩:=Q08.1 ha
 have Ha:=Lib.hid ha
 obtain ⟨⟨ax0,-⟩,⟨ax1,-⟩⟩:=Q1t bS hl Ha.out
 have k1:∀ Wx,Ext W Wx→Wx.cell? ⟨e+1,1,none⟩=some (.int .i64 a):=fun _ h=>h.kept i1
 have k4:∀ Wx,Ext W Wx→Wx.cell? ⟨e+1,4,none⟩=some (.int .i64 n):=fun _ h=>h.kept i4
 have ma:∀ Wx,Ext W Wx→Wx.cell? ⟨e,a.toNat * 2,none⟩=some (.int .i64 (kg s a).bits):=fun _ h=>h.kept ax0
 have na:∀ Wx,Ext W Wx→Wx.cell? ⟨e,a.toNat * 2+1,none⟩=some (.bool (kg s a).sec):=fun _ h=>h.kept ax1
 clear i0 i1 i2 i3 i4 ax0 ax1 bS
 refine Q0z 11 (by kernel_rfl) (by kernel_rfl) ?_
 simp only [List.take_succ_cons,List.take_zero,List.drop_succ_cons,List.drop_zero]
 repeat (first | (refine Q0p ?_ ?_ (fun wc hE=>?_) ?_;(decide);rfl;(focus (go_simp;done));go_simp) | (refine Q0h ?_ ?_ ?_;(decide);(first | rfl | (focus (go_simp;done)));apply Exists.intro;refine ⟨fun wc hE=>?_,?_⟩;(go_simp;exact rfl);go_simp) | (refine Q0q ?_ ?_ ?_;(decide);(first | rfl | (focus (go_simp;done)));apply Exists.intro;refine ⟨fun wc hE=>?_,?_⟩;(go_simp;(first | (with_reducible exact Q1p (Qdf (n - 1) _)) | (with_reducible exact Q1p (Q6o (kg s a).bits (kof (n - 1)) (kg s a).sec false _))));go_simp) | (refine Q0n ?_ ?_ ?_;(decide);(focus (go_simp;done));go_simp))
 refine Q0o ?_
 intro wy hx
 have X:=Lib.hid (X.out.trans hx)
 have HP:=Lib.hid (HP.out.ext hx)
 have bS:=BS.out.ext hx
 obtain ⟨rr0,rr1⟩:=Q1t bS hl Ha.out
 have hel:=bS.lt
 have hw2:∃ w2,(wy.setCell ⟨e,a.toNat * 2,none⟩ (.int .i64 (min (nrm (kg s a).bits) (nrm (kof (n - 1)))))).setCell ⟨e,a.toNat * 2+1,none⟩ (.bool ((kg s a).sec))=w2∧Blk w2 e 80 (stV (kset s a (Q0r (kg s a) (kofK (n - 1)))))∧CSt w2 B g ks (.slice oa p.regs.length capa) (.slice oc p.code.length capc) vK p T wk∧Ext w w2:=by
  have hb:=Q3j bS hl Ha.out (Q0r (kg s a) (kofK (n - 1)))
  refine ⟨_,rfl,hb,?_,(X.out.setCell (p:=⟨e,_,none⟩) Hew.out _).setCell (p:=⟨e,_,none⟩) Hew.out _⟩
  exact H.out.ext ((X.out.setCell (p:=⟨e,_,none⟩) Hew.out _).setCell (p:=⟨e,_,none⟩) Hew.out _)
 obtain ⟨w2,hw2,hB⟩:=hw2
 have HB:=Lib.hid hB
 clear hB hx k1 k4 ma na bS
 have bS:=HB.out.1
 have hu:Sok (kset s a (Q0r (kg s a) (kofK (n - 1)))):=Hs.out.set a (by exact Qau _ _)
 have hld:Q0f p at_ s ⟨11,a,b,c,n⟩=[(at_+1,kset s a (Q0r (kg s a) (kofK (n - 1))))]:=by
  simp [Q0f,oneK]
 have Hld:=Lib.hid hld
 have hl0:=hl
 have hl:(kset s a (Q0r (kg s a) (kofK (n - 1)))).length=8:=by rw [Q4s];exact hl0
 have hel2:=bS.lt
 generalize kset s a (Q0r (kg s a) (kofK (n - 1)))=u at *
 clear hl0 hld
 go_wp2_with (first | ((with_reducible refine Q37 bS ?_ Try.underlying80 ?_ ?_ ?_);rfl;rfl;(rw [Q15 hl];exact infoState')) | fail)
 try rw [hw2]
 have C:=Q4z p (at_+1) u hu hcl (by omega) w2 HB.out.2.1
 rw [show ((at_+1:Nat):Int)=(at_:Int)+1 by omega] at C
 (with_reducible refine C.mono ?_)
 clear C
 rintro er w3 ⟨rfl,vK',P',T'⟩
 have HB2:=Lib.hid (Q50 HB.out.2.1 T')
 have HX2:=Lib.hid HB.out.2.2
 have P':=Lib.hid P'
 clear T' bS hw2 rr0 rr1
 go_wp2
 try refine bodyPost_end (results_none rfl _ _ _) rfl ?_
 refine ⟨rfl,vK',?_,Below.trans (Below.mono HX2.out H.out.size) HB2.out⟩
 rw [Hld.out]
 exact P'.out
set_option maxRecDepth 100000 in
set_option maxHeartbeats 4000000 in
theorem Qou (p:Q00) {B g ks:Nat} {oa:Option Addr} {capa:Nat} {vK:Value} {oc:Option Addr} {capc:Nat} {T:Tab} {wk:List Int} (at_:Nat) (s:KSt) (op a b c n:Int) (hop:op=3) (hs:Sok s) (hr:Q02 p.regs=true) (hcl:p.code.length≤200) (hat:at_ < p.code.length) (hi:Q0d p at_=⟨op,a,b,c,n⟩) (hok:Q01 p 8 ⟨op,a,b,c,n⟩=true) (hwl:wk.length≤999990) (w:World) (hp:Q0b w (.agg #[.slice oa p.regs.length capa,.slice oc p.code.length capc]) p) (h:CSt w B g ks (.slice oa p.regs.length capa) (.slice oc p.code.length capc) vK p T wk) :
  Calls Try.prog 52 #[.pointer (some ⟨g,0,none⟩),.int .i64 (at_:Int),.agg (stV s)] w (Q57 p w B g ks (.slice oa p.regs.length capa) (.slice oc p.code.length capc) T wk (Q0f p at_ s ⟨op,a,b,c,n⟩)):=by
 obtain ⟨v1,v2,hv,hR,⟨-,oc',capc',bc,oo,hv2,hc1,hc2,hrow⟩⟩:=hp
 simp only [Value.agg.injEq,Array.mk.injEq,List.cons.injEq,and_true] at hv
 obtain ⟨rfl,rfl⟩:=hv
 simp only [Value.slice.injEq,true_and] at hv2
 obtain ⟨rfl,rfl⟩:=hv2
 have hix:=Q1g (cap:=capc) hrow.at_
 obtain ⟨e0,e1,e2,e3,e4⟩:=hrow.ins at_ hat
 have hgi:p.code.getD at_ default=⟨op,a,b,c,n⟩:=hi
 rw [hgi] at e0 e1 e2 e3 e4
 simp only at e0 e1 e2 e3 e4
 obtain ⟨-,c1,-,-⟩:=h.cells
 have hgl:=h.box.lt
 have hst:=Q26
 have H:=Lib.hid h
 have Hs:=Lib.hid hs
 have hl:=hs.len
 have Hr:=Lib.hid hr
 have Hok:=Lib.hid hok
 have hbl:=Q09 e0
 simp only at hbl
 subst hop
 have ha:okIn 8 a=true:=by unfold Q01 at hok;simp [okIn] at hok ⊢;omega
 obtain ⟨hc0,hc1'⟩:=Q35 hok (by unfold Q0s Q0m;simp)
 simp only at hc0 hc1'
 obtain ⟨-,oa',capa',br,orr,hv3,hd1,hd2,hrow2⟩:=hR
 simp only [Value.slice.injEq,true_and] at hv3
 obtain ⟨rfl,rfl⟩:=hv3
 obtain ⟨-,rsec⟩:=hrow2.reg c.toNat hc1'
 have hixr:=Q33 (cap:=capa) hrow2.at_
 have hlen:=Q3o hr
 have hcl2:c < (p.regs.length:Int):=by omega
 have hrf:p.regs.getD c.toNat default=Q0c p ⟨3,a,b,c,n⟩:=rfl
 rw [hrf] at rsec
 clear h hs hrow hi hgi hr hc1 hrow2 hd1 hd2 hrf hc2 hok
 go_enter Try.func52,Try.ntmps52
 go_upto_region 18 with fail
 obtain ⟨W,e,he,hW,hx,bS,bI⟩:=Q0i w (stV s) #[.int .i64 3,.int .i64 a,.int .i64 b,.int .i64 c,.int .i64 n] 80 70
 rw [hW,he]
 have X:=Lib.hid hx
 have HP:=Lib.hid (H.out.ext hx)
 have BS:=Lib.hid bS
 have i0:W.cell? ⟨e+1,0,none⟩=some (.int .i64 3):=by rw [bI.cell];rfl
 have i1:W.cell? ⟨e+1,1,none⟩=some (.int .i64 a):=by rw [bI.cell];rfl
 have i2:W.cell? ⟨e+1,2,none⟩=some (.int .i64 b):=by rw [bI.cell];rfl
 have i3:W.cell? ⟨e+1,3,none⟩=some (.int .i64 c):=by rw [bI.cell];rfl
 have i4:W.cell? ⟨e+1,4,none⟩=some (.int .i64 n):=by rw [bI.cell];rfl
 have Hew:=Lib.hid (show w.heap.size≤e by omega)
 have hel0:=bS.lt
 have hel1:=bI.lt
 have BI:=Lib.hid bI
 clear hW hx he e0 e1 e2 e3 e4 c1 bI hbl
 obtain ⟨a0,a1⟩:=Q08.1 ha
 have Ha:=Lib.hid ha
 have k1:∀ Wx,Ext W Wx→Wx.cell? ⟨e+1,1,none⟩=some (.int .i64 a):=fun _ h=>h.kept i1
 have k3:∀ Wx,Ext W Wx→Wx.cell? ⟨e+1,3,none⟩=some (.int .i64 c):=fun _ h=>h.kept i3
 have kg0:∀ Wx,Ext W Wx→Wx.cell? ⟨g,0,none⟩=some (.slice oa p.regs.length capa):=fun _ h=>h.kept HP.out.cells.1.1
 have kr1:∀ Wx,Ext W Wx→Wx.cell? ⟨br,orr+c.toNat * 2+1,none⟩=some (.bool (Q0c p ⟨3,a,b,c,n⟩).secret):=fun _ h=>h.kept (X.out.kept rsec)
 clear i0 i1 i2 i3 i4 bS rsec
 refine Q0z 13 (by kernel_rfl) (by kernel_rfl) ?_
 simp only [List.take_succ_cons,List.take_zero,List.drop_succ_cons,List.drop_zero]
 repeat (first | (refine Q0p ?_ ?_ (fun wc hE=>?_) ?_;(decide);rfl;(focus (go_simp;done));go_simp) | (refine Q0h ?_ ?_ ?_;(decide);(first | rfl | (focus (go_simp;done)));apply Exists.intro;refine ⟨fun wc hE=>?_,?_⟩;(go_simp;exact rfl);go_simp) | (refine Q0q ?_ ?_ ?_;(decide);(first | rfl | (focus (go_simp;done)));apply Exists.intro;refine ⟨fun wc hE=>?_,?_⟩;(go_simp;(first | fail));go_simp) | (refine Q0n ?_ ?_ ?_;(decide);(focus (go_simp;done));go_simp))
 refine Q0o ?_
 intro wy hx
 have X:=Lib.hid (X.out.trans hx)
 have HP:=Lib.hid (HP.out.ext hx)
 have bS:=BS.out.ext hx
 obtain ⟨rr0,rr1⟩:=Q1t bS hl Ha.out
 have hel:=bS.lt
 have hw2:∃ w2,(wy.setCell ⟨e,a.toNat * 2,none⟩ (.int .i64 (17))).setCell ⟨e,a.toNat * 2+1,none⟩ (.bool ((Q0c p ⟨3,a,b,c,n⟩).secret))=w2∧Blk w2 e 80 (stV (kset s a ⟨17,(Q0c p ⟨3,a,b,c,n⟩).secret⟩))∧CSt w2 B g ks (.slice oa p.regs.length capa) (.slice oc p.code.length capc) vK p T wk∧Ext w w2:=by
  have hb:=Q3j bS hl Ha.out ⟨17,(Q0c p ⟨3,a,b,c,n⟩).secret⟩
  refine ⟨_,rfl,hb,?_,(X.out.setCell (p:=⟨e,_,none⟩) Hew.out _).setCell (p:=⟨e,_,none⟩) Hew.out _⟩
  exact H.out.ext ((X.out.setCell (p:=⟨e,_,none⟩) Hew.out _).setCell (p:=⟨e,_,none⟩) Hew.out _)
 obtain ⟨w2,hw2,hB⟩:=hw2
 have HB:=Lib.hid hB
 clear hB hx k1 k3 kg0 kr1 bS
 have bS:=HB.out.1
 have hu:Sok (kset s a ⟨17,(Q0c p ⟨3,a,b,c,n⟩).secret⟩):=Hs.out.set a (by exact ⟨by simp,by simp⟩)
 have hld:Q0f p at_ s ⟨3,a,b,c,n⟩=[(at_+1,kset s a ⟨17,(Q0c p ⟨3,a,b,c,n⟩).secret⟩)]:=by
  simp [Q0f,oneK]
 have Hld:=Lib.hid hld
 have hl0:=hl
 have hl:(kset s a ⟨17,(Q0c p ⟨3,a,b,c,n⟩).secret⟩).length=8:=by rw [Q4s];exact hl0
 have hel2:=bS.lt
 generalize kset s a ⟨17,(Q0c p ⟨3,a,b,c,n⟩).secret⟩=u at *
 clear hl0 hld
 go_wp2_with (first | ((with_reducible refine Q37 bS ?_ Try.underlying80 ?_ ?_ ?_);rfl;rfl;(rw [Q15 hl];exact infoState')) | fail)
 try rw [hw2]
 have C:=Q4z p (at_+1) u hu hcl (by omega) w2 HB.out.2.1
 rw [show ((at_+1:Nat):Int)=(at_:Int)+1 by omega] at C
 (with_reducible refine C.mono ?_)
 clear C
 rintro er w3 ⟨rfl,vK',P',T'⟩
 have HB2:=Lib.hid (Q50 HB.out.2.1 T')
 have HX2:=Lib.hid HB.out.2.2
 have P':=Lib.hid P'
 clear T' bS hw2 rr0 rr1
 go_wp2
 try refine bodyPost_end (results_none rfl _ _ _) rfl ?_
 refine ⟨rfl,vK',?_,Below.trans (Below.mono HX2.out H.out.size) HB2.out⟩
 rw [Hld.out]
 exact P'.out
set_option maxRecDepth 100000 in
set_option maxHeartbeats 4000000 in
theorem Qot (p:Q00) {B g ks:Nat} {oa:Option Addr} {capa:Nat} {vK:Value} {oc:Option Addr} {capc:Nat} {T:Tab} {wk:List Int} (at_:Nat) (s:KSt) (op a b c n:Int) (hop:op=5) (hs:Sok s) (hr:Q02 p.regs=true) (hcl:p.code.length≤200) (hat:at_ < p.code.length) (hi:Q0d p at_=⟨op,a,b,c,n⟩) (hok:Q01 p 8 ⟨op,a,b,c,n⟩=true) (hwl:wk.length≤999990) (w:World) (hp:Q0b w (.agg #[.slice oa p.regs.length capa,.slice oc p.code.length capc]) p) (h:CSt w B g ks (.slice oa p.regs.length capa) (.slice oc p.code.length capc) vK p T wk) :
  Calls Try.prog 52 #[.pointer (some ⟨g,0,none⟩),.int .i64 (at_:Int),.agg (stV s)] w (Q57 p w B g ks (.slice oa p.regs.length capa) (.slice oc p.code.length capc) T wk (Q0f p at_ s ⟨op,a,b,c,n⟩)):=by
 obtain ⟨v1,v2,hv,hR,⟨-,oc',capc',bc,oo,hv2,hc1,hc2,hrow⟩⟩:=hp
 simp only [Value.agg.injEq,Array.mk.injEq,List.cons.injEq,and_true] at hv
 obtain ⟨rfl,rfl⟩:=hv
 simp only [Value.slice.injEq,true_and] at hv2
 obtain ⟨rfl,rfl⟩:=hv2
 have hix:=Q1g (cap:=capc) hrow.at_
 obtain ⟨e0,e1,e2,e3,e4⟩:=hrow.ins at_ hat
 have hgi:p.code.getD at_ default=⟨op,a,b,c,n⟩:=hi
 rw [hgi] at e0 e1 e2 e3 e4
 simp only at e0 e1 e2 e3 e4
 obtain ⟨-,c1,-,-⟩:=h.cells
 have hgl:=h.box.lt
 have hst:=Q26
 have H:=Lib.hid h
 have Hs:=Lib.hid hs
 have hl:=hs.len
 have Hr:=Lib.hid hr
 have Hok:=Lib.hid hok
 have hbl:=Q09 e0
 simp only at hbl
 subst hop
 have ha:okIn 8 a=true:=by unfold Q01 at hok;simp [okIn] at hok ⊢;omega
 obtain ⟨hc0,hc1'⟩:=Q35 hok (by unfold Q0s Q0m;simp)
 simp only at hc0 hc1'
 obtain ⟨-,oa',capa',br,orr,hv3,hd1,hd2,hrow2⟩:=hR
 simp only [Value.slice.injEq,true_and] at hv3
 obtain ⟨rfl,rfl⟩:=hv3
 obtain ⟨-,rsec⟩:=hrow2.reg c.toNat hc1'
 have hixr:=Q33 (cap:=capa) hrow2.at_
 have hlen:=Q3o hr
 have hcl2:c < (p.regs.length:Int):=by omega
 have hrf:p.regs.getD c.toNat default=Q0c p ⟨5,a,b,c,n⟩:=rfl
 rw [hrf] at rsec
 clear h hs hrow hi hgi hr hc1 hrow2 hd1 hd2 hrf hc2 hok
 go_enter Try.func52,Try.ntmps52
 go_upto_region 18 with fail
 obtain ⟨W,e,he,hW,hx,bS,bI⟩:=Q0i w (stV s) #[.int .i64 5,.int .i64 a,.int .i64 b,.int .i64 c,.int .i64 n] 80 70
 rw [hW,he]
 have X:=Lib.hid hx
 have HP:=Lib.hid (H.out.ext hx)
 have BS:=Lib.hid bS
 have i0:W.cell? ⟨e+1,0,none⟩=some (.int .i64 5):=by rw [bI.cell];rfl
 have i1:W.cell? ⟨e+1,1,none⟩=some (.int .i64 a):=by rw [bI.cell];rfl
 have i2:W.cell? ⟨e+1,2,none⟩=some (.int .i64 b):=by rw [bI.cell];rfl
 have i3:W.cell? ⟨e+1,3,none⟩=some (.int .i64 c):=by rw [bI.cell];rfl
 have i4:W.cell? ⟨e+1,4,none⟩=some (.int .i64 n):=by rw [bI.cell];rfl
 have Hew:=Lib.hid (show w.heap.size≤e by omega)
 have hel0:=bS.lt
 have hel1:=bI.lt
 have BI:=Lib.hid bI
 clear hW hx he e0 e1 e2 e3 e4 c1 bI hbl
 obtain ⟨a0,a1⟩:=Q08.1 ha
 have Ha:=Lib.hid ha
 have k1:∀ Wx,Ext W Wx→Wx.cell? ⟨e+1,1,none⟩=some (.int .i64 a):=fun _ h=>h.kept i1
 have k3:∀ Wx,Ext W Wx→Wx.cell? ⟨e+1,3,none⟩=some (.int .i64 c):=fun _ h=>h.kept i3
 have kg0:∀ Wx,Ext W Wx→Wx.cell? ⟨g,0,none⟩=some (.slice oa p.regs.length capa):=fun _ h=>h.kept HP.out.cells.1.1
 have kr1:∀ Wx,Ext W Wx→Wx.cell? ⟨br,orr+c.toNat * 2+1,none⟩=some (.bool (Q0c p ⟨5,a,b,c,n⟩).secret):=fun _ h=>h.kept (X.out.kept rsec)
 clear i0 i1 i2 i3 i4 bS rsec
 refine Q0z 13 (by kernel_rfl) (by kernel_rfl) ?_
 simp only [List.take_succ_cons,List.take_zero,List.drop_succ_cons,List.drop_zero]
 repeat (first | (refine Q0p ?_ ?_ (fun wc hE=>?_) ?_;(decide);rfl;(focus (go_simp;done));go_simp) | (refine Q0h ?_ ?_ ?_;(decide);(first | rfl | (focus (go_simp;done)));apply Exists.intro;refine ⟨fun wc hE=>?_,?_⟩;(go_simp;exact rfl);go_simp) | (refine Q0q ?_ ?_ ?_;(decide);(first | rfl | (focus (go_simp;done)));apply Exists.intro;refine ⟨fun wc hE=>?_,?_⟩;(go_simp;(first | fail));go_simp) | (refine Q0n ?_ ?_ ?_;(decide);(focus (go_simp;done));go_simp))
 refine Q0o ?_
 intro wy hx
 have X:=Lib.hid (X.out.trans hx)
 have HP:=Lib.hid (HP.out.ext hx)
 have bS:=BS.out.ext hx
 obtain ⟨rr0,rr1⟩:=Q1t bS hl Ha.out
 have hel:=bS.lt
 have hw2:∃ w2,(wy.setCell ⟨e,a.toNat * 2,none⟩ (.int .i64 (17))).setCell ⟨e,a.toNat * 2+1,none⟩ (.bool ((Q0c p ⟨5,a,b,c,n⟩).secret))=w2∧Blk w2 e 80 (stV (kset s a ⟨17,(Q0c p ⟨5,a,b,c,n⟩).secret⟩))∧CSt w2 B g ks (.slice oa p.regs.length capa) (.slice oc p.code.length capc) vK p T wk∧Ext w w2:=by
  have hb:=Q3j bS hl Ha.out ⟨17,(Q0c p ⟨5,a,b,c,n⟩).secret⟩
  refine ⟨_,rfl,hb,?_,(X.out.setCell (p:=⟨e,_,none⟩) Hew.out _).setCell (p:=⟨e,_,none⟩) Hew.out _⟩
  exact H.out.ext ((X.out.setCell (p:=⟨e,_,none⟩) Hew.out _).setCell (p:=⟨e,_,none⟩) Hew.out _)
 obtain ⟨w2,hw2,hB⟩:=hw2
 have HB:=Lib.hid hB
 clear hB hx k1 k3 kg0 kr1 bS
 have bS:=HB.out.1
 have hu:Sok (kset s a ⟨17,(Q0c p ⟨5,a,b,c,n⟩).secret⟩):=Hs.out.set a (by exact ⟨by simp,by simp⟩)
 have hld:Q0f p at_ s ⟨5,a,b,c,n⟩=[(at_+1,kset s a ⟨17,(Q0c p ⟨5,a,b,c,n⟩).secret⟩)]:=by
  simp [Q0f,oneK]
 have Hld:=Lib.hid hld
 have hl0:=hl
 have hl:(kset s a ⟨17,(Q0c p ⟨5,a,b,c,n⟩).secret⟩).length=8:=by rw [Q4s];exact hl0
 have hel2:=bS.lt
 generalize kset s a ⟨17,(Q0c p ⟨5,a,b,c,n⟩).secret⟩=u at *
 clear hl0 hld
 go_wp2_with (first | ((with_reducible refine Q37 bS ?_ Try.underlying80 ?_ ?_ ?_);rfl;rfl;(rw [Q15 hl];exact infoState')) | fail)
 try rw [hw2]
 have C:=Q4z p (at_+1) u hu hcl (by omega) w2 HB.out.2.1
 rw [show ((at_+1:Nat):Int)=(at_:Int)+1 by omega] at C
 (with_reducible refine C.mono ?_)
 clear C
 rintro er w3 ⟨rfl,vK',P',T'⟩
 have HB2:=Lib.hid (Q50 HB.out.2.1 T')
 have HX2:=Lib.hid HB.out.2.2
 have P':=Lib.hid P'
 clear T' bS hw2 rr0 rr1
 go_wp2
 try refine bodyPost_end (results_none rfl _ _ _) rfl ?_
 refine ⟨rfl,vK',?_,Below.trans (Below.mono HX2.out H.out.size) HB2.out⟩
 rw [Hld.out]
 exact P'.out
set_option maxRecDepth 100000 in
set_option maxHeartbeats 4000000 in
theorem Qoq (p:Q00) {B g ks:Nat} {oa:Option Addr} {capa:Nat} {vK:Value} {oc:Option Addr} {capc:Nat} {T:Tab} {wk:List Int} (at_:Nat) (s:KSt) (op a b c n:Int) (hop:13≤op) (hs:Sok s) (hr:Q02 p.regs=true) (hcl:p.code.length≤200) (hat:at_ < p.code.length) (hi:Q0d p at_=⟨op,a,b,c,n⟩) (hok:Q01 p 8 ⟨op,a,b,c,n⟩=true) (hwl:wk.length≤999990) (w:World) (hp:Q0b w (.agg #[.slice oa p.regs.length capa,.slice oc p.code.length capc]) p) (h:CSt w B g ks (.slice oa p.regs.length capa) (.slice oc p.code.length capc) vK p T wk) :
  Calls Try.prog 52 #[.pointer (some ⟨g,0,none⟩),.int .i64 (at_:Int),.agg (stV s)] w (Q57 p w B g ks (.slice oa p.regs.length capa) (.slice oc p.code.length capc) T wk (Q0f p at_ s ⟨op,a,b,c,n⟩)):=by
 obtain ⟨v1,v2,hv,hR,⟨-,oc',capc',bc,oo,hv2,hc1,hc2,hrow⟩⟩:=hp
 simp only [Value.agg.injEq,Array.mk.injEq,List.cons.injEq,and_true] at hv
 obtain ⟨rfl,rfl⟩:=hv
 simp only [Value.slice.injEq,true_and] at hv2
 obtain ⟨rfl,rfl⟩:=hv2
 have hix:=Q1g (cap:=capc) hrow.at_
 obtain ⟨e0,e1,e2,e3,e4⟩:=hrow.ins at_ hat
 have hgi:p.code.getD at_ default=⟨op,a,b,c,n⟩:=hi
 rw [hgi] at e0 e1 e2 e3 e4
 simp only at e0 e1 e2 e3 e4
 obtain ⟨-,c1,-,-⟩:=h.cells
 have hgl:=h.box.lt
 have hst:=Q26
 have H:=Lib.hid h
 have Hs:=Lib.hid hs
 have hl:=hs.len
 have HR:=Lib.hid hR
 have Hr:=Lib.hid hr
 have Hok:=Lib.hid hok
 have hbl:=Q09 e0
 simp only at hbl
 have hh:=Qhz hok hop
 obtain ⟨ha,hb,hc,hop1,hop2⟩:=hh
 have hsub:IntKind.i64.wrap (op - 20)=op - 20:=Go.IntWalk.i64_in _ (by omega)
 have hq1:(op == (1:Int))=false:=by simp;omega
 have hq2:(op == (2:Int))=false:=by simp;omega
 have hq3:(op == (3:Int))=false:=by simp;omega
 have hq4:(op == (4:Int))=false:=by simp;omega
 have hq5:(op == (5:Int))=false:=by simp;omega
 have hq6:(op == (6:Int))=false:=by simp;omega
 have hq7:(op == (7:Int))=false:=by simp;omega
 have hq8:(op == (8:Int))=false:=by simp;omega
 have hq9:(op == (9:Int))=false:=by simp;omega
 have hq10:(op == (10:Int))=false:=by simp;omega
 have hq11:(op == (11:Int))=false:=by simp;omega
 have hq12:(op == (12:Int))=false:=by simp;omega
 clear h hs hrow hi hgi hR hr hc1 hc2 hok
 go_enter Try.func52,Try.ntmps52
 go_upto_region 3 with fail
 obtain ⟨W,e,he,hW,hx,bS,bI⟩:=Q0i w (stV s) #[.int .i64 op,.int .i64 a,.int .i64 b,.int .i64 c,.int .i64 n] 80 70
 rw [hW,he]
 have X:=Lib.hid hx
 have HP:=Lib.hid (H.out.ext hx)
 have BS:=Lib.hid bS
 have i0:W.cell? ⟨e+1,0,none⟩=some (.int .i64 op):=by rw [bI.cell];rfl
 have i1:W.cell? ⟨e+1,1,none⟩=some (.int .i64 a):=by rw [bI.cell];rfl
 have i2:W.cell? ⟨e+1,2,none⟩=some (.int .i64 b):=by rw [bI.cell];rfl
 have i3:W.cell? ⟨e+1,3,none⟩=some (.int .i64 c):=by rw [bI.cell];rfl
 have i4:W.cell? ⟨e+1,4,none⟩=some (.int .i64 n):=by rw [bI.cell];rfl
 have Hew:=Lib.hid (show w.heap.size≤e by omega)
 have hel0:=bS.lt
 have hel1:=bI.lt
 have BI:=Lib.hid bI
 clear hW hx he e0 e1 e2 e3 e4 c1 bI hbl
 obtain ⟨a0,a1⟩:=Q08.1 ha
 have Ha:=Lib.hid ha
 obtain ⟨b0,b1⟩:=Q08.1 hb
 have Hb:=Lib.hid hb
 obtain ⟨c0,c1⟩:=Q08.1 hc
 have Hc:=Lib.hid hc
 obtain ⟨⟨bx0,-⟩,⟨bx1,-⟩⟩:=Q1t bS hl Hb.out
 obtain ⟨⟨cx0,-⟩,⟨cx1,-⟩⟩:=Q1t bS hl Hc.out
 have k0:∀ Wx,Ext W Wx→Wx.cell? ⟨e+1,0,none⟩=some (.int .i64 op):=fun _ h=>h.kept i0
 have k1:∀ Wx,Ext W Wx→Wx.cell? ⟨e+1,1,none⟩=some (.int .i64 a):=fun _ h=>h.kept i1
 have k2:∀ Wx,Ext W Wx→Wx.cell? ⟨e+1,2,none⟩=some (.int .i64 b):=fun _ h=>h.kept i2
 have k3:∀ Wx,Ext W Wx→Wx.cell? ⟨e+1,3,none⟩=some (.int .i64 c):=fun _ h=>h.kept i3
 have mb:∀ Wx,Ext W Wx→Wx.cell? ⟨e,b.toNat * 2,none⟩=some (.int .i64 (kg s b).bits):=fun _ h=>h.kept bx0
 have nb:∀ Wx,Ext W Wx→Wx.cell? ⟨e,b.toNat * 2+1,none⟩=some (.bool (kg s b).sec):=fun _ h=>h.kept bx1
 have mc:∀ Wx,Ext W Wx→Wx.cell? ⟨e,c.toNat * 2,none⟩=some (.int .i64 (kg s c).bits):=fun _ h=>h.kept cx0
 have nc:∀ Wx,Ext W Wx→Wx.cell? ⟨e,c.toNat * 2+1,none⟩=some (.bool (kg s c).sec):=fun _ h=>h.kept cx1
 clear i0 i1 i2 i3 i4 bx0 bx1 cx0 cx1 bS
 refine Q0z 14 (by kernel_rfl) (by kernel_rfl) ?_
 simp only [List.take_succ_cons,List.take_zero,List.drop_succ_cons,List.drop_zero]
 repeat (first | (refine Q0p ?_ ?_ (fun wc hE=>?_) ?_;(decide);rfl;(focus (go_simp;done));go_simp) | (refine Q0h ?_ ?_ ?_;(decide);(first | rfl | (focus (go_simp;done)));apply Exists.intro;refine ⟨fun wc hE=>?_,?_⟩;(go_simp;exact rfl);go_simp) | (refine Q0q ?_ ?_ ?_;(decide);(first | rfl | (focus (go_simp;done)));apply Exists.intro;refine ⟨fun wc hE=>?_,?_⟩;(go_simp;(first | (with_reducible exact Q1p (Qht (op - 20) (kg s b).bits (kg s c).bits (kg s b).sec (kg s c).sec _))));go_simp) | (refine Q0n ?_ ?_ ?_;(decide);(focus (go_simp;done));go_simp))
 refine Q0o ?_
 intro wy hx
 have X:=Lib.hid (X.out.trans hx)
 have HP:=Lib.hid (HP.out.ext hx)
 have bS:=BS.out.ext hx
 obtain ⟨rr0,rr1⟩:=Q1t bS hl Ha.out
 have hel:=bS.lt
 have hw2:∃ w2,(wy.setCell ⟨e,a.toNat * 2,none⟩ (.int .i64 (kop (op - 20) (nrm (kg s b).bits) (nrm (kg s c).bits)))).setCell ⟨e,a.toNat * 2+1,none⟩ (.bool ((kg s b).sec || (kg s c).sec))=w2∧Blk w2 e 80 (stV (kset s a (kopK (op - 20) (kg s b) (kg s c))))∧CSt w2 B g ks (.slice oa p.regs.length capa) (.slice oc p.code.length capc) vK p T wk∧Ext w w2:=by
  have hb:=Q3j bS hl Ha.out (kopK (op - 20) (kg s b) (kg s c))
  refine ⟨_,rfl,hb,?_,(X.out.setCell (p:=⟨e,_,none⟩) Hew.out _).setCell (p:=⟨e,_,none⟩) Hew.out _⟩
  exact H.out.ext ((X.out.setCell (p:=⟨e,_,none⟩) Hew.out _).setCell (p:=⟨e,_,none⟩) Hew.out _)
 obtain ⟨w2,hw2,hB⟩:=hw2
 have HB:=Lib.hid hB
 clear hB hx k0 k1 k2 k3 mb nb mc nc bS
 have bS:=HB.out.1
 have hu:Sok (kset s a (kopK (op - 20) (kg s b) (kg s c))):=Hs.out.set a (by exact Qd7 _ _ _)
 have hld:Q0f p at_ s ⟨op,a,b,c,n⟩=[(at_+1,kset s a (kopK (op - 20) (kg s b) (kg s c)))]:=by
  unfold Q0f oneK
  rw [if_neg (by simp only;omega),if_neg (by simp only;omega),if_neg (by simp only;omega),if_neg (by simp only;omega),if_neg (by simp only;omega),if_neg (by simp only;omega),if_neg (by simp only;omega),if_neg (by simp only;omega),if_neg (by simp only;omega)]
 have Hld:=Lib.hid hld
 have hl0:=hl
 have hl:(kset s a (kopK (op - 20) (kg s b) (kg s c))).length=8:=by rw [Q4s];exact hl0
 have hel2:=bS.lt
 generalize kset s a (kopK (op - 20) (kg s b) (kg s c))=u at *
 clear hl0 hld
 go_wp2_with (first | ((with_reducible refine Q37 bS ?_ Try.underlying80 ?_ ?_ ?_);rfl;rfl;(rw [Q15 hl];exact infoState')) | fail)
 try rw [hw2]
 have C:=Q4z p (at_+1) u hu hcl (by omega) w2 HB.out.2.1
 rw [show ((at_+1:Nat):Int)=(at_:Int)+1 by omega] at C
 (with_reducible refine C.mono ?_)
 clear C
 rintro er w3 ⟨rfl,vK',P',T'⟩
 have HB2:=Lib.hid (Q50 HB.out.2.1 T')
 have HX2:=Lib.hid HB.out.2.2
 have P':=Lib.hid P'
 clear T' bS hw2 rr0 rr1
 go_wp2
 try refine bodyPost_end (results_none rfl _ _ _) rfl ?_
 refine ⟨rfl,vK',?_,Below.trans (Below.mono HX2.out H.out.size) HB2.out⟩
 rw [Hld.out]
 exact P'.out
set_option maxRecDepth 100000 in
set_option maxHeartbeats 4000000 in
theorem Qoo (p:Q00) {B g ks:Nat} {oa:Option Addr} {capa:Nat} {vK:Value} {oc:Option Addr} {capc:Nat} {T:Tab} {wk:List Int} (at_:Nat) (s:KSt) (op a b c n:Int) (hop:op=4) (hs:Sok s) (hr:Q02 p.regs=true) (hcl:p.code.length≤200) (hat:at_ < p.code.length) (hi:Q0d p at_=⟨op,a,b,c,n⟩) (hok:Q01 p 8 ⟨op,a,b,c,n⟩=true) (hwl:wk.length≤999990) (w:World) (hp:Q0b w (.agg #[.slice oa p.regs.length capa,.slice oc p.code.length capc]) p) (h:CSt w B g ks (.slice oa p.regs.length capa) (.slice oc p.code.length capc) vK p T wk) :
  Calls Try.prog 52 #[.pointer (some ⟨g,0,none⟩),.int .i64 (at_:Int),.agg (stV s)] w (Q57 p w B g ks (.slice oa p.regs.length capa) (.slice oc p.code.length capc) T wk (Q0f p at_ s ⟨op,a,b,c,n⟩)):=by
 obtain ⟨v1,v2,hv,hR,⟨-,oc',capc',bc,oo,hv2,hc1,hc2,hrow⟩⟩:=hp
 simp only [Value.agg.injEq,Array.mk.injEq,List.cons.injEq,and_true] at hv
 obtain ⟨rfl,rfl⟩:=hv
 simp only [Value.slice.injEq,true_and] at hv2
 obtain ⟨rfl,rfl⟩:=hv2
 have hix:=Q1g (cap:=capc) hrow.at_
 obtain ⟨e0,e1,e2,e3,e4⟩:=hrow.ins at_ hat
 have hgi:p.code.getD at_ default=⟨op,a,b,c,n⟩:=hi
 rw [hgi] at e0 e1 e2 e3 e4
 simp only at e0 e1 e2 e3 e4
 obtain ⟨-,c1,-,-⟩:=h.cells
 have hgl:=h.box.lt
 have hst:=Q26
 have H:=Lib.hid h
 have Hs:=Lib.hid hs
 have hl:=hs.len
 have HR:=Lib.hid hR
 have Hr:=Lib.hid hr
 have Hok:=Lib.hid hok
 have hbl:=Q09 e0
 simp only at hbl
 subst hop
 clear h hs hrow hi hgi hR hr hc1 hc2 hok
 go_enter Try.func52,Try.ntmps52
 go_upto_region 24 with fail
 obtain ⟨W,e,he,hW,hx,bS,bI⟩:=Q0i w (stV s) #[.int .i64 4,.int .i64 a,.int .i64 b,.int .i64 c,.int .i64 n] 80 70
 rw [hW,he]
 have X:=Lib.hid hx
 have HP:=Lib.hid (H.out.ext hx)
 have BS:=Lib.hid bS
 have i0:W.cell? ⟨e+1,0,none⟩=some (.int .i64 4):=by rw [bI.cell];rfl
 have i1:W.cell? ⟨e+1,1,none⟩=some (.int .i64 a):=by rw [bI.cell];rfl
 have i2:W.cell? ⟨e+1,2,none⟩=some (.int .i64 b):=by rw [bI.cell];rfl
 have i3:W.cell? ⟨e+1,3,none⟩=some (.int .i64 c):=by rw [bI.cell];rfl
 have i4:W.cell? ⟨e+1,4,none⟩=some (.int .i64 n):=by rw [bI.cell];rfl
 have Hew:=Lib.hid (show w.heap.size≤e by omega)
 have hel0:=bS.lt
 have hel1:=bI.lt
 have BI:=Lib.hid bI
 clear hW hx he e0 e1 e2 e3 e4 c1 bI hbl
 have hld:Q0f p at_ s ⟨4,a,b,c,n⟩=[(at_+1,s)]:=by simp [Q0f,oneK]
 have Hld:=Lib.hid hld
 clear hld
 go_wp2_with (first | ((with_reducible refine Q37 bS ?_ Try.underlying80 ?_ ?_ ?_);rfl;rfl;(rw [Q15 hl];exact infoState')) | fail)
 have C:=Q4z p (at_+1) s Hs.out hcl (by omega) W HP.out
 rw [show ((at_+1:Nat):Int)=(at_:Int)+1 by omega] at C
 (with_reducible refine C.mono ?_)
 clear C
 rintro er w3 ⟨rfl,vK',P',T'⟩
 have HB2:=Lib.hid (Q50 HP.out T')
 have P':=Lib.hid P'
 clear T' bS
 go_wp2
 try refine bodyPost_end (results_none rfl _ _ _) rfl ?_
 refine ⟨rfl,vK',?_,Below.trans (Below.mono X.out H.out.size) HB2.out⟩
 rw [Hld.out]
 exact P'.out
set_option maxRecDepth 100000 in
set_option maxHeartbeats 4000000 in
theorem Qon (p:Q00) {B g ks:Nat} {oa:Option Addr} {capa:Nat} {vK:Value} {oc:Option Addr} {capc:Nat} {T:Tab} {wk:List Int} (at_:Nat) (s:KSt) (op a b c n:Int) (hop:op=6) (hs:Sok s) (hr:Q02 p.regs=true) (hcl:p.code.length≤200) (hat:at_ < p.code.length) (hi:Q0d p at_=⟨op,a,b,c,n⟩) (hok:Q01 p 8 ⟨op,a,b,c,n⟩=true) (hwl:wk.length≤999990) (w:World) (hp:Q0b w (.agg #[.slice oa p.regs.length capa,.slice oc p.code.length capc]) p) (h:CSt w B g ks (.slice oa p.regs.length capa) (.slice oc p.code.length capc) vK p T wk) :
  Calls Try.prog 52 #[.pointer (some ⟨g,0,none⟩),.int .i64 (at_:Int),.agg (stV s)] w (Q57 p w B g ks (.slice oa p.regs.length capa) (.slice oc p.code.length capc) T wk (Q0f p at_ s ⟨op,a,b,c,n⟩)):=by
 obtain ⟨v1,v2,hv,hR,⟨-,oc',capc',bc,oo,hv2,hc1,hc2,hrow⟩⟩:=hp
 simp only [Value.agg.injEq,Array.mk.injEq,List.cons.injEq,and_true] at hv
 obtain ⟨rfl,rfl⟩:=hv
 simp only [Value.slice.injEq,true_and] at hv2
 obtain ⟨rfl,rfl⟩:=hv2
 have hix:=Q1g (cap:=capc) hrow.at_
 obtain ⟨e0,e1,e2,e3,e4⟩:=hrow.ins at_ hat
 have hgi:p.code.getD at_ default=⟨op,a,b,c,n⟩:=hi
 rw [hgi] at e0 e1 e2 e3 e4
 simp only at e0 e1 e2 e3 e4
 obtain ⟨-,c1,-,-⟩:=h.cells
 have hgl:=h.box.lt
 have hst:=Q26
 have H:=Lib.hid h
 have Hs:=Lib.hid hs
 have hl:=hs.len
 have HR:=Lib.hid hR
 have Hr:=Lib.hid hr
 have Hok:=Lib.hid hok
 have hbl:=Q09 e0
 simp only at hbl
 subst hop
 clear h hs hrow hi hgi hR hr hc1 hc2 hok
 go_enter Try.func52,Try.ntmps52
 go_upto_region 24 with fail
 obtain ⟨W,e,he,hW,hx,bS,bI⟩:=Q0i w (stV s) #[.int .i64 6,.int .i64 a,.int .i64 b,.int .i64 c,.int .i64 n] 80 70
 rw [hW,he]
 have X:=Lib.hid hx
 have HP:=Lib.hid (H.out.ext hx)
 have BS:=Lib.hid bS
 have i0:W.cell? ⟨e+1,0,none⟩=some (.int .i64 6):=by rw [bI.cell];rfl
 have i1:W.cell? ⟨e+1,1,none⟩=some (.int .i64 a):=by rw [bI.cell];rfl
 have i2:W.cell? ⟨e+1,2,none⟩=some (.int .i64 b):=by rw [bI.cell];rfl
 have i3:W.cell? ⟨e+1,3,none⟩=some (.int .i64 c):=by rw [bI.cell];rfl
 have i4:W.cell? ⟨e+1,4,none⟩=some (.int .i64 n):=by rw [bI.cell];rfl
 have Hew:=Lib.hid (show w.heap.size≤e by omega)
 have hel0:=bS.lt
 have hel1:=bI.lt
 have BI:=Lib.hid bI
 clear hW hx he e0 e1 e2 e3 e4 c1 bI hbl
 have hld:Q0f p at_ s ⟨6,a,b,c,n⟩=[(at_+1,s)]:=by simp [Q0f,oneK]
 have Hld:=Lib.hid hld
 clear hld
 go_wp2_with (first | ((with_reducible refine Q37 bS ?_ Try.underlying80 ?_ ?_ ?_);rfl;rfl;(rw [Q15 hl];exact infoState')) | fail)
 have C:=Q4z p (at_+1) s Hs.out hcl (by omega) W HP.out
 rw [show ((at_+1:Nat):Int)=(at_:Int)+1 by omega] at C
 (with_reducible refine C.mono ?_)
 clear C
 rintro er w3 ⟨rfl,vK',P',T'⟩
 have HB2:=Lib.hid (Q50 HP.out T')
 have P':=Lib.hid P'
 clear T' bS
 go_wp2
 try refine bodyPost_end (results_none rfl _ _ _) rfl ?_
 refine ⟨rfl,vK',?_,Below.trans (Below.mono X.out H.out.size) HB2.out⟩
 rw [Hld.out]
 exact P'.out
set_option maxRecDepth 100000 in
set_option maxHeartbeats 4000000 in
theorem Qop (p:Q00) {B g ks:Nat} {oa:Option Addr} {capa:Nat} {vK:Value} {oc:Option Addr} {capc:Nat} {T:Tab} {wk:List Int} (at_:Nat) (s:KSt) (op a b c n:Int) (hop:op=12) (hs:Sok s) (hr:Q02 p.regs=true) (hcl:p.code.length≤200) (hat:at_ < p.code.length) (hi:Q0d p at_=⟨op,a,b,c,n⟩) (hok:Q01 p 8 ⟨op,a,b,c,n⟩=true) (hwl:wk.length≤999990) (w:World) (hp:Q0b w (.agg #[.slice oa p.regs.length capa,.slice oc p.code.length capc]) p) (h:CSt w B g ks (.slice oa p.regs.length capa) (.slice oc p.code.length capc) vK p T wk) :
  Calls Try.prog 52 #[.pointer (some ⟨g,0,none⟩),.int .i64 (at_:Int),.agg (stV s)] w (Q57 p w B g ks (.slice oa p.regs.length capa) (.slice oc p.code.length capc) T wk (Q0f p at_ s ⟨op,a,b,c,n⟩)):=by
 obtain ⟨v1,v2,hv,hR,⟨-,oc',capc',bc,oo,hv2,hc1,hc2,hrow⟩⟩:=hp
 simp only [Value.agg.injEq,Array.mk.injEq,List.cons.injEq,and_true] at hv
 obtain ⟨rfl,rfl⟩:=hv
 simp only [Value.slice.injEq,true_and] at hv2
 obtain ⟨rfl,rfl⟩:=hv2
 have hix:=Q1g (cap:=capc) hrow.at_
 obtain ⟨e0,e1,e2,e3,e4⟩:=hrow.ins at_ hat
 have hgi:p.code.getD at_ default=⟨op,a,b,c,n⟩:=hi
 rw [hgi] at e0 e1 e2 e3 e4
 simp only at e0 e1 e2 e3 e4
 obtain ⟨-,c1,-,-⟩:=h.cells
 have hgl:=h.box.lt
 have hst:=Q26
 have H:=Lib.hid h
 have Hs:=Lib.hid hs
 have hl:=hs.len
 have HR:=Lib.hid hR
 have Hr:=Lib.hid hr
 have Hok:=Lib.hid hok
 have hbl:=Q09 e0
 simp only at hbl
 subst hop
 clear h hs hrow hi hgi hR hr hc1 hc2 hok
 go_enter Try.func52,Try.ntmps52
 go_upto_region 24 with fail
 obtain ⟨W,e,he,hW,hx,bS,bI⟩:=Q0i w (stV s) #[.int .i64 12,.int .i64 a,.int .i64 b,.int .i64 c,.int .i64 n] 80 70
 rw [hW,he]
 have X:=Lib.hid hx
 have HP:=Lib.hid (H.out.ext hx)
 have BS:=Lib.hid bS
 have i0:W.cell? ⟨e+1,0,none⟩=some (.int .i64 12):=by rw [bI.cell];rfl
 have i1:W.cell? ⟨e+1,1,none⟩=some (.int .i64 a):=by rw [bI.cell];rfl
 have i2:W.cell? ⟨e+1,2,none⟩=some (.int .i64 b):=by rw [bI.cell];rfl
 have i3:W.cell? ⟨e+1,3,none⟩=some (.int .i64 c):=by rw [bI.cell];rfl
 have i4:W.cell? ⟨e+1,4,none⟩=some (.int .i64 n):=by rw [bI.cell];rfl
 have Hew:=Lib.hid (show w.heap.size≤e by omega)
 have hel0:=bS.lt
 have hel1:=bI.lt
 have BI:=Lib.hid bI
 clear hW hx he e0 e1 e2 e3 e4 c1 bI hbl
 have hld:Q0f p at_ s ⟨12,a,b,c,n⟩=[(at_+1,s)]:=by simp [Q0f,oneK]
 have Hld:=Lib.hid hld
 clear hld
 go_wp2_with (first | ((with_reducible refine Q37 bS ?_ Try.underlying80 ?_ ?_ ?_);rfl;rfl;(rw [Q15 hl];exact infoState')) | fail)
 have C:=Q4z p (at_+1) s Hs.out hcl (by omega) W HP.out
 rw [show ((at_+1:Nat):Int)=(at_:Int)+1 by omega] at C
 (with_reducible refine C.mono ?_)
 clear C
 rintro er w3 ⟨rfl,vK',P',T'⟩
 have HB2:=Lib.hid (Q50 HP.out T')
 have P':=Lib.hid P'
 clear T' bS
 go_wp2
 try refine bodyPost_end (results_none rfl _ _ _) rfl ?_
 refine ⟨rfl,vK',?_,Below.trans (Below.mono X.out H.out.size) HB2.out⟩
 rw [Hld.out]
 exact P'.out
set_option maxRecDepth 100000 in
set_option maxHeartbeats 4000000 in
theorem Qov (p:Q00) {B g ks:Nat} {oa:Option Addr} {capa:Nat} {vK:Value} {oc:Option Addr} {capc:Nat} {T:Tab} {wk:List Int} (at_:Nat) (s:KSt) (op a b c n:Int) (hop:op=7) (hs:Sok s) (hr:Q02 p.regs=true) (hcl:p.code.length≤200) (hat:at_ < p.code.length) (hi:Q0d p at_=⟨op,a,b,c,n⟩) (hok:Q01 p 8 ⟨op,a,b,c,n⟩=true) (hwl:wk.length≤999990) (w:World) (hp:Q0b w (.agg #[.slice oa p.regs.length capa,.slice oc p.code.length capc]) p) (h:CSt w B g ks (.slice oa p.regs.length capa) (.slice oc p.code.length capc) vK p T wk) :
  Calls Try.prog 52 #[.pointer (some ⟨g,0,none⟩),.int .i64 (at_:Int),.agg (stV s)] w (Q57 p w B g ks (.slice oa p.regs.length capa) (.slice oc p.code.length capc) T wk (Q0f p at_ s ⟨op,a,b,c,n⟩)):=by
 obtain ⟨v1,v2,hv,hR,⟨-,oc',capc',bc,oo,hv2,hc1,hc2,hrow⟩⟩:=hp
 simp only [Value.agg.injEq,Array.mk.injEq,List.cons.injEq,and_true] at hv
 obtain ⟨rfl,rfl⟩:=hv
 simp only [Value.slice.injEq,true_and] at hv2
 obtain ⟨rfl,rfl⟩:=hv2
 have hix:=Q1g (cap:=capc) hrow.at_
 obtain ⟨e0,e1,e2,e3,e4⟩:=hrow.ins at_ hat
 have hgi:p.code.getD at_ default=⟨op,a,b,c,n⟩:=hi
 rw [hgi] at e0 e1 e2 e3 e4
 simp only at e0 e1 e2 e3 e4
 obtain ⟨-,c1,-,-⟩:=h.cells
 have hgl:=h.box.lt
 have hst:=Q26
 have H:=Lib.hid h
 have Hs:=Lib.hid hs
 have hl:=hs.len
 have HR:=Lib.hid hR
 have Hr:=Lib.hid hr
 have Hok:=Lib.hid hok
 have hbl:=Q09 e0
 simp only at hbl
 subst hop
 have hn:0≤n∧n < (p.code.length:Int):=by unfold Q01 at hok;simp [okIn] at hok;omega
 clear h hs hrow hi hgi hR hr hc1 hc2 hok
 go_enter Try.func52,Try.ntmps52
 go_upto_region 5 with fail
 obtain ⟨W,e,he,hW,hx,bS,bI⟩:=Q0i w (stV s) #[.int .i64 7,.int .i64 a,.int .i64 b,.int .i64 c,.int .i64 n] 80 70
 rw [hW,he]
 have X:=Lib.hid hx
 have HP:=Lib.hid (H.out.ext hx)
 have BS:=Lib.hid bS
 have i0:W.cell? ⟨e+1,0,none⟩=some (.int .i64 7):=by rw [bI.cell];rfl
 have i1:W.cell? ⟨e+1,1,none⟩=some (.int .i64 a):=by rw [bI.cell];rfl
 have i2:W.cell? ⟨e+1,2,none⟩=some (.int .i64 b):=by rw [bI.cell];rfl
 have i3:W.cell? ⟨e+1,3,none⟩=some (.int .i64 c):=by rw [bI.cell];rfl
 have i4:W.cell? ⟨e+1,4,none⟩=some (.int .i64 n):=by rw [bI.cell];rfl
 have Hew:=Lib.hid (show w.heap.size≤e by omega)
 have hel0:=bS.lt
 have hel1:=bI.lt
 have BI:=Lib.hid bI
 clear hW hx he e0 e1 e2 e3 e4 c1 bI hbl
 have hld:Q0f p at_ s ⟨7,a,b,c,n⟩=[(n.toNat,s)]:=by simp [Q0f]
 have Hld:=Lib.hid hld
 clear hld
 go_wp2_with (first | ((with_reducible refine Q37 bS ?_ Try.underlying80 ?_ ?_ ?_);rfl;rfl;(rw [Q15 hl];exact infoState')) | fail)
 have C:=Q4z p n.toNat s Hs.out hcl (by omega) W HP.out
 rw [show ((n.toNat:Nat):Int)=n by omega] at C
 (with_reducible refine C.mono ?_)
 clear C
 rintro er w3 ⟨rfl,vK',P',T'⟩
 have HB2:=Lib.hid (Q50 HP.out T')
 have P':=Lib.hid P'
 clear T' bS
 go_wp2
 try refine bodyPost_end (results_none rfl _ _ _) rfl ?_
 refine ⟨rfl,vK',?_,Below.trans (Below.mono X.out H.out.size) HB2.out⟩
 rw [Hld.out]
 exact P'.out
set_option maxRecDepth 100000 in
set_option maxHeartbeats 4000000 in
theorem Qow (p:Q00) {B g ks:Nat} {oa:Option Addr} {capa:Nat} {vK:Value} {oc:Option Addr} {capc:Nat} {T:Tab} {wk:List Int} (at_:Nat) (s:KSt) (op a b c n:Int) (hop:op=9) (hs:Sok s) (hr:Q02 p.regs=true) (hcl:p.code.length≤200) (hat:at_ < p.code.length) (hi:Q0d p at_=⟨op,a,b,c,n⟩) (hok:Q01 p 8 ⟨op,a,b,c,n⟩=true) (hwl:wk.length≤999990) (w:World) (hp:Q0b w (.agg #[.slice oa p.regs.length capa,.slice oc p.code.length capc]) p) (h:CSt w B g ks (.slice oa p.regs.length capa) (.slice oc p.code.length capc) vK p T wk) :
  Calls Try.prog 52 #[.pointer (some ⟨g,0,none⟩),.int .i64 (at_:Int),.agg (stV s)] w (Q57 p w B g ks (.slice oa p.regs.length capa) (.slice oc p.code.length capc) T wk (Q0f p at_ s ⟨op,a,b,c,n⟩)):=by
 obtain ⟨v1,v2,hv,hR,⟨-,oc',capc',bc,oo,hv2,hc1,hc2,hrow⟩⟩:=hp
 simp only [Value.agg.injEq,Array.mk.injEq,List.cons.injEq,and_true] at hv
 obtain ⟨rfl,rfl⟩:=hv
 simp only [Value.slice.injEq,true_and] at hv2
 obtain ⟨rfl,rfl⟩:=hv2
 have hix:=Q1g (cap:=capc) hrow.at_
 obtain ⟨e0,e1,e2,e3,e4⟩:=hrow.ins at_ hat
 have hgi:p.code.getD at_ default=⟨op,a,b,c,n⟩:=hi
 rw [hgi] at e0 e1 e2 e3 e4
 simp only at e0 e1 e2 e3 e4
 obtain ⟨-,c1,-,-⟩:=h.cells
 have hgl:=h.box.lt
 have hst:=Q26
 have H:=Lib.hid h
 have Hs:=Lib.hid hs
 have hl:=hs.len
 have HR:=Lib.hid hR
 have Hr:=Lib.hid hr
 have Hok:=Lib.hid hok
 have hbl:=Q09 e0
 simp only at hbl
 subst hop
 clear h hs hrow hi hgi hR hr hc1 hc2 hok
 go_enter Try.func52,Try.ntmps52
 go_upto_region 6 with fail
 obtain ⟨W,e,he,hW,hx,bS,bI⟩:=Q0i w (stV s) #[.int .i64 9,.int .i64 a,.int .i64 b,.int .i64 c,.int .i64 n] 80 70
 rw [hW,he]
 have X:=Lib.hid hx
 have HP:=Lib.hid (H.out.ext hx)
 have BS:=Lib.hid bS
 have i0:W.cell? ⟨e+1,0,none⟩=some (.int .i64 9):=by rw [bI.cell];rfl
 have i1:W.cell? ⟨e+1,1,none⟩=some (.int .i64 a):=by rw [bI.cell];rfl
 have i2:W.cell? ⟨e+1,2,none⟩=some (.int .i64 b):=by rw [bI.cell];rfl
 have i3:W.cell? ⟨e+1,3,none⟩=some (.int .i64 c):=by rw [bI.cell];rfl
 have i4:W.cell? ⟨e+1,4,none⟩=some (.int .i64 n):=by rw [bI.cell];rfl
 have Hew:=Lib.hid (show w.heap.size≤e by omega)
 have hel0:=bS.lt
 have hel1:=bI.lt
 have BI:=Lib.hid bI
 clear hW hx he e0 e1 e2 e3 e4 c1 bI hbl
 have hld:Q0f p at_ s ⟨9,a,b,c,n⟩=[]:=by simp [Q0f]
 have Hld:=Lib.hid hld
 clear hld bS
 go_wp2
 try refine bodyPost_end (results_none rfl _ _ _) rfl ?_
 refine ⟨rfl,vK,?_,Below.mono X.out H.out.size⟩
 rw [Hld.out]
 exact HP.out
set_option maxRecDepth 100000 in
set_option maxHeartbeats 4000000 in
theorem Qgm (p:Q00) {B g ks:Nat} {oa:Option Addr} {capa:Nat} {vK:Value} {oc:Option Addr} {capc:Nat} {T:Tab} {wk:List Int} (at_:Nat) (s:KSt) (op a b c n:Int) (hop:op=8) (hs:Sok s) (hr:Q02 p.regs=true) (hcl:p.code.length≤200) (hat:at_ < p.code.length) (hi:Q0d p at_=⟨op,a,b,c,n⟩) (hok:Q01 p 8 ⟨op,a,b,c,n⟩=true) (hwl:wk.length≤999990) (w:World) (hp:Q0b w (.agg #[.slice oa p.regs.length capa,.slice oc p.code.length capc]) p) (h:CSt w B g ks (.slice oa p.regs.length capa) (.slice oc p.code.length capc) vK p T wk) :
  Calls Try.prog 52 #[.pointer (some ⟨g,0,none⟩),.int .i64 (at_:Int),.agg (stV s)] w (Q57 p w B g ks (.slice oa p.regs.length capa) (.slice oc p.code.length capc) T wk (Q0f p at_ s ⟨op,a,b,c,n⟩)):=by
 obtain ⟨v1,v2,hv,hR,⟨-,oc',capc',bc,oo,hv2,hc1,hc2,hrow⟩⟩:=hp
 simp only [Value.agg.injEq,Array.mk.injEq,List.cons.injEq,and_true] at hv
 obtain ⟨rfl,rfl⟩:=hv
 simp only [Value.slice.injEq,true_and] at hv2
 obtain ⟨rfl,rfl⟩:=hv2
 have hix:=Q1g (cap:=capc) hrow.at_
 obtain ⟨e0,e1,e2,e3,e4⟩:=hrow.ins at_ hat
 have hgi:p.code.getD at_ default=⟨op,a,b,c,n⟩:=hi
 rw [hgi] at e0 e1 e2 e3 e4
 simp only at e0 e1 e2 e3 e4
 obtain ⟨-,c1,-,-⟩:=h.cells
 have hgl:=h.box.lt
 have hst:=Q26
 have H:=Lib.hid h
 have Hs:=Lib.hid hs
 have hl:=hs.len
 have HR:=Lib.hid hR
 have Hr:=Lib.hid hr
 have Hok:=Lib.hid hok
 have hbl:=Q09 e0
 simp only at hbl
 subst hop
 have ha:okIn 8 a=true:=by unfold Q01 at hok;simp [okIn] at hok ⊢;omega
 have hb:okIn 8 b=true:=by unfold Q01 at hok;simp [okIn] at hok ⊢;omega
 have hcc:1≤c∧c≤4:=by unfold Q01 at hok;simp [okIn] at hok;omega
 have hn:0≤n∧n < (p.code.length:Int):=by unfold Q01 at hok;simp [okIn] at hok;omega
 clear h hs hrow hi hgi hR hr hc1 hc2 hok
 go_enter Try.func52,Try.ntmps52
 go_upto_region 8 with fail
 obtain ⟨W,e,he,hW,hx,bS,bI⟩:=Q0i w (stV s) #[.int .i64 8,.int .i64 a,.int .i64 b,.int .i64 c,.int .i64 n] 80 70
 rw [hW,he]
 have X:=Lib.hid hx
 have HP:=Lib.hid (H.out.ext hx)
 have BS:=Lib.hid bS
 have i0:W.cell? ⟨e+1,0,none⟩=some (.int .i64 8):=by rw [bI.cell];rfl
 have i1:W.cell? ⟨e+1,1,none⟩=some (.int .i64 a):=by rw [bI.cell];rfl
 have i2:W.cell? ⟨e+1,2,none⟩=some (.int .i64 b):=by rw [bI.cell];rfl
 have i3:W.cell? ⟨e+1,3,none⟩=some (.int .i64 c):=by rw [bI.cell];rfl
 have i4:W.cell? ⟨e+1,4,none⟩=some (.int .i64 n):=by rw [bI.cell];rfl
 have Hew:=Lib.hid (show w.heap.size≤e by omega)
 have hel0:=bS.lt
 have hel1:=bI.lt
 have BI:=Lib.hid bI
 clear hW hx he e0 e1 e2 e3 e4 c1 bI hbl
 have hld:Q0f p at_ s ⟨8,a,b,c,n⟩=[(at_+1,Q16 s ⟨8,a,b,c,n⟩ false),(n.toNat,Q16 s ⟨8,a,b,c,n⟩ true)]:=by simp [Q0f]
 have Hld:=Lib.hid hld
 have hu:=Qea Hs.out ⟨8,a,b,c,n⟩ false
 have hv:=Qea Hs.out ⟨8,a,b,c,n⟩ true
 have Hu:=Lib.hid hu
 have Hv:=Lib.hid hv
 have CBf:=Lib.hid fun (w:World)=>Qbc s Hs.out.len ⟨8,a,b,c,n⟩ ha hb hcc false w
 have CBt:=Lib.hid fun (w:World)=>Qbc s Hs.out.len ⟨8,a,b,c,n⟩ ha hb hcc true w
 simp only [insV] at CBf CBt
 have hks:ks < w.heap.size:=by
  obtain ⟨R,r1,-⟩:=H.out.row
  exact r1.lt
 generalize Q16 s ⟨8,a,b,c,n⟩ false=u at *
 generalize hvt:Q16 s ⟨8,a,b,c,n⟩ true=v at *
 clear hld hu hv
 go_wp2_with (first | ((with_reducible refine Q37 bS ?_ Try.underlying80 ?_ ?_ ?_);rfl;rfl;(rw [Q15 hl];exact infoState')) | fail)
 (with_reducible refine (CBf.out W).mono ?_)
 rintro er w2 ⟨rfl,hx⟩
 have X:=Lib.hid (X.out.trans hx)
 have HP:=Lib.hid (HP.out.ext hx)
 have bS:=bS.ext hx
 have bI:=BI.out.ext hx
 clear hx i0 i1 i2 i3 i4
 have bS2:=Lib.hid bS
 have bI2:=Lib.hid bI
 clear bS bI
 go_wp2_with fail
 have C:=Q4z p (at_+1) u Hu.out hcl (by omega) w2 HP.out
 rw [show ((at_+1:Nat):Int)=(at_:Int)+1 by omega] at C
 (with_reducible refine C.mono ?_)
 clear C
 rintro er w3 ⟨rfl,vK',P',T'⟩
 have hnk:∀ j,w.heap.size≤j→¬ (j=g∨j=ks∨vK.ownBlock=some j):=by
  rintro j hj (h1 | h1 | h1)
  ·omega
  ·omega
  ·have:=(H.out.wk.lt j h1).2
   omega
 have bS:=bS2.out.turn T' (hnk e Hew.out)
 have bI:=bI2.out.turn T' (hnk (e+1) (by have:=Hew.out;omega))
 have HB2:=Lib.hid (Q50 HP.out T')
 have P':=Lib.hid P'
 have hwk:(Q4q p T wk (at_+1) u).length≤wk.length+1:=by
  unfold Q4q
  repeat' split
  all_goals simp
 have Hwk:=Lib.hid hwk
 have k0:∀ Wx,Ext w3 Wx→Wx.cell? ⟨e+1,0,none⟩=some (.int .i64 8):=fun _ h=>h.kept (by rw [bI.cell];rfl)
 have k1:∀ Wx,Ext w3 Wx→Wx.cell? ⟨e+1,1,none⟩=some (.int .i64 a):=fun _ h=>h.kept (by rw [bI.cell];rfl)
 have k2:∀ Wx,Ext w3 Wx→Wx.cell? ⟨e+1,2,none⟩=some (.int .i64 b):=fun _ h=>h.kept (by rw [bI.cell];rfl)
 have k3:∀ Wx,Ext w3 Wx→Wx.cell? ⟨e+1,3,none⟩=some (.int .i64 c):=fun _ h=>h.kept (by rw [bI.cell];rfl)
 have k4:∀ Wx,Ext w3 Wx→Wx.cell? ⟨e+1,4,none⟩=some (.int .i64 n):=fun _ h=>h.kept (by rw [bI.cell];rfl)
 clear T' hnk bI hwk
 go_upto_region 9 with fail
 refine Q0z 6 (by kernel_rfl) (by kernel_rfl) ?_
 simp only [List.take_succ_cons,List.take_zero,List.drop_succ_cons,List.drop_zero]
 repeat (first | (refine Qe6 ?_ ?_ ?_ bS hl ?_;(decide);(first | rfl | (focus (go_simp;done)));exact ⟨_,rfl,rfl⟩;go_simp) | (refine Q0p ?_ ?_ (fun wc hE=>?_) ?_;(decide);rfl;(focus (go_simp;done));go_simp) | (refine Q0h ?_ ?_ ?_;(decide);(first | rfl | (focus (go_simp;done)));apply Exists.intro;refine ⟨fun wc hE=>?_,?_⟩;(go_simp;exact rfl);go_simp) | (refine Q0q ?_ ?_ ?_;(decide);(first | rfl | (focus (go_simp;done)));apply Exists.intro;refine ⟨fun wc hE=>?_,?_⟩;(go_simp;(first | (with_reducible exact Q1p (CBt.out _))));go_simp) | (refine Q0n ?_ ?_ ?_;(decide);(focus (go_simp;done));go_simp))
 refine Q0o ?_
 intro wy hx
 have P':=Lib.hid (P'.out.ext hx)
 have HBx:=Lib.hid (Below.mono hx (show B≤w3.heap.size by have:=HB2.out.size;have:=HP.out.size;omega))
 clear hx k0 k1 k2 k3 k4 bS
 go_wp2_with fail
 have C:=Q4z p n.toNat v Hv.out hcl (by have:=Hwk.out;omega) wy P'.out
 rw [show ((n.toNat:Nat):Int)=n by omega] at C
 (with_reducible refine C.mono ?_)
 clear C
 rintro er w5 ⟨rfl,vK2,P2,T2⟩
 have HB3:=Lib.hid (Q50 P'.out T2)
 have P2:=Lib.hid P2
 clear T2
 go_wp2
 try refine bodyPost_end (results_none rfl _ _ _) rfl ?_
 refine ⟨rfl,vK2,?_,Below.trans (Below.trans (Below.trans (Below.mono X.out H.out.size) HB2.out) HBx.out) HB3.out⟩
 rw [Hld.out]
 exact P2.out
theorem Q5g (p:Q00) {B g ks:Nat} {oa:Option Addr} {capa:Nat} {vK:Value} {oc:Option Addr} {capc:Nat} {T:Tab} {wk:List Int} (at_:Nat) (s:KSt) (hs:Sok s) (hr:Q02 p.regs=true) (hcl:p.code.length≤200) (hat:at_ < p.code.length) (hok:Q01 p 8 (Q0d p at_)=true) (hwl:wk.length≤999990) (w:World) (hp:Q0b w (.agg #[.slice oa p.regs.length capa,.slice oc p.code.length capc]) p) (h:CSt w B g ks (.slice oa p.regs.length capa) (.slice oc p.code.length capc) vK p T wk) :
  Calls Try.prog 52 #[.pointer (some ⟨g,0,none⟩),.int .i64 (at_:Int),.agg (stV s)] w (Q57 p w B g ks (.slice oa p.regs.length capa) (.slice oc p.code.length capc) T wk (Q0f p at_ s (Q0d p at_))):=by
 generalize hi:Q0d p at_=i at *
 obtain ⟨op,a,b,c,n⟩:=i
 by_cases e1:op=1
 ·exact Qom p at_ s op a b c n e1 hs hr hcl hat hi hok hwl w hp h
 by_cases e2:op=2
 ·exact Qor p at_ s op a b c n e2 hs hr hcl hat hi hok hwl w hp h
 by_cases e10:op=10
 ·exact Qoy p at_ s op a b c n e10 hs hr hcl hat hi hok hwl w hp h
 by_cases e3:op=3
 ·exact Qou p at_ s op a b c n e3 hs hr hcl hat hi hok hwl w hp h
 by_cases e4:op=4
 ·exact Qoo p at_ s op a b c n e4 hs hr hcl hat hi hok hwl w hp h
 by_cases e5:op=5
 ·exact Qot p at_ s op a b c n e5 hs hr hcl hat hi hok hwl w hp h
 by_cases e6:op=6
 ·exact Qon p at_ s op a b c n e6 hs hr hcl hat hi hok hwl w hp h
 by_cases e7:op=7
 ·exact Qov p at_ s op a b c n e7 hs hr hcl hat hi hok hwl w hp h
 by_cases e8:op=8
 ·exact Qgm p at_ s op a b c n e8 hs hr hcl hat hi hok hwl w hp h
 by_cases e9:op=9
 ·exact Qow p at_ s op a b c n e9 hs hr hcl hat hi hok hwl w hp h
 by_cases e11:op=11
 ·exact Qos p at_ s op a b c n e11 hs hr hcl hat hi hok hwl w hp h
 by_cases e12:op=12
 ·exact Qop p at_ s op a b c n e12 hs hr hcl hat hi hok hwl w hp h
 have hop:13≤op:=by
  by_cases h13:13≤op
  ·exact h13
  ·exfalso
   unfold Q01 at hok
   simp only at hok
   rw [if_neg e1,if_neg e2,if_neg e10,if_neg (by omega),if_neg (by omega),if_neg e7,if_neg e8,if_neg e9,if_neg e11,if_neg e12] at hok
   simp only [Bool.and_eq_true] at hok
   have:=Q08.1 hok.2
   omega
 exact Qoq p at_ s op a b c n hop hs hr hcl hat hi hok hwl w hp h
end Go.Proofs.Yteiknefajlocoaa
