/- Laid together from: Ref6d. -/
import Derived.Test.YteiknefajlocoaaFindNothingB41
import Derived.Test.YteiknefajlocoaaFindNothingB46

namespace Go.Proofs.Yteiknefajlocoaa
open Go.ChangeShapes Go.WideShapes Go.ChangeAt Go.RowKit
set_option linter.unusedVariables false
set_option linter.unusedSimpArgs false
theorem Qrk:(Try.prog.info? 87).map (fun i=>(i.zero,i.size,i.bytes))=some (some (.agg #[.bool false,.slice none 0 0]),2,32):=by kernel_rfl
theorem Qcz (z:Array Value) (n j:Nat) (hj:j < n):(madeCells z n)[j]? = some z[j % z.size]! := by simp [madeCells,hj]
theorem Qpm (z:Array Value) (n:Nat):(madeCells z n).size=n:=by simp [madeCells]
theorem Qpk (n:Nat) (hn:n≤1000) (w:World):(Instr.makeSlice 83 (.int .i64 (n:Int)) (.int .i64 (n:Int))).run Try.prog w=.ok (.slice (some ⟨w.heap.size,0,none⟩) n n) (w.alloc (.cells (madeCells #[.bool false,.slice none 0 0] (n * 2)) 87)):=by
 obtain ⟨i,hi,hz,hs,hb⟩:=info_parts Qrk
 have:=run_make (P:=Try.prog) w 83 87 i (.agg #[.bool false,.slice none 0 0]) Try.underlying83 hi hz .i64 .i64 n n (by omega) (Int.le_refl _) (by rw [hb];omega) (by omega)
 rw [show (Value.agg #[.bool false,.slice none 0 0]).cells=#[.bool false,.slice none 0 0] from rfl,hs,Int.toNat_natCast] at this
 exact this
theorem Qpl (w:World):(Instr.makeSlice 85 (.int .i64 8) (.int .i64 8)).run Try.prog w=.ok (.slice (some ⟨w.heap.size,0,none⟩) 8 8) (w.alloc (.cells (madeCells #[.int .i64 0,.bool false] 16) 78)):=by
 obtain ⟨i,hi,hz,hs,hb⟩:=info_parts Qi6
 have:=run_make (P:=Try.prog) w 85 78 i (.agg #[.int .i64 0,.bool false]) Try.underlying85 hi hz .i64 .i64 8 8 (by omega) (Int.le_refl _) (by rw [hb];omega) (by omega)
 rw [show (Value.agg #[.int .i64 0,.bool false]).cells=#[.int .i64 0,.bool false] from rfl,hs] at this
 exact this
theorem Qi7 (ks n cap:Nat) (W:World) (i:Int) (h0:0≤i) (h1:i < n) :
  (Instr.indexAt 83 (.slice (some ⟨ks,0,none⟩) n cap) (.int .i64 i)).run Try.prog W=.ok (.pointer (some ⟨ks,i.toNat * 2,none⟩)) W:=by
 have hs:(Try.prog.info? 87).map (·.size)=some 2:=by kernel_rfl
 simp [Instr.indexAt,run_underlying Try.underlying83,asIntOf,h0,h1]
 have:=Q3w ks 0 (i.toNat * 2)
 simpa using this
theorem Qi9 (b n cap:Nat) (W:World) (i:Int) (h0:0≤i) (h1:i < n) :
  (Instr.indexAt 88 (.slice (some ⟨b,0,none⟩) n cap) (.int .i64 i)).run Try.prog W=.ok (.pointer (some ⟨b,i.toNat * 3,none⟩)) W:=by
 have hs:(Try.prog.info? 91).map (·.size)=some 3:=by kernel_rfl
 simp [Instr.indexAt,run_underlying Try.underlying88,asIntOf,h0,h1]
 have:=Q3w b 0 (i.toNat * 3)
 simpa using this
theorem Qeu {w:World} {ks n:Nat} (h:Blk w ks 87 (madeCells #[.bool false,.slice none 0 0] (n * 2))):Q4l w ks n (List.replicate n none):=by
 refine ⟨_,h,Qpm _ _,fun j hj=>?_⟩
 have:tg (List.replicate n (none:Option KSt)) j=none:=by
  unfold tg
  rw [List.getD_eq_getElem?_getD,List.getElem?_replicate,if_pos hj]
  rfl
 rw [this]
 refine ⟨?_,?_⟩
 ·rw [Qcz _ _ _ (by omega)]
  simp [show j * 2 % 2=0 by omega]
 ·rw [Qcz _ _ _ (by omega)]
  simp [show (j * 2+1) % 2=1 by omega]
theorem Qqt {w:World} {B k:Nat} (h:Blk w k 78 (madeCells #[.int .i64 0,.bool false] 16)) (hB:B≤k):KnAt w B (.slice (some ⟨k,0,none⟩) 8 8) Q32:=by
 refine ⟨rfl,k,8,_,rfl,by omega,by decide,hB,h,fun j hj=>?_⟩
 rw [Qcz _ _ _ hj]
 rcases (show j=0∨j=1∨j=2∨j=3∨j=4∨j=5∨j=6∨j=7∨j=8∨j=9∨j=10∨j=11∨j=12∨j=13∨j=14∨j=15 by omega) with rfl | rfl | rfl | rfl | rfl | rfl | rfl | rfl | rfl | rfl | rfl | rfl | rfl | rfl | rfl | rfl <;> rfl
theorem Q4l.at_ {w:World} {ks n:Nat} {T:Tab} (h:Q4l w ks n T) {j:Nat} (hj:j < n) :
  (tg T j=none→(w.cell? ⟨ks,j * 2,none⟩=some (.bool false)∧w.frozen? ⟨ks,j * 2,none⟩=false)∧(w.cell? ⟨ks,j * 2+1,none⟩=some (.slice none 0 0)∧w.frozen? ⟨ks,j * 2+1,none⟩=false)) ∧
  (∀ s,tg T j=some s→∃ b cap,(w.cell? ⟨ks,j * 2,none⟩=some (.bool true)∧w.frozen? ⟨ks,j * 2,none⟩=false)∧(w.cell? ⟨ks,j * 2+1,none⟩=some (.slice (some ⟨b,0,none⟩) 8 cap)∧w.frozen? ⟨ks,j * 2+1,none⟩=false)∧KnAt w 0 (.slice (some ⟨b,0,none⟩) 8 cap) s):=by
 obtain ⟨R,h1,h2,h3⟩:=h
 have:=h3 j hj
 refine ⟨fun ht=>?_,fun s ht=>?_⟩
 ·rw [ht] at this
  exact ⟨⟨by rw [h1.cell,this.1],h1.frozen _⟩,⟨by rw [h1.cell,this.2],h1.frozen _⟩⟩
 ·rw [ht] at this
  obtain ⟨e1,v,e2,e3⟩:=this
  obtain ⟨b,cap,rfl,-⟩:=e3.form
  exact ⟨b,cap,⟨by rw [h1.cell,e1],h1.frozen _⟩,⟨by rw [h1.cell,e2],h1.frozen _⟩,e3⟩
theorem Q4l.lt {w:World} {ks n:Nat} {T:Tab} (h:Q4l w ks n T):ks < w.heap.size:=by
 obtain ⟨R,h1,-⟩:=h
 exact h1.lt
theorem KnAt.lt_ {w:World} {B b cap:Nat} {s:KSt} (h:KnAt w B (.slice (some ⟨b,0,none⟩) 8 cap) s):b < w.heap.size:=by
 obtain ⟨h0,b',cap',R,e1,h2,h3,h4,h5,h6⟩:=h
 simp only [Value.slice.injEq,Option.some.injEq,Addr.mk.injEq,and_true,true_and] at e1
 rw [e1.1]
 exact h5.lt
theorem Q4v.form {w:World} {B:Nat} {v:Value} {l:List (Nat × KSt)} (h:Q4v w B v l) (h0:0 < l.length):∃ b cap,v=.slice (some ⟨b,0,none⟩) l.length cap:=by
 obtain ⟨oa,cap,b,h1,h2,h3,hB,h4,-⟩:=h
 rw [h4 h0] at h1
 exact ⟨b,cap,h1⟩
theorem Q4v.at_ {w:World} {B b cap n:Nat} {l:List (Nat × KSt)} (h:Q4v w B (.slice (some ⟨b,0,none⟩) n cap) l) {k:Nat} (hk:k < l.length):∃ c capc,
  w.cell? ⟨b,k * 3,none⟩=some (.int .i64 ((l.getD k default).1:Int))∧w.cell? ⟨b,k * 3+1,none⟩=some (.bool true)∧w.cell? ⟨b,k * 3+2,none⟩=some (.slice (some ⟨c,0,none⟩) 8 capc)∧KnAt w B (.slice (some ⟨c,0,none⟩) 8 capc) (l.getD k default).2:=by
 obtain ⟨oa,cap',b',h1,h2,h3,hB,h4,vs,h5⟩:=h
 rw [h4 (by omega)] at h1
 simp only [Value.slice.injEq,Option.some.injEq,Addr.mk.injEq,and_true,true_and] at h1
 obtain ⟨rfl,-,rfl⟩:=h1
 obtain ⟨e1,e2,e3,e4⟩:=h5 k hk
 obtain ⟨c,capc,hv,-⟩:=e4.form
 rw [hv] at e3 e4
 exact ⟨c,capc,e1,e2,e3,e4⟩
theorem Qpa (P:Value→World→Nat→Prop):∃ mu:Value→World→Nat,∀ v w n,P v w n→P v w (mu v w)∧mu v w≤n:=by
 have h:=fun v=>Qgt (P v)
 exact ⟨fun v=>Classical.choose (h v),fun v=>Classical.choose_spec (h v)⟩
def Fit9 (wr:World) (s9:Value) (wx:World) (J:KSt):Prop :=
 ∃ u f capf,s9=.pointer (some ⟨u,0,none⟩)∧wr.heap.size≤u∧Ext wr wx∧Blk wx u 87 #[.bool true,.slice (some ⟨f,0,none⟩) 8 capf]∧KnAt wx wr.heap.size (.slice (some ⟨f,0,none⟩) 8 capf) J
theorem Qb8 {wr w5:World} {f capf:Nat} {J:KSt} (hx:Ext wr.drew w5) (hK:KnAt w5 wr.drew.heap.size (.slice (some ⟨f,0,none⟩) 8 capf) J) :
  Fit9 wr (.pointer (some ⟨w5.heap.size,0,none⟩)) (w5.alloc (.cells #[.bool true,.slice (some ⟨f,0,none⟩) 8 capf] 87)) J :=
 ⟨_,f,capf,rfl,hx.size,(((Ext.refl wr).drew).trans hx).alloc _,Blk.new _ _ _,hK.ext ((Ext.refl _).alloc _)⟩
theorem Qb7 {wr w5:World} {f capf:Nat} {J:KSt} (hx:Ext (wr.alloc (.cells #[.bool false,.slice none 0 0] 87)).drew w5) (hK:KnAt w5 (wr.alloc (.cells #[.bool false,.slice none 0 0] 87)).drew.heap.size (.slice (some ⟨f,0,none⟩) 8 capf) J) :
  Fit9 wr (.pointer (some ⟨wr.heap.size,0,none⟩)) ((w5.setCell ⟨wr.heap.size,0,none⟩ (.bool true)).setCell ⟨wr.heap.size,1,none⟩ (.slice (some ⟨f,0,none⟩) 8 capf)) J:=by
 have hx':Ext (wr.alloc (.cells #[.bool false,.slice none 0 0] 87)) w5:=((Ext.refl _).drew).trans hx
 have hb:=(Blk.new wr 87 #[.bool false,.slice none 0 0]).ext hx'
 have hE:Ext wr w5:=((Ext.refl wr).alloc _).trans hx'
 have hK':KnAt w5 wr.heap.size (.slice (some ⟨f,0,none⟩) 8 capf) J:=hK.mono (by simp)
 exact ⟨_,f,capf,rfl,Nat.le_refl _,(hE.setCell (p:=⟨wr.heap.size,0,none⟩) (Nat.le_refl _) _).setCell (p:=⟨wr.heap.size,1,none⟩) (Nat.le_refl _) _,(hb.set_ 0 _).set_ 1 _,
  (hK'.far (p:=⟨wr.heap.size,0,none⟩) hb (by decide) _).far (p:=⟨wr.heap.size,1,none⟩) (hb.set_ _ _) (by decide) _⟩
def RndS (p:Q00) (w0:World) (ks:Nat) (v:Value) (w:World) (n:Nat):Prop :=
 ∃ (T:Tab) (again:Bool),v=.bool again∧Q4l w ks p.code.length T∧Ext w0 w∧Tok p T∧Q6e p T∧(∃ s,tg T 0=some s∧Sle Q32 s)∧(again=false→Q5x p T)∧n=(if again=true then phi T+1 else 0)
def Qtq (p:Q00) (w:World) (e:Ending) (w':World):Prop :=
 ∃ ks T,e=.returned (.slice (some ⟨ks,0,none⟩) p.code.length p.code.length)∧Q4l w' ks p.code.length T∧Q5x p T∧Ext w w'
set_option maxRecDepth 100000 in
set_option maxHeartbeats 8000000 in
theorem Qkj (p:Q00) {oa:Option Addr} {capa:Nat} {oc:Option Addr} {capc:Nat} (hmay:Q36 p=true) (w:World) (hp:Q0b w (.agg #[.slice oa p.regs.length capa,.slice oc p.code.length capc]) p) :
  Calls Try.prog 55 #[.agg #[.slice oa p.regs.length capa,.slice oc p.code.length capc]] w (Qtq p w):=by
 obtain ⟨hr,hc1,hcl,hins⟩:=Q6a hmay
 have HP:=Lib.hid hp
 have Hr:=Lib.hid hr
 have Hins:=Lib.hid hins
 have Hmay:=Lib.hid hmay
 have hmk:=Qpk p.code.length (by omega)
 have hmk8:=Qpl
 clear hp hr hins hmay
 go_enter Try.func55,Try.ntmps55
 go_upto_region 1 with fail
 obtain ⟨W,gp,hg,hW,hx,bP⟩:=Q1f w #[.slice oa p.regs.length capa,.slice oc p.code.length capc] 25
 rw [hW,hg]
 have X:=Lib.hid hx
 have BP:=Lib.hid bP
 have p1:W.cell? ⟨gp,1,none⟩=some (.slice oc p.code.length capc):=by rw [bP.cell];rfl
 clear hW hg hx bP
 go_upto_region 2 with fail
 obtain ⟨w1,ks,hg,hW,hx,bT⟩:=Q1f W (madeCells #[.bool false,.slice none 0 0] (p.code.length * 2)) 87
 rw [hW,hg]
 have XT:=Lib.hid hx
 have BT:=Lib.hid bT
 have Hks:=Lib.hid hg
 have hgl:=bT.lt
 have t0:=((Qeu bT).at_ (j:=0) (by omega)).1 (by
  unfold tg
  rw [List.getD_eq_getElem?_getD,List.getElem?_replicate,if_pos (by omega)]
  rfl)
 obtain ⟨t0,t1⟩:=t0
 simp only [Nat.zero_mul,Nat.zero_add] at t0 t1
 have hixt:=Qi7 ks p.code.length p.code.length
 clear hW hx bT p1 hmk hg
 go_upto_region 3 with fail
 obtain ⟨w2,hw2,hP⟩:∃ w2,(((w1.setCell ⟨ks,0,none⟩ (.bool true)).setCell ⟨ks,1,none⟩ (.slice (some ⟨w1.heap.size,0,none⟩) 8 8)).alloc (.cells (madeCells #[.int .i64 0,.bool false] 16) 78))=w2∧Q4l w2 ks p.code.length (Q2z p)∧Ext W w2:=by
  refine ⟨_,rfl,?_,((XT.out.setCell (p:=⟨ks,0,none⟩) (by have:=Hks.out;simp only;omega) _).setCell (p:=⟨ks,1,none⟩) (by have:=Hks.out;simp only;omega) _).alloc _⟩
  have hb:=(Qeu BT.out).ext ((Ext.refl w1).alloc (.cells (madeCells #[.int .i64 0,.bool false] 16) 78))
  have hk:=Qqt (B:=0) (Blk.new w1 78 (madeCells #[.int .i64 0,.bool false] 16)) (by omega)
  have:=hb.put (at_:=0) (by simp) (by omega) hk
  simp only [Nat.zero_mul,Nat.zero_add] at this
  rw [World.setCell_alloc_past _ _ _ _ hgl,World.setCell_alloc_past _ _ _ _ (by rw [Q4d];exact hgl)] at this
  exact this
 have T2:=Lib.hid hP.1
 have X2:=Lib.hid hP.2
 rw [hw2]
 clear hw2 hP t0 t1 hmk8
 obtain ⟨mu,hmu⟩:=Qpa (RndS p W ks)
 have Hmu:=Lib.hid hmu
 clear hmu
 go_wp2_with fail
 go_loopw [4] (fun v wr => ∃ n,RndS p W ks v wr n) (fun v wr=>mu v wr)
 case atStart=>exact ⟨_,Q2z p,true,rfl,T2.out,X2.out,Qik p (by omega),Qij p (by omega),⟨Q32,by rw [Q8l p (by omega),if_pos rfl],Sle.refl _⟩,(fun h=>by cases h),rfl⟩
 case round =>
  obtain ⟨n0,hn0⟩:=hrel
  obtain ⟨T,again,rfl,hT,hE,hTok,hU,hF,hL,hn⟩:=(Hmu.out _ wr n0 hn0).1
  clear hn0
  have XE:=Lib.hid hE
  have HT:=Lib.hid hT
  cases again
  ·have HL:=Lib.hid (hL rfl)
   clear hT hE hTok hU hF hL hn
   go_wp2
   go_ret
   exact ⟨ks,T,rfl,HT.out,HL.out,X.out.trans XE.out⟩
  ·have HA:=Lib.hid (A6.begin hTok hU hF)
   rw [if_pos rfl] at hn
   have Hn:=Lib.hid hn
   clear hT hE hTok hU hF hL hn
   go_wp2_with fail
   obtain ⟨m0,hm0⟩:∃ m0,mu (.bool true) wr=m0:=⟨_,rfl⟩
   have Hm0:=Lib.hid hm0
   rw [hm0] at Hn
   clear hm0
   go_loopw [4,5] (fun v i wr => ∃ (T':Tab) (ag:Bool) (a:Nat),v=.bool ag∧i=.int .i64 (a:Int)∧a≤p.code.length∧A6 p T T' ag a∧Q4l wr ks p.code.length T'∧Ext W wr) (fun _ i _=>p.code.length - (intOf i).toNat)
   case atStart=>exact ⟨T,false,0,rfl,rfl,by omega,HA.out,HT.out,XE.out⟩
   case round =>
    obtain ⟨T',ag,a,rfl,rfl,ha,hA,hT,hE⟩:=hrel
    have HA:=Lib.hid hA
    have HT:=Lib.hid hT
    have XE:=Lib.hid hE
    clear hA hE
    by_cases hlt:a < p.code.length
    ·cases ht:tg T' a with
     | none =>
      obtain ⟨⟨c0,-⟩,-⟩:=(hT.at_ hlt).1 ht
      have HA2:=Lib.hid (HA.out.skip ht)
      clear hT ht
      go_wp2
      go_roundw
      case rel=>exact ⟨T',ag,a+1,rfl,by go_num,by omega,HA2.out,HT.out,XE.out⟩
      case measure=>first | (simp [intOf];done) | (simp [intOf];omega)
     | some s =>
      obtain ⟨b,cap,⟨c0,-⟩,⟨c1,-⟩,hk⟩:=(hT.at_ hlt).2 s ht
      have HK:=Lib.hid (K6.begin HA.out ht)
      have HS:=Lib.hid (HA.out.tok.ok a s ht)
      have KN:=Lib.hid hk
      have k0:∀ Wx,Ext wr Wx→Wx.cell? ⟨ks,a * 2,none⟩=some (.bool true):=fun _ h=>h.kept c0
      have k1:∀ Wx,Ext wr Wx→Wx.cell? ⟨ks,a * 2+1,none⟩=some (.slice (some ⟨b,0,none⟩) 8 cap):=fun _ h=>h.kept c1
      have q0:∀ Wx,Ext wr Wx→Wx.cell? ⟨gp,0,none⟩=some (.slice oa p.regs.length capa):=fun _ h=>h.kept (XE.out.kept (by rw [BP.out.cell];rfl))
      have q1:∀ Wx,Ext wr Wx→Wx.cell? ⟨gp,1,none⟩=some (.slice oc p.code.length capc):=fun _ h=>h.kept (XE.out.kept (by rw [BP.out.cell];rfl))
      clear hT ht hk
      go_upto_region 10 with fail
      clear c0 c1
      refine Q2d [6,7] 1 (by kernel_rfl) (by kernel_rfl) ?_
      repeat (first | (refine Q2o ?_ ?_;(decide)) | (refine Q2i ?_ ?_ ?_;(decide);(first | rfl | (focus (go_simp;done)));apply Exists.intro;refine ⟨fun wc hE=>?_,?_⟩;(go_simp;exact rfl);go_simp) | (refine Q2m ?_ ?_ ?_;(decide);(focus (go_simp;done));go_simp))
      refine Q2n ?_
      intro w3 hx
      have X3:=Lib.hid hx
      clear k0 k1 q0 q1 hx
      refine Q39 rfl ?_
      go_wp2_with fail
      have C:=Qhf p a s Hr.out hcl hlt (Hins.out _ (Q2b hlt)) w3 (HP.out.ext (X.out.trans (XE.out.trans X3.out))) (KN.out.ext X3.out)
      (with_reducible refine C.mono ?_)
      clear C
      rintro er w4 ⟨ol,capl,rfl,hL,hx⟩
      have HL:=Lib.hid hL
      have X4:=Lib.hid (X3.out.trans hx)
      have hB:ks < w3.heap.size:=by have:=HT.out.lt;have:=X3.out.size;omega
      have T4:=Lib.hid (HT.out.ext X4.out)
      have XE4:=Lib.hid (XE.out.trans X4.out)
      generalize hLL:Q0u p a s (Q0d p a)=L at *
      have HLL:=Lib.hid hLL
      have hL2:L.length≤2:=by rw [← hLL];exact Qhe _ _ _ _
      clear hL hx hLL
      go_wp2
      refine ⟨X4.out,?_⟩
      refine Q23 (Q10 rfl (Q2a)) ?_
      go_wp2_with fail
      go_loopw [4,7] (fun v i wr => ∃ (U:Tab) (ag':Bool) (k:Nat),v=.bool ag'∧i=.int .i64 (k:Int)∧k≤L.length∧K6 p T U ag' a s k∧Q4l wr ks p.code.length U∧Q4v wr w3.heap.size (.slice ol L.length capl) L∧Ext W wr) (fun _ i _=>L.length - (intOf i).toNat)
      case atStart=>exact ⟨T',ag,0,rfl,rfl,by omega,HK.out,T4.out,HL.out,XE4.out⟩
      case round =>
       obtain ⟨U,ag',k,rfl,rfl,hkl,hK,hT,hL,hE⟩:=hrel
       have HK:=Lib.hid hK
       have HT:=Lib.hid hT
       have HL:=Lib.hid hL
       have XE:=Lib.hid hE
       clear hK hE
       by_cases hkk:k < L.length
       ·obtain ⟨bl,capl',hv⟩:=hL.form (by omega)
        simp only [Value.slice.injEq,true_and] at hv
        obtain ⟨rfl,rfl⟩:=hv
        obtain ⟨c,capc',l0,l1,l2,hkn⟩:=hL.at_ hkk
        have hixl:=Qi9 bl L.length capl
        have KX:=Lib.hid hkn
        have HX:Hid ((Q0u p a s (Q0d p a)).getD k default=L.getD k default):=Lib.hid (by rw [HLL.out])
        have hXS:=Q8d p a HS.out (Q0d p a) (L.getD k default) (by rw [← Qd1,HLL.out];simp [hkk])
        have HXS:=Lib.hid hXS
        have hkk2:k < (Q0u p a s (Q0d p a)).length:=by rw [HLL.out];exact hkk
        generalize L.getD k default=x at *
        obtain ⟨xn,xs⟩:=x
        simp only at l0 hkn
        have HX:=Lib.hid HX.out
        have hl7:=Q09 l0
        simp only at hl7
        clear hT hL hXS hkn
        by_cases hbe:p.code.length≤xn
        ·have HK2:=Lib.hid (HK.out.beyond (by rw [HX.out];exact hbe))
         clear hkk2
         go_wp2
         go_roundw
         case rel=>exact ⟨U,ag',k+1,rfl,by go_num,by omega,HK2.out,HT.out,HL.out,XE.out⟩
         case measure=>first | (simp [intOf];done) | (simp [intOf];omega)
        ·have hxn:xn < p.code.length:=by omega
         have hxd:decide ((p.code.length:Int)≤(xn:Int))=false:=decide_eq_false (by omega)
         have hxd2:decide (p.code.length≤xn)=false:=decide_eq_false (by omega)
         have HJ:=Lib.hid (HK.out.join HS.out hkk2 HX.out hxn)
         have HTL:=Lib.hid HK.out.a6.tok.len
         have HksW:=Lib.hid (show W.heap.size≤ks by have:=Hks.out;omega)
         clear hbe hkk2
         cases ht:tg U xn with
         | none =>
          obtain ⟨⟨c0,-⟩,⟨c1,-⟩⟩:=(HT.out.at_ hxn).1 ht
          have HJT:Hid (Q17 U (xn,xs)=U.set xn (some xs)):=Lib.hid (by unfold Q17;simp only [ht])
          have HJ2:Hid (K6 p T (U.set xn (some xs)) true a s (k+1)):=Lib.hid (by
           have h:=HJ.out
           have hne:U.set xn (some xs)≠U:=fun e=>by
            have h1:=Q6v U xn xn (some xs)
            rw [e,ht,if_pos ⟨rfl,by rw [HTL.out];exact hxn⟩] at h1
            cases h1
           rw [HJT.out,decide_eq_true hne,Bool.or_true] at h
           exact h)
          have Ht:=Lib.hid ht
          clear ht
          have hksl:=HT.out.lt
          go_upto_region 16 with fail
          go_cut [9] (fun s9 wx=>Fit9 wr s9 wx xs)
          case first =>
           go_region_with (go_at_call 93;refine Calls.mono (Qr4 xs c capc' _ (KX.out.ext (by repeat' first | (with_reducible exact Ext.refl _) | (with_reducible refine Ext.drew ?_) | (with_reducible refine Ext.drewN ?_ _) | (with_reducible refine Ext.alloc ?_ _)))) ?_;rintro er w5 ⟨f,capf,rfl,hKf,hx⟩;(try have z0:=Q0a hx (Q6m _ _ _ _).1);(try have z1:=Q0a hx (Q6m _ _ _ _).2);(try simp only [World.heap_drew] at z0 z1))
           all_goals (go_wp2_with fail;go_meet;first | (with_reducible exact Qb8 hx hKf) | (with_reducible exact Qb7 hx hKf) | (exact Qb8 hx hKf) | (exact Qb7 hx hKf))
          case rest =>
           rename World=>wx
           obtain ⟨u,f,capf,rfl,hu,hx,bU,hKf⟩:=hcut
           have XE5:=Lib.hid (XE.out.trans hx)
           have T5:=Lib.hid (HT.out.ext hx)
           have L5:=Lib.hid (HL.out.ext hx)
           have K5:=Lib.hid hKf
           have hul:=bU.lt
           have hksl:=T5.out.lt
           have hixt:=hixt
           obtain ⟨g0,g1⟩:=(T5.out.at_ hxn).1 Ht.out
           have v0:∀ Wx,Ext wx Wx→Wx.cell? ⟨u,0,none⟩=some (.bool true):=fun _ h=>h.kept (by rw [bU.cell];rfl)
           have v1:∀ Wx,Ext wx Wx→Wx.cell? ⟨u,1,none⟩=some (.slice (some ⟨f,0,none⟩) 8 capf):=fun _ h=>h.kept (by rw [bU.cell];rfl)
           have d0:∀ Wx,Ext wx Wx→Wx.cell? ⟨ks,xn * 2,none⟩=some (.bool false):=fun _ h=>h.kept g0.1
           have d1:∀ Wx,Ext wx Wx→Wx.cell? ⟨ks,xn * 2+1,none⟩=some (.slice none 0 0):=fun _ h=>h.kept g1.1
           have BU:=Lib.hid bU
           clear hx bU hKf
           go_upto_region 17 with fail
           refine Q0z 7 (by kernel_rfl) (by kernel_rfl) ?_
           simp only [List.take_succ_cons,List.take_zero,List.drop_succ_cons,List.drop_zero]
           repeat (first | (refine Q0p ?_ ?_ (fun wc hE=>?_) ?_;(decide);rfl;(focus (go_simp;done));go_simp) | (refine Q0h ?_ ?_ ?_;(decide);(first | rfl | (focus (go_simp;done)));apply Exists.intro;refine ⟨fun wc hE=>?_,?_⟩;(go_simp;exact rfl);go_simp) | (refine Q0q ?_ ?_ ?_;(decide);(first | rfl | (focus (go_simp;done)));apply Exists.intro;refine ⟨fun wc hE=>?_,?_⟩;(go_simp;(first | (with_reducible exact Q1p (Qlv undef f capf _))));go_simp) | (refine Q0n ?_ ?_ ?_;(decide);(focus (go_simp;done));go_simp))
           refine Q0o ?_
           intro wy hy
           have XE6:=Lib.hid (XE5.out.trans hy)
           have T6:=Lib.hid (T5.out.ext hy)
           have L6:=Lib.hid (L5.out.ext hy)
           have K6':=Lib.hid (K5.out.ext hy)
           have BU:=Lib.hid (BU.out.ext hy)
           have g0:=Q0a hy g0
           have g1:=Q0a hy g1
           clear hy v0 v1 d0 d1
           have bU:=BU.out
           have v0:wy.cell? ⟨u,0,none⟩=some (.bool true):=by rw [bU.cell];rfl
           have v1:wy.cell? ⟨u,1,none⟩=some (.slice (some ⟨f,0,none⟩) 8 capf):=by rw [bU.cell];rfl
           have hkl2:=T6.out.lt
           clear bU
           go_wp2
           go_roundw
           case rel =>
            have hlow:ks < w3.heap.size:=hB
            exact ⟨U.set xn (some xs),true,k+1,rfl,by go_num,by omega,HJ2.out,T6.out.put HTL.out hxn (K6'.out.mono (Nat.zero_le _)),((L6.out.low (p:=⟨ks,xn * 2,none⟩) hlow _).low (p:=⟨ks,xn * 2+1,none⟩) hlow _),(XE6.out.setCell (p:=⟨ks,xn * 2,none⟩) HksW.out _).setCell (p:=⟨ks,xn * 2+1,none⟩) HksW.out _⟩
           case measure=>first | (simp [intOf];done) | (simp [intOf];omega)
         | some t =>
          obtain ⟨bt,capt,⟨c0,-⟩,⟨c1,-⟩,hkt⟩:=(HT.out.at_ hxn).2 t ht
          have KT:=Lib.hid hkt
          have HJT:Hid (Q17 U (xn,xs)=U.set xn (some (Q11 xs t))):=Lib.hid (by unfold Q17;simp only [ht])
          have hbtl:=hkt.lt_
          have HJ2:Hid (¬ Q11 t xs=t→K6 p T (U.set xn (some (Q11 t xs))) true a s (k+1)):=Lib.hid (fun hne=>by
           have h:=HJ.out
           have hn:U.set xn (some (Q11 t xs))≠U:=fun e=>by
            have h1:=Q6v U xn xn (some (Q11 t xs))
            rw [e,ht,if_pos ⟨rfl,by rw [HTL.out];exact hxn⟩] at h1
            exact hne (Option.some.inj h1).symm
           rw [HJT.out,Qfb,decide_eq_true hn,Bool.or_true] at h
           exact h)
          have HJ3:Hid (Q11 t xs=t→K6 p T U ag' a s (k+1)):=Lib.hid (fun he=>by
           have h:=HJ.out
           have hn:U.set xn (some (Q11 t xs))=U:=by
            rw [he]
            exact Qbq ht (by rw [HTL.out];exact hxn)
           rw [HJT.out,Qfb,hn] at h
           simpa using h)
          have Ht:=Lib.hid ht
          clear ht hkt
          have hksl:=HT.out.lt
          go_upto_region 16 with fail
          go_cut [9] (fun s9 wx=>Fit9 wr s9 wx (Q11 t xs))
          case first =>
           go_region_with (go_at_call 93;refine Calls.mono (Qr5 t xs bt capt c capc' _ (KT.out.ext (by repeat' first | (with_reducible exact Ext.refl _) | (with_reducible refine Ext.drew ?_) | (with_reducible refine Ext.drewN ?_ _) | (with_reducible refine Ext.alloc ?_ _))) (KX.out.ext (by repeat' first | (with_reducible exact Ext.refl _) | (with_reducible refine Ext.drew ?_) | (with_reducible refine Ext.drewN ?_ _) | (with_reducible refine Ext.alloc ?_ _)))) ?_;rintro er w5 ⟨f,capf,rfl,hKf,hx⟩;(try have z0:=Q0a hx (Q6m _ _ _ _).1);(try have z1:=Q0a hx (Q6m _ _ _ _).2);(try simp only [World.heap_drew] at z0 z1))
           all_goals (go_wp2_with fail;go_meet;first | (with_reducible exact Qb8 hx hKf) | (with_reducible exact Qb7 hx hKf) | (exact Qb8 hx hKf) | (exact Qb7 hx hKf))
          case rest =>
           rename World=>wx
           obtain ⟨u,f,capf,rfl,hu,hx,bU,hKf⟩:=hcut
           have XE5:=Lib.hid (XE.out.trans hx)
           have T5:=Lib.hid (HT.out.ext hx)
           have L5:=Lib.hid (HL.out.ext hx)
           have K5:=Lib.hid hKf
           have hul:=bU.lt
           have hksl:=T5.out.lt
           have hixt:=hixt
           obtain ⟨bt',capt',g0,g1,hkt⟩:=(T5.out.at_ hxn).2 t Ht.out
           have v0:∀ Wx,Ext wx Wx→Wx.cell? ⟨u,0,none⟩=some (.bool true):=fun _ h=>h.kept (by rw [bU.cell];rfl)
           have v1:∀ Wx,Ext wx Wx→Wx.cell? ⟨u,1,none⟩=some (.slice (some ⟨f,0,none⟩) 8 capf):=fun _ h=>h.kept (by rw [bU.cell];rfl)
           have d0:∀ Wx,Ext wx Wx→Wx.cell? ⟨ks,xn * 2,none⟩=some (.bool true):=fun _ h=>h.kept g0.1
           have d1:∀ Wx,Ext wx Wx→Wx.cell? ⟨ks,xn * 2+1,none⟩=some ((.slice (some ⟨bt',0,none⟩) 8 capt')):=fun _ h=>h.kept g1.1
           have BU:=Lib.hid bU
           have KT5:=Lib.hid hkt
           clear hx bU hKf hkt
           generalize Q11 t xs=j6 at *
           go_upto_region 17 with fail
           refine Q0z 7 (by kernel_rfl) (by kernel_rfl) ?_
           simp only [List.take_succ_cons,List.take_zero,List.drop_succ_cons,List.drop_zero]
           repeat (first | (refine Q0p ?_ ?_ (fun wc hE=>?_) ?_;(decide);rfl;(focus (go_simp;done));go_simp) | (refine Q0h ?_ ?_ ?_;(decide);(first | rfl | (focus (go_simp;done)));apply Exists.intro;refine ⟨fun wc hE=>?_,?_⟩;(go_simp;exact rfl);go_simp) | (refine Q0q ?_ ?_ ?_;(decide);(first | rfl | (focus (go_simp;done)));apply Exists.intro;refine ⟨fun wc hE=>?_,?_⟩;(go_simp;(first | (with_reducible exact Q1p (Qlw j6 t f capf bt' capt' _ (K5.out.ext (by assumption)) (KT5.out.ext (by assumption))))));go_simp) | (refine Q0n ?_ ?_ ?_;(decide);(focus (go_simp;done));go_simp))
           refine Q0o ?_
           intro wy hy
           have XE6:=Lib.hid (XE5.out.trans hy)
           have T6:=Lib.hid (T5.out.ext hy)
           have L6:=Lib.hid (L5.out.ext hy)
           have K6':=Lib.hid (K5.out.ext hy)
           have BU:=Lib.hid (BU.out.ext hy)
           have g0:=Q0a hy g0
           have g1:=Q0a hy g1
           clear hy v0 v1 d0 d1
           by_cases hj:j6=t
           ·have hd:decide (j6=t)=true:=by simpa using hj
            have HJ4:=Lib.hid (HJ3.out hj)
            rw [hd]
            clear hj
            go_wp2
            go_roundw
            case rel=>exact ⟨U,ag',k+1,rfl,by go_num,by omega,HJ4.out,T6.out,L6.out,XE6.out⟩
            case measure=>first | (simp [intOf];done) | (simp [intOf];omega)
           ·have hd:decide (j6=t)=false:=by simpa using hj
            have HJ2:=Lib.hid (HJ2.out hj)
            rw [hd]
            clear hj
            have bU:=BU.out
            have v0:wy.cell? ⟨u,0,none⟩=some (.bool true):=by rw [bU.cell];rfl
            have v1:wy.cell? ⟨u,1,none⟩=some (.slice (some ⟨f,0,none⟩) 8 capf):=by rw [bU.cell];rfl
            have hkl2:=T6.out.lt
            clear bU
            go_wp2
            go_roundw
            case rel =>
             have hlow:ks < w3.heap.size:=hB
             exact ⟨U.set xn (some j6),true,k+1,rfl,by go_num,by omega,HJ2.out,T6.out.put HTL.out hxn (K6'.out.mono (Nat.zero_le _)),((L6.out.low (p:=⟨ks,xn * 2,none⟩) hlow _).low (p:=⟨ks,xn * 2+1,none⟩) hlow _),(XE6.out.setCell (p:=⟨ks,xn * 2,none⟩) HksW.out _).setCell (p:=⟨ks,xn * 2+1,none⟩) HksW.out _⟩
            case measure=>first | (simp [intOf];done) | (simp [intOf];omega)
       ·have hje:k=L.length:=by omega
        subst hje
        have HA2:=Lib.hid (HK.out.end_ (by rw [HLL.out];exact Nat.le_refl _))
        have hlt2:decide ((L.length:Int) < (L.length:Int))=false:=by simp
        clear hT hL
        go_wp2
        go_roundw
        case rel=>exact ⟨U,ag',a+1,rfl,by go_num,by omega,HA2.out,HT.out,XE.out⟩
        case measure=>first | (simp [intOf];done) | (simp [intOf];omega)
    ·have hje:a=p.code.length:=by omega
     subst hje
     have hlt2:decide ((p.code.length:Int) < (p.code.length:Int))=false:=by simp
     have HR:Hid (RndS p W ks (.bool ag) wr (if ag=true then phi T'+1 else 0)):=Lib.hid ⟨T',ag,rfl,HT.out,XE.out,HA.out.tok,HA.out.under,HA.out.first,fun e=>by subst e;exact HA.out.least (Nat.le_refl _),rfl⟩
     have HM:Hid (mu (.bool ag) wr < m0):=Lib.hid (by
      have h1:=(Hmu.out _ _ _ HR.out).2
      have h2:=Hn.out
      cases ag
      ·simp only [if_false,Bool.false_eq_true] at h1
       omega
      ·have h3:=HA.out.some_ rfl
       simp only [if_true] at h1
       omega)
     clear hT
     go_wp2
     go_roundw
     case rel=>exact ⟨_,HR.out⟩
     case measure=>rw [Hm0.out];exact HM.out
end Go.Proofs.Yteiknefajlocoaa
