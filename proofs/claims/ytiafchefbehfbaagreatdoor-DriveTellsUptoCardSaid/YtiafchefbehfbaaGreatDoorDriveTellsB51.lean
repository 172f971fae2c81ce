/- Laid together from: Drz, Dmi, Drc, Kma, Kmc, Kmd, Krz. -/
import Derived.Test.YtiafchefbehfbaaGreatDoorDriveTellsB49
import Derived.Test.YtiafchefbehfbaaGreatDoorDriveTellsB48

namespace Go.Proofs.YtiafchefbehfbaaGreatDoor
open Go.ChangeShapes Go.WideShapes Go.ChangeAt Go.RowKit
set_option linter.unusedVariables false
set_option linter.unusedSimpArgs false
theorem Qj2 {A:Q82} {s:LPl} {t W0:List UInt8} {ws:List (List UInt8)} (hs:Q08 32 t=W0 :: ws) (hn:Q0m ws=none):Q20 A s t=([63],s):=by
 unfold Q20
 rw [hs]
 show (match Q0m ws with | none=>_ | some l=>_)=_
 rw [hn]
theorem Qj1 {A:Q82} {s:LPl} {t W0:List UInt8} {ws:List (List UInt8)} {l:List Int} (hs:Q08 32 t=W0 :: ws) (hn:Q0m ws=some l):Q20 A s t=Q2o A s W0 l:=by
 unfold Q20
 rw [hs]
 show (match Q0m ws with | none=>_ | some l=>_)=_
 rw [hn]
 rfl
theorem Qcw {c:UInt8}:∀ {s x:List UInt8},Q08 c s=[x]→s=x
 | [],x,h=>by
  simp only [Q08,List.cons.injEq,and_true] at h
  exact h
 | y :: s,x,h=>by
  have hn:=Q86 c s
  rw [Q08] at h
  split at h
  ·simp only [List.cons.injEq] at h
   exact absurd h.2 hn
  ·cases hq:Q08 c s with
   | nil=>exact absurd hq hn
   | cons z r =>
    rw [hq] at h
    simp only [List.headD_cons,List.tail_cons,List.cons.injEq] at h
    obtain ⟨h1,rfl⟩:=h
    rw [Qcw hq,← h1]
theorem Qi8 {ws:List (List UInt8)} (h:Q0m ws=some []):ws=[]:=by
 have:=Q3s ws [] h
 exact List.eq_nil_of_length_eq_zero (by simpa using this.symm)
def Qfk (t W0:List UInt8) (ws:List (List UInt8)):Prop:=ws.length+1≤t.length+1∧Q08 32 t=W0 :: ws∧W0.length≤t.length∧∀ x ∈ ws,x.length≤t.length
theorem Q3g {t W0:List UInt8} {ws:List (List UInt8)} (h:Q08 32 t=W0 :: ws):Qfk t W0 ws:=by
 have h1:=Q8z 32 t
 have h2:=fun x (hx:x ∈ Q08 32 t)=>Q98 32 t x hx
 rw [h] at h1 h2
 refine ⟨?_,h,h2 _ (by simp),fun x hx=>h2 x (List.mem_cons_of_mem _ hx)⟩
 rw [List.length_cons] at h1
 have:=List.count_le_length (a:=(32:UInt8)) (l:=t)
 omega
theorem Qmf {w:World} {k:Nat} {W0:List UInt8} {ws:List (List UInt8)} (h:∀ j,j < (W0 :: ws).length→w.cell? ⟨k,j,none⟩=some (str ((W0 :: ws).getD j []))) (hk:k < w.heap.size) (hn:ws.length≤1000000001) (oa:Option Addr) (c:Nat) (ho:0 < ws.length→oa=some ⟨k,1,none⟩):Qfl w (.slice oa ws.length c) ws :=
 ⟨oa,k,1,c,rfl,hn,ho,fun _=>hk,fun j hj=>by
  have:=h (j+1) (by simp;omega)
  rw [Nat.add_comm 1 j,this]
  rfl⟩
theorem Qad {w:World} {v:Value} {a:Int} (h:Q2z w v [a]):∃ bl o cap,v=.slice (some ⟨bl,o,none⟩) 1 cap∧w.cell? ⟨bl,o,none⟩=some (.int .i64 a):=by
 obtain ⟨-,oa,cap,bl,o,rfl,-,-,hrow⟩:=h
 have h0:=hrow.one 0 (by simp)
 obtain rfl:=hrow.at_ (by simp)
 exact ⟨bl,o,cap,rfl,h0⟩
theorem Qjn {w:World} {v:Value} {a b c d e:Int} (h:Q2z w v [a,b,c,d,e]):∃ bl o cap,v=.slice (some ⟨bl,o,none⟩) 5 cap∧w.cell? ⟨bl,o,none⟩=some (.int .i64 a)∧w.cell? ⟨bl,o+1,none⟩=some (.int .i64 b)∧w.cell? ⟨bl,o+2,none⟩=some (.int .i64 c)∧w.cell? ⟨bl,o+3,none⟩=some (.int .i64 d)∧w.cell? ⟨bl,o+4,none⟩=some (.int .i64 e):=by
 obtain ⟨-,oa,cap,bl,o,rfl,-,-,hrow⟩:=h
 have h0:=hrow.one 0 (by simp)
 have h1:=hrow.one 1 (by simp)
 have h2:=hrow.one 2 (by simp)
 have h3:=hrow.one 3 (by simp)
 have h4:=hrow.one 4 (by simp)
 obtain rfl:=hrow.at_ (by simp)
 exact ⟨bl,o,cap,rfl,h0,h1,h2,h3,h4⟩
theorem Qda {w:World} {B:Nat} {v:Value} {l:List Int} (h:w.ownsRow B 2 1 v l.length (l.map (Value.int .i64))) (hl:1≤l.length∧l.length≤64):∃ kv cv,v=.slice (some ⟨kv,0,none⟩) l.length cv∧l.length≤64:=by
 obtain ⟨k,cap,hv,-,-⟩:=own_at' h (by omega)
 exact ⟨k,cap,hv,hl.2⟩
theorem Qn5 (kw n cw:Nat) (hn:n+1≤cw) (W:World) :
  (Instr.slice 22 (.slice (some ⟨kw,0,none⟩) (n+1) cw) (some (.int .i64 1)) none none).run Tryz.prog W=.ok (.slice (if cw=1 then some ⟨kw,0,none⟩ else some ⟨kw,1,none⟩) n (cw - 1)) W:=by
 have hu:Tryz.prog.underlying 22 = some (.slice (Tryz.prog.elem 22)):=by kernel_rfl
 have hz:(sizeOf (Tryz.prog.elem 22)).run Tryz.prog W=.ok 1 W:=by kernel_rfl
 rw [run_slice_l (P:=Tryz.prog) W 22 (some ⟨kw,0,none⟩) (n+1) cw hu .i64 1 (by omega) (by omega),hz]
 simp only [Result.andThen,sliced]
 by_cases h:cw=1
 ·subst h
  simp
 ·rw [if_neg (by simpa using h),if_neg h]
  simp only [Option.map_some,Q4d]
  rfl
theorem Qn6 (k o n cw:Nat) (hn:n+1≤cw):∃ oa,(0 < n→oa=some ⟨k,o+1,none⟩)∧∀ W:World,
  (Instr.slice 35 (.slice (some ⟨k,o,none⟩) (n+1) cw) (some (.int .i64 1)) none none).run Tryz.prog W=.ok (.slice oa n (cw - 1)) W:=by
 refine ⟨if cw=1 then some ⟨k,o,none⟩ else some ⟨k,o+1,none⟩,fun h=>by rw [if_neg (by omega)],fun W=>?_⟩
 have hu:Tryz.prog.underlying 35 = some (.slice (Tryz.prog.elem 35)):=by kernel_rfl
 have hz:(sizeOf (Tryz.prog.elem 35)).run Tryz.prog W=.ok 1 W:=by kernel_rfl
 rw [run_slice_l (P:=Tryz.prog) W 35 (some ⟨k,o,none⟩) (n+1) cw hu .i64 1 (by omega) (by omega),hz]
 simp only [Result.andThen,sliced]
 by_cases h:cw=1
 ·subst h
  simp
 ·rw [if_neg (by simpa using h),if_neg h]
  simp only [Option.map_some,Q4d]
  rfl
theorem Q3e {t W0:List UInt8} {ws:List (List UInt8)} {w5:World} {v5:Value} (h:Qfk t W0 ws) (hT:t.length≤1000000000) (hv:Qap w5 v5 (Q08 32 t)) :
  ∃ kw cw oa,v5=.slice (some ⟨kw,0,none⟩) (ws.length+1) cw∧ws.length+1≤cw∧ws.length≤1000000001∧Hid (∀ W,Ext w5 W→W.cell? ⟨kw,0,none⟩=some (str W0)) ∧
   (∀ W i,0≤i→i < ((ws.length+1:Nat):Int)→(Instr.indexAt 22 (.slice (some ⟨kw,0,none⟩) (ws.length+1) cw) (.int .i64 i)).run Tryz.prog W=.ok (.pointer (some ⟨kw,0+i.toNat,none⟩)) W) ∧
   (∀ W,(Instr.slice 22 (.slice (some ⟨kw,0,none⟩) (ws.length+1) cw) (some (.int .i64 1)) none none).run Tryz.prog W=.ok (.slice oa ws.length (cw - 1)) W) ∧
   Hid (Qfl w5 (.slice oa ws.length (cw - 1)) ws)∧Hid (∀ x ∈ ws,x.length≤1000000000):=by
 obtain ⟨h1,h2,h3,h4⟩:=h
 rw [h2] at hv
 obtain ⟨kw,cw,rfl,hcw,hcmw,hkw,hcells⟩:=hv
 rw [List.length_cons] at hcw
 refine ⟨kw,cw,_,by rw [List.length_cons],hcw,by omega,zh fun W X=>X.kept (hcells 0 (by simp)),Q5l (fun _=>rfl),fun W=>Qn5 kw ws.length cw hcw W,zh (Qmf hcells hkw (by omega) _ _ fun hp=>?_),zh fun x hx=>Nat.le_trans (h4 x hx) hT⟩
 rw [if_neg (by omega)]
theorem Q67 {t W0:List UInt8} {ws:List (List UInt8)} {w5:World} {B:Nat} {v5:Value} (h:Qfk t W0 ws) (hT:t.length≤1000000000) (hv:w5.ownsRow B 9 1 v5 (Q08 32 t).length ((Q08 32 t).map str)) :
  ∃ kw cw,v5=.slice (some ⟨kw,0,none⟩) (ws.length+1) cw∧ws.length≤1000000000∧Hid (∀ W,Ext w5 W→∀ j,j < ws.length+1→W.cell? ⟨kw,j,none⟩=some (str ((W0 :: ws).getD j []))) ∧
   (∀ W i,0≤i→i < ((ws.length+1:Nat):Int)→(Instr.indexAt 22 (.slice (some ⟨kw,0,none⟩) (ws.length+1) cw) (.int .i64 i)).run Tryz.prog W=.ok (.pointer (some ⟨kw,i.toNat,none⟩)) W):=by
 obtain ⟨h1,h2,h3,h4⟩:=h
 rw [h2] at hv
 rw [List.length_cons] at hv
 obtain ⟨kw,cw,rfl,-,hc⟩:=own_at' hv (by omega)
 refine ⟨kw,cw,rfl,by omega,zh fun W X j hj=>X.kept (hc j (str ((W0 :: ws).getD j [])) hj ?_).1,fun W i h0 h1=>?_⟩
 ·rw [List.getElem?_map,List.getD_eq_getElem?_getD,List.getElem?_eq_getElem (by simpa using hj)]
  rfl
 ·have:=Q5l (oa:=some ⟨kw,0,none⟩) (n:=ws.length+1) (b:=kw) (o:=0) (cap:=cw) (fun _=>rfl) W i h0 h1
  simpa using this
theorem Q6d (ws:List (List UInt8)) (W0:List UInt8) {j:Nat} (h:1≤j):(W0 :: ws).getD j []=ws.getD (j - 1) []:=by
 cases j with
 | zero=>omega
 | succ k=>rfl
theorem PlSt.put_ {w0 wr:World} {B g T:Nat} {vR vC vM:Value} {p:Q00} {L:List (Value × List Int)} (h:PlSt w0 wr B g T vR vC vM p L) {i k n cap x:Nat} {l:List Int} (hi:L[i]? = some (.slice (some ⟨k,0,none⟩) n cap,l)) {z:Int} (hz:R64 z) :
  PlSt w0 (wr.setCell ⟨k,x,none⟩ (.int .i64 z)) B g T vR vC vM p (L.set i (.slice (some ⟨k,0,none⟩) n cap,l.set x z)):=by
 have ho:=h.fam.at_ hi
 obtain rfl:n=l.length:=by
  rcases ho.2 with ⟨h0,-⟩ | ⟨g,c,cur,hv,-⟩
  ·cases h0
  ·simp only [Value.slice.injEq] at hv
   exact hv.2.1
 refine h.row_ hi (Q92 wr ⟨k,x,none⟩ _) ?_ (fun y hy=>?_)
 ·have:=(ho.stored x (.int .i64 z)).1
  rw [List.length_set,List.map_set]
  exact this
 ·rcases List.mem_or_eq_of_mem_set hy with h1 | rfl
  ·exact h.f64 _ (List.mem_of_getElem? hi) y h1
  ·exact hz
section
variable {w0 w : World} {B g : Nat} {vR vC vM : Value} {p : Q00} {L : List (Value × List Int)} {t : List UInt8} {ws : List (List UInt8)}
set_option maxRecDepth 100000
set_option maxHeartbeats 16000000
theorem Quq (h:PlSt w0 w B g 65 vR vC vM p L) (hg:Q0x ⟨p,L.map (·.2)⟩) (ht:Tab9 w0) (hT:t.length≤1000000000) (a b c d n:Int) (hs:Q08 32 t=[105,110,115] :: ws) (hn:Q0m ws=some ([a,b,c,d,n])) :
  Calls Tryz.prog 20 #[.pointer (some ⟨g,0,none⟩),str t] w (Q07 (if p.code.length < 200 then (sayT okW [(p.code.length:Int)+1],⟨⟨p.regs,p.code ++ [⟨a,b,c,d,n⟩]⟩,L.map (·.2)⟩) else ([63],⟨p,L.map (·.2)⟩)) w0 B g 65):=by
 have HS:=zh h
 have Hg:=zh hg
 have Ht:=zh ht
 have HT:=zh hT
 have Hn:=zh hn
 have HW:=zh (Q3g hs)
 obtain ⟨oR,cR,rfl⟩:=Q02 h.rg
 obtain ⟨oC,cC,rfl⟩:=Q02 h.cd
 obtain ⟨oM,cM,rfl⟩:=Q02 h.mo
 have HSp:=zh (Q4k 32 _ hT w (ht.ext h.ext))
 clear h hg ht hT hn hs
 go_enter Tryz.func20,Tryz.ntmps20
 go_wp2_with fail
 (with_reducible refine HSp.out.mono ?_)
 clear HSp
 rintro e w5 ⟨v5,rfl,hv,hx⟩
 have HS5:=zh (HS.out.extend hx)
 obtain ⟨kw,cw,ow,rfl,hcw,hwl,Hcw,hix,hsl,Hrow,Hwl⟩:=Q3e HW.out HT.out hv
 clear hx hv
 go_wp2_with fail
 (with_reducible refine (Q65 ws _ w5 Hrow.out Hwl.out (Ht.out.ext HS5.out.ext)).mono ?_)
 clear hsl Hrow Hwl
 rintro e w6 ⟨v6,b6,rfl,hx,hc⟩
 have HS6:=zh (HS5.out.extend hx)
 have cw0:=Hcw.out w6 hx
 clear hx Hcw
 rcases hc with ⟨rfl,l',hl',hown⟩ | ⟨rfl,hno⟩
 case inr=>exact absurd (Hn.out.symm.trans hno) (by simp)
 obtain rfl:=Option.some.inj (Hn.out.symm.trans hl')
 have hv:=Q32 hown (fun x hx=>(Q3a _ _ Hn.out x hx).r64)
 clear hown hl'
 obtain ⟨bl,ol,cl,rfl,c0,c1,c2,c3,c4⟩:=Qjn hv
 have hil:=Q3o (oa:=some ⟨bl,ol,none⟩) (n:=5) (b:=bl) (o:=ol) (cap:=cl) (fun _=>rfl)
 by_cases hc:p.code.length < 200
 ·obtain ⟨i0,hi0,hz0,hz1,hz2⟩:=info_parts Qjz
  have h200:(p.code.length:Int) < 200:=by omega
  have HRl:Hid (R64 ((p.code.length:Int)+1)):=zh ⟨by omega,by omega⟩
  have HF:Hid (LIns.fits ⟨a,b,c,d,n⟩):=zh (by
   have h6:=Q3a _ _ Hn.out
   exact ⟨(h6 a (by simp)).r64,(h6 b (by simp)).r64,(h6 c (by simp)).r64,(h6 d (by simp)).r64,(h6 n (by simp)).r64⟩)
  obtain ⟨d0,d1,d2⟩:=HS6.out.cells
  have hgl:=HS6.out.box.lt
  clear hv
  go_upto_region 11 with fail
  have q0:∀ Wx,Ext w6 Wx→Wx.cell? ⟨bl,ol,none⟩=some (.int .i64 a):=fun _ h=>h.kept c0
  have q1:∀ Wx,Ext w6 Wx→Wx.cell? ⟨bl,ol+1,none⟩=some (.int .i64 b):=fun _ h=>h.kept c1
  have q2:∀ Wx,Ext w6 Wx→Wx.cell? ⟨bl,ol+2,none⟩=some (.int .i64 c):=fun _ h=>h.kept c2
  have q3:∀ Wx,Ext w6 Wx→Wx.cell? ⟨bl,ol+3,none⟩=some (.int .i64 d):=fun _ h=>h.kept c3
  have q4:∀ Wx,Ext w6 Wx→Wx.cell? ⟨bl,ol+4,none⟩=some (.int .i64 n):=fun _ h=>h.kept c4
  have k1:∀ Wx,Ext w6 Wx→Wx.cell? ⟨g,1,none⟩=some (.slice oC p.code.length cC):=fun _ h=>h.kept d1.1
  clear c0 c1 c2 c3 c4 cw0 d0 d1 d2
  refine Q23 [22,23,24,25,26,27] 1 (by kernel_rfl) (by kernel_rfl) ?_
  repeat (first | (refine Q1x ?_ ?_;(decide)) | (refine Q1o ?_ ?_ ?_;(decide);(first | rfl | (focus (go_simp;done)));apply Exists.intro;refine ⟨fun wc hE=>?_,?_⟩;(go_simp;exact rfl);go_simp) | (refine Q1v ?_ ?_ ?_;(decide);(focus (go_simp;done));go_simp))
  refine Q1w ?_
  intro w7 hx
  have HS7:=zh (HS6.out.extend hx)
  have HX:=zh hx
  have hBs7:=HS7.out.size
  clear k1 q0 q1 q2 q3 q4 hx
  refine Q01 rfl ?_
  go_wp2
  refine ⟨HX.out.alloc _,?_⟩
  refine Q1q (Q0c rfl (Q0c rfl (Q0c rfl (Q0c rfl (Q0c rfl (Q22)))))) ?_
  refine Q1b _ rfl _ _ 26 rfl B 41 i0 _ 5 40 Tryz.underlying26 hi0 hz0 hz1 hz2 rfl (by decide) _ _ _ rfl (Q1r HS7.out.cd) (some ⟨w7.heap.size,0,none⟩) 1 1 (Q21 ⟨a,b,c,d,n⟩) rfl ?c1 ?c3 ?c4 ?c5 ?_
  case c1=>exact Q1y (size:=5) (Blk.new w7 41 #[.int .i64 a,.int .i64 b,.int .i64 c,.int .i64 d,.int .i64 n]) rfl (by simp [Value.oneCell'])
  case c3=>unfold maxLen;omega
  case c4=>omega
  case c5=>simp;omega
  intro vC' w8 hown hgrow hat2
  clear hat2
  obtain ⟨oC2,cC2,rfl⟩:=Q02 hown
  have hxa:=(Ext.refl w7).alloc (.cells #[.int .i64 a,.int .i64 b,.int .i64 c,.int .i64 d,.int .i64 n] 41)
  have HSa:=HS7.out.extend hxa
  have hgrow:(w7.alloc (.cells #[.int .i64 a,.int .i64 b,.int .i64 c,.int .i64 d,.int .i64 n] 41)).grownBy w8 (Value.slice oC p.code.length cC).ownBlock:=hgrow
  have hlen:(p.code ++ [(⟨a,b,c,d,n⟩:LIns)]).length=p.code.length+1:=by simp
  have HS8:Hid (PlSt w0 (w8.setCell ⟨g,1,none⟩ (.slice oC2 (p.code.length+1) cC2)) B g 65 (.slice oR p.regs.length cR) (.slice oC2 (p.code.length+1) cC2) (.slice oM L.length cM) ⟨p.regs,p.code ++ [⟨a,b,c,d,n⟩]⟩ L):=zh (HSa.code_ hgrow (by rw [hlen,List.flatMap_append];simpa using hown) (fun r hr=>by rcases List.mem_append.1 hr with h | h;exact HS7.out.fc r h;rw [List.mem_singleton.1 h];exact HF.out))
  have hb8:=HSa.box.grown hgrow (Q09 HSa.cd HSa.box HSa.ni)
  have p1:w8.cell? ⟨g,1,none⟩=some (.slice oC p.code.length cC)∧w8.frozen? ⟨g,1,none⟩=false:=⟨by rw [hb8.cell];rfl,hb8.frozen _⟩
  have hgo8:=hb8.lt
  clear hown hgrow hxa HSa hb8 hlen hgl
  go_upto_region 12 with fail
  obtain ⟨d0,d1,d2⟩:=HS8.out.cells
  have hgl:=HS8.out.box.lt
  generalize hW9:w8.setCell ⟨g,1,none⟩ (.slice oC2 (p.code.length+1) cC2)=w9 at *
  clear hW9 p1 hgo8
  go_wp2_with fail
  (with_reducible refine (Q89 [111,107] _ HRl.out _ _ _ (Blk.new w9 3 #[.int .i64 ((p.code.length:Int)+1)]) (by simp) (Ht.out.tabs.ext (HS8.out.ext.alloc _))).mono ?_)
  rintro e w10 ⟨rfl,hx⟩
  have HS10:=zh (HS8.out.extend (((Ext.refl w9).alloc _).trans hx))
  clear hx d0 d1 d2
  go_wp2
  go_ret
  try rw [if_pos hc]
  exact ⟨rfl,_,_,_,L,rfl,HS10.out⟩
 ·have h200:(200:Int)≤(p.code.length:Int):=by omega
  obtain ⟨d0,d1,d2⟩:=HS6.out.cells
  have hgl:=HS6.out.box.lt
  clear hv
  go_wp2
  go_ret
  try rw [if_neg hc]
  exact Q07.same (s:=⟨p,L.map (·.2)⟩) rfl HS6.out
end
section
variable {w0 w : World} {B g : Nat} {vR vC vM : Value} {p : Q00} {L : List (Value × List Int)} {t : List UInt8} {ws : List (List UInt8)}
set_option maxRecDepth 100000
set_option maxHeartbeats 16000000
theorem Qum (h:PlSt w0 w B g 65 vR vC vM p L) (hg:Q0x ⟨p,L.map (·.2)⟩) (ht:Tab9 w0) (hT:t.length≤1000000000) (a b:Int) (hs:Q08 32 t=[114,101,103,105,111,110] :: ws) (hn:Q0m ws=some ([a,b])) :
  Calls Tryz.prog 20 #[.pointer (some ⟨g,0,none⟩),str t] w (Q07 (Q2e ⟨p,L.map (·.2)⟩ a b) w0 B g 65):=by
 have HS:=zh h
 have Hg:=zh hg
 have Ht:=zh ht
 have HT:=zh hT
 have Hn:=zh hn
 have HW:=zh (Q3g hs)
 obtain ⟨oR,cR,rfl⟩:=Q02 h.rg
 obtain ⟨oC,cC,rfl⟩:=Q02 h.cd
 obtain ⟨oM,cM,rfl⟩:=Q02 h.mo
 have HSp:=zh (Q4k 32 _ hT w (ht.ext h.ext))
 clear h hg ht hT hn hs
 go_enter Tryz.func20,Tryz.ntmps20
 go_wp2_with fail
 (with_reducible refine HSp.out.mono ?_)
 clear HSp
 rintro e w5 ⟨v5,rfl,hv,hx⟩
 have HS5:=zh (HS.out.extend hx)
 obtain ⟨kw,cw,ow,rfl,hcw,hwl,Hcw,hix,hsl,Hrow,Hwl⟩:=Q3e HW.out HT.out hv
 clear hx hv
 go_wp2_with fail
 (with_reducible refine (Q65 ws _ w5 Hrow.out Hwl.out (Ht.out.ext HS5.out.ext)).mono ?_)
 clear hsl Hrow Hwl
 rintro e w6 ⟨v6,b6,rfl,hx,hc⟩
 have HS6:=zh (HS5.out.extend hx)
 have cw0:=Hcw.out w6 hx
 clear hx Hcw
 rcases hc with ⟨rfl,l',hl',hown⟩ | ⟨rfl,hno⟩
 case inr=>exact absurd (Hn.out.symm.trans hno) (by simp)
 obtain rfl:=Option.some.inj (Hn.out.symm.trans hl')
 have hv:=Q32 hown (fun x hx=>(Q3a _ _ Hn.out x hx).r64)
 clear hown hl'
 obtain ⟨bl,ol,cl,rfl,c0,c1⟩:=Qee hv
 have hil:=Q3o (oa:=some ⟨bl,ol,none⟩) (n:=2) (b:=bl) (o:=ol) (cap:=cl) (fun _=>rfl)
 clear hv
 go_upto_region 7 with fail
 have q0:∀ Wx,Ext w6 Wx→Wx.cell? ⟨bl,ol,none⟩=some (.int .i64 a):=fun _ h=>h.kept c0
 have q1:∀ Wx,Ext w6 Wx→Wx.cell? ⟨bl,ol+1,none⟩=some (.int .i64 b):=fun _ h=>h.kept c1
 clear c0 c1 cw0 hix
 refine Q23 [7,8] 0 (by kernel_rfl) (by kernel_rfl) ?_
 repeat (first | (refine Q1x ?_ ?_;(decide)) | (refine Q1o ?_ ?_ ?_;(decide);(first | rfl | (focus (go_simp;done)));apply Exists.intro;refine ⟨fun wc hE=>?_,?_⟩;(go_simp;exact rfl);go_simp) | (refine Q1v ?_ ?_ ?_;(decide);(focus (go_simp;done));go_simp))
 refine Q1w ?_
 intro w7 hx
 have HS7:=zh (HS6.out.extend hx)
 clear hx q0 q1
 refine Q1q (Q0c rfl (Q0c rfl (Q22))) ?_
 go_wp2_with fail
 (with_reducible refine (Quh HS7.out Hg.out a b Ht.out.tabs).mono ?_)
 rintro e w8 ⟨rfl,h8⟩
 have H8:=zh h8
 clear h8
 go_wp2
 go_ret
 exact ⟨rfl,H8.out⟩
theorem Qur (h:PlSt w0 w B g 65 vR vC vM p L) (hg:Q0x ⟨p,L.map (·.2)⟩) (ht:Tab9 w0) (hT:t.length≤1000000000) (a:Int) (cs:List Int) (hs:Q08 32 t=[102,105,108,108] :: ws) (hn:Q0m ws=some (a :: cs)) :
  Calls Tryz.prog 20 #[.pointer (some ⟨g,0,none⟩),str t] w (Q07 (Q36 ⟨p,L.map (·.2)⟩ (a :: cs)) w0 B g 65):=by
 have HS:=zh h
 have Hg:=zh hg
 have Ht:=zh ht
 have HT:=zh hT
 have Hn:=zh hn
 have HW:=zh (Q3g hs)
 obtain ⟨oR,cR,rfl⟩:=Q02 h.rg
 obtain ⟨oC,cC,rfl⟩:=Q02 h.cd
 obtain ⟨oM,cM,rfl⟩:=Q02 h.mo
 have HSp:=zh (Q4k 32 _ hT w (ht.ext h.ext))
 clear h hg ht hT hn hs
 go_enter Tryz.func20,Tryz.ntmps20
 go_wp2_with fail
 (with_reducible refine HSp.out.mono ?_)
 clear HSp
 rintro e w5 ⟨v5,rfl,hv,hx⟩
 have HS5:=zh (HS.out.extend hx)
 obtain ⟨kw,cw,ow,rfl,hcw,hwl,Hcw,hix,hsl,Hrow,Hwl⟩:=Q3e HW.out HT.out hv
 clear hx hv
 go_wp2_with fail
 (with_reducible refine (Q65 ws _ w5 Hrow.out Hwl.out (Ht.out.ext HS5.out.ext)).mono ?_)
 clear hsl Hrow Hwl
 rintro e w6 ⟨v6,b6,rfl,hx,hc⟩
 have HS6:=zh (HS5.out.extend hx)
 have cw0:=Hcw.out w6 hx
 clear hx Hcw
 rcases hc with ⟨rfl,l',hl',hown⟩ | ⟨rfl,hno⟩
 case inr=>exact absurd (Hn.out.symm.trans hno) (by simp)
 obtain rfl:=Option.some.inj (Hn.out.symm.trans hl')
 have hv:=Q32 hown (fun x hx=>(Q3a _ _ Hn.out x hx).r64)
 clear hown hl'
 have Hcl:Hid (cs.length≤1000000001):=zh (by have:=Q3s _ _ Hn.out;simp only [List.length_cons] at this;omega)
 obtain ⟨bl,ol,cl,hve,-⟩:=Q8l hv
 rw [hve] at hv
 subst hve
 have Hv:=zh hv
 have hge:(1:Int)≤((cs.length+1:Nat):Int):=by omega
 clear hv
 go_wp2_with fail
 (with_reducible refine (Quu HS6.out Hg.out a cs _ Hv.out Hcl.out).mono ?_)
 rintro e w7 ⟨rfl,h7⟩
 have H7:=zh h7
 clear h7
 go_wp2
 go_ret
 exact ⟨rfl,H7.out⟩
theorem Quo (h:PlSt w0 w B g 65 vR vC vM p L) (hg:Q0x ⟨p,L.map (·.2)⟩) (ht:Tab9 w0) (hT:t.length≤1000000000) (a:Int) (ha:a < 0∨(L.length:Int)≤a) (hs:Q08 32 t=[108,111,111,107] :: ws) (hn:Q0m ws=some ([a])) :
  Calls Tryz.prog 20 #[.pointer (some ⟨g,0,none⟩),str t] w (Q07 ([63],⟨p,L.map (·.2)⟩) w0 B g 65):=by
 have HS:=zh h
 have Hg:=zh hg
 have Ht:=zh ht
 have HT:=zh hT
 have Hn:=zh hn
 have HW:=zh (Q3g hs)
 obtain ⟨oR,cR,rfl⟩:=Q02 h.rg
 obtain ⟨oC,cC,rfl⟩:=Q02 h.cd
 obtain ⟨oM,cM,rfl⟩:=Q02 h.mo
 have HSp:=zh (Q4k 32 _ hT w (ht.ext h.ext))
 clear h hg ht hT hn hs
 go_enter Tryz.func20,Tryz.ntmps20
 go_wp2_with fail
 (with_reducible refine HSp.out.mono ?_)
 clear HSp
 rintro e w5 ⟨v5,rfl,hv,hx⟩
 have HS5:=zh (HS.out.extend hx)
 obtain ⟨kw,cw,ow,rfl,hcw,hwl,Hcw,hix,hsl,Hrow,Hwl⟩:=Q3e HW.out HT.out hv
 clear hx hv
 go_wp2_with fail
 (with_reducible refine (Q65 ws _ w5 Hrow.out Hwl.out (Ht.out.ext HS5.out.ext)).mono ?_)
 clear hsl Hrow Hwl
 rintro e w6 ⟨v6,b6,rfl,hx,hc⟩
 have HS6:=zh (HS5.out.extend hx)
 have cw0:=Hcw.out w6 hx
 clear hx Hcw
 rcases hc with ⟨rfl,l',hl',hown⟩ | ⟨rfl,hno⟩
 case inr=>exact absurd (Hn.out.symm.trans hno) (by simp)
 obtain rfl:=Option.some.inj (Hn.out.symm.trans hl')
 have hv:=Q32 hown (fun x hx=>(Q3a _ _ Hn.out x hx).r64)
 clear hown hl'
 obtain ⟨bl,ol,cl,rfl,c0⟩:=Qad hv
 have hil:=Q3o (oa:=some ⟨bl,ol,none⟩) (n:=1) (b:=bl) (o:=ol) (cap:=cl) (fun _=>rfl)
 have Ha:=zh ha
 clear hv ha
 go_wp2_with fail
 (with_reducible refine (Qkm HS6.out Ha.out).mono ?_)
 rintro e w7 ⟨rfl,rfl⟩
 go_wp2
 go_ret
 exact Q07.same (s:=⟨p,L.map (·.2)⟩) rfl HS6.out
theorem Qup (h:PlSt w0 w B g 65 vR vC vM p L) (hg:Q0x ⟨p,L.map (·.2)⟩) (ht:Tab9 w0) (hT:t.length≤1000000000) (i:Nat) (v:Value) (r:List Int) (hi:L[i]? = some (v,r)) (hs:Q08 32 t=[108,111,111,107] :: ws) (hn:Q0m ws=some ([(i:Int)])) :
  Calls Tryz.prog 20 #[.pointer (some ⟨g,0,none⟩),str t] w (Q07 (sayT isW r,⟨p,L.map (·.2)⟩) w0 B g 65):=by
 have HS:=zh h
 have Hg:=zh hg
 have Ht:=zh ht
 have HT:=zh hT
 have Hn:=zh hn
 have HW:=zh (Q3g hs)
 have Hi:=zh hi
 obtain ⟨oR,cR,rfl⟩:=Q02 h.rg
 obtain ⟨oC,cC,rfl⟩:=Q02 h.cd
 obtain ⟨oM,cM,rfl⟩:=Q02 h.mo
 have HSp:=zh (Q4k 32 _ hT w (ht.ext h.ext))
 clear h hg ht hT hn hs
 go_enter Tryz.func20,Tryz.ntmps20
 go_wp2_with fail
 (with_reducible refine HSp.out.mono ?_)
 clear HSp
 rintro e w5 ⟨v5,rfl,hv,hx⟩
 have HS5:=zh (HS.out.extend hx)
 obtain ⟨kw,cw,ow,rfl,hcw,hwl,Hcw,hix,hsl,Hrow,Hwl⟩:=Q3e HW.out HT.out hv
 clear hx hv
 go_wp2_with fail
 (with_reducible refine (Q65 ws _ w5 Hrow.out Hwl.out (Ht.out.ext HS5.out.ext)).mono ?_)
 clear hsl Hrow Hwl
 rintro e w6 ⟨v6,b6,rfl,hx,hc⟩
 have HS6:=zh (HS5.out.extend hx)
 have cw0:=Hcw.out w6 hx
 clear hx Hcw
 rcases hc with ⟨rfl,l',hl',hown⟩ | ⟨rfl,hno⟩
 case inr=>exact absurd (Hn.out.symm.trans hno) (by simp)
 obtain rfl:=Option.some.inj (Hn.out.symm.trans hl')
 have hv:=Q32 hown (fun x hx=>(Q3a _ _ Hn.out x hx).r64)
 clear hown hl'
 obtain ⟨bl,ol,cl,rfl,c0⟩:=Qad hv
 have hil:=Q3o (oa:=some ⟨bl,ol,none⟩) (n:=1) (b:=bl) (o:=ol) (cap:=cl) (fun _=>rfl)
 have hL6:L.length≤6:=by
  have h1:=Hg.out.len
  have h2:=Hg.out.regs6
  simp only [List.length_map] at h1 h2
  omega
 obtain ⟨ko,co,-,-,-,hrow⟩:=HS6.out.at_ Hi.out
 obtain ⟨kv,cv,rfl,hrl⟩:=Qda hrow (Hg.out.rows r (by
  have:=List.mem_of_getElem? Hi.out
  exact List.mem_map.2 ⟨_,this,rfl⟩))
 have Hri:=zh (Q32 hrow (HS6.out.f64 _ (List.mem_of_getElem? Hi.out)))
 clear hv hi hrow
 go_wp2_with fail
 (with_reducible refine (Qkn HS6.out Hi.out hL6).mono ?_)
 rintro e w7 ⟨rfl,rfl⟩
 go_wp2_with fail
 (with_reducible refine (Qgr [105,115] r _ _ Hri.out (by simp) (by omega) (Ht.out.tabs.ext HS6.out.ext)).mono ?_)
 rintro e w8 ⟨rfl,hx⟩
 have HS8:=zh (HS6.out.extend hx)
 clear hx
 go_wp2
 go_ret
 exact Q07.same (s:=⟨p,L.map (·.2)⟩) rfl HS8.out
end
section
variable {w0 w : World} {B g : Nat} {vR vC vM : Value} {p : Q00} {L : List (Value × List Int)} {t : List UInt8} {ws : List (List UInt8)}
set_option maxRecDepth 100000
set_option maxHeartbeats 16000000
theorem Qs1 (h:PlSt w0 w B g 31 vR vC vM p L) (hg:Q0x ⟨p,L.map (·.2)⟩) (hT:t.length≤1000000000) (W0:List UInt8) (hs:Q08 32 t=W0 :: ws) (hn:Q0m ws=none) :
  Calls Tryz.prog 6 #[.pointer (some ⟨g,0,none⟩),str t] w (Q07 ([63],⟨p,L.map (·.2)⟩) w0 B g 31):=by
 have HS:=zh h
 have Hg:=zh hg
 have HT:=zh hT
 have Hn:=zh hn
 have HW:=zh (Q3g hs)
 obtain ⟨oR,cR,rfl⟩:=Q02 h.rg
 obtain ⟨oC,cC,rfl⟩:=Q02 h.cd
 obtain ⟨oM,cM,rfl⟩:=Q02 h.mo
 obtain ⟨i0,hi0,hz0,hz1,hz2⟩:=info_parts Q5k
 have HSp:=zh (Q68 _ hT w)
 clear h hg hT hn hs
 go_enter Tryz.func6,Tryz.ntmps6
 go_wp2_with fail
 (with_reducible refine HSp.out.mono ?_)
 clear HSp
 rintro e w5 ⟨v5,rfl,hown,hx⟩
 have HS5:=zh (HS.out.extend hx)
 have hB5:=HS5.out.size
 obtain ⟨kw,cw,rfl,hwl,Hc,hix⟩:=Q67 HW.out HT.out hown
 clear hx hown
 go_wp2_with fail
 go_loopw [6,7] (fun lv iv wr => ∃ (j:Nat) (lp:List Int),1≤j∧j≤ws.length+1∧iv=.int .i64 (j:Int)∧Q0m (ws.take (j - 1))=some lp∧wr.ownsRow w5.heap.size 2 1 lv lp.length (lp.map (Value.int .i64))∧Ext w5 wr) (fun _ iv _=>ws.length+1 - (intOf iv).toNat)
 case atStart=>exact ⟨1,[],by omega,by omega,rfl,rfl,World.ownsRow_nil _ _ _ _,Ext.refl _⟩
 case round =>
  obtain ⟨j,lp,hj1,hj2,rfl,hn,hown,hE⟩:=hrel
  obtain ⟨ol,cl,rfl⟩:=Q02 hown
  have X:=zh hE
  have HO:=zh hown
  have HN:=zh hn
  have hl9:lp.length≤1000000001:=by
   have:=Q3s _ _ hn
   rw [List.length_take] at this
   omega
  clear hE hown hn
  by_cases hlt:j < ws.length+1
  ·have c0:=Hc.out wr X.out j hlt
   have hin:(j:Int) < ((ws.length+1:Nat):Int):=by omega
   rw [Q6d _ _ hj1] at c0
   have Hbad:=zh (Q5e ws (j - 1) (by omega))
   have Hgood:=zh (fun n=>Q5u (n:=n) (k:=j - 1) (by omega) HN.out)
   have hjj:j - 1+1=j:=by omega
   rw [hjj] at Hgood
   clear hjj
   generalize ws.getD (j - 1) []=W at *
   go_wp2_with fail
   (with_reducible refine (Q69 W _).mono ?_)
   rintro e w2 ⟨n,b,rfl,hc,hx⟩
   have X2:=zh (X.out.trans hx)
   have HO2:=zh (Q19 HO.out hx)
   clear hx c0
   rcases hc with ⟨rfl,hp⟩ | ⟨rfl,hp⟩
   ·have HF:=zh (Hgood.out n hp)
    have hBs:=X2.out.size
    clear hp
    go_wp2_with (at_builtin;refine Q1b _ rfl _ _ 35 rfl w5.heap.size 2 i0 _ 1 8 Tryz.underlying35 hi0 hz0 hz1 hz2 rfl (by decide) _ _ _ rfl (Q1r HO2.out) (some ⟨w2.heap.size,0,none⟩) 1 1 [.int .i64 n] rfl ?c1 ?c3 ?c4 ?c5 ?_)
    case c1=>exact Q1y (size:=1) (Blk.new w2 2 #[.int .i64 n]) rfl (by simp [Value.oneCell'])
    case c3=>unfold maxLen;omega
    case c4=>omega
    case c5=>simp;omega
    intro v4 w4 hown hgrow hat
    obtain ⟨o4,c4,rfl⟩:=Q02 hown
    have X4:=zh ((X2.out.alloc (.cells #[.int .i64 n] 2)).grown hgrow (fun k hk=>Q17 HO2.out k hk))
    have HO4:Hid (w4.ownsRow w5.heap.size 2 1 (.slice o4 (lp.length+1) c4) (lp ++ [n]).length ((lp ++ [n]).map (Value.int .i64))):=zh (by rw [List.length_append,List.map_append];exact hown)
    clear hown hgrow hat
    go_wp2
    go_roundw
    case rel=>exact ⟨j+1,lp ++ [n],by omega,by omega,by go_num,HF.out,HO4.out,X4.out⟩
    case measure=>first | (simp [intOf];done) | (simp [intOf];omega)
   ·have HS6:=zh (HS5.out.extend X2.out)
    clear hp
    go_wp2
    go_ret
    exact Q07.same (s:=⟨p,L.map (·.2)⟩) rfl HS6.out
  ·have hje:j=ws.length+1:=by omega
   subst hje
   have h:=HN.out
   rw [Nat.add_sub_cancel,List.take_length] at h
   exact absurd (Hn.out.symm.trans h) (by simp)
theorem Q8k (h:PlSt w0 w B g 31 vR vC vM p L) (hg:Q0x ⟨p,L.map (·.2)⟩) (hT:t.length≤1000000000) (W0:List UInt8) (h_check:¬ W0=[99,104,101,99,107]) (h_hard:¬ W0=[104,97,114,100]) (h_text:¬ W0=[116,101,120,116]) (h_load:¬ W0=[108,111,97,100]) (hs:Q08 32 t=W0 :: ws) (hn:Q0m ws=some ([])) :
  Calls Tryz.prog 6 #[.pointer (some ⟨g,0,none⟩),str t] w (Q07 ([63],⟨p,L.map (·.2)⟩) w0 B g 31):=by
 have HS:=zh h
 have Hg:=zh hg
 have HT:=zh hT
 have Hn:=zh hn
 have HW:=zh (Q3g hs)
 have n_check:(W0 == [99,104,101,99,107])=false:=by simpa using h_check
 have n_hard:(W0 == [104,97,114,100])=false:=by simpa using h_hard
 have n_text:(W0 == [116,101,120,116])=false:=by simpa using h_text
 have n_load:(W0 == [108,111,97,100])=false:=by simpa using h_load
 obtain ⟨oR,cR,rfl⟩:=Q02 h.rg
 obtain ⟨oC,cC,rfl⟩:=Q02 h.cd
 obtain ⟨oM,cM,rfl⟩:=Q02 h.mo
 obtain ⟨i0,hi0,hz0,hz1,hz2⟩:=info_parts Q5k
 have HSp:=zh (Q68 _ hT w)
 clear h hg hT hn hs
 go_enter Tryz.func6,Tryz.ntmps6
 go_wp2_with fail
 (with_reducible refine HSp.out.mono ?_)
 clear HSp
 rintro e w5 ⟨v5,rfl,hown,hx⟩
 have HS5:=zh (HS.out.extend hx)
 have hB5:=HS5.out.size
 obtain ⟨kw,cw,rfl,hwl,Hc,hix⟩:=Q67 HW.out HT.out hown
 clear hx hown
 go_wp2_with fail
 go_loopw [6,7] (fun lv iv wr => ∃ (j:Nat) (lp:List Int),1≤j∧j≤ws.length+1∧iv=.int .i64 (j:Int)∧Q0m (ws.take (j - 1))=some lp∧wr.ownsRow w5.heap.size 2 1 lv lp.length (lp.map (Value.int .i64))∧Ext w5 wr) (fun _ iv _=>ws.length+1 - (intOf iv).toNat)
 case atStart=>exact ⟨1,[],by omega,by omega,rfl,rfl,World.ownsRow_nil _ _ _ _,Ext.refl _⟩
 case round =>
  obtain ⟨j,lp,hj1,hj2,rfl,hn,hown,hE⟩:=hrel
  obtain ⟨ol,cl,rfl⟩:=Q02 hown
  have X:=zh hE
  have HO:=zh hown
  have HN:=zh hn
  have hl9:lp.length≤1000000001:=by
   have:=Q3s _ _ hn
   rw [List.length_take] at this
   omega
  clear hE hown hn
  by_cases hlt:j < ws.length+1
  ·have c0:=Hc.out wr X.out j hlt
   have hin:(j:Int) < ((ws.length+1:Nat):Int):=by omega
   rw [Q6d _ _ hj1] at c0
   have Hbad:=zh (Q5e ws (j - 1) (by omega))
   have Hgood:=zh (fun n=>Q5u (n:=n) (k:=j - 1) (by omega) HN.out)
   have hjj:j - 1+1=j:=by omega
   rw [hjj] at Hgood
   clear hjj
   generalize ws.getD (j - 1) []=W at *
   go_wp2_with fail
   (with_reducible refine (Q69 W _).mono ?_)
   rintro e w2 ⟨n,b,rfl,hc,hx⟩
   have X2:=zh (X.out.trans hx)
   have HO2:=zh (Q19 HO.out hx)
   clear hx c0
   rcases hc with ⟨rfl,hp⟩ | ⟨rfl,hp⟩
   ·have HF:=zh (Hgood.out n hp)
    have hBs:=X2.out.size
    clear hp
    go_wp2_with (at_builtin;refine Q1b _ rfl _ _ 35 rfl w5.heap.size 2 i0 _ 1 8 Tryz.underlying35 hi0 hz0 hz1 hz2 rfl (by decide) _ _ _ rfl (Q1r HO2.out) (some ⟨w2.heap.size,0,none⟩) 1 1 [.int .i64 n] rfl ?c1 ?c3 ?c4 ?c5 ?_)
    case c1=>exact Q1y (size:=1) (Blk.new w2 2 #[.int .i64 n]) rfl (by simp [Value.oneCell'])
    case c3=>unfold maxLen;omega
    case c4=>omega
    case c5=>simp;omega
    intro v4 w4 hown hgrow hat
    obtain ⟨o4,c4,rfl⟩:=Q02 hown
    have X4:=zh ((X2.out.alloc (.cells #[.int .i64 n] 2)).grown hgrow (fun k hk=>Q17 HO2.out k hk))
    have HO4:Hid (w4.ownsRow w5.heap.size 2 1 (.slice o4 (lp.length+1) c4) (lp ++ [n]).length ((lp ++ [n]).map (Value.int .i64))):=zh (by rw [List.length_append,List.map_append];exact hown)
    clear hown hgrow hat
    go_wp2
    go_roundw
    case rel=>exact ⟨j+1,lp ++ [n],by omega,by omega,by go_num,HF.out,HO4.out,X4.out⟩
    case measure=>first | (simp [intOf];done) | (simp [intOf];omega)
   ·exact absurd (Hn.out.symm.trans (Hbad.out hp)) (by simp)
  ·have hje:j=ws.length+1:=by omega
   subst hje
   have hl:[]=lp:=by
    have h:=HN.out
    rw [Nat.add_sub_cancel,List.take_length] at h
    exact Option.some.inj (Hn.out.symm.trans h)
   subst hl
   obtain ⟨w6,hw6⟩:∃ w6,w6=wr:=⟨_,rfl⟩
   subst hw6
   have HS6:=zh (HS5.out.extend X.out)
   have hv:=Q32 HO.out (fun x hx=>(Q3a _ _ Hn.out x hx).r64)
   have cw0:∀ Wx,Ext w6 Wx→Wx.cell? ⟨kw,0,none⟩=some (str W0):=fun Wx h=>Hc.out Wx (X.out.trans h) 0 (by omega)
   have hBl:B≤w6.heap.size:=HS6.out.size
   clear HN Hc
   obtain ⟨d0,d1,d2⟩:=HS6.out.cells
   have k2:∀ Wx,Ext w6 Wx→Wx.cell? ⟨g,2,none⟩=some (.slice oM L.length cM):=fun _ h=>h.kept d2.1
   have hL6:L.length≤6:=by
    have h1:=Hg.out.len
    have h2:=Hg.out.regs6
    simp only [List.length_map] at h1 h2
    omega
   clear d0 d1 d2
   clear hv
   go_upto_region 10 with fail
   refine Q0j 21 (by kernel_rfl) (by kernel_rfl) ?_
   simp only [List.take_succ_cons,List.take_zero,List.drop_succ_cons,List.drop_zero]
   repeat (first | (refine Q0d ?_ ?_ ?_;(decide);(first | rfl | (focus (go_simp;done)));apply Exists.intro;refine ⟨fun wc hE=>?_,?_⟩;(go_simp;exact rfl);go_simp) | (refine Q0e ?_ ?_ ?_;(decide);(focus (go_simp;done));go_simp))
   refine Q0f ?_
   intro w7 hx
   have HS7:=zh (HS6.out.extend hx)
   have X7:=zh hx
   have cw0:=cw0 w7 hx
   clear hx
   by_cases h_region:W0=[114,101,103,105,111,110]
   ·subst h_region
    go_wp2
    go_ret
    exact Q07.same (s:=⟨p,L.map (·.2)⟩) rfl HS7.out
   by_cases h_fill:W0=[102,105,108,108]
   ·subst h_fill
    go_upto_region 16 with fail
    refine Q0j 17 (by kernel_rfl) (by kernel_rfl) ?_
    simp only [List.take_succ_cons,List.take_zero,List.drop_succ_cons,List.drop_zero]
    repeat (first | (refine Q0d ?_ ?_ ?_;(decide);(first | rfl | (focus (go_simp;done)));apply Exists.intro;refine ⟨fun wc hE=>?_,?_⟩;(go_simp;exact rfl);go_simp) | (refine Q0e ?_ ?_ ?_;(decide);(focus (go_simp;done));go_simp))
    refine Q0f ?_
    intro w8 hx
    have HS8:=zh (HS7.out.extend hx)
    clear hx
    go_wp2
    go_ret
    exact Q07.same (s:=⟨p,L.map (·.2)⟩) rfl HS8.out
   by_cases h_look:W0=[108,111,111,107]
   ·subst h_look
    go_wp2
    go_ret
    exact Q07.same (s:=⟨p,L.map (·.2)⟩) rfl HS7.out
   by_cases h_ins:W0=[105,110,115]
   ·subst h_ins
    go_wp2
    go_ret
    exact Q07.same (s:=⟨p,L.map (·.2)⟩) rfl HS7.out
   by_cases h_run:W0=[114,117,110]
   ·subst h_run
    go_wp2
    go_ret
    exact Q07.same (s:=⟨p,L.map (·.2)⟩) rfl HS7.out
   by_cases h_ahead:W0=[97,104,101,97,100]
   ·subst h_ahead
    go_wp2
    go_ret
    exact Q07.same (s:=⟨p,L.map (·.2)⟩) rfl HS7.out
   have n_region:(W0 == [114,101,103,105,111,110])=false:=by simpa using h_region
   have n_fill:(W0 == [102,105,108,108])=false:=by simpa using h_fill
   have n_look:(W0 == [108,111,111,107])=false:=by simpa using h_look
   have n_ins:(W0 == [105,110,115])=false:=by simpa using h_ins
   have n_run:(W0 == [114,117,110])=false:=by simpa using h_run
   have n_ahead:(W0 == [97,104,101,97,100])=false:=by simpa using h_ahead
   go_wp2
   go_ret
   exact Q07.same (s:=⟨p,L.map (·.2)⟩) rfl HS7.out
theorem Q70 (h:PlSt w0 w B g 31 vR vC vM p L) (hg:Q0x ⟨p,L.map (·.2)⟩) (hT:t.length≤1000000000) (W0:List UInt8) (a:Int) (cs:List Int) (hregion:W0=[114,101,103,105,111,110]→cs.length+1≠2) (hins:W0=[105,110,115]→cs.length+1≠5) (hrun:W0=[114,117,110]→cs.length+1≠1) (hlook:W0=[108,111,111,107]→cs.length+1≠1) (h_fill:¬ W0=[102,105,108,108]) (h_ahead:¬ W0=[97,104,101,97,100]) (hs:Q08 32 t=W0 :: ws) (hn:Q0m ws=some (a :: cs)) :
  Calls Tryz.prog 6 #[.pointer (some ⟨g,0,none⟩),str t] w (Q07 ([63],⟨p,L.map (·.2)⟩) w0 B g 31):=by
 have HS:=zh h
 have Hg:=zh hg
 have HT:=zh hT
 have Hn:=zh hn
 have HW:=zh (Q3g hs)
 have n_fill:(W0 == [102,105,108,108])=false:=by simpa using h_fill
 have n_ahead:(W0 == [97,104,101,97,100])=false:=by simpa using h_ahead
 obtain ⟨oR,cR,rfl⟩:=Q02 h.rg
 obtain ⟨oC,cC,rfl⟩:=Q02 h.cd
 obtain ⟨oM,cM,rfl⟩:=Q02 h.mo
 obtain ⟨i0,hi0,hz0,hz1,hz2⟩:=info_parts Q5k
 have HSp:=zh (Q68 _ hT w)
 clear h hg hT hn hs
 go_enter Tryz.func6,Tryz.ntmps6
 go_wp2_with fail
 (with_reducible refine HSp.out.mono ?_)
 clear HSp
 rintro e w5 ⟨v5,rfl,hown,hx⟩
 have HS5:=zh (HS.out.extend hx)
 have hB5:=HS5.out.size
 obtain ⟨kw,cw,rfl,hwl,Hc,hix⟩:=Q67 HW.out HT.out hown
 clear hx hown
 go_wp2_with fail
 go_loopw [6,7] (fun lv iv wr => ∃ (j:Nat) (lp:List Int),1≤j∧j≤ws.length+1∧iv=.int .i64 (j:Int)∧Q0m (ws.take (j - 1))=some lp∧wr.ownsRow w5.heap.size 2 1 lv lp.length (lp.map (Value.int .i64))∧Ext w5 wr) (fun _ iv _=>ws.length+1 - (intOf iv).toNat)
 case atStart=>exact ⟨1,[],by omega,by omega,rfl,rfl,World.ownsRow_nil _ _ _ _,Ext.refl _⟩
 case round =>
  obtain ⟨j,lp,hj1,hj2,rfl,hn,hown,hE⟩:=hrel
  obtain ⟨ol,cl,rfl⟩:=Q02 hown
  have X:=zh hE
  have HO:=zh hown
  have HN:=zh hn
  have hl9:lp.length≤1000000001:=by
   have:=Q3s _ _ hn
   rw [List.length_take] at this
   omega
  clear hE hown hn
  by_cases hlt:j < ws.length+1
  ·have c0:=Hc.out wr X.out j hlt
   have hin:(j:Int) < ((ws.length+1:Nat):Int):=by omega
   rw [Q6d _ _ hj1] at c0
   have Hbad:=zh (Q5e ws (j - 1) (by omega))
   have Hgood:=zh (fun n=>Q5u (n:=n) (k:=j - 1) (by omega) HN.out)
   have hjj:j - 1+1=j:=by omega
   rw [hjj] at Hgood
   clear hjj
   generalize ws.getD (j - 1) []=W at *
   go_wp2_with fail
   (with_reducible refine (Q69 W _).mono ?_)
   rintro e w2 ⟨n,b,rfl,hc,hx⟩
   have X2:=zh (X.out.trans hx)
   have HO2:=zh (Q19 HO.out hx)
   clear hx c0
   rcases hc with ⟨rfl,hp⟩ | ⟨rfl,hp⟩
   ·have HF:=zh (Hgood.out n hp)
    have hBs:=X2.out.size
    clear hp
    go_wp2_with (at_builtin;refine Q1b _ rfl _ _ 35 rfl w5.heap.size 2 i0 _ 1 8 Tryz.underlying35 hi0 hz0 hz1 hz2 rfl (by decide) _ _ _ rfl (Q1r HO2.out) (some ⟨w2.heap.size,0,none⟩) 1 1 [.int .i64 n] rfl ?c1 ?c3 ?c4 ?c5 ?_)
    case c1=>exact Q1y (size:=1) (Blk.new w2 2 #[.int .i64 n]) rfl (by simp [Value.oneCell'])
    case c3=>unfold maxLen;omega
    case c4=>omega
    case c5=>simp;omega
    intro v4 w4 hown hgrow hat
    obtain ⟨o4,c4,rfl⟩:=Q02 hown
    have X4:=zh ((X2.out.alloc (.cells #[.int .i64 n] 2)).grown hgrow (fun k hk=>Q17 HO2.out k hk))
    have HO4:Hid (w4.ownsRow w5.heap.size 2 1 (.slice o4 (lp.length+1) c4) (lp ++ [n]).length ((lp ++ [n]).map (Value.int .i64))):=zh (by rw [List.length_append,List.map_append];exact hown)
    clear hown hgrow hat
    go_wp2
    go_roundw
    case rel=>exact ⟨j+1,lp ++ [n],by omega,by omega,by go_num,HF.out,HO4.out,X4.out⟩
    case measure=>first | (simp [intOf];done) | (simp [intOf];omega)
   ·exact absurd (Hn.out.symm.trans (Hbad.out hp)) (by simp)
  ·have hje:j=ws.length+1:=by omega
   subst hje
   have hl:a :: cs=lp:=by
    have h:=HN.out
    rw [Nat.add_sub_cancel,List.take_length] at h
    exact Option.some.inj (Hn.out.symm.trans h)
   subst hl
   obtain ⟨w6,hw6⟩:∃ w6,w6=wr:=⟨_,rfl⟩
   subst hw6
   have HS6:=zh (HS5.out.extend X.out)
   have hv:=Q32 HO.out (fun x hx=>(Q3a _ _ Hn.out x hx).r64)
   have cw0:∀ Wx,Ext w6 Wx→Wx.cell? ⟨kw,0,none⟩=some (str W0):=fun Wx h=>Hc.out Wx (X.out.trans h) 0 (by omega)
   have hBl:B≤w6.heap.size:=HS6.out.size
   clear HN Hc
   obtain ⟨d0,d1,d2⟩:=HS6.out.cells
   have k2:∀ Wx,Ext w6 Wx→Wx.cell? ⟨g,2,none⟩=some (.slice oM L.length cM):=fun _ h=>h.kept d2.1
   have hL6:L.length≤6:=by
    have h1:=Hg.out.len
    have h2:=Hg.out.regs6
    simp only [List.length_map] at h1 h2
    omega
   clear d0 d1 d2
   have Hcl:Hid (cs.length≤1000000001):=zh (by have:=Q3s _ _ Hn.out;simp only [List.length_cons] at this;omega)
   obtain ⟨bl,oo,c2,hve,hlc,c0,-⟩:=Q8l hv
   rw [hve] at hv
   simp only [Value.slice.injEq] at hve
   obtain ⟨rfl,-,rfl⟩:=hve
   have hil:=Q3o (oa:=some ⟨bl,oo,none⟩) (n:=cs.length+1) (b:=bl) (o:=oo) (cap:=cl) (fun _=>rfl)
   have Hv:=zh hv
   have hcl:=Hcl.out
   rw [List.length_cons]
   clear hv
   have q0:∀ Wx,Ext w6 Wx→Wx.cell? ⟨bl,oo,none⟩=some (.int .i64 a):=fun _ h=>h.kept c0
   clear c0
   go_upto_region 10 with fail
   go_cut [10] from 47 to 66 (fun s10 wx=>(∃ b:Bool,s10=.bool b)∧Ext w6 wx)
   case first =>
    rcases (show a < 0∨(0≤a∧(L.length:Int)≤a)∨(0≤a∧a < (L.length:Int)) by omega) with hA | ⟨hA,hA2⟩ | ⟨hA,hA2⟩
    ·have e1:decide (0≤a)=false:=decide_eq_false (by omega)
     refine Q0j 21 (by kernel_rfl) (by kernel_rfl) ?_
     simp only [List.take_succ_cons,List.take_zero,List.drop_succ_cons,List.drop_zero]
     repeat (first | (refine Q0d ?_ ?_ ?_;(decide);(first | rfl | (focus (go_simp;done)));apply Exists.intro;refine ⟨fun wc hE=>?_,?_⟩;(go_simp;exact rfl);go_simp) | (refine Q0e ?_ ?_ ?_;(decide);(focus (go_simp;done));go_simp))
     refine Q0f ?_
     intro w7 hx
     go_wp2
     go_meet
     exact ⟨⟨_,rfl⟩,hx⟩
    ·have e1:decide (0≤a)=true:=decide_eq_true hA
     have e2:decide (a < (L.length:Int))=false:=decide_eq_false (by omega)
     refine Q0j 21 (by kernel_rfl) (by kernel_rfl) ?_
     simp only [List.take_succ_cons,List.take_zero,List.drop_succ_cons,List.drop_zero]
     repeat (first | (refine Q0d ?_ ?_ ?_;(decide);(first | rfl | (focus (go_simp;done)));apply Exists.intro;refine ⟨fun wc hE=>?_,?_⟩;(go_simp;exact rfl);go_simp) | (refine Q0e ?_ ?_ ?_;(decide);(focus (go_simp;done));go_simp))
     refine Q0f ?_
     intro w7 hx
     go_wp2
     go_meet
     exact ⟨⟨_,rfl⟩,hx⟩
    ·have e1:decide (0≤a)=true:=decide_eq_true hA
     have e2:decide (a < (L.length:Int))=true:=decide_eq_true hA2
     refine Q0j 21 (by kernel_rfl) (by kernel_rfl) ?_
     simp only [List.take_succ_cons,List.take_zero,List.drop_succ_cons,List.drop_zero]
     repeat (first | (refine Q0d ?_ ?_ ?_;(decide);(first | rfl | (focus (go_simp;done)));apply Exists.intro;refine ⟨fun wc hE=>?_,?_⟩;(go_simp;exact rfl);go_simp) | (refine Q0e ?_ ?_ ?_;(decide);(focus (go_simp;done));go_simp))
     refine Q0f ?_
     intro w7 hx
     go_wp2
     go_meet
     exact ⟨⟨_,rfl⟩,hx⟩
   case rest =>
    obtain ⟨⟨b10,rfl⟩,hcut⟩:=hcut
    obtain ⟨w7,hw7⟩:∃ w7,w7=wc:=⟨_,rfl⟩
    subst hw7
    have HS7:=zh (HS6.out.extend hcut)
    have X7:=zh hcut
    have cw0:=cw0 w7 hcut
    clear hcut
    by_cases h_region:W0=[114,101,103,105,111,110]
    ·subst h_region
     have hl:=hregion rfl
     have e2:¬ ((cs.length+1:Nat):Int)=2:=by omega
     have f2:(((cs.length+1:Nat):Int) == 2)=false:=by simpa using e2
     clear hl
     go_wp2
     go_ret
     exact Q07.same (s:=⟨p,L.map (·.2)⟩) rfl HS7.out
    by_cases h_look:W0=[108,111,111,107]
    ·subst h_look
     have hl:=hlook rfl
     have e1:¬ ((cs.length+1:Nat):Int)=1:=by omega
     have f1:(((cs.length+1:Nat):Int) == 1)=false:=by simpa using e1
     clear hl
     cases b10
     ·go_wp2
      go_ret
      exact Q07.same (s:=⟨p,L.map (·.2)⟩) rfl HS7.out
     ·go_wp2
      go_ret
      exact Q07.same (s:=⟨p,L.map (·.2)⟩) rfl HS7.out
    by_cases h_ins:W0=[105,110,115]
    ·subst h_ins
     have hl:=hins rfl
     have e5:¬ ((cs.length+1:Nat):Int)=5:=by omega
     have f5:(((cs.length+1:Nat):Int) == 5)=false:=by simpa using e5
     clear hl
     go_wp2
     go_ret
     exact Q07.same (s:=⟨p,L.map (·.2)⟩) rfl HS7.out
    by_cases h_run:W0=[114,117,110]
    ·subst h_run
     have hl:=hrun rfl
     have e1:¬ ((cs.length+1:Nat):Int)=1:=by omega
     have f1:(((cs.length+1:Nat):Int) == 1)=false:=by simpa using e1
     clear hl
     go_wp2
     go_ret
     exact Q07.same (s:=⟨p,L.map (·.2)⟩) rfl HS7.out
    by_cases h_check:W0=[99,104,101,99,107]
    ·subst h_check
     have e0:¬ ((cs.length+1:Nat):Int)=0:=by omega
     go_wp2
     go_ret
     exact Q07.same (s:=⟨p,L.map (·.2)⟩) rfl HS7.out
    by_cases h_hard:W0=[104,97,114,100]
    ·subst h_hard
     have e0:¬ ((cs.length+1:Nat):Int)=0:=by omega
     go_wp2
     go_ret
     exact Q07.same (s:=⟨p,L.map (·.2)⟩) rfl HS7.out
    by_cases h_text:W0=[116,101,120,116]
    ·subst h_text
     have e0:¬ ((cs.length+1:Nat):Int)=0:=by omega
     go_wp2
     go_ret
     exact Q07.same (s:=⟨p,L.map (·.2)⟩) rfl HS7.out
    by_cases h_load:W0=[108,111,97,100]
    ·subst h_load
     have e0:¬ ((cs.length+1:Nat):Int)=0:=by omega
     go_wp2
     go_ret
     exact Q07.same (s:=⟨p,L.map (·.2)⟩) rfl HS7.out
    have n_region:(W0 == [114,101,103,105,111,110])=false:=by simpa using h_region
    have n_look:(W0 == [108,111,111,107])=false:=by simpa using h_look
    have n_ins:(W0 == [105,110,115])=false:=by simpa using h_ins
    have n_run:(W0 == [114,117,110])=false:=by simpa using h_run
    have n_check:(W0 == [99,104,101,99,107])=false:=by simpa using h_check
    have n_hard:(W0 == [104,97,114,100])=false:=by simpa using h_hard
    have n_text:(W0 == [116,101,120,116])=false:=by simpa using h_text
    have n_load:(W0 == [108,111,97,100])=false:=by simpa using h_load
    go_wp2
    go_ret
    exact Q07.same (s:=⟨p,L.map (·.2)⟩) rfl HS7.out
end
section
variable {w0 w : World} {B g : Nat} {vR vC vM : Value} {p : Q00} {L : List (Value × List Int)} {t : List UInt8} {ws : List (List UInt8)}
set_option maxRecDepth 100000
set_option maxHeartbeats 16000000
theorem Qs0 (h:PlSt w0 w B g 31 vR vC vM p L) (hg:Q0x ⟨p,L.map (·.2)⟩) (hT:t.length≤1000000000) (a b:Int) (hs:Q08 32 t=[114,101,103,105,111,110] :: ws) (hn:Q0m ws=some ([a,b])) :
  Calls Tryz.prog 6 #[.pointer (some ⟨g,0,none⟩),str t] w (Q07 (Q2e ⟨p,L.map (·.2)⟩ a b) w0 B g 31):=by
 have HS:=zh h
 have Hg:=zh hg
 have HT:=zh hT
 have Hn:=zh hn
 have HW:=zh (Q3g hs)
 obtain ⟨oR,cR,rfl⟩:=Q02 h.rg
 obtain ⟨oC,cC,rfl⟩:=Q02 h.cd
 obtain ⟨oM,cM,rfl⟩:=Q02 h.mo
 obtain ⟨i0,hi0,hz0,hz1,hz2⟩:=info_parts Q5k
 have HSp:=zh (Q68 _ hT w)
 clear h hg hT hn hs
 go_enter Tryz.func6,Tryz.ntmps6
 go_wp2_with fail
 (with_reducible refine HSp.out.mono ?_)
 clear HSp
 rintro e w5 ⟨v5,rfl,hown,hx⟩
 have HS5:=zh (HS.out.extend hx)
 have hB5:=HS5.out.size
 obtain ⟨kw,cw,rfl,hwl,Hc,hix⟩:=Q67 HW.out HT.out hown
 clear hx hown
 go_wp2_with fail
 go_loopw [6,7] (fun lv iv wr => ∃ (j:Nat) (lp:List Int),1≤j∧j≤ws.length+1∧iv=.int .i64 (j:Int)∧Q0m (ws.take (j - 1))=some lp∧wr.ownsRow w5.heap.size 2 1 lv lp.length (lp.map (Value.int .i64))∧Ext w5 wr) (fun _ iv _=>ws.length+1 - (intOf iv).toNat)
 case atStart=>exact ⟨1,[],by omega,by omega,rfl,rfl,World.ownsRow_nil _ _ _ _,Ext.refl _⟩
 case round =>
  obtain ⟨j,lp,hj1,hj2,rfl,hn,hown,hE⟩:=hrel
  obtain ⟨ol,cl,rfl⟩:=Q02 hown
  have X:=zh hE
  have HO:=zh hown
  have HN:=zh hn
  have hl9:lp.length≤1000000001:=by
   have:=Q3s _ _ hn
   rw [List.length_take] at this
   omega
  clear hE hown hn
  by_cases hlt:j < ws.length+1
  ·have c0:=Hc.out wr X.out j hlt
   have hin:(j:Int) < ((ws.length+1:Nat):Int):=by omega
   rw [Q6d _ _ hj1] at c0
   have Hbad:=zh (Q5e ws (j - 1) (by omega))
   have Hgood:=zh (fun n=>Q5u (n:=n) (k:=j - 1) (by omega) HN.out)
   have hjj:j - 1+1=j:=by omega
   rw [hjj] at Hgood
   clear hjj
   generalize ws.getD (j - 1) []=W at *
   go_wp2_with fail
   (with_reducible refine (Q69 W _).mono ?_)
   rintro e w2 ⟨n,b,rfl,hc,hx⟩
   have X2:=zh (X.out.trans hx)
   have HO2:=zh (Q19 HO.out hx)
   clear hx c0
   rcases hc with ⟨rfl,hp⟩ | ⟨rfl,hp⟩
   ·have HF:=zh (Hgood.out n hp)
    have hBs:=X2.out.size
    clear hp
    go_wp2_with (at_builtin;refine Q1b _ rfl _ _ 35 rfl w5.heap.size 2 i0 _ 1 8 Tryz.underlying35 hi0 hz0 hz1 hz2 rfl (by decide) _ _ _ rfl (Q1r HO2.out) (some ⟨w2.heap.size,0,none⟩) 1 1 [.int .i64 n] rfl ?c1 ?c3 ?c4 ?c5 ?_)
    case c1=>exact Q1y (size:=1) (Blk.new w2 2 #[.int .i64 n]) rfl (by simp [Value.oneCell'])
    case c3=>unfold maxLen;omega
    case c4=>omega
    case c5=>simp;omega
    intro v4 w4 hown hgrow hat
    obtain ⟨o4,c4,rfl⟩:=Q02 hown
    have X4:=zh ((X2.out.alloc (.cells #[.int .i64 n] 2)).grown hgrow (fun k hk=>Q17 HO2.out k hk))
    have HO4:Hid (w4.ownsRow w5.heap.size 2 1 (.slice o4 (lp.length+1) c4) (lp ++ [n]).length ((lp ++ [n]).map (Value.int .i64))):=zh (by rw [List.length_append,List.map_append];exact hown)
    clear hown hgrow hat
    go_wp2
    go_roundw
    case rel=>exact ⟨j+1,lp ++ [n],by omega,by omega,by go_num,HF.out,HO4.out,X4.out⟩
    case measure=>first | (simp [intOf];done) | (simp [intOf];omega)
   ·exact absurd (Hn.out.symm.trans (Hbad.out hp)) (by simp)
  ·have hje:j=ws.length+1:=by omega
   subst hje
   have hl:[a,b]=lp:=by
    have h:=HN.out
    rw [Nat.add_sub_cancel,List.take_length] at h
    exact Option.some.inj (Hn.out.symm.trans h)
   subst hl
   obtain ⟨w6,hw6⟩:∃ w6,w6=wr:=⟨_,rfl⟩
   subst hw6
   have HS6:=zh (HS5.out.extend X.out)
   have hv:=Q32 HO.out (fun x hx=>(Q3a _ _ Hn.out x hx).r64)
   have cw0:∀ Wx,Ext w6 Wx→Wx.cell? ⟨kw,0,none⟩=some (str [114,101,103,105,111,110]):=fun Wx h=>Hc.out Wx (X.out.trans h) 0 (by omega)
   have hBl:B≤w6.heap.size:=HS6.out.size
   clear HN Hc
   obtain ⟨d0,d1,d2⟩:=HS6.out.cells
   have k2:∀ Wx,Ext w6 Wx→Wx.cell? ⟨g,2,none⟩=some (.slice oM L.length cM):=fun _ h=>h.kept d2.1
   have hL6:L.length≤6:=by
    have h1:=Hg.out.len
    have h2:=Hg.out.regs6
    simp only [List.length_map] at h1 h2
    omega
   clear d0 d1 d2
   obtain ⟨bl,oo,c2,hve,c0,-⟩:=Qee hv
   rw [hve] at hv
   simp only [Value.slice.injEq] at hve
   obtain ⟨rfl,-,rfl⟩:=hve
   have hil:=Q3o (oa:=some ⟨bl,oo,none⟩) (n:=2) (b:=bl) (o:=oo) (cap:=cl) (fun _=>rfl)
   have Hv:=zh hv
   clear hv
   have q0:∀ Wx,Ext w6 Wx→Wx.cell? ⟨bl,oo,none⟩=some (.int .i64 a):=fun _ h=>h.kept c0
   clear c0
   go_upto_region 10 with fail
   go_cut [10] from 47 to 66 (fun s10 wx=>Ext w6 wx)
   case first =>
    rcases (show a < 0∨(0≤a∧(L.length:Int)≤a)∨(0≤a∧a < (L.length:Int)) by omega) with hA | ⟨hA,hA2⟩ | ⟨hA,hA2⟩
    ·have e1:decide (0≤a)=false:=decide_eq_false (by omega)
     refine Q0j 21 (by kernel_rfl) (by kernel_rfl) ?_
     simp only [List.take_succ_cons,List.take_zero,List.drop_succ_cons,List.drop_zero]
     repeat (first | (refine Q0d ?_ ?_ ?_;(decide);(first | rfl | (focus (go_simp;done)));apply Exists.intro;refine ⟨fun wc hE=>?_,?_⟩;(go_simp;exact rfl);go_simp) | (refine Q0e ?_ ?_ ?_;(decide);(focus (go_simp;done));go_simp))
     refine Q0f ?_
     intro w7 hx
     go_wp2
     go_meet
     exact hx
    ·have e1:decide (0≤a)=true:=decide_eq_true hA
     have e2:decide (a < (L.length:Int))=false:=decide_eq_false (by omega)
     refine Q0j 21 (by kernel_rfl) (by kernel_rfl) ?_
     simp only [List.take_succ_cons,List.take_zero,List.drop_succ_cons,List.drop_zero]
     repeat (first | (refine Q0d ?_ ?_ ?_;(decide);(first | rfl | (focus (go_simp;done)));apply Exists.intro;refine ⟨fun wc hE=>?_,?_⟩;(go_simp;exact rfl);go_simp) | (refine Q0e ?_ ?_ ?_;(decide);(focus (go_simp;done));go_simp))
     refine Q0f ?_
     intro w7 hx
     go_wp2
     go_meet
     exact hx
    ·have e1:decide (0≤a)=true:=decide_eq_true hA
     have e2:decide (a < (L.length:Int))=true:=decide_eq_true hA2
     refine Q0j 21 (by kernel_rfl) (by kernel_rfl) ?_
     simp only [List.take_succ_cons,List.take_zero,List.drop_succ_cons,List.drop_zero]
     repeat (first | (refine Q0d ?_ ?_ ?_;(decide);(first | rfl | (focus (go_simp;done)));apply Exists.intro;refine ⟨fun wc hE=>?_,?_⟩;(go_simp;exact rfl);go_simp) | (refine Q0e ?_ ?_ ?_;(decide);(focus (go_simp;done));go_simp))
     refine Q0f ?_
     intro w7 hx
     go_wp2
     go_meet
     exact hx
   case rest =>
    obtain ⟨w7,hw7⟩:∃ w7,w7=wc:=⟨_,rfl⟩
    subst hw7
    have HS7:=zh (HS6.out.extend hcut)
    have X7:=zh hcut
    have cw0:=cw0 w7 hcut
    clear hcut
    go_wp2_with fail
    (with_reducible refine (Qru HS7.out Hg.out a b _ (Hv.out.ext X7.out)).mono ?_)
    rintro e w8 ⟨rfl,h8⟩
    have H8:=zh h8
    clear h8
    go_wp2
    go_ret
    exact ⟨rfl,H8.out⟩
theorem Qjg (h:PlSt w0 w B g 31 vR vC vM p L) (hg:Q0x ⟨p,L.map (·.2)⟩) (hT:t.length≤1000000000) (W0:List UInt8) (a:Int) (cs:List Int) (hw:W0=[102,105,108,108]∨W0=[108,111,111,107]) (ha:a < 0∨(L.length:Int)≤a) (hs:Q08 32 t=W0 :: ws) (hn:Q0m ws=some (a :: cs)) :
  Calls Tryz.prog 6 #[.pointer (some ⟨g,0,none⟩),str t] w (Q07 ([63],⟨p,L.map (·.2)⟩) w0 B g 31):=by
 have HS:=zh h
 have Hg:=zh hg
 have HT:=zh hT
 have Hn:=zh hn
 have HW:=zh (Q3g hs)
 obtain ⟨oR,cR,rfl⟩:=Q02 h.rg
 obtain ⟨oC,cC,rfl⟩:=Q02 h.cd
 obtain ⟨oM,cM,rfl⟩:=Q02 h.mo
 obtain ⟨i0,hi0,hz0,hz1,hz2⟩:=info_parts Q5k
 have HSp:=zh (Q68 _ hT w)
 clear h hg hT hn hs
 go_enter Tryz.func6,Tryz.ntmps6
 go_wp2_with fail
 (with_reducible refine HSp.out.mono ?_)
 clear HSp
 rintro e w5 ⟨v5,rfl,hown,hx⟩
 have HS5:=zh (HS.out.extend hx)
 have hB5:=HS5.out.size
 obtain ⟨kw,cw,rfl,hwl,Hc,hix⟩:=Q67 HW.out HT.out hown
 clear hx hown
 go_wp2_with fail
 go_loopw [6,7] (fun lv iv wr => ∃ (j:Nat) (lp:List Int),1≤j∧j≤ws.length+1∧iv=.int .i64 (j:Int)∧Q0m (ws.take (j - 1))=some lp∧wr.ownsRow w5.heap.size 2 1 lv lp.length (lp.map (Value.int .i64))∧Ext w5 wr) (fun _ iv _=>ws.length+1 - (intOf iv).toNat)
 case atStart=>exact ⟨1,[],by omega,by omega,rfl,rfl,World.ownsRow_nil _ _ _ _,Ext.refl _⟩
 case round =>
  obtain ⟨j,lp,hj1,hj2,rfl,hn,hown,hE⟩:=hrel
  obtain ⟨ol,cl,rfl⟩:=Q02 hown
  have X:=zh hE
  have HO:=zh hown
  have HN:=zh hn
  have hl9:lp.length≤1000000001:=by
   have:=Q3s _ _ hn
   rw [List.length_take] at this
   omega
  clear hE hown hn
  by_cases hlt:j < ws.length+1
  ·have c0:=Hc.out wr X.out j hlt
   have hin:(j:Int) < ((ws.length+1:Nat):Int):=by omega
   rw [Q6d _ _ hj1] at c0
   have Hbad:=zh (Q5e ws (j - 1) (by omega))
   have Hgood:=zh (fun n=>Q5u (n:=n) (k:=j - 1) (by omega) HN.out)
   have hjj:j - 1+1=j:=by omega
   rw [hjj] at Hgood
   clear hjj
   generalize ws.getD (j - 1) []=W at *
   go_wp2_with fail
   (with_reducible refine (Q69 W _).mono ?_)
   rintro e w2 ⟨n,b,rfl,hc,hx⟩
   have X2:=zh (X.out.trans hx)
   have HO2:=zh (Q19 HO.out hx)
   clear hx c0
   rcases hc with ⟨rfl,hp⟩ | ⟨rfl,hp⟩
   ·have HF:=zh (Hgood.out n hp)
    have hBs:=X2.out.size
    clear hp
    go_wp2_with (at_builtin;refine Q1b _ rfl _ _ 35 rfl w5.heap.size 2 i0 _ 1 8 Tryz.underlying35 hi0 hz0 hz1 hz2 rfl (by decide) _ _ _ rfl (Q1r HO2.out) (some ⟨w2.heap.size,0,none⟩) 1 1 [.int .i64 n] rfl ?c1 ?c3 ?c4 ?c5 ?_)
    case c1=>exact Q1y (size:=1) (Blk.new w2 2 #[.int .i64 n]) rfl (by simp [Value.oneCell'])
    case c3=>unfold maxLen;omega
    case c4=>omega
    case c5=>simp;omega
    intro v4 w4 hown hgrow hat
    obtain ⟨o4,c4,rfl⟩:=Q02 hown
    have X4:=zh ((X2.out.alloc (.cells #[.int .i64 n] 2)).grown hgrow (fun k hk=>Q17 HO2.out k hk))
    have HO4:Hid (w4.ownsRow w5.heap.size 2 1 (.slice o4 (lp.length+1) c4) (lp ++ [n]).length ((lp ++ [n]).map (Value.int .i64))):=zh (by rw [List.length_append,List.map_append];exact hown)
    clear hown hgrow hat
    go_wp2
    go_roundw
    case rel=>exact ⟨j+1,lp ++ [n],by omega,by omega,by go_num,HF.out,HO4.out,X4.out⟩
    case measure=>first | (simp [intOf];done) | (simp [intOf];omega)
   ·exact absurd (Hn.out.symm.trans (Hbad.out hp)) (by simp)
  ·have hje:j=ws.length+1:=by omega
   subst hje
   have hl:a :: cs=lp:=by
    have h:=HN.out
    rw [Nat.add_sub_cancel,List.take_length] at h
    exact Option.some.inj (Hn.out.symm.trans h)
   subst hl
   obtain ⟨w6,hw6⟩:∃ w6,w6=wr:=⟨_,rfl⟩
   subst hw6
   have HS6:=zh (HS5.out.extend X.out)
   have hv:=Q32 HO.out (fun x hx=>(Q3a _ _ Hn.out x hx).r64)
   have cw0:∀ Wx,Ext w6 Wx→Wx.cell? ⟨kw,0,none⟩=some (str W0):=fun Wx h=>Hc.out Wx (X.out.trans h) 0 (by omega)
   have hBl:B≤w6.heap.size:=HS6.out.size
   clear HN Hc
   obtain ⟨d0,d1,d2⟩:=HS6.out.cells
   have k2:∀ Wx,Ext w6 Wx→Wx.cell? ⟨g,2,none⟩=some (.slice oM L.length cM):=fun _ h=>h.kept d2.1
   have hL6:L.length≤6:=by
    have h1:=Hg.out.len
    have h2:=Hg.out.regs6
    simp only [List.length_map] at h1 h2
    omega
   clear d0 d1 d2
   have Hcl:Hid (cs.length≤1000000001):=zh (by have:=Q3s _ _ Hn.out;simp only [List.length_cons] at this;omega)
   obtain ⟨bl,oo,c2,hve,hlc,c0,-⟩:=Q8l hv
   rw [hve] at hv
   simp only [Value.slice.injEq] at hve
   obtain ⟨rfl,-,rfl⟩:=hve
   have hil:=Q3o (oa:=some ⟨bl,oo,none⟩) (n:=cs.length+1) (b:=bl) (o:=oo) (cap:=cl) (fun _=>rfl)
   have Hv:=zh hv
   have hcl:=Hcl.out
   rw [List.length_cons]
   clear hv
   have q0:∀ Wx,Ext w6 Wx→Wx.cell? ⟨bl,oo,none⟩=some (.int .i64 a):=fun _ h=>h.kept c0
   clear c0
   go_upto_region 10 with fail
   go_cut [10] from 47 to 66 (fun s10 wx=>s10=.bool false∧Ext w6 wx)
   case first =>
    rcases (show a < 0∨(0≤a∧(L.length:Int)≤a)∨(0≤a∧a < (L.length:Int)) by omega) with hA | ⟨hA,hA2⟩ | ⟨hA,hA2⟩
    ·have e1:decide (0≤a)=false:=decide_eq_false (by omega)
     refine Q0j 21 (by kernel_rfl) (by kernel_rfl) ?_
     simp only [List.take_succ_cons,List.take_zero,List.drop_succ_cons,List.drop_zero]
     repeat (first | (refine Q0d ?_ ?_ ?_;(decide);(first | rfl | (focus (go_simp;done)));apply Exists.intro;refine ⟨fun wc hE=>?_,?_⟩;(go_simp;exact rfl);go_simp) | (refine Q0e ?_ ?_ ?_;(decide);(focus (go_simp;done));go_simp))
     refine Q0f ?_
     intro w7 hx
     go_wp2
     go_meet
     exact ⟨rfl,hx⟩
    ·have e1:decide (0≤a)=true:=decide_eq_true hA
     have e2:decide (a < (L.length:Int))=false:=decide_eq_false (by omega)
     refine Q0j 21 (by kernel_rfl) (by kernel_rfl) ?_
     simp only [List.take_succ_cons,List.take_zero,List.drop_succ_cons,List.drop_zero]
     repeat (first | (refine Q0d ?_ ?_ ?_;(decide);(first | rfl | (focus (go_simp;done)));apply Exists.intro;refine ⟨fun wc hE=>?_,?_⟩;(go_simp;exact rfl);go_simp) | (refine Q0e ?_ ?_ ?_;(decide);(focus (go_simp;done));go_simp))
     refine Q0f ?_
     intro w7 hx
     go_wp2
     go_meet
     exact ⟨rfl,hx⟩
    ·exact absurd ha (by omega)
   case rest =>
    obtain ⟨rfl,hcut⟩:=hcut
    obtain ⟨w7,hw7⟩:∃ w7,w7=wc:=⟨_,rfl⟩
    subst hw7
    have HS7:=zh (HS6.out.extend hcut)
    have X7:=zh hcut
    have cw0:=cw0 w7 hcut
    clear hcut
    rcases hw with rfl | rfl
    ·go_upto_region 16 with fail
     refine Q0j 17 (by kernel_rfl) (by kernel_rfl) ?_
     simp only [List.take_succ_cons,List.take_zero,List.drop_succ_cons,List.drop_zero]
     repeat (first | (refine Q0d ?_ ?_ ?_;(decide);(first | rfl | (focus (go_simp;done)));apply Exists.intro;refine ⟨fun wc hE=>?_,?_⟩;(go_simp;exact rfl);go_simp) | (refine Q0e ?_ ?_ ?_;(decide);(focus (go_simp;done));go_simp))
     refine Q0f ?_
     intro w8 hx
     have HS8:=zh (HS7.out.extend hx)
     have X8:=zh (X7.out.trans hx)
     have cw0:=X8
     clear hx
     go_wp2
     go_ret
     exact Q07.same (s:=⟨p,L.map (·.2)⟩) rfl HS8.out
    ·go_wp2
     go_ret
     exact Q07.same (s:=⟨p,L.map (·.2)⟩) rfl HS7.out
theorem Qs2 (h:PlSt w0 w B g 31 vR vC vM p L) (hg:Q0x ⟨p,L.map (·.2)⟩) (hT:t.length≤1000000000) (i:Nat) (v:Value) (r:List Int) (hi:L[i]? = some (v,r)) (hs:Q08 32 t=[108,111,111,107] :: ws) (hn:Q0m ws=some ([(i:Int)])) :
  Calls Tryz.prog 6 #[.pointer (some ⟨g,0,none⟩),str t] w (Q07 (sayT isW r,⟨p,L.map (·.2)⟩) w0 B g 31):=by
 have HS:=zh h
 have Hg:=zh hg
 have HT:=zh hT
 have Hn:=zh hn
 have HW:=zh (Q3g hs)
 obtain ⟨oR,cR,rfl⟩:=Q02 h.rg
 obtain ⟨oC,cC,rfl⟩:=Q02 h.cd
 obtain ⟨oM,cM,rfl⟩:=Q02 h.mo
 obtain ⟨i0,hi0,hz0,hz1,hz2⟩:=info_parts Q5k
 have HSp:=zh (Q68 _ hT w)
 clear h hg hT hn hs
 go_enter Tryz.func6,Tryz.ntmps6
 go_wp2_with fail
 (with_reducible refine HSp.out.mono ?_)
 clear HSp
 rintro e w5 ⟨v5,rfl,hown,hx⟩
 have HS5:=zh (HS.out.extend hx)
 have hB5:=HS5.out.size
 obtain ⟨kw,cw,rfl,hwl,Hc,hix⟩:=Q67 HW.out HT.out hown
 clear hx hown
 go_wp2_with fail
 go_loopw [6,7] (fun lv iv wr => ∃ (j:Nat) (lp:List Int),1≤j∧j≤ws.length+1∧iv=.int .i64 (j:Int)∧Q0m (ws.take (j - 1))=some lp∧wr.ownsRow w5.heap.size 2 1 lv lp.length (lp.map (Value.int .i64))∧Ext w5 wr) (fun _ iv _=>ws.length+1 - (intOf iv).toNat)
 case atStart=>exact ⟨1,[],by omega,by omega,rfl,rfl,World.ownsRow_nil _ _ _ _,Ext.refl _⟩
 case round =>
  obtain ⟨j,lp,hj1,hj2,rfl,hn,hown,hE⟩:=hrel
  obtain ⟨ol,cl,rfl⟩:=Q02 hown
  have X:=zh hE
  have HO:=zh hown
  have HN:=zh hn
  have hl9:lp.length≤1000000001:=by
   have:=Q3s _ _ hn
   rw [List.length_take] at this
   omega
  clear hE hown hn
  by_cases hlt:j < ws.length+1
  ·have c0:=Hc.out wr X.out j hlt
   have hin:(j:Int) < ((ws.length+1:Nat):Int):=by omega
   rw [Q6d _ _ hj1] at c0
   have Hbad:=zh (Q5e ws (j - 1) (by omega))
   have Hgood:=zh (fun n=>Q5u (n:=n) (k:=j - 1) (by omega) HN.out)
   have hjj:j - 1+1=j:=by omega
   rw [hjj] at Hgood
   clear hjj
   generalize ws.getD (j - 1) []=W at *
   go_wp2_with fail
   (with_reducible refine (Q69 W _).mono ?_)
   rintro e w2 ⟨n,b,rfl,hc,hx⟩
   have X2:=zh (X.out.trans hx)
   have HO2:=zh (Q19 HO.out hx)
   clear hx c0
   rcases hc with ⟨rfl,hp⟩ | ⟨rfl,hp⟩
   ·have HF:=zh (Hgood.out n hp)
    have hBs:=X2.out.size
    clear hp
    go_wp2_with (at_builtin;refine Q1b _ rfl _ _ 35 rfl w5.heap.size 2 i0 _ 1 8 Tryz.underlying35 hi0 hz0 hz1 hz2 rfl (by decide) _ _ _ rfl (Q1r HO2.out) (some ⟨w2.heap.size,0,none⟩) 1 1 [.int .i64 n] rfl ?c1 ?c3 ?c4 ?c5 ?_)
    case c1=>exact Q1y (size:=1) (Blk.new w2 2 #[.int .i64 n]) rfl (by simp [Value.oneCell'])
    case c3=>unfold maxLen;omega
    case c4=>omega
    case c5=>simp;omega
    intro v4 w4 hown hgrow hat
    obtain ⟨o4,c4,rfl⟩:=Q02 hown
    have X4:=zh ((X2.out.alloc (.cells #[.int .i64 n] 2)).grown hgrow (fun k hk=>Q17 HO2.out k hk))
    have HO4:Hid (w4.ownsRow w5.heap.size 2 1 (.slice o4 (lp.length+1) c4) (lp ++ [n]).length ((lp ++ [n]).map (Value.int .i64))):=zh (by rw [List.length_append,List.map_append];exact hown)
    clear hown hgrow hat
    go_wp2
    go_roundw
    case rel=>exact ⟨j+1,lp ++ [n],by omega,by omega,by go_num,HF.out,HO4.out,X4.out⟩
    case measure=>first | (simp [intOf];done) | (simp [intOf];omega)
   ·exact absurd (Hn.out.symm.trans (Hbad.out hp)) (by simp)
  ·have hje:j=ws.length+1:=by omega
   subst hje
   have hl:[(i:Int)]=lp:=by
    have h:=HN.out
    rw [Nat.add_sub_cancel,List.take_length] at h
    exact Option.some.inj (Hn.out.symm.trans h)
   subst hl
   obtain ⟨w6,hw6⟩:∃ w6,w6=wr:=⟨_,rfl⟩
   subst hw6
   have HS6:=zh (HS5.out.extend X.out)
   have hv:=Q32 HO.out (fun x hx=>(Q3a _ _ Hn.out x hx).r64)
   have cw0:∀ Wx,Ext w6 Wx→Wx.cell? ⟨kw,0,none⟩=some (str [108,111,111,107]):=fun Wx h=>Hc.out Wx (X.out.trans h) 0 (by omega)
   have hBl:B≤w6.heap.size:=HS6.out.size
   clear HN Hc
   obtain ⟨d0,d1,d2⟩:=HS6.out.cells
   have k2:∀ Wx,Ext w6 Wx→Wx.cell? ⟨g,2,none⟩=some (.slice oM L.length cM):=fun _ h=>h.kept d2.1
   have hL6:L.length≤6:=by
    have h1:=Hg.out.len
    have h2:=Hg.out.regs6
    simp only [List.length_map] at h1 h2
    omega
   clear d0 d1 d2
   obtain ⟨bl,oo,c2,hve,c0⟩:=Qad hv
   rw [hve] at hv
   simp only [Value.slice.injEq] at hve
   obtain ⟨rfl,-,rfl⟩:=hve
   have hil:=Q3o (oa:=some ⟨bl,oo,none⟩) (n:=1) (b:=bl) (o:=oo) (cap:=cl) (fun _=>rfl)
   have Hv:=zh hv
   clear hv
   have q0:∀ Wx,Ext w6 Wx→Wx.cell? ⟨bl,oo,none⟩=some (.int .i64 (i:Int)):=fun _ h=>h.kept c0
   have hiL:=(List.getElem?_eq_some_iff.1 hi).1
   have Hi:=zh hi
   have hrow:=HS6.out.fam.at_ hi
   obtain ⟨kv,cv,rfl,hrl⟩:=Qda hrow (Hg.out.rows r (List.mem_map.2 ⟨_,List.mem_of_getElem? hi,rfl⟩))
   have Hr64:=zh (HS6.out.f64 _ (List.mem_of_getElem? hi))
   obtain ⟨ko,co,hMe,hko,hrk,-⟩:=HS6.out.at_ hi
   simp only [Value.slice.injEq] at hMe
   obtain ⟨rfl,-,rfl⟩:=hMe
   have him:=Qeo ko L.length cM
   have rk:∀ Wx,Ext w6 Wx→Wx.cell? ⟨ko,i,none⟩=some (.slice (some ⟨kv,0,none⟩) r.length cv):=fun _ h=>h.kept hrk
   have hin2:(i:Int) < (L.length:Int):=by omega
   have e1:decide (0≤(i:Int))=true:=decide_eq_true (by omega)
   have e2:decide ((i:Int) < (L.length:Int))=true:=decide_eq_true (by omega)
   clear hi hrk
   go_upto_region 10 with fail
   refine Q0j 21 (by kernel_rfl) (by kernel_rfl) ?_
   simp only [List.take_succ_cons,List.take_zero,List.drop_succ_cons,List.drop_zero]
   repeat (first | (refine Q0d ?_ ?_ ?_;(decide);(first | rfl | (focus (go_simp;done)));apply Exists.intro;refine ⟨fun wc hE=>?_,?_⟩;(go_simp;exact rfl);go_simp) | (refine Q0e ?_ ?_ ?_;(decide);(focus (go_simp;done));go_simp))
   refine Q0f ?_
   intro w7 hx
   have HS7:=zh (HS6.out.extend hx)
   have X7:=zh hx
   have cw0:=cw0 w7 hx
   have q0:∀ Wx,Ext w7 Wx→Wx.cell? ⟨bl,oo,none⟩=some (.int .i64 (i:Int)):=fun _ h=>q0 _ (X7.out.trans h)
   have k2:∀ Wx,Ext w7 Wx→Wx.cell? ⟨g,2,none⟩=some (.slice (some ⟨ko,0,none⟩) L.length cM):=fun _ h=>k2 _ (X7.out.trans h)
   have rk:∀ Wx,Ext w7 Wx→Wx.cell? ⟨ko,i,none⟩=some (.slice (some ⟨kv,0,none⟩) r.length cv):=fun _ h=>rk _ (X7.out.trans h)
   have Hrow:=zh hrow
   clear hx hrow c0
   go_upto_region 24 with fail
   refine Q23 [9,10] 1 (by kernel_rfl) (by kernel_rfl) ?_
   repeat (first | (refine Q1x ?_ ?_;(decide)) | (refine Q1o ?_ ?_ ?_;(decide);(first | rfl | (focus (go_simp;done)));apply Exists.intro;refine ⟨fun wc hE=>?_,?_⟩;(go_simp;exact rfl);go_simp) | (refine Q1v ?_ ?_ ?_;(decide);(focus (go_simp;done));go_simp))
   refine Q1w ?_
   intro w8 hx
   have HS8:=zh (HS7.out.extend hx)
   have X8:=zh hx
   have Hri:=zh (Q32 (Q19 Hrow.out (X7.out.trans hx)) Hr64.out)
   clear hx q0 k2 rk
   refine Q01 rfl ?_
   go_wp2_with fail
   (with_reducible refine (Qbb [105,115] r _ _ Hri.out (by simp) (by omega)).mono ?_)
   rintro e w9 ⟨rfl,hx⟩
   have HS9:=zh (HS8.out.extend hx)
   have X9:=zh (X8.out.trans hx)
   clear hx
   go_wp2
   refine ⟨X9.out,?_⟩
   refine Q1q (Q0c rfl (Q22)) ?_
   go_wp2
   go_ret
   exact Q07.same (s:=⟨p,L.map (·.2)⟩) rfl HS9.out
end
section
variable {w0 w : World} {B g : Nat} {vR vC vM : Value} {p : Q00} {L : List (Value × List Int)} {t : List UInt8} {ws : List (List UInt8)}
set_option maxRecDepth 100000
set_option maxHeartbeats 16000000
theorem Qs3 (h:PlSt w0 w B g 31 vR vC vM p L) (hg:Q0x ⟨p,L.map (·.2)⟩) (hT:t.length≤1000000000) (a b c d n:Int) (hs:Q08 32 t=[105,110,115] :: ws) (hn:Q0m ws=some ([a,b,c,d,n])) :
  Calls Tryz.prog 6 #[.pointer (some ⟨g,0,none⟩),str t] w (Q07 (if p.code.length < 200 then (sayT okW [(p.code.length:Int)+1],⟨⟨p.regs,p.code ++ [⟨a,b,c,d,n⟩]⟩,L.map (·.2)⟩) else ([63],⟨p,L.map (·.2)⟩)) w0 B g 31):=by
 have HS:=zh h
 have Hg:=zh hg
 have HT:=zh hT
 have Hn:=zh hn
 have HW:=zh (Q3g hs)
 obtain ⟨oR,cR,rfl⟩:=Q02 h.rg
 obtain ⟨oC,cC,rfl⟩:=Q02 h.cd
 obtain ⟨oM,cM,rfl⟩:=Q02 h.mo
 obtain ⟨i0,hi0,hz0,hz1,hz2⟩:=info_parts Q5k
 have HSp:=zh (Q68 _ hT w)
 clear h hg hT hn hs
 go_enter Tryz.func6,Tryz.ntmps6
 go_wp2_with fail
 (with_reducible refine HSp.out.mono ?_)
 clear HSp
 rintro e w5 ⟨v5,rfl,hown,hx⟩
 have HS5:=zh (HS.out.extend hx)
 have hB5:=HS5.out.size
 obtain ⟨kw,cw,rfl,hwl,Hc,hix⟩:=Q67 HW.out HT.out hown
 clear hx hown
 go_wp2_with fail
 go_loopw [6,7] (fun lv iv wr => ∃ (j:Nat) (lp:List Int),1≤j∧j≤ws.length+1∧iv=.int .i64 (j:Int)∧Q0m (ws.take (j - 1))=some lp∧wr.ownsRow w5.heap.size 2 1 lv lp.length (lp.map (Value.int .i64))∧Ext w5 wr) (fun _ iv _=>ws.length+1 - (intOf iv).toNat)
 case atStart=>exact ⟨1,[],by omega,by omega,rfl,rfl,World.ownsRow_nil _ _ _ _,Ext.refl _⟩
 case round =>
  obtain ⟨j,lp,hj1,hj2,rfl,hn,hown,hE⟩:=hrel
  obtain ⟨ol,cl,rfl⟩:=Q02 hown
  have X:=zh hE
  have HO:=zh hown
  have HN:=zh hn
  have hl9:lp.length≤1000000001:=by
   have:=Q3s _ _ hn
   rw [List.length_take] at this
   omega
  clear hE hown hn
  by_cases hlt:j < ws.length+1
  ·have c0:=Hc.out wr X.out j hlt
   have hin:(j:Int) < ((ws.length+1:Nat):Int):=by omega
   rw [Q6d _ _ hj1] at c0
   have Hbad:=zh (Q5e ws (j - 1) (by omega))
   have Hgood:=zh (fun n=>Q5u (n:=n) (k:=j - 1) (by omega) HN.out)
   have hjj:j - 1+1=j:=by omega
   rw [hjj] at Hgood
   clear hjj
   generalize ws.getD (j - 1) []=W at *
   go_wp2_with fail
   (with_reducible refine (Q69 W _).mono ?_)
   rintro e w2 ⟨n,b,rfl,hc,hx⟩
   have X2:=zh (X.out.trans hx)
   have HO2:=zh (Q19 HO.out hx)
   clear hx c0
   rcases hc with ⟨rfl,hp⟩ | ⟨rfl,hp⟩
   ·have HF:=zh (Hgood.out n hp)
    have hBs:=X2.out.size
    clear hp
    go_wp2_with (at_builtin;refine Q1b _ rfl _ _ 35 rfl w5.heap.size 2 i0 _ 1 8 Tryz.underlying35 hi0 hz0 hz1 hz2 rfl (by decide) _ _ _ rfl (Q1r HO2.out) (some ⟨w2.heap.size,0,none⟩) 1 1 [.int .i64 n] rfl ?c1 ?c3 ?c4 ?c5 ?_)
    case c1=>exact Q1y (size:=1) (Blk.new w2 2 #[.int .i64 n]) rfl (by simp [Value.oneCell'])
    case c3=>unfold maxLen;omega
    case c4=>omega
    case c5=>simp;omega
    intro v4 w4 hown hgrow hat
    obtain ⟨o4,c4,rfl⟩:=Q02 hown
    have X4:=zh ((X2.out.alloc (.cells #[.int .i64 n] 2)).grown hgrow (fun k hk=>Q17 HO2.out k hk))
    have HO4:Hid (w4.ownsRow w5.heap.size 2 1 (.slice o4 (lp.length+1) c4) (lp ++ [n]).length ((lp ++ [n]).map (Value.int .i64))):=zh (by rw [List.length_append,List.map_append];exact hown)
    clear hown hgrow hat
    go_wp2
    go_roundw
    case rel=>exact ⟨j+1,lp ++ [n],by omega,by omega,by go_num,HF.out,HO4.out,X4.out⟩
    case measure=>first | (simp [intOf];done) | (simp [intOf];omega)
   ·exact absurd (Hn.out.symm.trans (Hbad.out hp)) (by simp)
  ·have hje:j=ws.length+1:=by omega
   subst hje
   have hl:[a,b,c,d,n]=lp:=by
    have h:=HN.out
    rw [Nat.add_sub_cancel,List.take_length] at h
    exact Option.some.inj (Hn.out.symm.trans h)
   subst hl
   obtain ⟨w6,hw6⟩:∃ w6,w6=wr:=⟨_,rfl⟩
   subst hw6
   have HS6:=zh (HS5.out.extend X.out)
   have hv:=Q32 HO.out (fun x hx=>(Q3a _ _ Hn.out x hx).r64)
   have cw0:∀ Wx,Ext w6 Wx→Wx.cell? ⟨kw,0,none⟩=some (str [105,110,115]):=fun Wx h=>Hc.out Wx (X.out.trans h) 0 (by omega)
   have hBl:B≤w6.heap.size:=HS6.out.size
   clear HN Hc
   obtain ⟨d0,d1,d2⟩:=HS6.out.cells
   have k2:∀ Wx,Ext w6 Wx→Wx.cell? ⟨g,2,none⟩=some (.slice oM L.length cM):=fun _ h=>h.kept d2.1
   have hL6:L.length≤6:=by
    have h1:=Hg.out.len
    have h2:=Hg.out.regs6
    simp only [List.length_map] at h1 h2
    omega
   clear d0 d1 d2
   obtain ⟨bl,oo,c9,hve,c0,c1,c2,c3,c4⟩:=Qjn hv
   rw [hve] at hv
   simp only [Value.slice.injEq] at hve
   obtain ⟨rfl,-,rfl⟩:=hve
   have hil:=Q3o (oa:=some ⟨bl,oo,none⟩) (n:=5) (b:=bl) (o:=oo) (cap:=cl) (fun _=>rfl)
   have Hc0:=zh c0
   have Hc1:=zh c1
   have Hc2:=zh c2
   have Hc3:=zh c3
   have Hc4:=zh c4
   clear hv c1 c2 c3 c4
   have q0:∀ Wx,Ext w6 Wx→Wx.cell? ⟨bl,oo,none⟩=some (.int .i64 a):=fun _ h=>h.kept c0
   clear c0
   go_upto_region 10 with fail
   go_cut [10] from 47 to 66 (fun s10 wx=>Ext w6 wx)
   case first =>
    rcases (show a < 0∨(0≤a∧(L.length:Int)≤a)∨(0≤a∧a < (L.length:Int)) by omega) with hA | ⟨hA,hA2⟩ | ⟨hA,hA2⟩
    ·have e1:decide (0≤a)=false:=decide_eq_false (by omega)
     refine Q0j 21 (by kernel_rfl) (by kernel_rfl) ?_
     simp only [List.take_succ_cons,List.take_zero,List.drop_succ_cons,List.drop_zero]
     repeat (first | (refine Q0d ?_ ?_ ?_;(decide);(first | rfl | (focus (go_simp;done)));apply Exists.intro;refine ⟨fun wc hE=>?_,?_⟩;(go_simp;exact rfl);go_simp) | (refine Q0e ?_ ?_ ?_;(decide);(focus (go_simp;done));go_simp))
     refine Q0f ?_
     intro w7 hx
     go_wp2
     go_meet
     exact hx
    ·have e1:decide (0≤a)=true:=decide_eq_true hA
     have e2:decide (a < (L.length:Int))=false:=decide_eq_false (by omega)
     refine Q0j 21 (by kernel_rfl) (by kernel_rfl) ?_
     simp only [List.take_succ_cons,List.take_zero,List.drop_succ_cons,List.drop_zero]
     repeat (first | (refine Q0d ?_ ?_ ?_;(decide);(first | rfl | (focus (go_simp;done)));apply Exists.intro;refine ⟨fun wc hE=>?_,?_⟩;(go_simp;exact rfl);go_simp) | (refine Q0e ?_ ?_ ?_;(decide);(focus (go_simp;done));go_simp))
     refine Q0f ?_
     intro w7 hx
     go_wp2
     go_meet
     exact hx
    ·have e1:decide (0≤a)=true:=decide_eq_true hA
     have e2:decide (a < (L.length:Int))=true:=decide_eq_true hA2
     refine Q0j 21 (by kernel_rfl) (by kernel_rfl) ?_
     simp only [List.take_succ_cons,List.take_zero,List.drop_succ_cons,List.drop_zero]
     repeat (first | (refine Q0d ?_ ?_ ?_;(decide);(first | rfl | (focus (go_simp;done)));apply Exists.intro;refine ⟨fun wc hE=>?_,?_⟩;(go_simp;exact rfl);go_simp) | (refine Q0e ?_ ?_ ?_;(decide);(focus (go_simp;done));go_simp))
     refine Q0f ?_
     intro w7 hx
     go_wp2
     go_meet
     exact hx
   case rest =>
    obtain ⟨w7,hw7⟩:∃ w7,w7=wc:=⟨_,rfl⟩
    subst hw7
    have HS7:=zh (HS6.out.extend hcut)
    have X7:=zh hcut
    have cw0:=cw0 w7 hcut
    clear hcut
    by_cases hc:p.code.length < 200
    ·obtain ⟨i1,hj0,hy0,hy1,hy2⟩:=info_parts Qjz
     have h200:(p.code.length:Int) < 200:=by omega
     have HRl:Hid (R64 ((p.code.length:Int)+1)):=zh ⟨by omega,by omega⟩
     have HF:Hid (LIns.fits ⟨a,b,c,d,n⟩):=zh (by
      have h6:=Q3a _ _ Hn.out
      exact ⟨(h6 a (by simp)).r64,(h6 b (by simp)).r64,(h6 c (by simp)).r64,(h6 d (by simp)).r64,(h6 n (by simp)).r64⟩)
     obtain ⟨d0,d1,d2⟩:=HS7.out.cells
     have hgl:=HS7.out.box.lt
     go_upto_region 27 with fail
     have q0:∀ Wx,Ext w7 Wx→Wx.cell? ⟨bl,oo,none⟩=some (.int .i64 a):=fun _ h=>(X7.out.trans h).kept Hc0.out
     have q1:∀ Wx,Ext w7 Wx→Wx.cell? ⟨bl,oo+1,none⟩=some (.int .i64 b):=fun _ h=>(X7.out.trans h).kept Hc1.out
     have q2:∀ Wx,Ext w7 Wx→Wx.cell? ⟨bl,oo+2,none⟩=some (.int .i64 c):=fun _ h=>(X7.out.trans h).kept Hc2.out
     have q3:∀ Wx,Ext w7 Wx→Wx.cell? ⟨bl,oo+3,none⟩=some (.int .i64 d):=fun _ h=>(X7.out.trans h).kept Hc3.out
     have q4:∀ Wx,Ext w7 Wx→Wx.cell? ⟨bl,oo+4,none⟩=some (.int .i64 n):=fun _ h=>(X7.out.trans h).kept Hc4.out
     have k1:∀ Wx,Ext w7 Wx→Wx.cell? ⟨g,1,none⟩=some (.slice oC p.code.length cC):=fun _ h=>h.kept d1.1
     clear d0 d1 d2
     refine Q23 [22,23,24,25,26,27] 1 (by kernel_rfl) (by kernel_rfl) ?_
     repeat (first | (refine Q1x ?_ ?_;(decide)) | (refine Q1o ?_ ?_ ?_;(decide);(first | rfl | (focus (go_simp;done)));apply Exists.intro;refine ⟨fun wc hE=>?_,?_⟩;(go_simp;exact rfl);go_simp) | (refine Q1v ?_ ?_ ?_;(decide);(focus (go_simp;done));go_simp))
     refine Q1w ?_
     intro wV hx
     have HSV:=zh (HS7.out.extend hx)
     have HX:=zh hx
     have hBsV:=HSV.out.size
     clear k1 q0 q1 q2 q3 q4 hx
     refine Q01 rfl ?_
     go_wp2
     refine ⟨HX.out.alloc _,?_⟩
     refine Q1q (Q0c rfl (Q0c rfl (Q0c rfl (Q0c rfl (Q0c rfl (Q22)))))) ?_
     refine Q1b _ rfl _ _ 26 rfl B 41 i1 _ 5 40 Tryz.underlying26 hj0 hy0 hy1 hy2 rfl (by decide) _ _ _ rfl (Q1r HSV.out.cd) (some ⟨wV.heap.size,0,none⟩) 1 1 (Q21 ⟨a,b,c,d,n⟩) rfl ?c1 ?c3 ?c4 ?c5 ?_
     case c1=>exact Q1y (size:=5) (Blk.new wV 41 #[.int .i64 a,.int .i64 b,.int .i64 c,.int .i64 d,.int .i64 n]) rfl (by simp [Value.oneCell'])
     case c3=>unfold maxLen;omega
     case c4=>omega
     case c5=>simp;omega
     intro vC' wX hown hgrow hat2
     clear hat2
     obtain ⟨oC2,cC2,rfl⟩:=Q02 hown
     have hxa:=(Ext.refl wV).alloc (.cells #[.int .i64 a,.int .i64 b,.int .i64 c,.int .i64 d,.int .i64 n] 41)
     have HSa:=HSV.out.extend hxa
     have hgrow:(wV.alloc (.cells #[.int .i64 a,.int .i64 b,.int .i64 c,.int .i64 d,.int .i64 n] 41)).grownBy wX (Value.slice oC p.code.length cC).ownBlock:=hgrow
     have hlen:(p.code ++ [(⟨a,b,c,d,n⟩:LIns)]).length=p.code.length+1:=by simp
     have HSX:Hid (PlSt w0 (wX.setCell ⟨g,1,none⟩ (.slice oC2 (p.code.length+1) cC2)) B g 31 (.slice oR p.regs.length cR) (.slice oC2 (p.code.length+1) cC2) (.slice oM L.length cM) ⟨p.regs,p.code ++ [⟨a,b,c,d,n⟩]⟩ L):=zh (HSa.code_ hgrow (by rw [hlen,List.flatMap_append];simpa using hown) (fun r hr=>by rcases List.mem_append.1 hr with h | h;exact HSV.out.fc r h;rw [List.mem_singleton.1 h];exact HF.out))
     have hb8:=HSa.box.grown hgrow (Q09 HSa.cd HSa.box HSa.ni)
     have p1:wX.cell? ⟨g,1,none⟩=some (.slice oC p.code.length cC)∧wX.frozen? ⟨g,1,none⟩=false:=⟨by rw [hb8.cell];rfl,hb8.frozen _⟩
     have hgo8:=hb8.lt
     clear hown hgrow hxa HSa hb8 hlen hgl
     go_upto_region 28 with fail
     obtain ⟨d0,d1,d2⟩:=HSX.out.cells
     have hgl:=HSX.out.box.lt
     generalize hW9:wX.setCell ⟨g,1,none⟩ (.slice oC2 (p.code.length+1) cC2)=wY at *
     clear hW9 p1 hgo8
     go_wp2_with fail
     (with_reducible refine (Q8a [111,107] _ HRl.out _ _ _ (Blk.new wY 2 #[.int .i64 ((p.code.length:Int)+1)]) (by simp)).mono ?_)
     rintro e wZ ⟨rfl,hx⟩
     have HSZ:=zh (HSX.out.extend (((Ext.refl wY).alloc _).trans hx))
     clear hx d0 d1 d2
     go_wp2
     go_ret
     try rw [if_pos hc]
     exact ⟨rfl,_,_,_,L,rfl,HSZ.out⟩
    ·have h200:(200:Int)≤(p.code.length:Int):=by omega
     obtain ⟨d0,d1,d2⟩:=HS7.out.cells
     have hgl:=HS7.out.box.lt
     go_wp2
     go_ret
     try rw [if_neg hc]
     exact Q07.same (s:=⟨p,L.map (·.2)⟩) rfl HS7.out
end
theorem set_same' {α:Type} {l:List α} {i:Nat} {x:α} (h:l[i]? = some x):l.set i x=l:=by
 apply List.ext_getElem?
 intro j
 rw [List.getElem?_set]
 split
 ·rename_i e
  subst e
  rw [h]
  split
  ·rfl
  ·rename_i hn
   have:=(List.getElem?_eq_some_iff.1 h).1
   exact absurd this hn
 ·rfl
theorem Qu1 {cs r:List Int} {k:Nat} (h:k < cs.length) (hr:k < r.length):(cs.take k ++ r.drop k).set k cs[k]=cs.take (k+1) ++ r.drop (k+1):=by
 have e1:r.drop k=r[k] :: r.drop (k+1):=List.drop_eq_getElem_cons hr
 have e2:(cs.take k).length=k:=by rw [List.length_take];omega
 rw [e1,List.set_append_right _ _ (by omega),e2,Nat.sub_self,List.set_cons_zero,List.take_succ_eq_append_getElem h,List.append_assoc]
 rfl
def Qw8 (w0 wr:World) (B g T:Nat) (vR vC vM:Value) (p:Q00) (L:List (Value × List Int)) (bl oo:Nat) (a:Int) (cs:List Int):Prop :=
 PlSt w0 wr B g T vR vC vM p L∧wr.cell? ⟨bl,oo,none⟩=some (.int .i64 a)∧∀ j x,cs[j]? = some x→wr.cell? ⟨bl,oo+1+j,none⟩=some (.int .i64 x)
theorem Q0u {w:World} {g:Nat} {a b c d e:Value} (h:Blk w g 44 #[a,b,c,d,e]):(w.cell? ⟨g,0,none⟩=some a∧w.frozen? ⟨g,0,none⟩=false)∧(w.cell? ⟨g,1,none⟩=some b∧w.frozen? ⟨g,1,none⟩=false)∧(w.cell? ⟨g,2,none⟩=some c∧w.frozen? ⟨g,2,none⟩=false)∧(w.cell? ⟨g,3,none⟩=some d∧w.frozen? ⟨g,3,none⟩=false)∧(w.cell? ⟨g,4,none⟩=some e∧w.frozen? ⟨g,4,none⟩=false)∧g < w.heap.size :=
 ⟨⟨by rw [h.cell];rfl,h.frozen _⟩,⟨by rw [h.cell];rfl,h.frozen _⟩,⟨by rw [h.cell];rfl,h.frozen _⟩,⟨by rw [h.cell];rfl,h.frozen _⟩,⟨by rw [h.cell];rfl,h.frozen _⟩,h.lt⟩
theorem Q2u {w0 w:World} {g:Nat} {a b c d e:Value} (h:Blk w g 44 #[a,b,c,d,e]) (hx:Ext w0 w) (hg:w0.heap.size≤g) (a' b' c' d' e':Value) :
  ∃ w',w'=((((w.setCell ⟨g,0,none⟩ a').setCell ⟨g,1,none⟩ b').setCell ⟨g,2,none⟩ c').setCell ⟨g,3,none⟩ d').setCell ⟨g,4,none⟩ e'∧Ext w0 w'∧Blk w' g 44 #[a',b',c',d',e'] :=
 ⟨_,rfl,((((hx.setCell (p:=⟨g,0,none⟩) hg a').setCell (p:=⟨g,1,none⟩) hg b').setCell (p:=⟨g,2,none⟩) hg c').setCell (p:=⟨g,3,none⟩) hg d').setCell (p:=⟨g,4,none⟩) hg e',((((h.set_ 0 a').set_ 1 b').set_ 2 c').set_ 3 d').set_ 4 e'⟩
end Go.Proofs.YtiafchefbehfbaaGreatDoor
