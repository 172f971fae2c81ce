/- Laid together from: Drz, Dra, Drb, Drc, Dre. -/
import Derived.Test.YtiafchefbehfbaaGreatDoorDriveOnB49
import Derived.Test.YtiafchefbehfbaaGreatDoorDriveOnB48

namespace Go.Proofs.YtiafchefbehfbaaGreatDoor
open Go.ChangeShapes Go.WideShapes Go.ChangeAt Go.RowKit
set_option linter.unusedVariables false
set_option linter.unusedSimpArgs false
theorem Qq7 {A:Q5m} {s:LPl} {t W0:List UInt8} {ws:List (List UInt8)} (hs:Q07 32 t=W0 :: ws) (hn:Q0s ws=none):Q2h A s t=([63],s):=by
 unfold Q2h
 rw [hs]
 show (match Q0s ws with | none=>_ | some l=>_)=_
 rw [hn]
theorem Qq6 {A:Q5m} {s:LPl} {t W0:List UInt8} {ws:List (List UInt8)} {l:List Int} (hs:Q07 32 t=W0 :: ws) (hn:Q0s ws=some l):Q2h A s t=Q2e A s W0 l:=by
 unfold Q2h
 rw [hs]
 show (match Q0s ws with | none=>_ | some l=>_)=_
 rw [hn]
 rfl
theorem Q5b {c:UInt8}:∀ {s x:List UInt8},Q07 c s=[x]→s=x
 | [],x,h=>by
  simp only [Q07,List.cons.injEq,and_true] at h
  exact h
 | y :: s,x,h=>by
  have hn:=Q7k c s
  rw [Q07] at h
  split at h
  ·simp only [List.cons.injEq] at h
   exact absurd h.2 hn
  ·cases hq:Q07 c s with
   | nil=>exact absurd hq hn
   | cons z r =>
    rw [hq] at h
    simp only [List.headD_cons,List.tail_cons,List.cons.injEq] at h
    obtain ⟨h1,rfl⟩:=h
    rw [Q5b hq,← h1]
theorem Q5u {ws:List (List UInt8)} (h:Q0s ws=some []):ws=[]:=by
 have:=Q9c ws [] h
 exact List.eq_nil_of_length_eq_zero (by simpa using this.symm)
def Qjb (t W0:List UInt8) (ws:List (List UInt8)):Prop:=ws.length+1≤t.length+1∧Q07 32 t=W0 :: ws∧W0.length≤t.length∧∀ x ∈ ws,x.length≤t.length
theorem Q2u {t W0:List UInt8} {ws:List (List UInt8)} (h:Q07 32 t=W0 :: ws):Qjb t W0 ws:=by
 have h1:=Qaa 32 t
 have h2:=fun x (hx:x ∈ Q07 32 t)=>Q9a 32 t x hx
 rw [h] at h1 h2
 refine ⟨?_,h,h2 _ (by simp),fun x hx=>h2 x (List.mem_cons_of_mem _ hx)⟩
 rw [List.length_cons] at h1
 have:=List.count_le_length (a:=(32:UInt8)) (l:=t)
 omega
theorem Qkk {w:World} {k:Nat} {W0:List UInt8} {ws:List (List UInt8)} (h:∀ j,j < (W0 :: ws).length→w.cell? ⟨k,j,none⟩=some (str ((W0 :: ws).getD j []))) (hk:k < w.heap.size) (hn:ws.length≤1000000001) (oa:Option Addr) (c:Nat) (ho:0 < ws.length→oa=some ⟨k,1,none⟩):Qei w (.slice oa ws.length c) ws :=
 ⟨oa,k,1,c,rfl,hn,ho,fun _=>hk,fun j hj=>by
  have:=h (j+1) (by simp;omega)
  rw [Nat.add_comm 1 j,this]
  rfl⟩
theorem Qde {w:World} {v:Value} {a:Int} (h:Q2z w v [a]):∃ bl o cap,v=.slice (some ⟨bl,o,none⟩) 1 cap∧w.cell? ⟨bl,o,none⟩=some (.int .i64 a):=by
 obtain ⟨-,oa,cap,bl,o,rfl,-,-,hrow⟩:=h
 have h0:=hrow.one 0 (by simp)
 obtain rfl:=hrow.at_ (by simp)
 exact ⟨bl,o,cap,rfl,h0⟩
theorem Qhx {w:World} {v:Value} {a b c d e:Int} (h:Q2z w v [a,b,c,d,e]):∃ bl o cap,v=.slice (some ⟨bl,o,none⟩) 5 cap∧w.cell? ⟨bl,o,none⟩=some (.int .i64 a)∧w.cell? ⟨bl,o+1,none⟩=some (.int .i64 b)∧w.cell? ⟨bl,o+2,none⟩=some (.int .i64 c)∧w.cell? ⟨bl,o+3,none⟩=some (.int .i64 d)∧w.cell? ⟨bl,o+4,none⟩=some (.int .i64 e):=by
 obtain ⟨-,oa,cap,bl,o,rfl,-,-,hrow⟩:=h
 have h0:=hrow.one 0 (by simp)
 have h1:=hrow.one 1 (by simp)
 have h2:=hrow.one 2 (by simp)
 have h3:=hrow.one 3 (by simp)
 have h4:=hrow.one 4 (by simp)
 obtain rfl:=hrow.at_ (by simp)
 exact ⟨bl,o,cap,rfl,h0,h1,h2,h3,h4⟩
theorem Qm6 {w:World} {B:Nat} {v:Value} {l:List Int} (h:w.ownsRow B 2 1 v l.length (l.map (Value.int .i64))) (hl:1≤l.length∧l.length≤64):∃ kv cv,v=.slice (some ⟨kv,0,none⟩) l.length cv∧l.length≤64:=by
 obtain ⟨k,cap,hv,-,-⟩:=own_at' h (by omega)
 exact ⟨k,cap,hv,hl.2⟩
theorem Qlb (kw n cw:Nat) (hn:n+1≤cw) (W:World) :
  (Instr.slice 22 (.slice (some ⟨kw,0,none⟩) (n+1) cw) (some (.int .i64 1)) none none).run Tryz.prog W=.ok (.slice (if cw=1 then some ⟨kw,0,none⟩ else some ⟨kw,1,none⟩) n (cw - 1)) W:=by
 have hu:Tryz.prog.underlying 22 = some (.slice (Tryz.prog.elem 22)):=by kernel_rfl
 have hz:(sizeOf (Tryz.prog.elem 22)).run Tryz.prog W=.ok 1 W:=by kernel_rfl
 rw [run_slice_l (P:=Tryz.prog) W 22 (some ⟨kw,0,none⟩) (n+1) cw hu .i64 1 (by omega) (by omega),hz]
 simp only [Result.andThen,sliced]
 by_cases h:cw=1
 ·subst h
  simp
 ·rw [if_neg (by simpa using h),if_neg h]
  simp only [Option.map_some,Q45]
  rfl
theorem Qlc (k o n cw:Nat) (hn:n+1≤cw):∃ oa,(0 < n→oa=some ⟨k,o+1,none⟩)∧∀ W:World,
  (Instr.slice 35 (.slice (some ⟨k,o,none⟩) (n+1) cw) (some (.int .i64 1)) none none).run Tryz.prog W=.ok (.slice oa n (cw - 1)) W:=by
 refine ⟨if cw=1 then some ⟨k,o,none⟩ else some ⟨k,o+1,none⟩,fun h=>by rw [if_neg (by omega)],fun W=>?_⟩
 have hu:Tryz.prog.underlying 35 = some (.slice (Tryz.prog.elem 35)):=by kernel_rfl
 have hz:(sizeOf (Tryz.prog.elem 35)).run Tryz.prog W=.ok 1 W:=by kernel_rfl
 rw [run_slice_l (P:=Tryz.prog) W 35 (some ⟨k,o,none⟩) (n+1) cw hu .i64 1 (by omega) (by omega),hz]
 simp only [Result.andThen,sliced]
 by_cases h:cw=1
 ·subst h
  simp
 ·rw [if_neg (by simpa using h),if_neg h]
  simp only [Option.map_some,Q45]
  rfl
theorem Q2v {t W0:List UInt8} {ws:List (List UInt8)} {w5:World} {v5:Value} (h:Qjb t W0 ws) (hT:t.length≤1000000000) (hv:Q9t w5 v5 (Q07 32 t)) :
  ∃ kw cw oa,v5=.slice (some ⟨kw,0,none⟩) (ws.length+1) cw∧ws.length+1≤cw∧ws.length≤1000000001∧Hid (∀ W,Ext w5 W→W.cell? ⟨kw,0,none⟩=some (str W0)) ∧
   (∀ W i,0≤i→i < ((ws.length+1:Nat):Int)→(Instr.indexAt 22 (.slice (some ⟨kw,0,none⟩) (ws.length+1) cw) (.int .i64 i)).run Tryz.prog W=.ok (.pointer (some ⟨kw,0+i.toNat,none⟩)) W) ∧
   (∀ W,(Instr.slice 22 (.slice (some ⟨kw,0,none⟩) (ws.length+1) cw) (some (.int .i64 1)) none none).run Tryz.prog W=.ok (.slice oa ws.length (cw - 1)) W) ∧
   Hid (Qei w5 (.slice oa ws.length (cw - 1)) ws)∧Hid (∀ x ∈ ws,x.length≤1000000000):=by
 obtain ⟨h1,h2,h3,h4⟩:=h
 rw [h2] at hv
 obtain ⟨kw,cw,rfl,hcw,hcmw,hkw,hcells⟩:=hv
 rw [List.length_cons] at hcw
 refine ⟨kw,cw,_,by rw [List.length_cons],hcw,by omega,Lib.hid fun W X=>X.kept (hcells 0 (by simp)),Q73 (fun _=>rfl),fun W=>Qlb kw ws.length cw hcw W,Lib.hid (Qkk hcells hkw (by omega) _ _ fun hp=>?_),Lib.hid fun x hx=>Nat.le_trans (h4 x hx) hT⟩
 rw [if_neg (by omega)]
theorem PlSt.put_ {w0 wr:World} {B g T:Nat} {vR vC vM:Value} {p:Q00} {L:List (Value × List Int)} (h:PlSt w0 wr B g T vR vC vM p L) {i k n cap x:Nat} {l:List Int} (hi:L[i]? = some (.slice (some ⟨k,0,none⟩) n cap,l)) {z:Int} (hz:R64 z) :
  PlSt w0 (wr.setCell ⟨k,x,none⟩ (.int .i64 z)) B g T vR vC vM p (L.set i (.slice (some ⟨k,0,none⟩) n cap,l.set x z)):=by
 have ho:=h.fam.at_ hi
 obtain rfl:n=l.length:=by
  rcases ho.2 with ⟨h0,-⟩ | ⟨g,c,cur,hv,-⟩
  ·cases h0
  ·simp only [Value.slice.injEq] at hv
   exact hv.2.1
 refine h.row_ hi (Q8c wr ⟨k,x,none⟩ _) ?_ (fun y hy=>?_)
 ·have:=(ho.stored x (.int .i64 z)).1
  rw [List.length_set,List.map_set]
  exact this
 ·rcases List.mem_or_eq_of_mem_set hy with h1 | rfl
  ·exact h.f64 _ (List.mem_of_getElem? hi) y h1
  ·exact hz
section
variable {w0 w : World} {B g : Nat} {vR vC vM : Value} {p : Q00} {L : List (Value × List Int)} {t : List UInt8} {ws : List (List UInt8)}
set_option maxRecDepth 100000
set_option maxHeartbeats 16000000
theorem Qtm (h:PlSt w0 w B g 65 vR vC vM p L) (hg:Q0y ⟨p,L.map (·.2)⟩) (ht:Tab9 w0) (hT:t.length≤1000000000) (W0:List UInt8) (hs:Q07 32 t=W0 :: ws) (hn:Q0s ws=none) :
  Calls Tryz.prog 20 #[.pointer (some ⟨g,0,none⟩),str t] w (Q0l ([63],⟨p,L.map (·.2)⟩) w0 B g 65):=by
 have HS:=Lib.hid h
 have Hg:=Lib.hid hg
 have Ht:=Lib.hid ht
 have HT:=Lib.hid hT
 have Hn:=Lib.hid hn
 have HW:=Lib.hid (Q2u hs)
 obtain ⟨oR,cR,rfl⟩:=Q02 h.rg
 obtain ⟨oC,cC,rfl⟩:=Q02 h.cd
 obtain ⟨oM,cM,rfl⟩:=Q02 h.mo
 have HSp:=Lib.hid (Q2q 32 _ hT w (ht.ext h.ext))
 clear h hg ht hT hn hs
 go_enter Tryz.func20,Tryz.ntmps20
 go_wp2_with fail
 (with_reducible refine HSp.out.mono ?_)
 clear HSp
 rintro e w5 ⟨v5,rfl,hv,hx⟩
 have HS5:=Lib.hid (HS.out.extend hx)
 obtain ⟨kw,cw,ow,rfl,hcw,hwl,Hcw,hix,hsl,Hrow,Hwl⟩:=Q2v HW.out HT.out hv
 clear hx hv
 go_wp2_with fail
 (with_reducible refine (Q2w ws _ w5 Hrow.out Hwl.out (Ht.out.ext HS5.out.ext)).mono ?_)
 clear hsl Hrow Hwl
 rintro e w6 ⟨v6,b6,rfl,hx,hc⟩
 have HS6:=Lib.hid (HS5.out.extend hx)
 have cw0:=Hcw.out w6 hx
 clear hx Hcw
 rcases hc with ⟨rfl,l',hl',-⟩ | ⟨rfl,-⟩
 ·exact absurd (Hn.out.symm.trans hl') (by simp)
 go_wp2
 go_ret
 exact Q0l.same (s:=⟨p,L.map (·.2)⟩) rfl HS6.out
theorem Qtg (h:PlSt w0 w B g 65 vR vC vM p L) (hg:Q0y ⟨p,L.map (·.2)⟩) (ht:Tab9 w0) (hT:t.length≤1000000000)  (hs:Q07 32 t=[114,101,103,105,111,110] :: ws) (hn:Q0s ws=some ([])) :
  Calls Tryz.prog 20 #[.pointer (some ⟨g,0,none⟩),str t] w (Q0l ([63],⟨p,L.map (·.2)⟩) w0 B g 65):=by
 have HS:=Lib.hid h
 have Hg:=Lib.hid hg
 have Ht:=Lib.hid ht
 have HT:=Lib.hid hT
 have Hn:=Lib.hid hn
 have HW:=Lib.hid (Q2u hs)
 obtain rfl:=Q5b (by rw [Q5u hn] at hs;exact hs)
 obtain ⟨oR,cR,rfl⟩:=Q02 h.rg
 obtain ⟨oC,cC,rfl⟩:=Q02 h.cd
 obtain ⟨oM,cM,rfl⟩:=Q02 h.mo
 have HSp:=Lib.hid (Q2q 32 _ hT w (ht.ext h.ext))
 clear h hg ht hT hn hs
 go_enter Tryz.func20,Tryz.ntmps20
 go_wp2_with fail
 (with_reducible refine HSp.out.mono ?_)
 clear HSp
 rintro e w5 ⟨v5,rfl,hv,hx⟩
 have HS5:=Lib.hid (HS.out.extend hx)
 obtain ⟨kw,cw,ow,rfl,hcw,hwl,Hcw,hix,hsl,Hrow,Hwl⟩:=Q2v HW.out HT.out hv
 clear hx hv
 go_wp2_with fail
 (with_reducible refine (Q2w ws _ w5 Hrow.out Hwl.out (Ht.out.ext HS5.out.ext)).mono ?_)
 clear hsl Hrow Hwl
 rintro e w6 ⟨v6,b6,rfl,hx,hc⟩
 have HS6:=Lib.hid (HS5.out.extend hx)
 have cw0:=Hcw.out w6 hx
 clear hx Hcw
 rcases hc with ⟨rfl,l',hl',hown⟩ | ⟨rfl,hno⟩
 case inr=>exact absurd (Hn.out.symm.trans hno) (by simp)
 obtain rfl:=Option.some.inj (Hn.out.symm.trans hl')
 have hv:=Q2m hown (fun x hx=>(Q2o _ _ Hn.out x hx).r64)
 clear hown hl'
 obtain ⟨-,ol,cl,bl,oo,rfl,hlc,hcm,-⟩:=hv
 go_wp2
 go_ret
 exact Q0l.same (s:=⟨p,L.map (·.2)⟩) rfl HS6.out
theorem Qtk (h:PlSt w0 w B g 65 vR vC vM p L) (hg:Q0y ⟨p,L.map (·.2)⟩) (ht:Tab9 w0) (hT:t.length≤1000000000)  (hs:Q07 32 t=[102,105,108,108] :: ws) (hn:Q0s ws=some ([])) :
  Calls Tryz.prog 20 #[.pointer (some ⟨g,0,none⟩),str t] w (Q0l ([63],⟨p,L.map (·.2)⟩) w0 B g 65):=by
 have HS:=Lib.hid h
 have Hg:=Lib.hid hg
 have Ht:=Lib.hid ht
 have HT:=Lib.hid hT
 have Hn:=Lib.hid hn
 have HW:=Lib.hid (Q2u hs)
 obtain rfl:=Q5b (by rw [Q5u hn] at hs;exact hs)
 obtain ⟨oR,cR,rfl⟩:=Q02 h.rg
 obtain ⟨oC,cC,rfl⟩:=Q02 h.cd
 obtain ⟨oM,cM,rfl⟩:=Q02 h.mo
 have HSp:=Lib.hid (Q2q 32 _ hT w (ht.ext h.ext))
 clear h hg ht hT hn hs
 go_enter Tryz.func20,Tryz.ntmps20
 go_wp2_with fail
 (with_reducible refine HSp.out.mono ?_)
 clear HSp
 rintro e w5 ⟨v5,rfl,hv,hx⟩
 have HS5:=Lib.hid (HS.out.extend hx)
 obtain ⟨kw,cw,ow,rfl,hcw,hwl,Hcw,hix,hsl,Hrow,Hwl⟩:=Q2v HW.out HT.out hv
 clear hx hv
 go_wp2_with fail
 (with_reducible refine (Q2w ws _ w5 Hrow.out Hwl.out (Ht.out.ext HS5.out.ext)).mono ?_)
 clear hsl Hrow Hwl
 rintro e w6 ⟨v6,b6,rfl,hx,hc⟩
 have HS6:=Lib.hid (HS5.out.extend hx)
 have cw0:=Hcw.out w6 hx
 clear hx Hcw
 rcases hc with ⟨rfl,l',hl',hown⟩ | ⟨rfl,hno⟩
 case inr=>exact absurd (Hn.out.symm.trans hno) (by simp)
 obtain rfl:=Option.some.inj (Hn.out.symm.trans hl')
 have hv:=Q2m hown (fun x hx=>(Q2o _ _ Hn.out x hx).r64)
 clear hown hl'
 obtain ⟨-,ol,cl,bl,oo,rfl,hlc,hcm,-⟩:=hv
 go_wp2
 go_ret
 exact Q0l.same (s:=⟨p,L.map (·.2)⟩) rfl HS6.out
theorem Qtj (h:PlSt w0 w B g 65 vR vC vM p L) (hg:Q0y ⟨p,L.map (·.2)⟩) (ht:Tab9 w0) (hT:t.length≤1000000000)  (hs:Q07 32 t=[105,110,115] :: ws) (hn:Q0s ws=some ([])) :
  Calls Tryz.prog 20 #[.pointer (some ⟨g,0,none⟩),str t] w (Q0l ([63],⟨p,L.map (·.2)⟩) w0 B g 65):=by
 have HS:=Lib.hid h
 have Hg:=Lib.hid hg
 have Ht:=Lib.hid ht
 have HT:=Lib.hid hT
 have Hn:=Lib.hid hn
 have HW:=Lib.hid (Q2u hs)
 obtain rfl:=Q5b (by rw [Q5u hn] at hs;exact hs)
 obtain ⟨oR,cR,rfl⟩:=Q02 h.rg
 obtain ⟨oC,cC,rfl⟩:=Q02 h.cd
 obtain ⟨oM,cM,rfl⟩:=Q02 h.mo
 have HSp:=Lib.hid (Q2q 32 _ hT w (ht.ext h.ext))
 clear h hg ht hT hn hs
 go_enter Tryz.func20,Tryz.ntmps20
 go_wp2_with fail
 (with_reducible refine HSp.out.mono ?_)
 clear HSp
 rintro e w5 ⟨v5,rfl,hv,hx⟩
 have HS5:=Lib.hid (HS.out.extend hx)
 obtain ⟨kw,cw,ow,rfl,hcw,hwl,Hcw,hix,hsl,Hrow,Hwl⟩:=Q2v HW.out HT.out hv
 clear hx hv
 go_wp2_with fail
 (with_reducible refine (Q2w ws _ w5 Hrow.out Hwl.out (Ht.out.ext HS5.out.ext)).mono ?_)
 clear hsl Hrow Hwl
 rintro e w6 ⟨v6,b6,rfl,hx,hc⟩
 have HS6:=Lib.hid (HS5.out.extend hx)
 have cw0:=Hcw.out w6 hx
 clear hx Hcw
 rcases hc with ⟨rfl,l',hl',hown⟩ | ⟨rfl,hno⟩
 case inr=>exact absurd (Hn.out.symm.trans hno) (by simp)
 obtain rfl:=Option.some.inj (Hn.out.symm.trans hl')
 have hv:=Q2m hown (fun x hx=>(Q2o _ _ Hn.out x hx).r64)
 clear hown hl'
 obtain ⟨-,ol,cl,bl,oo,rfl,hlc,hcm,-⟩:=hv
 go_wp2
 go_ret
 exact Q0l.same (s:=⟨p,L.map (·.2)⟩) rfl HS6.out
theorem Qtf (h:PlSt w0 w B g 65 vR vC vM p L) (hg:Q0y ⟨p,L.map (·.2)⟩) (ht:Tab9 w0) (hT:t.length≤1000000000)  (hs:Q07 32 t=[114,117,110] :: ws) (hn:Q0s ws=some ([])) :
  Calls Tryz.prog 20 #[.pointer (some ⟨g,0,none⟩),str t] w (Q0l ([63],⟨p,L.map (·.2)⟩) w0 B g 65):=by
 have HS:=Lib.hid h
 have Hg:=Lib.hid hg
 have Ht:=Lib.hid ht
 have HT:=Lib.hid hT
 have Hn:=Lib.hid hn
 have HW:=Lib.hid (Q2u hs)
 obtain rfl:=Q5b (by rw [Q5u hn] at hs;exact hs)
 obtain ⟨oR,cR,rfl⟩:=Q02 h.rg
 obtain ⟨oC,cC,rfl⟩:=Q02 h.cd
 obtain ⟨oM,cM,rfl⟩:=Q02 h.mo
 have HSp:=Lib.hid (Q2q 32 _ hT w (ht.ext h.ext))
 clear h hg ht hT hn hs
 go_enter Tryz.func20,Tryz.ntmps20
 go_wp2_with fail
 (with_reducible refine HSp.out.mono ?_)
 clear HSp
 rintro e w5 ⟨v5,rfl,hv,hx⟩
 have HS5:=Lib.hid (HS.out.extend hx)
 obtain ⟨kw,cw,ow,rfl,hcw,hwl,Hcw,hix,hsl,Hrow,Hwl⟩:=Q2v HW.out HT.out hv
 clear hx hv
 go_wp2_with fail
 (with_reducible refine (Q2w ws _ w5 Hrow.out Hwl.out (Ht.out.ext HS5.out.ext)).mono ?_)
 clear hsl Hrow Hwl
 rintro e w6 ⟨v6,b6,rfl,hx,hc⟩
 have HS6:=Lib.hid (HS5.out.extend hx)
 have cw0:=Hcw.out w6 hx
 clear hx Hcw
 rcases hc with ⟨rfl,l',hl',hown⟩ | ⟨rfl,hno⟩
 case inr=>exact absurd (Hn.out.symm.trans hno) (by simp)
 obtain rfl:=Option.some.inj (Hn.out.symm.trans hl')
 have hv:=Q2m hown (fun x hx=>(Q2o _ _ Hn.out x hx).r64)
 clear hown hl'
 obtain ⟨-,ol,cl,bl,oo,rfl,hlc,hcm,-⟩:=hv
 go_wp2
 go_ret
 exact Q0l.same (s:=⟨p,L.map (·.2)⟩) rfl HS6.out
theorem Qtl (h:PlSt w0 w B g 65 vR vC vM p L) (hg:Q0y ⟨p,L.map (·.2)⟩) (ht:Tab9 w0) (hT:t.length≤1000000000)  (hs:Q07 32 t=[97,104,101,97,100] :: ws) (hn:Q0s ws=some ([])) :
  Calls Tryz.prog 20 #[.pointer (some ⟨g,0,none⟩),str t] w (Q0l ([63],⟨p,L.map (·.2)⟩) w0 B g 65):=by
 have HS:=Lib.hid h
 have Hg:=Lib.hid hg
 have Ht:=Lib.hid ht
 have HT:=Lib.hid hT
 have Hn:=Lib.hid hn
 have HW:=Lib.hid (Q2u hs)
 obtain rfl:=Q5b (by rw [Q5u hn] at hs;exact hs)
 obtain ⟨oR,cR,rfl⟩:=Q02 h.rg
 obtain ⟨oC,cC,rfl⟩:=Q02 h.cd
 obtain ⟨oM,cM,rfl⟩:=Q02 h.mo
 have HSp:=Lib.hid (Q2q 32 _ hT w (ht.ext h.ext))
 clear h hg ht hT hn hs
 go_enter Tryz.func20,Tryz.ntmps20
 go_wp2_with fail
 (with_reducible refine HSp.out.mono ?_)
 clear HSp
 rintro e w5 ⟨v5,rfl,hv,hx⟩
 have HS5:=Lib.hid (HS.out.extend hx)
 obtain ⟨kw,cw,ow,rfl,hcw,hwl,Hcw,hix,hsl,Hrow,Hwl⟩:=Q2v HW.out HT.out hv
 clear hx hv
 go_wp2_with fail
 (with_reducible refine (Q2w ws _ w5 Hrow.out Hwl.out (Ht.out.ext HS5.out.ext)).mono ?_)
 clear hsl Hrow Hwl
 rintro e w6 ⟨v6,b6,rfl,hx,hc⟩
 have HS6:=Lib.hid (HS5.out.extend hx)
 have cw0:=Hcw.out w6 hx
 clear hx Hcw
 rcases hc with ⟨rfl,l',hl',hown⟩ | ⟨rfl,hno⟩
 case inr=>exact absurd (Hn.out.symm.trans hno) (by simp)
 obtain rfl:=Option.some.inj (Hn.out.symm.trans hl')
 have hv:=Q2m hown (fun x hx=>(Q2o _ _ Hn.out x hx).r64)
 clear hown hl'
 obtain ⟨-,ol,cl,bl,oo,rfl,hlc,hcm,-⟩:=hv
 go_wp2
 go_ret
 exact Q0l.same (s:=⟨p,L.map (·.2)⟩) rfl HS6.out
theorem Qti (h:PlSt w0 w B g 65 vR vC vM p L) (hg:Q0y ⟨p,L.map (·.2)⟩) (ht:Tab9 w0) (hT:t.length≤1000000000)  (hs:Q07 32 t=[108,111,111,107] :: ws) (hn:Q0s ws=some ([])) :
  Calls Tryz.prog 20 #[.pointer (some ⟨g,0,none⟩),str t] w (Q0l ([63],⟨p,L.map (·.2)⟩) w0 B g 65):=by
 have HS:=Lib.hid h
 have Hg:=Lib.hid hg
 have Ht:=Lib.hid ht
 have HT:=Lib.hid hT
 have Hn:=Lib.hid hn
 have HW:=Lib.hid (Q2u hs)
 obtain rfl:=Q5b (by rw [Q5u hn] at hs;exact hs)
 obtain ⟨oR,cR,rfl⟩:=Q02 h.rg
 obtain ⟨oC,cC,rfl⟩:=Q02 h.cd
 obtain ⟨oM,cM,rfl⟩:=Q02 h.mo
 have HSp:=Lib.hid (Q2q 32 _ hT w (ht.ext h.ext))
 clear h hg ht hT hn hs
 go_enter Tryz.func20,Tryz.ntmps20
 go_wp2_with fail
 (with_reducible refine HSp.out.mono ?_)
 clear HSp
 rintro e w5 ⟨v5,rfl,hv,hx⟩
 have HS5:=Lib.hid (HS.out.extend hx)
 obtain ⟨kw,cw,ow,rfl,hcw,hwl,Hcw,hix,hsl,Hrow,Hwl⟩:=Q2v HW.out HT.out hv
 clear hx hv
 go_wp2_with fail
 (with_reducible refine (Q2w ws _ w5 Hrow.out Hwl.out (Ht.out.ext HS5.out.ext)).mono ?_)
 clear hsl Hrow Hwl
 rintro e w6 ⟨v6,b6,rfl,hx,hc⟩
 have HS6:=Lib.hid (HS5.out.extend hx)
 have cw0:=Hcw.out w6 hx
 clear hx Hcw
 rcases hc with ⟨rfl,l',hl',hown⟩ | ⟨rfl,hno⟩
 case inr=>exact absurd (Hn.out.symm.trans hno) (by simp)
 obtain rfl:=Option.some.inj (Hn.out.symm.trans hl')
 have hv:=Q2m hown (fun x hx=>(Q2o _ _ Hn.out x hx).r64)
 clear hown hl'
 obtain ⟨-,ol,cl,bl,oo,rfl,hlc,hcm,-⟩:=hv
 go_wp2
 go_ret
 exact Q0l.same (s:=⟨p,L.map (·.2)⟩) rfl HS6.out
theorem Qth (h:PlSt w0 w B g 65 vR vC vM p L) (hg:Q0y ⟨p,L.map (·.2)⟩) (ht:Tab9 w0) (hT:t.length≤1000000000) (W0:List UInt8) (h_region:¬ W0=[114,101,103,105,111,110]) (h_fill:¬ W0=[102,105,108,108]) (h_ins:¬ W0=[105,110,115]) (h_run:¬ W0=[114,117,110]) (h_ahead:¬ W0=[97,104,101,97,100]) (h_look:¬ W0=[108,111,111,107]) (h_check:¬ W0=[99,104,101,99,107]) (h_hard:¬ W0=[104,97,114,100]) (h_load:¬ W0=[108,111,97,100]) (h_text:¬ W0=[116,101,120,116]) (hs:Q07 32 t=W0 :: ws) (hn:Q0s ws=some ([])) :
  Calls Tryz.prog 20 #[.pointer (some ⟨g,0,none⟩),str t] w (Q0l ([63],⟨p,L.map (·.2)⟩) w0 B g 65):=by
 have HS:=Lib.hid h
 have Hg:=Lib.hid hg
 have Ht:=Lib.hid ht
 have HT:=Lib.hid hT
 have Hn:=Lib.hid hn
 have HW:=Lib.hid (Q2u hs)
 obtain rfl:=Q5b (by rw [Q5u hn] at hs;exact hs)
 obtain ⟨oR,cR,rfl⟩:=Q02 h.rg
 obtain ⟨oC,cC,rfl⟩:=Q02 h.cd
 obtain ⟨oM,cM,rfl⟩:=Q02 h.mo
 have HSp:=Lib.hid (Q2q 32 _ hT w (ht.ext h.ext))
 clear h hg ht hT hn hs
 go_enter Tryz.func20,Tryz.ntmps20
 go_wp2_with fail
 (with_reducible refine HSp.out.mono ?_)
 clear HSp
 rintro e w5 ⟨v5,rfl,hv,hx⟩
 have HS5:=Lib.hid (HS.out.extend hx)
 obtain ⟨kw,cw,ow,rfl,hcw,hwl,Hcw,hix,hsl,Hrow,Hwl⟩:=Q2v HW.out HT.out hv
 clear hx hv
 go_wp2_with fail
 (with_reducible refine (Q2w ws _ w5 Hrow.out Hwl.out (Ht.out.ext HS5.out.ext)).mono ?_)
 clear hsl Hrow Hwl
 rintro e w6 ⟨v6,b6,rfl,hx,hc⟩
 have HS6:=Lib.hid (HS5.out.extend hx)
 have cw0:=Hcw.out w6 hx
 clear hx Hcw
 rcases hc with ⟨rfl,l',hl',hown⟩ | ⟨rfl,hno⟩
 case inr=>exact absurd (Hn.out.symm.trans hno) (by simp)
 obtain rfl:=Option.some.inj (Hn.out.symm.trans hl')
 have hv:=Q2m hown (fun x hx=>(Q2o _ _ Hn.out x hx).r64)
 clear hown hl'
 have n_region:(t == [114,101,103,105,111,110])=false:=by simpa using h_region
 have n_fill:(t == [102,105,108,108])=false:=by simpa using h_fill
 have n_ins:(t == [105,110,115])=false:=by simpa using h_ins
 have n_run:(t == [114,117,110])=false:=by simpa using h_run
 have n_ahead:(t == [97,104,101,97,100])=false:=by simpa using h_ahead
 have n_look:(t == [108,111,111,107])=false:=by simpa using h_look
 have n_check:(t == [99,104,101,99,107])=false:=by simpa using h_check
 have n_hard:(t == [104,97,114,100])=false:=by simpa using h_hard
 have n_load:(t == [108,111,97,100])=false:=by simpa using h_load
 have n_text:(t == [116,101,120,116])=false:=by simpa using h_text
 obtain ⟨-,ol,cl,bl,oo,rfl,hlc,hcm,-⟩:=hv
 go_wp2
 go_ret
 exact Q0l.same (s:=⟨p,L.map (·.2)⟩) rfl HS6.out
end
section
variable {w0 w : World} {B g : Nat} {vR vC vM : Value} {p : Q00} {L : List (Value × List Int)} {t : List UInt8} {ws : List (List UInt8)}
set_option maxRecDepth 100000
set_option maxHeartbeats 16000000
theorem Qtc (h:PlSt w0 w B g 65 vR vC vM p L) (hg:Q0y ⟨p,L.map (·.2)⟩) (ht:Tab9 w0) (hT:t.length≤1000000000) (l:List Int) (hl0:l.length≠0) (hl:l.length≠2) (hs:Q07 32 t=[114,101,103,105,111,110] :: ws) (hn:Q0s ws=some (l)) :
  Calls Tryz.prog 20 #[.pointer (some ⟨g,0,none⟩),str t] w (Q0l ([63],⟨p,L.map (·.2)⟩) w0 B g 65):=by
 have HS:=Lib.hid h
 have Hg:=Lib.hid hg
 have Ht:=Lib.hid ht
 have HT:=Lib.hid hT
 have Hn:=Lib.hid hn
 have HW:=Lib.hid (Q2u hs)
 obtain ⟨oR,cR,rfl⟩:=Q02 h.rg
 obtain ⟨oC,cC,rfl⟩:=Q02 h.cd
 obtain ⟨oM,cM,rfl⟩:=Q02 h.mo
 have HSp:=Lib.hid (Q2q 32 _ hT w (ht.ext h.ext))
 clear h hg ht hT hn hs
 go_enter Tryz.func20,Tryz.ntmps20
 go_wp2_with fail
 (with_reducible refine HSp.out.mono ?_)
 clear HSp
 rintro e w5 ⟨v5,rfl,hv,hx⟩
 have HS5:=Lib.hid (HS.out.extend hx)
 obtain ⟨kw,cw,ow,rfl,hcw,hwl,Hcw,hix,hsl,Hrow,Hwl⟩:=Q2v HW.out HT.out hv
 clear hx hv
 go_wp2_with fail
 (with_reducible refine (Q2w ws _ w5 Hrow.out Hwl.out (Ht.out.ext HS5.out.ext)).mono ?_)
 clear hsl Hrow Hwl
 rintro e w6 ⟨v6,b6,rfl,hx,hc⟩
 have HS6:=Lib.hid (HS5.out.extend hx)
 have cw0:=Hcw.out w6 hx
 clear hx Hcw
 rcases hc with ⟨rfl,l',hl',hown⟩ | ⟨rfl,hno⟩
 case inr=>exact absurd (Hn.out.symm.trans hno) (by simp)
 obtain rfl:=Option.some.inj (Hn.out.symm.trans hl')
 have hv:=Q2m hown (fun x hx=>(Q2o _ _ Hn.out x hx).r64)
 clear hown hl'
 obtain ⟨-,ol,cl,bl,oo,rfl,hlc,hcm,-⟩:=hv
 have e2:¬ (l.length:Int)=2:=by omega
 have f2:((l.length:Int) == 2)=false:=by simpa using e2
 have e0:¬ (l.length:Int)=0:=by omega
 have f0:((l.length:Int) == 0)=false:=by simpa using e0
 go_wp2
 go_ret
 exact Q0l.same (s:=⟨p,L.map (·.2)⟩) rfl HS6.out
theorem Qe2 (h:PlSt w0 w B g 65 vR vC vM p L) (hg:Q0y ⟨p,L.map (·.2)⟩) (ht:Tab9 w0) (hT:t.length≤1000000000) (l:List Int) (hl0:l.length≠0) (hl:l.length≠5) (hs:Q07 32 t=[105,110,115] :: ws) (hn:Q0s ws=some (l)) :
  Calls Tryz.prog 20 #[.pointer (some ⟨g,0,none⟩),str t] w (Q0l ([63],⟨p,L.map (·.2)⟩) w0 B g 65):=by
 have HS:=Lib.hid h
 have Hg:=Lib.hid hg
 have Ht:=Lib.hid ht
 have HT:=Lib.hid hT
 have Hn:=Lib.hid hn
 have HW:=Lib.hid (Q2u hs)
 obtain ⟨oR,cR,rfl⟩:=Q02 h.rg
 obtain ⟨oC,cC,rfl⟩:=Q02 h.cd
 obtain ⟨oM,cM,rfl⟩:=Q02 h.mo
 have HSp:=Lib.hid (Q2q 32 _ hT w (ht.ext h.ext))
 clear h hg ht hT hn hs
 go_enter Tryz.func20,Tryz.ntmps20
 go_wp2_with fail
 (with_reducible refine HSp.out.mono ?_)
 clear HSp
 rintro e w5 ⟨v5,rfl,hv,hx⟩
 have HS5:=Lib.hid (HS.out.extend hx)
 obtain ⟨kw,cw,ow,rfl,hcw,hwl,Hcw,hix,hsl,Hrow,Hwl⟩:=Q2v HW.out HT.out hv
 clear hx hv
 go_wp2_with fail
 (with_reducible refine (Q2w ws _ w5 Hrow.out Hwl.out (Ht.out.ext HS5.out.ext)).mono ?_)
 clear hsl Hrow Hwl
 rintro e w6 ⟨v6,b6,rfl,hx,hc⟩
 have HS6:=Lib.hid (HS5.out.extend hx)
 have cw0:=Hcw.out w6 hx
 clear hx Hcw
 rcases hc with ⟨rfl,l',hl',hown⟩ | ⟨rfl,hno⟩
 case inr=>exact absurd (Hn.out.symm.trans hno) (by simp)
 obtain rfl:=Option.some.inj (Hn.out.symm.trans hl')
 have hv:=Q2m hown (fun x hx=>(Q2o _ _ Hn.out x hx).r64)
 clear hown hl'
 obtain ⟨-,ol,cl,bl,oo,rfl,hlc,hcm,-⟩:=hv
 have e5:¬ (l.length:Int)=5:=by omega
 have f5:((l.length:Int) == 5)=false:=by simpa using e5
 have e0:¬ (l.length:Int)=0:=by omega
 have f0:((l.length:Int) == 0)=false:=by simpa using e0
 go_wp2
 go_ret
 exact Q0l.same (s:=⟨p,L.map (·.2)⟩) rfl HS6.out
theorem Qte (h:PlSt w0 w B g 65 vR vC vM p L) (hg:Q0y ⟨p,L.map (·.2)⟩) (ht:Tab9 w0) (hT:t.length≤1000000000) (a b c d n:Int) (hc:200≤p.code.length) (hs:Q07 32 t=[105,110,115] :: ws) (hn:Q0s ws=some ([a,b,c,d,n])) :
  Calls Tryz.prog 20 #[.pointer (some ⟨g,0,none⟩),str t] w (Q0l ([63],⟨p,L.map (·.2)⟩) w0 B g 65):=by
 have HS:=Lib.hid h
 have Hg:=Lib.hid hg
 have Ht:=Lib.hid ht
 have HT:=Lib.hid hT
 have Hn:=Lib.hid hn
 have HW:=Lib.hid (Q2u hs)
 obtain ⟨oR,cR,rfl⟩:=Q02 h.rg
 obtain ⟨oC,cC,rfl⟩:=Q02 h.cd
 obtain ⟨oM,cM,rfl⟩:=Q02 h.mo
 have HSp:=Lib.hid (Q2q 32 _ hT w (ht.ext h.ext))
 clear h hg ht hT hn hs
 go_enter Tryz.func20,Tryz.ntmps20
 go_wp2_with fail
 (with_reducible refine HSp.out.mono ?_)
 clear HSp
 rintro e w5 ⟨v5,rfl,hv,hx⟩
 have HS5:=Lib.hid (HS.out.extend hx)
 obtain ⟨kw,cw,ow,rfl,hcw,hwl,Hcw,hix,hsl,Hrow,Hwl⟩:=Q2v HW.out HT.out hv
 clear hx hv
 go_wp2_with fail
 (with_reducible refine (Q2w ws _ w5 Hrow.out Hwl.out (Ht.out.ext HS5.out.ext)).mono ?_)
 clear hsl Hrow Hwl
 rintro e w6 ⟨v6,b6,rfl,hx,hc⟩
 have HS6:=Lib.hid (HS5.out.extend hx)
 have cw0:=Hcw.out w6 hx
 clear hx Hcw
 rcases hc with ⟨rfl,l',hl',hown⟩ | ⟨rfl,hno⟩
 case inr=>exact absurd (Hn.out.symm.trans hno) (by simp)
 obtain rfl:=Option.some.inj (Hn.out.symm.trans hl')
 have hv:=Q2m hown (fun x hx=>(Q2o _ _ Hn.out x hx).r64)
 clear hown hl'
 obtain ⟨bl,ol,cl,rfl,-,-,-,-,-⟩:=Qhx hv
 obtain ⟨d0,d1,d2⟩:=HS6.out.cells
 have hgl:=HS6.out.box.lt
 have h200:(200:Int)≤(p.code.length:Int):=by omega
 clear hv
 go_wp2
 go_ret
 exact Q0l.same (s:=⟨p,L.map (·.2)⟩) rfl HS6.out
theorem Qtb (h:PlSt w0 w B g 65 vR vC vM p L) (hg:Q0y ⟨p,L.map (·.2)⟩) (ht:Tab9 w0) (hT:t.length≤1000000000) (l:List Int) (hl0:l.length≠0) (hl:l.length≠1) (hs:Q07 32 t=[114,117,110] :: ws) (hn:Q0s ws=some (l)) :
  Calls Tryz.prog 20 #[.pointer (some ⟨g,0,none⟩),str t] w (Q0l ([63],⟨p,L.map (·.2)⟩) w0 B g 65):=by
 have HS:=Lib.hid h
 have Hg:=Lib.hid hg
 have Ht:=Lib.hid ht
 have HT:=Lib.hid hT
 have Hn:=Lib.hid hn
 have HW:=Lib.hid (Q2u hs)
 obtain ⟨oR,cR,rfl⟩:=Q02 h.rg
 obtain ⟨oC,cC,rfl⟩:=Q02 h.cd
 obtain ⟨oM,cM,rfl⟩:=Q02 h.mo
 have HSp:=Lib.hid (Q2q 32 _ hT w (ht.ext h.ext))
 clear h hg ht hT hn hs
 go_enter Tryz.func20,Tryz.ntmps20
 go_wp2_with fail
 (with_reducible refine HSp.out.mono ?_)
 clear HSp
 rintro e w5 ⟨v5,rfl,hv,hx⟩
 have HS5:=Lib.hid (HS.out.extend hx)
 obtain ⟨kw,cw,ow,rfl,hcw,hwl,Hcw,hix,hsl,Hrow,Hwl⟩:=Q2v HW.out HT.out hv
 clear hx hv
 go_wp2_with fail
 (with_reducible refine (Q2w ws _ w5 Hrow.out Hwl.out (Ht.out.ext HS5.out.ext)).mono ?_)
 clear hsl Hrow Hwl
 rintro e w6 ⟨v6,b6,rfl,hx,hc⟩
 have HS6:=Lib.hid (HS5.out.extend hx)
 have cw0:=Hcw.out w6 hx
 clear hx Hcw
 rcases hc with ⟨rfl,l',hl',hown⟩ | ⟨rfl,hno⟩
 case inr=>exact absurd (Hn.out.symm.trans hno) (by simp)
 obtain rfl:=Option.some.inj (Hn.out.symm.trans hl')
 have hv:=Q2m hown (fun x hx=>(Q2o _ _ Hn.out x hx).r64)
 clear hown hl'
 obtain ⟨-,ol,cl,bl,oo,rfl,hlc,hcm,-⟩:=hv
 have e1:¬ (l.length:Int)=1:=by omega
 have f1:((l.length:Int) == 1)=false:=by simpa using e1
 have e0:¬ (l.length:Int)=0:=by omega
 have f0:((l.length:Int) == 0)=false:=by simpa using e0
 go_wp2
 go_ret
 exact Q0l.same (s:=⟨p,L.map (·.2)⟩) rfl HS6.out
theorem Qtd (h:PlSt w0 w B g 65 vR vC vM p L) (hg:Q0y ⟨p,L.map (·.2)⟩) (ht:Tab9 w0) (hT:t.length≤1000000000) (l:List Int) (hl0:l.length≠0) (hl:l.length≠1) (hs:Q07 32 t=[108,111,111,107] :: ws) (hn:Q0s ws=some (l)) :
  Calls Tryz.prog 20 #[.pointer (some ⟨g,0,none⟩),str t] w (Q0l ([63],⟨p,L.map (·.2)⟩) w0 B g 65):=by
 have HS:=Lib.hid h
 have Hg:=Lib.hid hg
 have Ht:=Lib.hid ht
 have HT:=Lib.hid hT
 have Hn:=Lib.hid hn
 have HW:=Lib.hid (Q2u hs)
 obtain ⟨oR,cR,rfl⟩:=Q02 h.rg
 obtain ⟨oC,cC,rfl⟩:=Q02 h.cd
 obtain ⟨oM,cM,rfl⟩:=Q02 h.mo
 have HSp:=Lib.hid (Q2q 32 _ hT w (ht.ext h.ext))
 clear h hg ht hT hn hs
 go_enter Tryz.func20,Tryz.ntmps20
 go_wp2_with fail
 (with_reducible refine HSp.out.mono ?_)
 clear HSp
 rintro e w5 ⟨v5,rfl,hv,hx⟩
 have HS5:=Lib.hid (HS.out.extend hx)
 obtain ⟨kw,cw,ow,rfl,hcw,hwl,Hcw,hix,hsl,Hrow,Hwl⟩:=Q2v HW.out HT.out hv
 clear hx hv
 go_wp2_with fail
 (with_reducible refine (Q2w ws _ w5 Hrow.out Hwl.out (Ht.out.ext HS5.out.ext)).mono ?_)
 clear hsl Hrow Hwl
 rintro e w6 ⟨v6,b6,rfl,hx,hc⟩
 have HS6:=Lib.hid (HS5.out.extend hx)
 have cw0:=Hcw.out w6 hx
 clear hx Hcw
 rcases hc with ⟨rfl,l',hl',hown⟩ | ⟨rfl,hno⟩
 case inr=>exact absurd (Hn.out.symm.trans hno) (by simp)
 obtain rfl:=Option.some.inj (Hn.out.symm.trans hl')
 have hv:=Q2m hown (fun x hx=>(Q2o _ _ Hn.out x hx).r64)
 clear hown hl'
 obtain ⟨-,ol,cl,bl,oo,rfl,hlc,hcm,-⟩:=hv
 have e1:¬ (l.length:Int)=1:=by omega
 have f1:((l.length:Int) == 1)=false:=by simpa using e1
 have e0:¬ (l.length:Int)=0:=by omega
 have f0:((l.length:Int) == 0)=false:=by simpa using e0
 go_wp2
 go_ret
 exact Q0l.same (s:=⟨p,L.map (·.2)⟩) rfl HS6.out
theorem Q9q (h:PlSt w0 w B g 65 vR vC vM p L) (hg:Q0y ⟨p,L.map (·.2)⟩) (ht:Tab9 w0) (hT:t.length≤1000000000) (W0:List UInt8) (l:List Int) (hl0:l.length≠0) (h_region:¬ W0=[114,101,103,105,111,110]) (h_fill:¬ W0=[102,105,108,108]) (h_ins:¬ W0=[105,110,115]) (h_run:¬ W0=[114,117,110]) (h_ahead:¬ W0=[97,104,101,97,100]) (h_look:¬ W0=[108,111,111,107]) (hs:Q07 32 t=W0 :: ws) (hn:Q0s ws=some (l)) :
  Calls Tryz.prog 20 #[.pointer (some ⟨g,0,none⟩),str t] w (Q0l ([63],⟨p,L.map (·.2)⟩) w0 B g 65):=by
 have HS:=Lib.hid h
 have Hg:=Lib.hid hg
 have Ht:=Lib.hid ht
 have HT:=Lib.hid hT
 have Hn:=Lib.hid hn
 have HW:=Lib.hid (Q2u hs)
 obtain ⟨oR,cR,rfl⟩:=Q02 h.rg
 obtain ⟨oC,cC,rfl⟩:=Q02 h.cd
 obtain ⟨oM,cM,rfl⟩:=Q02 h.mo
 have HSp:=Lib.hid (Q2q 32 _ hT w (ht.ext h.ext))
 clear h hg ht hT hn hs
 go_enter Tryz.func20,Tryz.ntmps20
 go_wp2_with fail
 (with_reducible refine HSp.out.mono ?_)
 clear HSp
 rintro e w5 ⟨v5,rfl,hv,hx⟩
 have HS5:=Lib.hid (HS.out.extend hx)
 obtain ⟨kw,cw,ow,rfl,hcw,hwl,Hcw,hix,hsl,Hrow,Hwl⟩:=Q2v HW.out HT.out hv
 clear hx hv
 go_wp2_with fail
 (with_reducible refine (Q2w ws _ w5 Hrow.out Hwl.out (Ht.out.ext HS5.out.ext)).mono ?_)
 clear hsl Hrow Hwl
 rintro e w6 ⟨v6,b6,rfl,hx,hc⟩
 have HS6:=Lib.hid (HS5.out.extend hx)
 have cw0:=Hcw.out w6 hx
 clear hx Hcw
 rcases hc with ⟨rfl,l',hl',hown⟩ | ⟨rfl,hno⟩
 case inr=>exact absurd (Hn.out.symm.trans hno) (by simp)
 obtain rfl:=Option.some.inj (Hn.out.symm.trans hl')
 have hv:=Q2m hown (fun x hx=>(Q2o _ _ Hn.out x hx).r64)
 clear hown hl'
 obtain ⟨-,ol,cl,bl,oo,rfl,hlc,hcm,-⟩:=hv
 have n_region:(W0 == [114,101,103,105,111,110])=false:=by simpa using h_region
 have n_fill:(W0 == [102,105,108,108])=false:=by simpa using h_fill
 have n_ins:(W0 == [105,110,115])=false:=by simpa using h_ins
 have n_run:(W0 == [114,117,110])=false:=by simpa using h_run
 have n_ahead:(W0 == [97,104,101,97,100])=false:=by simpa using h_ahead
 have n_look:(W0 == [108,111,111,107])=false:=by simpa using h_look
 have e0:¬ (l.length:Int)=0:=by omega
 have f0:((l.length:Int) == 0)=false:=by simpa using e0
 go_wp2
 go_ret
 exact Q0l.same (s:=⟨p,L.map (·.2)⟩) rfl HS6.out
theorem Qtt (h:PlSt w0 w B g 65 vR vC vM p L) (hg:Q0y ⟨p,L.map (·.2)⟩) (ht:Tab9 w0) (hT:t.length≤1000000000)  (hs:Q07 32 t=[99,104,101,99,107] :: ws) (hn:Q0s ws=some ([])) :
  Calls Tryz.prog 20 #[.pointer (some ⟨g,0,none⟩),str t] w (Q0l (checkA p,⟨p,L.map (·.2)⟩) w0 B g 65):=by
 have HS:=Lib.hid h
 have Hg:=Lib.hid hg
 have Ht:=Lib.hid ht
 have HT:=Lib.hid hT
 have Hn:=Lib.hid hn
 have HW:=Lib.hid (Q2u hs)
 obtain rfl:=Q5b (by rw [Q5u hn] at hs;exact hs)
 obtain ⟨oR,cR,rfl⟩:=Q02 h.rg
 obtain ⟨oC,cC,rfl⟩:=Q02 h.cd
 obtain ⟨oM,cM,rfl⟩:=Q02 h.mo
 have HSp:=Lib.hid (Q2q 32 _ hT w (ht.ext h.ext))
 clear h hg ht hT hn hs
 go_enter Tryz.func20,Tryz.ntmps20
 go_wp2_with fail
 (with_reducible refine HSp.out.mono ?_)
 clear HSp
 rintro e w5 ⟨v5,rfl,hv,hx⟩
 have HS5:=Lib.hid (HS.out.extend hx)
 obtain ⟨kw,cw,ow,rfl,hcw,hwl,Hcw,hix,hsl,Hrow,Hwl⟩:=Q2v HW.out HT.out hv
 clear hx hv
 go_wp2_with fail
 (with_reducible refine (Q2w ws _ w5 Hrow.out Hwl.out (Ht.out.ext HS5.out.ext)).mono ?_)
 clear hsl Hrow Hwl
 rintro e w6 ⟨v6,b6,rfl,hx,hc⟩
 have HS6:=Lib.hid (HS5.out.extend hx)
 have cw0:=Hcw.out w6 hx
 clear hx Hcw
 rcases hc with ⟨rfl,l',hl',hown⟩ | ⟨rfl,hno⟩
 case inr=>exact absurd (Hn.out.symm.trans hno) (by simp)
 obtain rfl:=Option.some.inj (Hn.out.symm.trans hl')
 have hv:=Q2m hown (fun x hx=>(Q2o _ _ Hn.out x hx).r64)
 clear hown hl'
 obtain ⟨-,ol,cl,bl,oo,rfl,hlc,hcm,-⟩:=hv
 go_wp2_with fail
 (with_reducible refine (Qu0 HS6.out Hg.out Ht.out.tabs).mono ?_)
 rintro e w7 ⟨rfl,h7⟩
 have H7:=Lib.hid h7
 clear h7
 go_wp2
 go_ret
 exact ⟨rfl,H7.out⟩
theorem Qtr (h:PlSt w0 w B g 65 vR vC vM p L) (hg:Q0y ⟨p,L.map (·.2)⟩) (ht:Tab9 w0) (hT:t.length≤1000000000)  (hs:Q07 32 t=[104,97,114,100] :: ws) (hn:Q0s ws=some ([])) :
  Calls Tryz.prog 20 #[.pointer (some ⟨g,0,none⟩),str t] w (Q0l ((hardA p).1,⟨(hardA p).2,L.map (·.2)⟩) w0 B g 65):=by
 have HS:=Lib.hid h
 have Hg:=Lib.hid hg
 have Ht:=Lib.hid ht
 have HT:=Lib.hid hT
 have Hn:=Lib.hid hn
 have HW:=Lib.hid (Q2u hs)
 obtain rfl:=Q5b (by rw [Q5u hn] at hs;exact hs)
 obtain ⟨oR,cR,rfl⟩:=Q02 h.rg
 obtain ⟨oC,cC,rfl⟩:=Q02 h.cd
 obtain ⟨oM,cM,rfl⟩:=Q02 h.mo
 have HSp:=Lib.hid (Q2q 32 _ hT w (ht.ext h.ext))
 clear h hg ht hT hn hs
 go_enter Tryz.func20,Tryz.ntmps20
 go_wp2_with fail
 (with_reducible refine HSp.out.mono ?_)
 clear HSp
 rintro e w5 ⟨v5,rfl,hv,hx⟩
 have HS5:=Lib.hid (HS.out.extend hx)
 obtain ⟨kw,cw,ow,rfl,hcw,hwl,Hcw,hix,hsl,Hrow,Hwl⟩:=Q2v HW.out HT.out hv
 clear hx hv
 go_wp2_with fail
 (with_reducible refine (Q2w ws _ w5 Hrow.out Hwl.out (Ht.out.ext HS5.out.ext)).mono ?_)
 clear hsl Hrow Hwl
 rintro e w6 ⟨v6,b6,rfl,hx,hc⟩
 have HS6:=Lib.hid (HS5.out.extend hx)
 have cw0:=Hcw.out w6 hx
 clear hx Hcw
 rcases hc with ⟨rfl,l',hl',hown⟩ | ⟨rfl,hno⟩
 case inr=>exact absurd (Hn.out.symm.trans hno) (by simp)
 obtain rfl:=Option.some.inj (Hn.out.symm.trans hl')
 have hv:=Q2m hown (fun x hx=>(Q2o _ _ Hn.out x hx).r64)
 clear hown hl'
 obtain ⟨-,ol,cl,bl,oo,rfl,hlc,hcm,-⟩:=hv
 go_wp2_with fail
 (with_reducible refine (Qtz HS6.out Hg.out Ht.out.tabs).mono ?_)
 rintro e w7 ⟨rfl,h7⟩
 have H7:=Lib.hid h7
 clear h7
 go_wp2
 go_ret
 exact ⟨rfl,H7.out⟩
theorem Qtp (h:PlSt w0 w B g 65 vR vC vM p L) (hg:Q0y ⟨p,L.map (·.2)⟩) (ht:Tab9 w0) (hT:t.length≤1000000000)  (hs:Q07 32 t=[108,111,97,100] :: ws) (hn:Q0s ws=some ([])) :
  Calls Tryz.prog 20 #[.pointer (some ⟨g,0,none⟩),str t] w (Q0l (loadA p,⟨p,L.map (·.2)⟩) w0 B g 65):=by
 have HS:=Lib.hid h
 have Hg:=Lib.hid hg
 have Ht:=Lib.hid ht
 have HT:=Lib.hid hT
 have Hn:=Lib.hid hn
 have HW:=Lib.hid (Q2u hs)
 obtain rfl:=Q5b (by rw [Q5u hn] at hs;exact hs)
 obtain ⟨oR,cR,rfl⟩:=Q02 h.rg
 obtain ⟨oC,cC,rfl⟩:=Q02 h.cd
 obtain ⟨oM,cM,rfl⟩:=Q02 h.mo
 have HSp:=Lib.hid (Q2q 32 _ hT w (ht.ext h.ext))
 clear h hg ht hT hn hs
 go_enter Tryz.func20,Tryz.ntmps20
 go_wp2_with fail
 (with_reducible refine HSp.out.mono ?_)
 clear HSp
 rintro e w5 ⟨v5,rfl,hv,hx⟩
 have HS5:=Lib.hid (HS.out.extend hx)
 obtain ⟨kw,cw,ow,rfl,hcw,hwl,Hcw,hix,hsl,Hrow,Hwl⟩:=Q2v HW.out HT.out hv
 clear hx hv
 go_wp2_with fail
 (with_reducible refine (Q2w ws _ w5 Hrow.out Hwl.out (Ht.out.ext HS5.out.ext)).mono ?_)
 clear hsl Hrow Hwl
 rintro e w6 ⟨v6,b6,rfl,hx,hc⟩
 have HS6:=Lib.hid (HS5.out.extend hx)
 have cw0:=Hcw.out w6 hx
 clear hx Hcw
 rcases hc with ⟨rfl,l',hl',hown⟩ | ⟨rfl,hno⟩
 case inr=>exact absurd (Hn.out.symm.trans hno) (by simp)
 obtain rfl:=Option.some.inj (Hn.out.symm.trans hl')
 have hv:=Q2m hown (fun x hx=>(Q2o _ _ Hn.out x hx).r64)
 clear hown hl'
 obtain ⟨-,ol,cl,bl,oo,rfl,hlc,hcm,-⟩:=hv
 go_wp2_with fail
 (with_reducible refine (Qty HS6.out Hg.out Ht.out.tabs).mono ?_)
 rintro e w7 ⟨rfl,h7⟩
 have H7:=Lib.hid h7
 clear h7
 go_wp2
 go_ret
 exact ⟨rfl,H7.out⟩
theorem Qt8 (h:PlSt w0 w B g 65 vR vC vM p L) (hg:Q0y ⟨p,L.map (·.2)⟩) (ht:Tab9 w0) (hT:t.length≤1000000000)  (hs:Q07 32 t=[116,101,120,116] :: ws) (hn:Q0s ws=some ([])) :
  Calls Tryz.prog 20 #[.pointer (some ⟨g,0,none⟩),str t] w (Q0l (Q89 p,⟨p,L.map (·.2)⟩) w0 B g 65):=by
 have HS:=Lib.hid h
 have Hg:=Lib.hid hg
 have Ht:=Lib.hid ht
 have HT:=Lib.hid hT
 have Hn:=Lib.hid hn
 have HW:=Lib.hid (Q2u hs)
 obtain rfl:=Q5b (by rw [Q5u hn] at hs;exact hs)
 obtain ⟨oR,cR,rfl⟩:=Q02 h.rg
 obtain ⟨oC,cC,rfl⟩:=Q02 h.cd
 obtain ⟨oM,cM,rfl⟩:=Q02 h.mo
 have HSp:=Lib.hid (Q2q 32 _ hT w (ht.ext h.ext))
 clear h hg ht hT hn hs
 go_enter Tryz.func20,Tryz.ntmps20
 go_wp2_with fail
 (with_reducible refine HSp.out.mono ?_)
 clear HSp
 rintro e w5 ⟨v5,rfl,hv,hx⟩
 have HS5:=Lib.hid (HS.out.extend hx)
 obtain ⟨kw,cw,ow,rfl,hcw,hwl,Hcw,hix,hsl,Hrow,Hwl⟩:=Q2v HW.out HT.out hv
 clear hx hv
 go_wp2_with fail
 (with_reducible refine (Q2w ws _ w5 Hrow.out Hwl.out (Ht.out.ext HS5.out.ext)).mono ?_)
 clear hsl Hrow Hwl
 rintro e w6 ⟨v6,b6,rfl,hx,hc⟩
 have HS6:=Lib.hid (HS5.out.extend hx)
 have cw0:=Hcw.out w6 hx
 clear hx Hcw
 rcases hc with ⟨rfl,l',hl',hown⟩ | ⟨rfl,hno⟩
 case inr=>exact absurd (Hn.out.symm.trans hno) (by simp)
 obtain rfl:=Option.some.inj (Hn.out.symm.trans hl')
 have hv:=Q2m hown (fun x hx=>(Q2o _ _ Hn.out x hx).r64)
 clear hown hl'
 obtain ⟨-,ol,cl,bl,oo,rfl,hlc,hcm,-⟩:=hv
 go_wp2_with fail
 (with_reducible refine (Qtx HS6.out Hg.out Ht.out.tabs).mono ?_)
 rintro e w7 ⟨rfl,h7⟩
 have H7:=Lib.hid h7
 clear h7
 go_wp2
 go_ret
 exact ⟨rfl,H7.out⟩
end
section
variable {w0 w : World} {B g : Nat} {vR vC vM : Value} {p : Q00} {L : List (Value × List Int)} {t : List UInt8} {ws : List (List UInt8)}
set_option maxRecDepth 100000
set_option maxHeartbeats 16000000
theorem Qta (h:PlSt w0 w B g 65 vR vC vM p L) (hg:Q0y ⟨p,L.map (·.2)⟩) (ht:Tab9 w0) (hT:t.length≤1000000000) (a b:Int) (hs:Q07 32 t=[114,101,103,105,111,110] :: ws) (hn:Q0s ws=some ([a,b])) :
  Calls Tryz.prog 20 #[.pointer (some ⟨g,0,none⟩),str t] w (Q0l (Q3j ⟨p,L.map (·.2)⟩ a b) w0 B g 65):=by
 have HS:=Lib.hid h
 have Hg:=Lib.hid hg
 have Ht:=Lib.hid ht
 have HT:=Lib.hid hT
 have Hn:=Lib.hid hn
 have HW:=Lib.hid (Q2u hs)
 obtain ⟨oR,cR,rfl⟩:=Q02 h.rg
 obtain ⟨oC,cC,rfl⟩:=Q02 h.cd
 obtain ⟨oM,cM,rfl⟩:=Q02 h.mo
 have HSp:=Lib.hid (Q2q 32 _ hT w (ht.ext h.ext))
 clear h hg ht hT hn hs
 go_enter Tryz.func20,Tryz.ntmps20
 go_wp2_with fail
 (with_reducible refine HSp.out.mono ?_)
 clear HSp
 rintro e w5 ⟨v5,rfl,hv,hx⟩
 have HS5:=Lib.hid (HS.out.extend hx)
 obtain ⟨kw,cw,ow,rfl,hcw,hwl,Hcw,hix,hsl,Hrow,Hwl⟩:=Q2v HW.out HT.out hv
 clear hx hv
 go_wp2_with fail
 (with_reducible refine (Q2w ws _ w5 Hrow.out Hwl.out (Ht.out.ext HS5.out.ext)).mono ?_)
 clear hsl Hrow Hwl
 rintro e w6 ⟨v6,b6,rfl,hx,hc⟩
 have HS6:=Lib.hid (HS5.out.extend hx)
 have cw0:=Hcw.out w6 hx
 clear hx Hcw
 rcases hc with ⟨rfl,l',hl',hown⟩ | ⟨rfl,hno⟩
 case inr=>exact absurd (Hn.out.symm.trans hno) (by simp)
 obtain rfl:=Option.some.inj (Hn.out.symm.trans hl')
 have hv:=Q2m hown (fun x hx=>(Q2o _ _ Hn.out x hx).r64)
 clear hown hl'
 obtain ⟨bl,ol,cl,rfl,c0,c1⟩:=Qr7 hv
 have hil:=Q6a (oa:=some ⟨bl,ol,none⟩) (n:=2) (b:=bl) (o:=ol) (cap:=cl) (fun _=>rfl)
 clear hv
 go_upto_region 7 with fail
 have q0:∀ Wx,Ext w6 Wx→Wx.cell? ⟨bl,ol,none⟩=some (.int .i64 a):=fun _ h=>h.kept c0
 have q1:∀ Wx,Ext w6 Wx→Wx.cell? ⟨bl,ol+1,none⟩=some (.int .i64 b):=fun _ h=>h.kept c1
 clear c0 c1 cw0 hix
 refine Q26 [7,8] 0 (by kernel_rfl) (by kernel_rfl) ?_
 repeat (first | (refine Q29 ?_ ?_;(decide)) | (refine Q23 ?_ ?_ ?_;(decide);(first | rfl | (focus (go_simp;done)));apply Exists.intro;refine ⟨fun wc hE=>?_,?_⟩;(go_simp;exact rfl);go_simp) | (refine Q27 ?_ ?_ ?_;(decide);(focus (go_simp;done));go_simp))
 refine Q28 ?_
 intro w7 hx
 have HS7:=Lib.hid (HS6.out.extend hx)
 clear hx q0 q1
 refine Q1u (Q09 rfl (Q09 rfl (Q22))) ?_
 go_wp2_with fail
 (with_reducible refine (Qt3 HS7.out Hg.out a b Ht.out.tabs).mono ?_)
 rintro e w8 ⟨rfl,h8⟩
 have H8:=Lib.hid h8
 clear h8
 go_wp2
 go_ret
 exact ⟨rfl,H8.out⟩
theorem Qts (h:PlSt w0 w B g 65 vR vC vM p L) (hg:Q0y ⟨p,L.map (·.2)⟩) (ht:Tab9 w0) (hT:t.length≤1000000000) (a:Int) (cs:List Int) (hs:Q07 32 t=[102,105,108,108] :: ws) (hn:Q0s ws=some (a :: cs)) :
  Calls Tryz.prog 20 #[.pointer (some ⟨g,0,none⟩),str t] w (Q0l (Q5k ⟨p,L.map (·.2)⟩ (a :: cs)) w0 B g 65):=by
 have HS:=Lib.hid h
 have Hg:=Lib.hid hg
 have Ht:=Lib.hid ht
 have HT:=Lib.hid hT
 have Hn:=Lib.hid hn
 have HW:=Lib.hid (Q2u hs)
 obtain ⟨oR,cR,rfl⟩:=Q02 h.rg
 obtain ⟨oC,cC,rfl⟩:=Q02 h.cd
 obtain ⟨oM,cM,rfl⟩:=Q02 h.mo
 have HSp:=Lib.hid (Q2q 32 _ hT w (ht.ext h.ext))
 clear h hg ht hT hn hs
 go_enter Tryz.func20,Tryz.ntmps20
 go_wp2_with fail
 (with_reducible refine HSp.out.mono ?_)
 clear HSp
 rintro e w5 ⟨v5,rfl,hv,hx⟩
 have HS5:=Lib.hid (HS.out.extend hx)
 obtain ⟨kw,cw,ow,rfl,hcw,hwl,Hcw,hix,hsl,Hrow,Hwl⟩:=Q2v HW.out HT.out hv
 clear hx hv
 go_wp2_with fail
 (with_reducible refine (Q2w ws _ w5 Hrow.out Hwl.out (Ht.out.ext HS5.out.ext)).mono ?_)
 clear hsl Hrow Hwl
 rintro e w6 ⟨v6,b6,rfl,hx,hc⟩
 have HS6:=Lib.hid (HS5.out.extend hx)
 have cw0:=Hcw.out w6 hx
 clear hx Hcw
 rcases hc with ⟨rfl,l',hl',hown⟩ | ⟨rfl,hno⟩
 case inr=>exact absurd (Hn.out.symm.trans hno) (by simp)
 obtain rfl:=Option.some.inj (Hn.out.symm.trans hl')
 have hv:=Q2m hown (fun x hx=>(Q2o _ _ Hn.out x hx).r64)
 clear hown hl'
 have Hcl:Hid (cs.length≤1000000001):=Lib.hid (by have:=Q9c _ _ Hn.out;simp only [List.length_cons] at this;omega)
 obtain ⟨bl,ol,cl,hve,-⟩:=Qdd hv
 rw [hve] at hv
 subst hve
 have Hv:=Lib.hid hv
 have hge:(1:Int)≤((cs.length+1:Nat):Int):=by omega
 clear hv
 go_wp2_with fail
 (with_reducible refine (Qtw HS6.out Hg.out a cs _ Hv.out Hcl.out).mono ?_)
 rintro e w7 ⟨rfl,h7⟩
 have H7:=Lib.hid h7
 clear h7
 go_wp2
 go_ret
 exact ⟨rfl,H7.out⟩
theorem Qtn (h:PlSt w0 w B g 65 vR vC vM p L) (hg:Q0y ⟨p,L.map (·.2)⟩) (ht:Tab9 w0) (hT:t.length≤1000000000) (a:Int) (ha:a < 0∨(L.length:Int)≤a) (hs:Q07 32 t=[108,111,111,107] :: ws) (hn:Q0s ws=some ([a])) :
  Calls Tryz.prog 20 #[.pointer (some ⟨g,0,none⟩),str t] w (Q0l ([63],⟨p,L.map (·.2)⟩) w0 B g 65):=by
 have HS:=Lib.hid h
 have Hg:=Lib.hid hg
 have Ht:=Lib.hid ht
 have HT:=Lib.hid hT
 have Hn:=Lib.hid hn
 have HW:=Lib.hid (Q2u hs)
 obtain ⟨oR,cR,rfl⟩:=Q02 h.rg
 obtain ⟨oC,cC,rfl⟩:=Q02 h.cd
 obtain ⟨oM,cM,rfl⟩:=Q02 h.mo
 have HSp:=Lib.hid (Q2q 32 _ hT w (ht.ext h.ext))
 clear h hg ht hT hn hs
 go_enter Tryz.func20,Tryz.ntmps20
 go_wp2_with fail
 (with_reducible refine HSp.out.mono ?_)
 clear HSp
 rintro e w5 ⟨v5,rfl,hv,hx⟩
 have HS5:=Lib.hid (HS.out.extend hx)
 obtain ⟨kw,cw,ow,rfl,hcw,hwl,Hcw,hix,hsl,Hrow,Hwl⟩:=Q2v HW.out HT.out hv
 clear hx hv
 go_wp2_with fail
 (with_reducible refine (Q2w ws _ w5 Hrow.out Hwl.out (Ht.out.ext HS5.out.ext)).mono ?_)
 clear hsl Hrow Hwl
 rintro e w6 ⟨v6,b6,rfl,hx,hc⟩
 have HS6:=Lib.hid (HS5.out.extend hx)
 have cw0:=Hcw.out w6 hx
 clear hx Hcw
 rcases hc with ⟨rfl,l',hl',hown⟩ | ⟨rfl,hno⟩
 case inr=>exact absurd (Hn.out.symm.trans hno) (by simp)
 obtain rfl:=Option.some.inj (Hn.out.symm.trans hl')
 have hv:=Q2m hown (fun x hx=>(Q2o _ _ Hn.out x hx).r64)
 clear hown hl'
 obtain ⟨bl,ol,cl,rfl,c0⟩:=Qde hv
 have hil:=Q6a (oa:=some ⟨bl,ol,none⟩) (n:=1) (b:=bl) (o:=ol) (cap:=cl) (fun _=>rfl)
 have Ha:=Lib.hid ha
 clear hv ha
 go_wp2_with fail
 (with_reducible refine (Qit HS6.out Ha.out).mono ?_)
 rintro e w7 ⟨rfl,rfl⟩
 go_wp2
 go_ret
 exact Q0l.same (s:=⟨p,L.map (·.2)⟩) rfl HS6.out
theorem Qto (h:PlSt w0 w B g 65 vR vC vM p L) (hg:Q0y ⟨p,L.map (·.2)⟩) (ht:Tab9 w0) (hT:t.length≤1000000000) (i:Nat) (v:Value) (r:List Int) (hi:L[i]? = some (v,r)) (hs:Q07 32 t=[108,111,111,107] :: ws) (hn:Q0s ws=some ([(i:Int)])) :
  Calls Tryz.prog 20 #[.pointer (some ⟨g,0,none⟩),str t] w (Q0l (sayT isW r,⟨p,L.map (·.2)⟩) w0 B g 65):=by
 have HS:=Lib.hid h
 have Hg:=Lib.hid hg
 have Ht:=Lib.hid ht
 have HT:=Lib.hid hT
 have Hn:=Lib.hid hn
 have HW:=Lib.hid (Q2u hs)
 have Hi:=Lib.hid hi
 obtain ⟨oR,cR,rfl⟩:=Q02 h.rg
 obtain ⟨oC,cC,rfl⟩:=Q02 h.cd
 obtain ⟨oM,cM,rfl⟩:=Q02 h.mo
 have HSp:=Lib.hid (Q2q 32 _ hT w (ht.ext h.ext))
 clear h hg ht hT hn hs
 go_enter Tryz.func20,Tryz.ntmps20
 go_wp2_with fail
 (with_reducible refine HSp.out.mono ?_)
 clear HSp
 rintro e w5 ⟨v5,rfl,hv,hx⟩
 have HS5:=Lib.hid (HS.out.extend hx)
 obtain ⟨kw,cw,ow,rfl,hcw,hwl,Hcw,hix,hsl,Hrow,Hwl⟩:=Q2v HW.out HT.out hv
 clear hx hv
 go_wp2_with fail
 (with_reducible refine (Q2w ws _ w5 Hrow.out Hwl.out (Ht.out.ext HS5.out.ext)).mono ?_)
 clear hsl Hrow Hwl
 rintro e w6 ⟨v6,b6,rfl,hx,hc⟩
 have HS6:=Lib.hid (HS5.out.extend hx)
 have cw0:=Hcw.out w6 hx
 clear hx Hcw
 rcases hc with ⟨rfl,l',hl',hown⟩ | ⟨rfl,hno⟩
 case inr=>exact absurd (Hn.out.symm.trans hno) (by simp)
 obtain rfl:=Option.some.inj (Hn.out.symm.trans hl')
 have hv:=Q2m hown (fun x hx=>(Q2o _ _ Hn.out x hx).r64)
 clear hown hl'
 obtain ⟨bl,ol,cl,rfl,c0⟩:=Qde hv
 have hil:=Q6a (oa:=some ⟨bl,ol,none⟩) (n:=1) (b:=bl) (o:=ol) (cap:=cl) (fun _=>rfl)
 have hL6:L.length≤6:=by
  have h1:=Hg.out.len
  have h2:=Hg.out.regs6
  simp only [List.length_map] at h1 h2
  omega
 obtain ⟨ko,co,-,-,-,hrow⟩:=HS6.out.at_ Hi.out
 obtain ⟨kv,cv,rfl,hrl⟩:=Qm6 hrow (Hg.out.rows r (by
  have:=List.mem_of_getElem? Hi.out
  exact List.mem_map.2 ⟨_,this,rfl⟩))
 have Hri:=Lib.hid (Q2m hrow (HS6.out.f64 _ (List.mem_of_getElem? Hi.out)))
 clear hv hi hrow
 go_wp2_with fail
 (with_reducible refine (Qiu HS6.out Hi.out hL6).mono ?_)
 rintro e w7 ⟨rfl,rfl⟩
 go_wp2_with fail
 (with_reducible refine (Qfr [105,115] r _ _ Hri.out (by simp) (by omega) (Ht.out.tabs.ext HS6.out.ext)).mono ?_)
 rintro e w8 ⟨rfl,hx⟩
 have HS8:=Lib.hid (HS6.out.extend hx)
 clear hx
 go_wp2
 go_ret
 exact Q0l.same (s:=⟨p,L.map (·.2)⟩) rfl HS8.out
end
section
variable {w0 w : World} {B g : Nat} {vR vC vM : Value} {p : Q00} {L : List (Value × List Int)} {t : List UInt8} {ws : List (List UInt8)}
set_option maxRecDepth 100000
set_option maxHeartbeats 16000000
theorem Qtq (h:PlSt w0 w B g 65 vR vC vM p L) (hg:Q0y ⟨p,L.map (·.2)⟩) (ht:Tab9 w0) (hT:t.length≤1000000000) (a b c d n:Int) (hc:p.code.length < 200) (hs:Q07 32 t=[105,110,115] :: ws) (hn:Q0s ws=some ([a,b,c,d,n])) :
  Calls Tryz.prog 20 #[.pointer (some ⟨g,0,none⟩),str t] w (Q0l (sayT okW [(p.code.length:Int)+1],⟨⟨p.regs,p.code ++ [⟨a,b,c,d,n⟩]⟩,L.map (·.2)⟩) w0 B g 65):=by
 have HS:=Lib.hid h
 have Hg:=Lib.hid hg
 have Ht:=Lib.hid ht
 have HT:=Lib.hid hT
 have Hn:=Lib.hid hn
 have HW:=Lib.hid (Q2u hs)
 obtain ⟨oR,cR,rfl⟩:=Q02 h.rg
 obtain ⟨oC,cC,rfl⟩:=Q02 h.cd
 obtain ⟨oM,cM,rfl⟩:=Q02 h.mo
 have HSp:=Lib.hid (Q2q 32 _ hT w (ht.ext h.ext))
 clear h hg ht hT hn hs
 go_enter Tryz.func20,Tryz.ntmps20
 go_wp2_with fail
 (with_reducible refine HSp.out.mono ?_)
 clear HSp
 rintro e w5 ⟨v5,rfl,hv,hx⟩
 have HS5:=Lib.hid (HS.out.extend hx)
 obtain ⟨kw,cw,ow,rfl,hcw,hwl,Hcw,hix,hsl,Hrow,Hwl⟩:=Q2v HW.out HT.out hv
 clear hx hv
 go_wp2_with fail
 (with_reducible refine (Q2w ws _ w5 Hrow.out Hwl.out (Ht.out.ext HS5.out.ext)).mono ?_)
 clear hsl Hrow Hwl
 rintro e w6 ⟨v6,b6,rfl,hx,hc⟩
 have HS6:=Lib.hid (HS5.out.extend hx)
 have cw0:=Hcw.out w6 hx
 clear hx Hcw
 rcases hc with ⟨rfl,l',hl',hown⟩ | ⟨rfl,hno⟩
 case inr=>exact absurd (Hn.out.symm.trans hno) (by simp)
 obtain rfl:=Option.some.inj (Hn.out.symm.trans hl')
 have hv:=Q2m hown (fun x hx=>(Q2o _ _ Hn.out x hx).r64)
 clear hown hl'
 obtain ⟨bl,ol,cl,rfl,c0,c1,c2,c3,c4⟩:=Qhx hv
 have hil:=Q6a (oa:=some ⟨bl,ol,none⟩) (n:=5) (b:=bl) (o:=ol) (cap:=cl) (fun _=>rfl)
 obtain ⟨i0,hi0,hz0,hz1,hz2⟩:=info_parts Qrw
 have h200:(p.code.length:Int) < 200:=by omega
 have HRl:Hid (R64 ((p.code.length:Int)+1)):=Lib.hid ⟨by omega,by omega⟩
 have HF:Hid (LIns.fits ⟨a,b,c,d,n⟩):=Lib.hid (by
  have h6:=Q2o _ _ Hn.out
  exact ⟨(h6 a (by simp)).r64,(h6 b (by simp)).r64,(h6 c (by simp)).r64,(h6 d (by simp)).r64,(h6 n (by simp)).r64⟩)
 obtain ⟨d0,d1,d2⟩:=HS6.out.cells
 have hgl:=HS6.out.box.lt
 clear hv
 go_upto_region 11 with fail
 have q0:∀ Wx,Ext w6 Wx→Wx.cell? ⟨bl,ol,none⟩=some (.int .i64 a):=fun _ h=>h.kept c0
 have q1:∀ Wx,Ext w6 Wx→Wx.cell? ⟨bl,ol+1,none⟩=some (.int .i64 b):=fun _ h=>h.kept c1
 have q2:∀ Wx,Ext w6 Wx→Wx.cell? ⟨bl,ol+2,none⟩=some (.int .i64 c):=fun _ h=>h.kept c2
 have q3:∀ Wx,Ext w6 Wx→Wx.cell? ⟨bl,ol+3,none⟩=some (.int .i64 d):=fun _ h=>h.kept c3
 have q4:∀ Wx,Ext w6 Wx→Wx.cell? ⟨bl,ol+4,none⟩=some (.int .i64 n):=fun _ h=>h.kept c4
 have k1:∀ Wx,Ext w6 Wx→Wx.cell? ⟨g,1,none⟩=some (.slice oC p.code.length cC):=fun _ h=>h.kept d1.1
 clear c0 c1 c2 c3 c4 cw0 d0 d1 d2
 refine Q26 [22,23,24,25,26,27] 1 (by kernel_rfl) (by kernel_rfl) ?_
 repeat (first | (refine Q29 ?_ ?_;(decide)) | (refine Q23 ?_ ?_ ?_;(decide);(first | rfl | (focus (go_simp;done)));apply Exists.intro;refine ⟨fun wc hE=>?_,?_⟩;(go_simp;exact rfl);go_simp) | (refine Q27 ?_ ?_ ?_;(decide);(focus (go_simp;done));go_simp))
 refine Q28 ?_
 intro w7 hx
 have HS7:=Lib.hid (HS6.out.extend hx)
 have HX:=Lib.hid hx
 have hBs7:=HS7.out.size
 clear k1 q0 q1 q2 q3 q4 hx
 refine Q11 rfl ?_
 go_wp2
 refine ⟨HX.out.alloc _,?_⟩
 refine Q1u (Q09 rfl (Q09 rfl (Q09 rfl (Q09 rfl (Q09 rfl (Q22)))))) ?_
 refine Q1z _ rfl _ _ 26 rfl B 41 i0 _ 5 40 Tryz.underlying26 hi0 hz0 hz1 hz2 rfl (by decide) _ _ _ rfl (Q2s HS7.out.cd) (some ⟨w7.heap.size,0,none⟩) 1 1 (Q1l ⟨a,b,c,d,n⟩) rfl ?c1 ?c3 ?c4 ?c5 ?_
 case c1=>exact Q35 (size:=5) (Blk.new w7 41 #[.int .i64 a,.int .i64 b,.int .i64 c,.int .i64 d,.int .i64 n]) rfl (by simp [Value.oneCell'])
 case c3=>unfold maxLen;omega
 case c4=>omega
 case c5=>simp;omega
 intro vC' w8 hown hgrow hat2
 clear hat2
 obtain ⟨oC2,cC2,rfl⟩:=Q02 hown
 have hxa:=(Ext.refl w7).alloc (.cells #[.int .i64 a,.int .i64 b,.int .i64 c,.int .i64 d,.int .i64 n] 41)
 have HSa:=HS7.out.extend hxa
 have hgrow:(w7.alloc (.cells #[.int .i64 a,.int .i64 b,.int .i64 c,.int .i64 d,.int .i64 n] 41)).grownBy w8 (Value.slice oC p.code.length cC).ownBlock:=hgrow
 have hlen:(p.code ++ [(⟨a,b,c,d,n⟩:LIns)]).length=p.code.length+1:=by simp
 have HS8:Hid (PlSt w0 (w8.setCell ⟨g,1,none⟩ (.slice oC2 (p.code.length+1) cC2)) B g 65 (.slice oR p.regs.length cR) (.slice oC2 (p.code.length+1) cC2) (.slice oM L.length cM) ⟨p.regs,p.code ++ [⟨a,b,c,d,n⟩]⟩ L):=Lib.hid (HSa.code_ hgrow (by rw [hlen,List.flatMap_append];simpa using hown) (fun r hr=>by rcases List.mem_append.1 hr with h | h;exact HS7.out.fc r h;rw [List.mem_singleton.1 h];exact HF.out))
 have hb8:=HSa.box.grown hgrow (Q05 HSa.cd HSa.box HSa.ni)
 have p1:w8.cell? ⟨g,1,none⟩=some (.slice oC p.code.length cC)∧w8.frozen? ⟨g,1,none⟩=false:=⟨by rw [hb8.cell];rfl,hb8.frozen _⟩
 have hgo8:=hb8.lt
 clear hown hgrow hxa HSa hb8 hlen hgl
 go_upto_region 12 with fail
 obtain ⟨d0,d1,d2⟩:=HS8.out.cells
 have hgl:=HS8.out.box.lt
 generalize hW9:w8.setCell ⟨g,1,none⟩ (.slice oC2 (p.code.length+1) cC2)=w9 at *
 clear hW9 p1 hgo8
 go_wp2_with fail
 (with_reducible refine (Q6u [111,107] _ HRl.out _ _ _ (Blk.new w9 3 #[.int .i64 ((p.code.length:Int)+1)]) (by simp) (Ht.out.tabs.ext (HS8.out.ext.alloc _))).mono ?_)
 rintro e w10 ⟨rfl,hx⟩
 have HS10:=Lib.hid (HS8.out.extend (((Ext.refl w9).alloc _).trans hx))
 clear hx d0 d1 d2
 go_wp2
 go_ret
 exact ⟨rfl,_,_,_,L,rfl,HS10.out⟩
end
end Go.Proofs.YtiafchefbehfbaaGreatDoor
