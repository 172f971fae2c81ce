/- Laid together from: FdN. -/
import Derived.Test.YteiknefajlocoaaFindNothingB47
import Derived.Test.YteiknefajlocoaaFindNothingB50
import Derived.Test.YteiknefajlocoaaFindNothingB29
import Derived.Test.YteiknefajlocoaaFindNothingB16
import Derived.Test.YteiknefajlocoaaFindNothingB52

namespace Go.Proofs.Yteiknefajlocoaa
open Go.ChangeShapes Go.WideShapes Go.ChangeAt Go.RowKit
set_option linter.unusedVariables false
set_option linter.unusedSimpArgs false
theorem Qil {q:Q00} {a b:List (List Int)} {script:List Int} {fuel:Int} {v va vb vx:Value} {W:World} (hh:Q5e q=true) (ha:Q2f q a=true) (hb:Q2f q b=true) (hs:Q3u script=true) (h0:0≤fuel) (h4:fuel≤40000)
  (hq:(runS q fuel.toNat (Q0x a.flatten script)).seen=(runS q fuel.toNat (Q0x b.flatten script)).seen) (hp:Q0b W v q) (hma:Q2w W va a) (hmb:Q2w W vb b) (hi:Q3c W vx script) (hf:R64 fuel) :
  Calls Try.prog 47 #[v,va,vb,vx,.int .i64 fuel] W fun e w'=>e=.returned (.tuple #[.int .i64 0,.bool false,.int .i64 0])∧Ext W w' :=
 (Qin q a b script fuel v va vb vx W hp hma hmb hi hf).mono fun e w' h=>by
  have m0:∀ m,Q2f q m=true→mayE q m fuel=0:=fun m hm=>by
   unfold mayE
   rw [if_neg (by rw [hh,hm];simp),if_neg (by omega)]
  have e1:Q7u q a b script fuel=0:=by
   unfold Q7u
   rw [Qbw (m0 a ha) hs,if_pos rfl,Qbw (m0 b hb) hs]
  have e2:Q3z q a script fuel=Q3z q b script fuel:=by
   unfold Q3z
   rw [(Qiw _).1,(Qiw _).1,hq]
  obtain ⟨h1,h2⟩:=h
  rw [e1,e2,if_pos rfl,if_pos rfl,(Qig _).1,(Qig _).2] at h1
  exact ⟨h1,h2⟩
set_option maxRecDepth 100000 in
set_option maxHeartbeats 8000000 in
theorem Qsa {p:Q00} {v:Value} {m n:List (List Int)} {vm vn vx:Value} {script:List Int} {w:World} (hp:Q0b w v p) (hm:Q2w w vm m) (hn:Q2w w vn n) (hx:Q3c w vx script) (fuel:Int) (hf:R64 fuel) :
  Calls Try.prog 22 #[v,vm,vn,vx,.int .i64 fuel] w fun e w'=>e=.returned (.bool true)∧Ext w w':=by
 have HP:=Lib.hid hp
 have HM:=Lib.hid hm
 have HN:=Lib.hid hn
 have HI:=Lib.hid hx
 obtain ⟨a1,a2,a3,a4,rfl,hR1,-⟩:=Qcm hp
 have HR:=Lib.hid hR1
 clear hp hm hn hx hR1
 go_enter Try.func22,Try.ntmps22
 go_wp2_with fail
 obtain ⟨W,gp,hg,hW,hx,bA⟩:=Q1f w #[.slice a1 p.regs.length a2,.slice a3 p.code.length a4] 25
 rw [hW,hg]
 have X:=Lib.hid hx
 have BA:=Lib.hid bA
 clear hW hg hx bA
 have C:=Qsx p _ W (HP.out.ext X.out)
 (with_reducible refine C.mono ?_)
 clear C
 rintro e w1 ⟨F,rfl,hx,h1,h2⟩
 have X:=Lib.hid (X.out.trans hx)
 have BA:=Lib.hid (BA.out.ext hx)
 have Ht:=Lib.hid (Qsw HP.out h1 h2)
 clear hx h1 h2
 go_upto_region 2 with fail
 obtain ⟨w2,gf,hg,hW,hx,bF⟩:=Q1f w1 #[.int .i64 F.1,.int .i64 (F.2:Int)] 28
 rw [hW,hg]
 have X:=Lib.hid (X.out.trans hx)
 have BA:=Lib.hid (BA.out.ext hx)
 have a0:w2.cell? ⟨gp,0,none⟩=some (.slice a1 p.regs.length a2):=by rw [BA.out.cell];rfl
 have a1':w2.cell? ⟨gp,1,none⟩=some (.slice a3 p.code.length a4):=by rw [BA.out.cell];rfl
 have f0:w2.cell? ⟨gf,0,none⟩=some (.int .i64 F.1):=by rw [bF.cell];rfl
 have hgl:=BA.out.lt
 clear hW hg hx bF
 by_cases hF:F.1=0
 ·have hs:Q36 p=true∧∃ T,Q3r p T∧Q5x p T:=by
   rcases Ht.out with h | ⟨-,h,T,h',hl,-⟩
   ·rw [hF] at h;simp at h
   ·exact ⟨h,T,h',hl⟩
  obtain ⟨hmay,T,hT,hLe⟩:=hs
  have HT:=Lib.hid hT
  have HLe:=Lib.hid hLe
  have Hmay:=Lib.hid hmay
  have hq:(F.1 != (0:Int))=false:=by simp [hF]
  clear hT hmay Ht hF hLe
  go_wp2_with fail
  have C:=Qfz p _ m vm w2 (HP.out.ext X.out) (HM.out.ext X.out)
  (with_reducible refine C.mono ?_)
  clear C
  rintro e w3 ⟨rfl,hx⟩
  have X:=Lib.hid (X.out.trans hx)
  have BA:=Lib.hid (BA.out.ext hx)
  have a0:=hx.kept a0
  have a1':=hx.kept a1'
  have hgl:=BA.out.lt
  clear hx f0
  cases hfit:Q2f p m
  ·go_wp2
   go_ret
   exact ⟨rfl,X.out⟩
  have Hfit:=Lib.hid hfit
  clear hfit
  go_wp2_with fail
  have C:=Qfz p _ n vn w3 (HP.out.ext X.out) (HN.out.ext X.out)
  (with_reducible refine C.mono ?_)
  clear C
  rintro e w4 ⟨rfl,hx⟩
  have X:=Lib.hid (X.out.trans hx)
  have BA:=Lib.hid (BA.out.ext hx)
  have a0:=hx.kept a0
  have a1':=hx.kept a1'
  have hgl:=BA.out.lt
  clear hx
  cases hfit2:Q2f p n
  ·go_wp2
   go_ret
   exact ⟨rfl,X.out⟩
  have Hfit2:=Lib.hid hfit2
  clear hfit2
  go_wp2_with fail
  have C:=Qno p m n (vC:=.slice a3 p.code.length a4) w4 (HR.out.ext X.out) (HM.out.ext X.out) (HN.out.ext X.out) Hfit.out Hfit2.out
  (with_reducible refine C.mono ?_)
  clear C
  rintro e w5 ⟨rfl,hx⟩
  have X:=Lib.hid (X.out.trans hx)
  have BA:=Lib.hid (BA.out.ext hx)
  have a0:=hx.kept a0
  have a1':=hx.kept a1'
  have hgl:=BA.out.lt
  clear hx
  cases hpub:Q5f p m n
  ·go_wp2
   go_ret
   exact ⟨rfl,X.out⟩
  have Hpub:=Lib.hid hpub
  clear hpub
  go_wp2_with fail
  have C:=Qms script vx w5 (HI.out.ext X.out)
  (with_reducible refine C.mono ?_)
  clear C
  rintro e w6 ⟨rfl,hx⟩
  have X:=Lib.hid (X.out.trans hx)
  have BA:=Lib.hid (BA.out.ext hx)
  have a0:=hx.kept a0
  have a1':=hx.kept a1'
  have hgl:=BA.out.lt
  clear hx
  cases hsc:Q3u script
  ·go_wp2
   go_ret
   exact ⟨rfl,X.out⟩
  have Hsc:=Lib.hid hsc
  clear hsc
  by_cases hfu0:fuel < 0
  ·have hd:decide (fuel < (0:Int))=true:=by simpa using hfu0
   clear hfu0
   go_wp2
   go_ret
   exact ⟨rfl,X.out⟩
  by_cases hfu:4000 < fuel
  ·have hd0:decide (fuel < (0:Int))=false:=by simpa using hfu0
   have hd:decide ((4000:Int) < fuel)=true:=by simpa using hfu
   clear hfu hfu0
   go_wp2
   go_ret
   exact ⟨rfl,X.out⟩
  have hd0:decide (fuel < (0:Int))=false:=by simpa using hfu0
  have hd:decide ((4000:Int) < fuel)=false:=by simpa using hfu
  have Hfu:=Lib.hid (show 0≤fuel∧fuel≤40000 by omega)
  clear hfu hfu0
  go_wp2_with fail
  have C:=Qs4 p _ w6 (HP.out.ext X.out)
  (with_reducible refine C.mono ?_)
  clear C
  rintro e w7 ⟨u,G,rfl,hx,h1,h2,h3,h4⟩
  have X:=Lib.hid (X.out.trans hx)
  have BA:=Lib.hid (BA.out.ext hx)
  have hG:G.1=0:=by
   obtain ⟨U,hU,hGe⟩:=h1 Hmay.out
   rw [hGe,Qhc hU HLe.out]
   exact HT.out.none_
  obtain ⟨-,hU⟩:=h3 hG
  have HU:=Lib.hid hU
  have hq2:(G.1 != (0:Int))=false:=by simp [hG]
  obtain ⟨b1,b2,b3,b4,rfl,-,-⟩:=Qcm hU
  clear h1 h2 h3 h4 hU hG hx a0 a1' hgl hd hd0
  go_upto_region 5 with fail
  obtain ⟨w8,gh,hg,hW,hx,bH,bF⟩:=Q0i w7 #[.slice b1 (Q1h p).regs.length b2,.slice b3 (Q1h p).code.length b4] #[.int .i64 G.1,.int .i64 (G.2:Int)] 25 28
  rw [hW,hg]
  have X:=Lib.hid (X.out.trans hx)
  have BA:=Lib.hid (BA.out.ext hx)
  have BH:=Lib.hid bH
  have BF:=Lib.hid bF
  have HU:=Lib.hid (HU.out.ext hx)
  have a0:w8.cell? ⟨gp,0,none⟩=some (.slice a1 p.regs.length a2):=by rw [BA.out.cell];rfl
  have a1':w8.cell? ⟨gp,1,none⟩=some (.slice a3 p.code.length a4):=by rw [BA.out.cell];rfl
  have hgl:=BA.out.lt
  clear hW hg hx bH bF
  go_wp2_with fail
  have C:=Qsf p _ w8 (HP.out.ext X.out)
  (with_reducible refine C.mono ?_)
  clear C
  rintro e w9 ⟨u,G2,rfl,hx,h1,h2,h3,h4⟩
  have X:=Lib.hid (X.out.trans hx)
  have BH:=Lib.hid (BH.out.ext hx)
  have BF:=Lib.hid (BF.out.ext hx)
  have HU:=Lib.hid (HU.out.ext hx)
  have hG2:G2.1=0:=by
   obtain ⟨U,hU,hGe⟩:=h1 Hmay.out
   rw [hGe,Qhc hU HLe.out]
   exact HT.out.none_
  obtain ⟨-,hV⟩:=h3 hG2
  have HV:=Lib.hid hV
  have hq3:(G2.1 != (0:Int))=false:=by simp [hG2]
  obtain ⟨d1,d2,d3,d4,rfl,-,-⟩:=Qcm hV
  clear h1 h2 h3 h4 hV hG2 hx a0 a1' hgl BA
  go_upto_region 6 with fail
  obtain ⟨w10,ge,hg,hW,hx,bE,bG⟩:=Q0i w9 #[.slice d1 (Q12 p).regs.length d2,.slice d3 (Q12 p).code.length d4] #[.int .i64 G2.1,.int .i64 (G2.2:Int)] 25 28
  rw [hW,hg]
  have X:=Lib.hid (X.out.trans hx)
  have BH:=Lib.hid (BH.out.ext hx)
  have bF:=BF.out.ext hx
  have BE:=Lib.hid bE
  have HU:=Lib.hid (HU.out.ext hx)
  have HV:=Lib.hid (HV.out.ext hx)
  have f0:w10.cell? ⟨gh+1,0,none⟩=some (.int .i64 G.1):=by rw [bF.cell];rfl
  have e0:w10.cell? ⟨ge+1,0,none⟩=some (.int .i64 G2.1):=by rw [bG.cell];rfl
  have h0:w10.cell? ⟨gh,0,none⟩=some (.slice b1 (Q1h p).regs.length b2):=by rw [BH.out.cell];rfl
  have h1:w10.cell? ⟨gh,1,none⟩=some (.slice b3 (Q1h p).code.length b4):=by rw [BH.out.cell];rfl
  have hgl:=BH.out.lt
  have hel:=bG.lt
  have hfl:=bF.lt
  clear hW hg hx bE bG bF BF
  have HQ1:=Lib.hid (Qrx HT.out script (Q7t Hfit.out) (Q7t Hfit2.out) ((Qg5 Hfit.out Hfit2.out).1 Hpub.out) fuel.toNat).1
  have HQ2:=Lib.hid (Qsb HT.out script (Q7t Hfit.out) (Q7t Hfit2.out) (Qcy HM.out) (Qcy HN.out) ((Qg5 Hfit.out Hfit2.out).1 Hpub.out) fuel.toNat).1
  go_wp2_with fail
  have C:=Qil (Qic Hmay.out) (Qb6 rfl Hfit.out) (Qb6 rfl Hfit2.out) Hsc.out Hfu.out.1 Hfu.out.2 HQ1.out HU.out (HM.out.ext X.out) (HN.out.ext X.out) (HI.out.ext X.out) hf
  (with_reducible refine C.mono ?_)
  clear C
  rintro e w11 ⟨rfl,hx⟩
  have X:=Lib.hid (X.out.trans hx)
  have HV:=Lib.hid (HV.out.ext hx)
  have bE:=BE.out.ext hx
  have h0:w11.cell? ⟨ge,0,none⟩=some (.slice d1 (Q12 p).regs.length d2):=by rw [bE.cell];rfl
  have h1:w11.cell? ⟨ge,1,none⟩=some (.slice d3 (Q12 p).code.length d4):=by rw [bE.cell];rfl
  have hgl:=bE.lt
  clear hx f0 e0 hel hfl bE
  go_wp2_with fail
  have C:=Qil (Qsc Hmay.out) (Qb6 rfl Hfit.out) (Qb6 rfl Hfit2.out) Hsc.out Hfu.out.1 Hfu.out.2 HQ2.out HV.out (HM.out.ext X.out) (HN.out.ext X.out) (HI.out.ext X.out) hf
  (with_reducible refine C.mono ?_)
  clear C
  rintro e w12 ⟨rfl,hx⟩
  have X:=Lib.hid (X.out.trans hx)
  clear hx h0 h1 hgl
  go_upto_region 11 with fail
  obtain ⟨w13,g,hg,hW,hx,bR,bC,bO⟩:=Q8q w12 #[.int .i64 0,.bool false] #[.int .i64 5,.int .i64 0,.int .i64 0,.int .i64 0,.int .i64 0,.int .i64 8,.int .i64 0,.int .i64 1,.int .i64 1,.int .i64 2,.int .i64 9,.int .i64 0,.int .i64 0,.int .i64 0,.int .i64 0] #[.slice (some ⟨w12.heap.size,0,none⟩) 1 1,.slice (some ⟨w12.heap.size+1,0,none⟩) 3 3] 68 70 25
  rw [hW,hg]
  rw [hg] at bO
  have X:=Lib.hid (X.out.trans hx)
  have o0:w13.cell? ⟨g+1+1,0,none⟩=some (.slice (some ⟨g,0,none⟩) 1 1):=by rw [bO.cell];rfl
  have o1:w13.cell? ⟨g+1+1,1,none⟩=some (.slice (some ⟨g+1,0,none⟩) 3 3):=by rw [bO.cell];rfl
  have hol:=bO.lt
  clear hW hg hx
  go_upto_region 12 with fail
  obtain ⟨w14,g2,hg,hW,hx,bD,bT⟩:=Q0i w13 #[.int .i64 5,.int .i64 0,.int .i64 0,.int .i64 0,.int .i64 0,.int .i64 8,.int .i64 0,.int .i64 1,.int .i64 1,.int .i64 3,.int .i64 12,.int .i64 0,.int .i64 0,.int .i64 0,.int .i64 0,.int .i64 9,.int .i64 0,.int .i64 0,.int .i64 0,.int .i64 0] #[.slice (some ⟨g,0,none⟩) 1 1,.slice (some ⟨w13.heap.size,0,none⟩) 4 4] 70 25
  rw [hW,hg]
  rw [hg] at bT
  have X:=Lib.hid (X.out.trans hx)
  have o0:=hx.kept o0
  have o1:=hx.kept o1
  have hol:=hx.lt hol
  have BT:=Lib.hid bT
  have HP1:Hid (Q0b w14 (.agg #[.slice (some ⟨g,0,none⟩) 1 1,.slice (some ⟨g+1,0,none⟩) 3 3]) oneP):=Lib.hid ⟨_,_,rfl,Qfp (bR.ext hx) Qh8 rfl (by unfold maxLen;omega),Qj0 (bC.ext hx) Qox rfl (by unfold maxLen;omega)⟩
  have HP2:Hid (Q0b w14 (.agg #[.slice (some ⟨g,0,none⟩) 1 1,.slice (some ⟨g2,0,none⟩) 4 4]) twoP):=Lib.hid ⟨_,_,rfl,Qfp (bR.ext hx) Qh8 rfl (by unfold maxLen;omega),Qj0 bD Qk5 rfl (by unfold maxLen;omega)⟩
  clear hW hg hx bR bC bO bD bT
  go_wp2_with fail
  obtain ⟨w15,g3,hg,hW,hx,M1,M2⟩:=Qgz w14
  rw [hW,hg]
  have X:=Lib.hid (X.out.trans hx)
  have HP2:=Lib.hid (HP2.out.ext hx)
  have BT:=Lib.hid (BT.out.ext hx)
  have C:=Qim (HP1.out.ext hx) M1 M2 Qol
  (with_reducible refine C.mono ?_)
  clear C M1 M2 hW hg hx o0 o1 hol HP1
  rintro e w16 ⟨rfl,hx⟩
  have X:=Lib.hid (X.out.trans hx)
  have HP2:=Lib.hid (HP2.out.ext hx)
  have bT:=BT.out.ext hx
  have t0:w16.cell? ⟨g2+1,0,none⟩=some (.slice (some ⟨g,0,none⟩) 1 1):=by rw [bT.cell];rfl
  have t1:w16.cell? ⟨g2+1,1,none⟩=some (.slice (some ⟨g2,0,none⟩) 4 4):=by rw [bT.cell];rfl
  have htl:=bT.lt
  clear hx bT BT
  go_wp2_with fail
  obtain ⟨w17,g4,hg,hW,hx,M1,M2⟩:=Qgz w16
  rw [hW,hg]
  have X:=Lib.hid (X.out.trans hx)
  have C:=Qim (HP2.out.ext hx) M1 M2 Qk4
  (with_reducible refine C.mono ?_)
  clear C M1 M2 hW hg hx t0 t1 htl HP2
  rintro e w18 ⟨rfl,hx⟩
  have X:=Lib.hid (X.out.trans hx)
  clear hx
  go_wp2
  go_ret
  exact ⟨rfl,X.out⟩
 ·have hq:(F.1 != (0:Int))=true:=by simp [hF]
  clear hF Ht
  go_wp2
  go_ret
  exact ⟨rfl,X.out⟩
end Go.Proofs.Yteiknefajlocoaa
