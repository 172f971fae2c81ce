/- Laid together from: Dr4, Dr6. -/
import Derived.Test.YtiafchefbehfbaaGreatDoorDriveTellsB44
import Derived.Test.YtiafchefbehfbaaGreatDoorDriveTellsB46
import Derived.Test.YtiafchefbehfbaaGreatDoorDriveTellsB10
import Derived.Test.YtiafchefbehfbaaGreatDoorDriveTellsB19
import Derived.Test.YtiafchefbehfbaaGreatDoorDriveTellsB45
import Derived.Test.YtiafchefbehfbaaGreatDoorDriveTellsB42
import Derived.Test.YtiafchefbehfbaaGreatDoorDriveTellsB20
import Derived.Test.YtiafchefbehfbaaGreatDoorDriveTellsB28

namespace Go.Proofs.YtiafchefbehfbaaGreatDoor
open Go.ChangeShapes Go.WideShapes Go.ChangeAt Go.RowKit
set_option linter.unusedVariables false
set_option linter.unusedSimpArgs false
theorem Q5k:(Tryz.prog.info? 2).map (fun i=>(i.zero,i.size,i.bytes))=some (some (.int .i64 0),1,8):=by kernel_rfl
theorem Q98 (c:UInt8):∀ (s x:List UInt8),x ∈ Q08 c s→x.length≤s.length
 | [],x,h=>by
  simp only [Q08,List.mem_singleton] at h
  subst h
  simp
 | b :: l,x,h=>by
  unfold Q08 at h
  split at h
  ·rcases List.mem_cons.1 h with rfl | h
   ·simp
   ·have:=Q98 c l x h
    simp;omega
  ·rcases List.mem_cons.1 h with rfl | h
   ·have hne:=Q86 c l
    cases hs:Q08 c l with
    | nil=>exact absurd hs hne
    | cons y r =>
     have:=Q98 c l y (by rw [hs];simp)
     simp;omega
   ·have:=Q98 c l x (List.mem_of_mem_tail h)
    simp;omega
theorem Qag {L:List (List UInt8)} {k:Nat} (h:k < L.length):L.getD k [] ∈ L:=by
 rw [List.getD_eq_getElem?_getD,List.getElem?_eq_getElem h]
 exact List.getElem_mem h
theorem Qq5 {s:List UInt8} {n:Int} (h:Lib.parseIntB 64 s=.ok n):numT s 6=if Lib.itoa n=s ∧ -999999≤n∧n≤999999 then some n else none:=by
 have e:numT s 6=if Lib.itoa n=s∧(Lib.trimPrefix s [45]).length≤6 then some n else none:=by unfold numT;rw [h]
 by_cases hi:Lib.itoa n=s
 ·by_cases hb : -999999≤n∧n≤999999
  ·have:=Qm1 n 5 (by omega)
   rw [hi] at this
   rw [e,if_pos ⟨hi,this⟩,if_pos ⟨hi,hb⟩]
  ·rw [if_neg (fun h=>hb h.2)]
   cases hq:numT s 6 with
   | none=>rfl
   | some v =>
    have h6:=num6 hq
    rw [e] at hq
    split at hq
    ·obtain rfl:=Option.some.inj hq
     exact absurd h6 hb
    ·cases hq
 ·rw [e,if_neg (fun h=>hi h.1),if_neg (fun h=>hi h.1)]
theorem Qq6 {s:List UInt8} (h:∀ v,Lib.parseIntB 64 s≠.ok v):numT s 6=none:=by
 unfold numT
 split
 ·rename_i v hv
  exact absurd hv (h v)
 ·rfl
theorem Q5u {ws:List (List UInt8)} {k:Nat} {l:List Int} {n:Int} (hk:k < ws.length) (h:Q0m (ws.take k)=some l) (hn:numT (ws.getD k []) 6=some n):Q0m (ws.take (k+1))=some (l ++ [n]):=by
 have e:ws.take (k+1)=ws.take k ++ [ws.getD k []]:=by
  rw [List.take_succ_eq_append_getElem hk]
  simp [hk]
 rw [e]
 exact Qi9 _ _ _ _ h (by rw [Q0m,hn];rfl)
def Qfl (w:World) (v:Value) (ws:List (List UInt8)):Prop := ∃ oa b o cap,v=.slice oa ws.length cap∧ws.length≤1000000001∧(0 < ws.length→oa=some ⟨b,o,none⟩)∧(0 < ws.length→b < w.heap.size)∧∀ j,j < ws.length→w.cell? ⟨b,o+j,none⟩=some (str (ws.getD j []))
def Q8v (ws:List (List UInt8)) (w:World) (e:Ending) (w':World):Prop :=
 ∃ v b,e=.returned (.tuple #[v,.bool b])∧Ext w w'∧((b=true∧∃ l,Q0m ws=some l∧w'.ownsRow w.heap.size 2 1 v l.length (l.map (Value.int .i64)))∨(b=false∧Q0m ws=none))
theorem Q8v.no {ws:List (List UInt8)} {w w':World} (h:Q0m ws=none) (hx:Ext w w'):Q8v ws w (.returned (.tuple #[.slice none 0 0,.bool false])) w':=⟨_,false,rfl,hx,.inr ⟨rfl,h⟩⟩
set_option maxRecDepth 100000 in
set_option maxHeartbeats 8000000 in
theorem Q65 (ws:List (List UInt8)) (v:Value) (w:World) (hv:Qfl w v ws) (hw:∀ x ∈ ws,x.length≤1000000000) (ht:Tab9 w) :
  Calls Tryz.prog 42 #[v] w (Q8v ws w):=by
 obtain ⟨i0,hi0,hz0,hz1,hz2⟩:=info_parts Q5k
 obtain ⟨oa,b,o,cap,rfl,hwl,hoa,hbl,hcells⟩:=hv
 have Hc:=zh fun W (X:Ext w W) j hj=>X.kept (hcells j hj)
 have Hw:=zh hw
 have Ht:=zh ht
 have Hbl:=zh hbl
 have hix:=Q5l (cap:=cap) hoa
 clear hcells hw ht hoa hbl
 go_enter Tryz.func42,Tryz.ntmps42
 go_wp2_with fail
 go_loopw [4,11] (fun lv iv wr => ∃ (k:Nat) (l:List Int),k≤ws.length∧iv=.int .i64 (k:Int)∧Q0m (ws.take k)=some l∧wr.ownsRow w.heap.size 2 1 lv l.length (l.map (Value.int .i64))∧Ext w wr) (fun _ iv _=>ws.length - (intOf iv).toNat)
 case atStart=>exact ⟨0,[],by omega,rfl,rfl,World.ownsRow_nil _ _ _ _,Ext.refl _⟩
 case round =>
  obtain ⟨k,l,hk,rfl,hn,hown,hE⟩:=hrel
  obtain ⟨ol,cl,rfl⟩:=Q02 hown
  have X:=zh hE
  have HO:=zh hown
  have HN:=zh hn
  have hll:l.length=k:=by
   have:=Q3s _ _ hn
   rw [List.length_take] at this
   omega
  have Hll:=zh hll
  have hl9:l.length≤1000000001:=by omega
  clear hE hown hn hll
  by_cases hlt:k < ws.length
  ·have c0:=Hc.out wr X.out k hlt
   have hbb:b < wr.heap.size:=Nat.lt_of_lt_of_le (Hbl.out (by omega)) X.out.size
   have hin:(k:Int) < (ws.length:Int):=by omega
   have HW:=zh (Hw.out _ (Qag hlt))
   have Hbad:=zh (Q5e ws k hlt)
   have Hgood:=zh (fun n=>Q5u (n:=n) hlt HN.out)
   generalize ws.getD k []=W at *
   go_wp2_with fail
   (with_reducible refine (Qpf W HW.out _ (Ht.out.ext X.out)).mono ?_)
   rintro e w2 ⟨n,ev,rfl,hr,hc,hx⟩
   have X2:=zh (X.out.trans hx)
   have HO2:=zh (Q19 HO.out hx)
   clear hx c0 hbb
   rcases hc with ⟨hp,rfl⟩ | ⟨hp,t,p,rfl⟩
   ·have hq:=Qq5 hp
    clear hp
    by_cases hhi:999999 < n
    ·have HF:Hid (Q0m ws=none):=zh (Hbad.out (by rw [hq,if_neg (by omega)]))
     clear hq
     go_wp2
     go_ret2
     exact Q8v.no HF.out X2.out
    by_cases hlo:n < -999999
    ·have HF:Hid (Q0m ws=none):=zh (Hbad.out (by rw [hq,if_neg (by omega)]))
     clear hq
     go_wp2
     go_ret2
     exact Q8v.no HF.out X2.out
    by_cases he:Lib.itoa n=W
    ·have HF:=zh (Hgood.out n (by rw [hq,if_pos ⟨he,by omega,by omega⟩]))
     have q:(Lib.itoa n != W)=false:=by simpa using he
     have qe:(Lib.itoa n == W)=true:=by simpa using he
     clear hq
     go_wp2_with fail
     (with_reducible refine (Q7o n hr _ (Ht.out.tabs.ext X2.out)).mono ?_)
     rintro e w3 ⟨rfl,hx⟩
     have X3:=zh (X2.out.trans hx)
     have HO3:=zh (Q19 HO2.out hx)
     have hBs:=X3.out.size
     generalize Lib.itoa n=D at *
     clear hx
     go_wp2_with (at_builtin;refine Q1b _ rfl _ _ 35 rfl w.heap.size 2 i0 _ 1 8 Tryz.underlying35 hi0 hz0 hz1 hz2 rfl (by decide) _ _ _ rfl (Q1r HO3.out) (some ⟨w3.heap.size,0,none⟩) 1 1 [.int .i64 n] rfl ?c1 ?c3 ?c4 ?c5 ?_)
     case c1=>exact Q1y (size:=1) (Blk.new w3 2 #[.int .i64 n]) rfl (by simp [Value.oneCell'])
     case c3=>unfold maxLen;omega
     case c4=>omega
     case c5=>simp;omega
     intro v4 w4 hown hgrow hat
     obtain ⟨o4,c4,rfl⟩:=Q02 hown
     have X4:=zh ((X3.out.alloc (.cells #[.int .i64 n] 2)).grown hgrow (fun k hk=>Q17 HO3.out k hk))
     have HO4:Hid (w4.ownsRow w.heap.size 2 1 (.slice o4 (l.length+1) c4) (l ++ [n]).length ((l ++ [n]).map (Value.int .i64))):=zh (by rw [List.length_append,List.map_append];exact hown)
     clear hown hgrow hat
     go_wp2
     go_roundw
     case rel=>exact ⟨k+1,l ++ [n],by omega,by go_num,HF.out,HO4.out,X4.out⟩
     case measure=>first | (simp [intOf];done) | (simp [intOf];omega)
    ·have HF:Hid (Q0m ws=none):=zh (Hbad.out (by rw [hq,if_neg (fun h=>he h.1)]))
     have q:(Lib.itoa n != W)=true:=by simpa using he
     have qe:(Lib.itoa n == W)=false:=by simpa using he
     clear hq
     go_wp2_with fail
     (with_reducible refine (Q7o n hr _ (Ht.out.tabs.ext X2.out)).mono ?_)
     rintro e w3 ⟨rfl,hx⟩
     have X3:=zh (X2.out.trans hx)
     generalize Lib.itoa n=D at *
     clear hx
     go_wp2
     go_ret2
     exact Q8v.no HF.out X3.out
   ·have HF:Hid (Q0m ws=none):=zh (Hbad.out (Qq6 hp))
    clear hp
    go_wp2
    go_ret2
    exact Q8v.no HF.out X2.out
  ·have hke:k=ws.length:=by omega
   subst hke
   have HF:Hid (Q0m ws=some l):=zh (by have:=HN.out;rwa [List.take_length] at this)
   go_wp2
   go_ret2
   exact ⟨_,true,rfl,X.out,.inl ⟨rfl,l,HF.out,HO.out⟩⟩
theorem Qjx:(Tryz.prog.info? 67).map (fun i=>(i.zero,i.size,i.bytes))=some (some (.agg #[.int .i64 0,.bool false]),2,16):=by kernel_rfl
theorem Qjz:(Tryz.prog.info? 41).map (fun i=>(i.zero,i.size,i.bytes))=some (some (.agg #[.int .i64 0,.int .i64 0,.int .i64 0,.int .i64 0,.int .i64 0]),5,40):=by kernel_rfl
theorem Qjw:(Tryz.prog.info? 35).map (fun i=>(i.zero,i.size,i.bytes))=some (some (.slice none 0 0),1,24):=by kernel_rfl
theorem Qe0 (n:Nat) (hn:n≤1000) (w:World):(Instr.makeSlice 35 (.int .i64 (n:Int)) (.int .i64 (n:Int))).run Tryz.prog w=.ok (.slice (some ⟨w.heap.size,0,none⟩) n n) (w.alloc (.cells (madeCells #[.int .i64 0] n) 2)):=by
 obtain ⟨i,hi,hz,hs,hb⟩:=info_parts Q5k
 have:=run_make (P:=Tryz.prog) w 35 2 i (.int .i64 0) Tryz.underlying35 hi hz .i64 .i64 n n (by omega) (Int.le_refl _) (by rw [hb];omega) (by omega)
 rw [show (Value.int .i64 0).cells=#[.int .i64 0] from rfl,hs,Int.toNat_natCast,Nat.mul_one] at this
 exact this
theorem Qiq (w:World) (B n:Nat) (hn:n≤1000) (hB:B≤w.heap.size):(w.alloc (.cells (madeCells #[.int .i64 0] n) 2)).ownsRow B 2 1 (.slice (some ⟨w.heap.size,0,none⟩) n n) (List.replicate n (0:Int)).length ((List.replicate n (0:Int)).map (Value.int .i64)):=by
 have e:madeCells #[.int .i64 0] n=((List.replicate n (0:Int)).map (Value.int .i64)).toArray:=by
  rw [List.map_replicate]
  apply Array.ext'
  simp [madeCells,Nat.mod_one,List.map_const']
 have h:=World.ownsRow_lit (base:=B) (e:=2) (size:=1) w ((List.replicate n (0:Int)).map (Value.int .i64)).toArray n hB (by unfold maxLen;omega) (by simp)
 rw [e]
 simpa using h
theorem Qeo (k n cap:Nat) (W:World) (i:Int) (h0:0≤i) (h1:i < n) :
  (Instr.indexAt 29 (.slice (some ⟨k,0,none⟩) n cap) (.int .i64 i)).run Tryz.prog W=.ok (.pointer (some ⟨k,i.toNat,none⟩)) W:=by
 have:=index_mem' (oa:=some ⟨k,0,none⟩) (n:=n) (b:=k) (o:=0) (cap:=cap) (fun _=>rfl) W i h0 h1
 simpa using this
def Q07 (r:List UInt8 × LPl) (w0:World) (B g T:Nat) (e:Ending) (w':World):Prop :=
 e=.returned (str r.1)∧∃ vR vC vM L,L.map (·.2)=r.2.m∧PlSt w0 w' B g T vR vC vM r.2.p L
theorem Q07.same {s:LPl} {a:List UInt8} {w0 w':World} {B g T:Nat} {vR vC vM:Value} {L:List (Value × List Int)} (hL:L.map (·.2)=s.m) (h:PlSt w0 w' B g T vR vC vM s.p L):Q07 (a,s) w0 B g T (.returned (str a)) w':=⟨rfl,_,_,_,L,hL,h⟩
set_option maxHeartbeats 4000000 in
theorem Qkn {w0 w:World} {B g:Nat} {vR vC vM:Value} {p:Q00} {L:List (Value × List Int)} (h:PlSt w0 w B g 65 vR vC vM p L) {i:Nat} {v:Value} {l:List Int} (hi:L[i]? = some (v,l)) (hL:L.length≤6) :
  Calls Tryz.prog 48 #[.pointer (some ⟨g,0,none⟩),.int .i64 (i:Int)] w fun e w'=>e=.returned v∧w'=w:=by
 obtain ⟨ko,co,rfl,hko,hc,-⟩:=h.at_ hi
 obtain ⟨-,-,d2⟩:=h.cells
 have hgl:=h.box.lt
 have hil:=(List.getElem?_eq_some_iff.1 hi).1
 have hin:(i:Int) < (L.length:Int):=by omega
 have hix:=Qeo ko L.length co
 clear h hi
 go_enter Tryz.func48,Tryz.ntmps48
 go_wp2
 go_ret
 exact ⟨rfl,rfl⟩
set_option maxHeartbeats 4000000 in
theorem Qkm {w0 w:World} {B g:Nat} {vR vC vM:Value} {p:Q00} {L:List (Value × List Int)} (h:PlSt w0 w B g 65 vR vC vM p L) {n:Int} (hn:n < 0∨(L.length:Int)≤n) :
  Calls Tryz.prog 48 #[.pointer (some ⟨g,0,none⟩),.int .i64 n] w fun e w'=>e=.returned (.slice none 0 0)∧w'=w:=by
 obtain ⟨oM,cM,rfl⟩:=Q02 h.mo
 obtain ⟨-,-,d2⟩:=h.cells
 have hgl:=h.box.lt
 clear h
 by_cases h0:n < 0
 ·go_enter Tryz.func48,Tryz.ntmps48
  go_wp2
  go_ret
  exact ⟨rfl,rfl⟩
 ·have h1:(L.length:Int)≤n:=by omega
  clear hn
  go_enter Tryz.func48,Tryz.ntmps48
  go_wp2
  go_ret
  exact ⟨rfl,rfl⟩
set_option maxRecDepth 100000 in
set_option maxHeartbeats 8000000 in
theorem Quh {w0 w:World} {B g:Nat} {vR vC vM:Value} {p:Q00} {L:List (Value × List Int)} (h:PlSt w0 w B g 65 vR vC vM p L) (hg:Q0x ⟨p,L.map (·.2)⟩) (a b:Int) (ht:Tabs w0) :
  Calls Tryz.prog 43 #[.pointer (some ⟨g,0,none⟩),.int .i64 a,.int .i64 b] w (Q07 (Q2e ⟨p,L.map (·.2)⟩ a b) w0 B g 65):=by
 obtain ⟨i0,hi0,hz0,hz1,hz2⟩:=info_parts Qjx
 obtain ⟨j0,hj0,hy0,hy1,hy2⟩:=info_parts Qjw
 obtain ⟨oR,cR,rfl⟩:=Q02 h.rg
 obtain ⟨oC,cC,rfl⟩:=Q02 h.cd
 obtain ⟨oM,cM,rfl⟩:=Q02 h.mo
 have HS:=zh h
 have hr6:=hg.regs6
 simp only at hr6
 have hL6:L.length≤6:=by have:=hg.len;simp only [List.length_map] at this;omega
 have Ht:=zh ht
 obtain ⟨d0,d1,d2⟩:=h.cells
 have hgl:=h.box.lt
 clear h hg ht
 by_cases h0:a < 0
 ·have HD:Hid (Q2e ⟨p,L.map (·.2)⟩ a b=([63],⟨p,L.map (·.2)⟩)):=zh (by unfold Q2e;rw [if_pos (.inl h0)])
  go_enter Tryz.func43,Tryz.ntmps43
  go_wp2
  go_ret
  rw [HD.out]
  exact Q07.same (s:=⟨p,L.map (·.2)⟩) rfl HS.out
 by_cases h1:6 < a
 ·have HD:Hid (Q2e ⟨p,L.map (·.2)⟩ a b=([63],⟨p,L.map (·.2)⟩)):=zh (by unfold Q2e;rw [if_pos (.inr (.inl h1))])
  go_enter Tryz.func43,Tryz.ntmps43
  go_wp2
  go_ret
  rw [HD.out]
  exact Q07.same (s:=⟨p,L.map (·.2)⟩) rfl HS.out
 by_cases h2:b < 0
 ·have HD:Hid (Q2e ⟨p,L.map (·.2)⟩ a b=([63],⟨p,L.map (·.2)⟩)):=zh (by unfold Q2e;rw [if_pos (.inr (.inr (.inl h2)))])
  go_enter Tryz.func43,Tryz.ntmps43
  go_wp2
  go_ret
  rw [HD.out]
  exact Q07.same (s:=⟨p,L.map (·.2)⟩) rfl HS.out
 by_cases h3:1 < b
 ·have HD:Hid (Q2e ⟨p,L.map (·.2)⟩ a b=([63],⟨p,L.map (·.2)⟩)):=zh (by unfold Q2e;rw [if_pos (.inr (.inr (.inr (.inl h3))))])
  go_enter Tryz.func43,Tryz.ntmps43
  go_wp2
  go_ret
  rw [HD.out]
  exact Q07.same (s:=⟨p,L.map (·.2)⟩) rfl HS.out
 by_cases h4:6≤p.regs.length
 ·have HD:Hid (Q2e ⟨p,L.map (·.2)⟩ a b=([63],⟨p,L.map (·.2)⟩)):=zh (by unfold Q2e;rw [if_pos (.inr (.inr (.inr (.inr (h4)))))])
  go_enter Tryz.func43,Tryz.ntmps43
  go_wp2
  go_ret
  rw [HD.out]
  exact Q07.same (s:=⟨p,L.map (·.2)⟩) rfl HS.out
 have ha0:0≤a:=by omega
 have ha6:a≤6:=by omega
 have hpw:=Qbk ha0 ha6
 have HRl:Hid (R64 ((p.regs.length:Int)+1)):=zh ⟨by omega,by omega⟩
 obtain ⟨s,hs⟩:∃ s:Bool,decide (b=1)=s:=⟨_,rfl⟩
 have hs2:(b == 1)=s:=by rw [← hs];rfl
 have HD:Hid (Q2e ⟨p,L.map (·.2)⟩ a b=(sayT okW [(p.regs.length:Int)+1],⟨⟨p.regs ++ [⟨a,s⟩],p.code⟩,L.map (·.2) ++ [List.replicate (2 ^ a.toNat) 0]⟩)):=zh (by unfold Q2e;rw [if_neg (by simp only;omega),hs];simp)
 go_enter Tryz.func43,Tryz.ntmps43
 go_upto_region 4 with fail
 obtain ⟨w2,gr,hgr,hW,hx,bR⟩:=Q16 w #[.int .i64 a,.bool s] 67
 rw [hW,hgr]
 have Hgr:=zh hgr
 have HS2:=zh (HS.out.extend hx)
 have BR:=zh bR
 have r0:w2.cell? ⟨gr,0,none⟩=some (.int .i64 a):=by rw [bR.cell];rfl
 have r1:w2.cell? ⟨gr,1,none⟩=some (.bool s):=by rw [bR.cell];rfl
 clear hW hgr hx bR d0 d1 d2 hgl
 obtain ⟨d0,d1,d2⟩:=HS2.out.cells
 have hgl:=HS2.out.box.lt
 have k0:∀ Wx,Ext w2 Wx→Wx.cell? ⟨g,0,none⟩=some (.slice oR p.regs.length cR):=fun _ h=>h.kept d0.1
 have q0:∀ Wx,Ext w2 Wx→Wx.cell? ⟨gr,0,none⟩=some (.int .i64 a):=fun _ h=>h.kept r0
 have q1:∀ Wx,Ext w2 Wx→Wx.cell? ⟨gr,1,none⟩=some (.bool s):=fun _ h=>h.kept r1
 clear r0 r1
 clear d0 d1 d2
 refine Q23 [7,8,9,10,11,12] 1 (by kernel_rfl) (by kernel_rfl) ?_
 repeat (first | (refine Q1x ?_ ?_;(decide)) | (refine Q1o ?_ ?_ ?_;(decide);(first | rfl | (focus (go_simp;done)));apply Exists.intro;refine ⟨fun wc hE=>?_,?_⟩;(go_simp;exact rfl);go_simp) | (refine Q1v ?_ ?_ ?_;(decide);(focus (go_simp;done));go_simp))
 refine Q1w ?_
 intro w3 hx
 have HS3:=zh (HS2.out.extend hx)
 have HX:=zh hx
 have hBs3:=HS3.out.size
 clear k0 hx
 refine Q01 rfl ?_
 go_wp2
 refine ⟨HX.out.alloc _,?_⟩
 refine Q1q (Q0c rfl (Q0c rfl (Q0c rfl (Q0c rfl (Q0c rfl (Q22)))))) ?_
 refine Q1b _ rfl _ _ 25 rfl B 67 i0 _ 2 16 Tryz.underlying25 hi0 hz0 hz1 hz2 rfl (by decide) _ _ _ rfl (Q1r HS3.out.rg) (some ⟨w3.heap.size,0,none⟩) 1 1 (Q40 ⟨a,s⟩) rfl ?c1 ?c3 ?c4 ?c5 ?_
 case c1=>exact Q1y (size:=2) (Blk.new w3 67 #[.int .i64 a,.bool s]) rfl (by simp [Value.oneCell'])
 case c3=>unfold maxLen;omega
 case c4=>omega
 case c5=>simp;omega
 intro vR' w4 hown hgrow hat2
 clear hat2
 obtain ⟨oR2,cR2,rfl⟩:=Q02 hown
 have hxa:=(Ext.refl w3).alloc (.cells #[.int .i64 a,.bool s] 67)
 have HSa:=HS3.out.extend hxa
 have hgrow:(w3.alloc (.cells #[.int .i64 a,.bool s] 67)).grownBy w4 (Value.slice oR p.regs.length cR).ownBlock:=hgrow
 have hlen:(p.regs ++ [(⟨a,s⟩:LReg)]).length=p.regs.length+1:=by simp
 have HS4:Hid (PlSt w0 (w4.setCell ⟨g,0,none⟩ (.slice oR2 (p.regs.length+1) cR2)) B g 65 (.slice oR2 (p.regs.length+1) cR2) (.slice oC p.code.length cC) (.slice oM L.length cM) ⟨p.regs ++ [⟨a,s⟩],p.code⟩ L):=zh (HSa.regs_ hgrow (by rw [hlen,List.flatMap_append];simpa using hown) (fun r hr=>by rcases List.mem_append.1 hr with h | h;exact HS3.out.fr r h;rw [List.mem_singleton.1 h];exact ⟨by simp only;omega,by simp only;omega⟩))
 have BR5:=zh ((((BR.out.ext HX.out).alloc (.cells #[.int .i64 a,.bool s] 67)).grown hgrow (fun e=>by have:=Q93 HS.out.rg gr e.symm;have:=Hgr.out;omega)).far (p:=⟨g,0,none⟩) (by have:=HS.out.box.lt;have:=Hgr.out;simp only;omega) (.slice oR2 (p.regs.length+1) cR2))
 have hb4:=HSa.box.grown hgrow (Q09 HSa.rg HSa.box HSa.nr)
 have p0:w4.cell? ⟨g,0,none⟩=some (.slice oR p.regs.length cR)∧w4.frozen? ⟨g,0,none⟩=false:=⟨by rw [hb4.cell];rfl,hb4.frozen _⟩
 have hgo4:=hb4.lt
 clear hown hgrow hxa HSa hb4 hlen hgl
 go_wp2_with fail
 have HS5:=HS4
 obtain ⟨d0,d1,d2⟩:=HS5.out.cells
 have hgl:=HS5.out.box.lt
 generalize hW5:w4.setCell ⟨g,0,none⟩ (.slice oR2 (p.regs.length+1) cR2)=w5 at *
 clear hW5 p0 hgo4
 have q5:∀ Wx,Ext w5 Wx→Wx.cell? ⟨gr,0,none⟩=some (.int .i64 a):=fun _ h=>h.kept (by rw [BR5.out.cell];rfl)
 have q6:∀ Wx,Ext w5 Wx→Wx.cell? ⟨gr,1,none⟩=some (.bool s):=fun _ h=>h.kept (by rw [BR5.out.cell];rfl)
 have k2:∀ Wx,Ext w5 Wx→Wx.cell? ⟨g,2,none⟩=some (.slice oM L.length cM):=fun _ h=>h.kept d2.1
 clear d0 d1 d2
 refine Q23 [6,7,8,9,10,11,12] 3 (by kernel_rfl) (by kernel_rfl) ?_
 repeat (first | (refine Q1x ?_ ?_;(decide)) | (refine Q1o ?_ ?_ ?_;(decide);(first | rfl | (focus (go_simp;done)));apply Exists.intro;refine ⟨fun wc hE=>?_,?_⟩;(go_simp;exact rfl);go_simp) | (refine Q1v ?_ ?_ ?_;(decide);(focus (go_simp;done));go_simp))
 refine Q1w ?_
 intro w6 hx
 have HS6:=zh (HS5.out.extend hx)
 have HX:=zh hx
 have hBs6:=HS6.out.size
 clear k2 hx
 refine Q01 rfl ?_
 go_wp2_with fail
 (with_reducible refine (Q78 ⟨a,s⟩ ha0 ha6 _).mono ?_)
 rintro e w7 ⟨rfl,hx⟩
 have HX7:=zh (HX.out.trans hx)
 clear hx
 have hwo:Q0t ⟨a,s⟩=2 ^ a.toNat:=rfl
 rw [hwo]
 clear hwo
 generalize 2 ^ a.toNat=N at *
 go_wp2
 refine ⟨HX7.out,?_⟩
 have hw7:=HX7.out.size
 have hmk:=Qe0 N (by omega)
 have hB7:B≤w7.heap.size:=by have:=HS5.out.size;omega
 refine Q01 rfl ?_
 go_wp2
 refine ⟨HX7.out.alloc _,?_⟩
 refine Q01 rfl ?_
 go_wp2
 refine ⟨(HX7.out.alloc _).alloc _,?_⟩
 refine Q1q (Q0c rfl (Q0c rfl (Q0c rfl (Q0c rfl (Q22))))) ?_
 have hmade:=Qiq w7 B N (by omega) (by have:=HS5.out.size;omega)
 have hxm:Ext w5 ((w7.alloc (.cells (madeCells #[.int .i64 0] N) 2)).alloc (.cells #[.slice (some ⟨w7.heap.size,0,none⟩) N N] 35)):=(HX7.out.alloc _).alloc _
 have HMade:=zh hmade
 have HXm:=zh hxm
 clear hmade hxm
 refine Q1b _ rfl _ _ 29 rfl B 35 j0 _ 1 24 Tryz.underlying29 hj0 hy0 hy1 hy2 rfl (by decide) _ _ _ rfl (HS5.out.extend HXm.out).mo (some ⟨w7.heap.size+1,0,none⟩) 1 1 [.slice (some ⟨w7.heap.size,0,none⟩) N N] rfl ?e1 ?e3 ?e4 ?e5 ?_
 case e1=>exact Q1y (size:=1) (by have:=Blk.new (w7.alloc (.cells (madeCells #[.int .i64 0] N) 2)) 35 #[.slice (some ⟨w7.heap.size,0,none⟩) N N];rwa [World.size_alloc] at this) rfl (by simp [Value.oneCell'])
 case e3=>unfold maxLen;omega
 case e4=>omega
 case e5=>simp;omega
 intro vM' w8 hown hgrow hat2
 clear hat2
 obtain ⟨oM2,cM2,rfl⟩:=Q02 hown
 have HS8:Hid (PlSt w0 (w8.setCell ⟨g,2,none⟩ (.slice oM2 (L.length+1) cM2)) B g 65 (.slice oR2 (p.regs.length+1) cR2) (.slice oC p.code.length cC) (.slice oM2 (L.length+1) cM2) ⟨p.regs ++ [⟨a,s⟩],p.code⟩ (L ++ [(.slice (some ⟨w7.heap.size,0,none⟩) N N,List.replicate N 0)])):=zh (HS5.out.rows_ HXm.out (Q1r HMade.out) (fun k hk=>by have e:w7.heap.size=k:=(by simpa [Value.ownBlock] using hk);omega) hgrow (by rw [List.length_append,List.map_append];exact hown) (fun z hz=>by rw [(List.mem_replicate.1 hz).2];exact ⟨by omega,by omega⟩))
 have hb8:=(HS5.out.extend HXm.out).box.grown hgrow (Q09 (HS5.out.extend HXm.out).mo (HS5.out.extend HXm.out).box HS5.out.nm)
 have p2:w8.cell? ⟨g,2,none⟩=some (.slice oM L.length cM)∧w8.frozen? ⟨g,2,none⟩=false:=⟨by rw [hb8.cell];rfl,hb8.frozen _⟩
 have hgo8:=hb8.lt
 clear hown hgrow hb8 hgl
 go_upto_region 6 with fail
 obtain ⟨d0,d1,d2⟩:=HS8.out.cells
 have hgl:=HS8.out.box.lt
 generalize hW9:w8.setCell ⟨g,2,none⟩ (.slice oM2 (L.length+1) cM2)=w9 at *
 clear hW9 p2 hgo8
 go_wp2_with fail
 (with_reducible refine (Q89 [111,107] _ HRl.out _ _ _ (Blk.new w9 3 #[.int .i64 ((p.regs.length:Int)+1)]) (by simp) (Ht.out.ext (HS8.out.ext.alloc _))).mono ?_)
 rintro e w10 ⟨rfl,hx⟩
 have HS10:=zh (HS8.out.extend (((Ext.refl w9).alloc _).trans hx))
 clear hx d0 d1 d2
 go_wp2
 go_ret
 unfold Q07
 rw [HD.out]
 exact ⟨rfl,_,_,_,L ++ [(.slice (some ⟨w7.heap.size,0,none⟩) N N,List.replicate N 0)],by rw [List.map_append];rfl,HS10.out⟩
theorem Qee {w:World} {v:Value} {a b:Int} (h:Q2z w v [a,b]):∃ bl o cap,v=.slice (some ⟨bl,o,none⟩) 2 cap∧w.cell? ⟨bl,o,none⟩=some (.int .i64 a)∧w.cell? ⟨bl,o+1,none⟩=some (.int .i64 b):=by
 obtain ⟨-,oa,cap,bl,o,rfl,-,-,hrow⟩:=h
 have h0:=hrow.one 0 (by simp)
 have h1:=hrow.one 1 (by simp)
 obtain rfl:=hrow.at_ (by simp)
 exact ⟨bl,o,cap,rfl,h0,h1⟩
theorem Qhl (k:Nat):2 ^ (k+1)=2 ^ k+2 ^ k:=by rw [Nat.pow_succ];omega
set_option maxRecDepth 100000 in
set_option maxHeartbeats 8000000 in
theorem Qru {w0 w:World} {B g:Nat} {vR vC vM:Value} {p:Q00} {L:List (Value × List Int)} (h:PlSt w0 w B g 31 vR vC vM p L) (hg:Q0x ⟨p,L.map (·.2)⟩) (a b:Int) (v:Value) (hv:Q2z w v [a,b]) :
  Calls Tryz.prog 9 #[.pointer (some ⟨g,0,none⟩),v] w (Q07 (Q2e ⟨p,L.map (·.2)⟩ a b) w0 B g 31):=by
 obtain ⟨i0,hi0,hz0,hz1,hz2⟩:=info_parts Qjx
 obtain ⟨j0,hj0,hy0,hy1,hy2⟩:=info_parts Qjw
 obtain ⟨oR,cR,rfl⟩:=Q02 h.rg
 obtain ⟨oC,cC,rfl⟩:=Q02 h.cd
 obtain ⟨oM,cM,rfl⟩:=Q02 h.mo
 have HS:=zh h
 have hr6:=hg.regs6
 simp only at hr6
 have hL6:L.length≤6:=by have:=hg.len;simp only [List.length_map] at this;omega
 obtain ⟨bl,ol,cl,rfl,c0,c1⟩:=Qee hv
 have hix:=Q3o (oa:=some ⟨bl,ol,none⟩) (n:=2) (b:=bl) (o:=ol) (cap:=cl) (fun _=>rfl)
 obtain ⟨d0,d1,d2⟩:=h.cells
 have hgl:=h.box.lt
 have hbl:=Q0k c0
 simp only at hbl
 clear h hg hv
 by_cases h0:a < 0
 ·have HD:Hid (Q2e ⟨p,L.map (·.2)⟩ a b=([63],⟨p,L.map (·.2)⟩)):=zh (by unfold Q2e;rw [if_pos (.inl h0)])
  go_enter Tryz.func9,Tryz.ntmps9
  go_wp2
  go_ret
  rw [HD.out]
  exact Q07.same (s:=⟨p,L.map (·.2)⟩) rfl HS.out
 by_cases h1:6 < a
 ·have HD:Hid (Q2e ⟨p,L.map (·.2)⟩ a b=([63],⟨p,L.map (·.2)⟩)):=zh (by unfold Q2e;rw [if_pos (.inr (.inl h1))])
  go_enter Tryz.func9,Tryz.ntmps9
  go_wp2
  go_ret
  rw [HD.out]
  exact Q07.same (s:=⟨p,L.map (·.2)⟩) rfl HS.out
 by_cases h2:b < 0
 ·have HD:Hid (Q2e ⟨p,L.map (·.2)⟩ a b=([63],⟨p,L.map (·.2)⟩)):=zh (by unfold Q2e;rw [if_pos (.inr (.inr (.inl h2)))])
  go_enter Tryz.func9,Tryz.ntmps9
  go_wp2
  go_ret
  rw [HD.out]
  exact Q07.same (s:=⟨p,L.map (·.2)⟩) rfl HS.out
 by_cases h3:1 < b
 ·have HD:Hid (Q2e ⟨p,L.map (·.2)⟩ a b=([63],⟨p,L.map (·.2)⟩)):=zh (by unfold Q2e;rw [if_pos (.inr (.inr (.inr (.inl h3))))])
  go_enter Tryz.func9,Tryz.ntmps9
  go_wp2
  go_ret
  rw [HD.out]
  exact Q07.same (s:=⟨p,L.map (·.2)⟩) rfl HS.out
 by_cases h4:6≤p.regs.length
 ·have HD:Hid (Q2e ⟨p,L.map (·.2)⟩ a b=([63],⟨p,L.map (·.2)⟩)):=zh (by unfold Q2e;rw [if_pos (.inr (.inr (.inr (.inr (h4)))))])
  go_enter Tryz.func9,Tryz.ntmps9
  go_wp2
  go_ret
  rw [HD.out]
  exact Q07.same (s:=⟨p,L.map (·.2)⟩) rfl HS.out
 have ha0:0≤a:=by omega
 have ha6:a≤6:=by omega
 have hpw:=Qbk ha0 ha6
 have HRl:Hid (R64 ((p.regs.length:Int)+1)):=zh ⟨by omega,by omega⟩
 obtain ⟨s,hs⟩:∃ s:Bool,decide (b=1)=s:=⟨_,rfl⟩
 have hs2:(b == 1)=s:=by rw [← hs];rfl
 have HD:Hid (Q2e ⟨p,L.map (·.2)⟩ a b=(sayT okW [(p.regs.length:Int)+1],⟨⟨p.regs ++ [⟨a,s⟩],p.code⟩,L.map (·.2) ++ [List.replicate (2 ^ a.toNat) 0]⟩)):=zh (by unfold Q2e;rw [if_neg (by simp only;omega),hs];simp)
 go_enter Tryz.func9,Tryz.ntmps9
 go_wp2_with fail
 go_loopw [5,6] (fun wv iv wr => ∃ k:Nat,(k:Int)≤a∧iv=.int .i64 (k:Int)∧wv=.int .i64 ((2 ^ k:Nat):Int)∧wr=w) (fun _ iv _=>a.toNat - (intOf iv).toNat)
 case atStart=>exact ⟨0,by omega,rfl,rfl,rfl⟩
 case round =>
  obtain ⟨k,hk,rfl,rfl,rfl⟩:=hrel
  by_cases hlt:(k:Int) < a
  ·have hp:2 ^ k≤64:=by
    have:=(Qbk (a:=(k:Int)) (by omega) (by omega)).2
    simpa using this
   have Hp2:=zh (Qhl k)
   generalize 2 ^ k=N at *
   go_wp2
   go_roundw
   case rel=>exact ⟨k+1,by omega,by go_num,by rw [Hp2.out];go_num,by first | rfl | trivial⟩
   case measure=>first | (simp [intOf];done) | (simp [intOf];omega)
  have hka:k=a.toNat:=by omega
  subst hka
  have hlt2:decide (((a.toNat:Nat):Int) < a)=false:=decide_eq_false (by omega)
  have han:((a.toNat:Nat):Int)=a:=by omega
  generalize hN:2 ^ a.toNat=N at *
  go_upto_region 8 with fail
  have HS2:=HS
  have q0:∀ Wx,Ext wr Wx→Wx.cell? ⟨bl,ol,none⟩=some (.int .i64 a):=fun _ h=>h.kept c0
  have q1:∀ Wx,Ext wr Wx→Wx.cell? ⟨bl,ol+1,none⟩=some (.int .i64 b):=fun _ h=>h.kept c1
  clear c0 c1
  have k0:∀ Wx,Ext wr Wx→Wx.cell? ⟨g,0,none⟩=some (.slice oR p.regs.length cR):=fun _ h=>h.kept d0.1
  clear d0 d1 d2
  refine Q23 [14,15,16,17,18,19] 1 (by kernel_rfl) (by kernel_rfl) ?_
  repeat (first | (refine Q1x ?_ ?_;(decide)) | (refine Q1o ?_ ?_ ?_;(decide);(first | rfl | (focus (go_simp;done)));apply Exists.intro;refine ⟨fun wc hE=>?_,?_⟩;(go_simp;exact rfl);go_simp) | (refine Q1v ?_ ?_ ?_;(decide);(focus (go_simp;done));go_simp))
  refine Q1w ?_
  intro w3 hx
  have HS3:=zh (HS2.out.extend hx)
  have HX:=zh hx
  have hBs3:=HS3.out.size
  clear k0 hx
  refine Q01 rfl ?_
  go_wp2
  refine ⟨HX.out.alloc _,?_⟩
  refine Q1q (Q0c rfl (Q0c rfl (Q0c rfl (Q0c rfl (Q0c rfl (Q22)))))) ?_
  refine Q1b _ rfl _ _ 25 rfl B 67 i0 _ 2 16 Tryz.underlying25 hi0 hz0 hz1 hz2 rfl (by decide) _ _ _ rfl (Q1r HS3.out.rg) (some ⟨w3.heap.size,0,none⟩) 1 1 (Q40 ⟨a,s⟩) rfl ?c1 ?c3 ?c4 ?c5 ?_
  case c1=>exact Q1y (size:=2) (Blk.new w3 67 #[.int .i64 a,.bool s]) rfl (by simp [Value.oneCell'])
  case c3=>unfold maxLen;omega
  case c4=>omega
  case c5=>simp;omega
  intro vR' w4 hown hgrow hat2
  clear hat2
  obtain ⟨oR2,cR2,rfl⟩:=Q02 hown
  have hxa:=(Ext.refl w3).alloc (.cells #[.int .i64 a,.bool s] 67)
  have HSa:=HS3.out.extend hxa
  have hgrow:(w3.alloc (.cells #[.int .i64 a,.bool s] 67)).grownBy w4 (Value.slice oR p.regs.length cR).ownBlock:=hgrow
  have hlen:(p.regs ++ [(⟨a,s⟩:LReg)]).length=p.regs.length+1:=by simp
  have HS4:Hid (PlSt w0 (w4.setCell ⟨g,0,none⟩ (.slice oR2 (p.regs.length+1) cR2)) B g 31 (.slice oR2 (p.regs.length+1) cR2) (.slice oC p.code.length cC) (.slice oM L.length cM) ⟨p.regs ++ [⟨a,s⟩],p.code⟩ L):=zh (HSa.regs_ hgrow (by rw [hlen,List.flatMap_append];simpa using hown) (fun r hr=>by rcases List.mem_append.1 hr with h | h;exact HS3.out.fr r h;rw [List.mem_singleton.1 h];exact ⟨by simp only;omega,by simp only;omega⟩))
  have hb4:=HSa.box.grown hgrow (Q09 HSa.rg HSa.box HSa.nr)
  have p0:w4.cell? ⟨g,0,none⟩=some (.slice oR p.regs.length cR)∧w4.frozen? ⟨g,0,none⟩=false:=⟨by rw [hb4.cell];rfl,hb4.frozen _⟩
  have hgo4:=hb4.lt
  clear hown hgrow hxa HSa hb4 hlen hgl
  go_wp2_with fail
  have HS5:=HS4
  obtain ⟨d0,d1,d2⟩:=HS5.out.cells
  have hgl:=HS5.out.box.lt
  generalize hW5:w4.setCell ⟨g,0,none⟩ (.slice oR2 (p.regs.length+1) cR2)=w5 at *
  clear hW5 p0 hgo4
  have k2:∀ Wx,Ext w5 Wx→Wx.cell? ⟨g,2,none⟩=some (.slice oM L.length cM):=fun _ h=>h.kept d2.1
  clear d0 d1 d2
  refine Q23 [6,7,8,9,10,11] 2 (by kernel_rfl) (by kernel_rfl) ?_
  repeat (first | (refine Q1x ?_ ?_;(decide)) | (refine Q1o ?_ ?_ ?_;(decide);(first | rfl | (focus (go_simp;done)));apply Exists.intro;refine ⟨fun wc hE=>?_,?_⟩;(go_simp;exact rfl);go_simp) | (refine Q1v ?_ ?_ ?_;(decide);(focus (go_simp;done));go_simp))
  refine Q1w ?_
  intro w6 hx
  have HS6:=zh (HS5.out.extend hx)
  have HX:=zh hx
  have hBs6:=HS6.out.size
  clear k2 hx
  have HX7:=HX
  generalize w6=w7 at *
  have hw7:=HX7.out.size
  have hmk:=Qe0 N (by omega)
  have hB7:B≤w7.heap.size:=by have:=HS5.out.size;omega
  refine Q01 rfl ?_
  go_wp2
  refine ⟨HX7.out.alloc _,?_⟩
  refine Q01 rfl ?_
  go_wp2
  refine ⟨(HX7.out.alloc _).alloc _,?_⟩
  refine Q1q (Q0c rfl (Q0c rfl (Q0c rfl (Q0c rfl (Q22))))) ?_
  have hmade:=Qiq w7 B N (by omega) (by have:=HS5.out.size;omega)
  have hxm:Ext w5 ((w7.alloc (.cells (madeCells #[.int .i64 0] N) 2)).alloc (.cells #[.slice (some ⟨w7.heap.size,0,none⟩) N N] 35)):=(HX7.out.alloc _).alloc _
  have HMade:=zh hmade
  have HXm:=zh hxm
  clear hmade hxm
  refine Q1b _ rfl _ _ 29 rfl B 35 j0 _ 1 24 Tryz.underlying29 hj0 hy0 hy1 hy2 rfl (by decide) _ _ _ rfl (HS5.out.extend HXm.out).mo (some ⟨w7.heap.size+1,0,none⟩) 1 1 [.slice (some ⟨w7.heap.size,0,none⟩) N N] rfl ?e1 ?e3 ?e4 ?e5 ?_
  case e1=>exact Q1y (size:=1) (by have:=Blk.new (w7.alloc (.cells (madeCells #[.int .i64 0] N) 2)) 35 #[.slice (some ⟨w7.heap.size,0,none⟩) N N];rwa [World.size_alloc] at this) rfl (by simp [Value.oneCell'])
  case e3=>unfold maxLen;omega
  case e4=>omega
  case e5=>simp;omega
  intro vM' w8 hown hgrow hat2
  clear hat2
  obtain ⟨oM2,cM2,rfl⟩:=Q02 hown
  have HS8:Hid (PlSt w0 (w8.setCell ⟨g,2,none⟩ (.slice oM2 (L.length+1) cM2)) B g 31 (.slice oR2 (p.regs.length+1) cR2) (.slice oC p.code.length cC) (.slice oM2 (L.length+1) cM2) ⟨p.regs ++ [⟨a,s⟩],p.code⟩ (L ++ [(.slice (some ⟨w7.heap.size,0,none⟩) N N,List.replicate N 0)])):=zh (HS5.out.rows_ HXm.out (Q1r HMade.out) (fun k hk=>by have e:w7.heap.size=k:=(by simpa [Value.ownBlock] using hk);omega) hgrow (by rw [List.length_append,List.map_append];exact hown) (fun z hz=>by rw [(List.mem_replicate.1 hz).2];exact ⟨by omega,by omega⟩))
  have hb8:=(HS5.out.extend HXm.out).box.grown hgrow (Q09 (HS5.out.extend HXm.out).mo (HS5.out.extend HXm.out).box HS5.out.nm)
  have p2:w8.cell? ⟨g,2,none⟩=some (.slice oM L.length cM)∧w8.frozen? ⟨g,2,none⟩=false:=⟨by rw [hb8.cell];rfl,hb8.frozen _⟩
  have hgo8:=hb8.lt
  clear hown hgrow hb8 hgl
  go_upto_region 10 with fail
  obtain ⟨d0,d1,d2⟩:=HS8.out.cells
  have hgl:=HS8.out.box.lt
  generalize hW9:w8.setCell ⟨g,2,none⟩ (.slice oM2 (L.length+1) cM2)=w9 at *
  clear hW9 p2 hgo8
  go_wp2_with fail
  (with_reducible refine (Q8a [111,107] _ HRl.out _ _ _ (Blk.new w9 2 #[.int .i64 ((p.regs.length:Int)+1)]) (by simp)).mono ?_)
  rintro e w10 ⟨rfl,hx⟩
  have HS10:=zh (HS8.out.extend (((Ext.refl w9).alloc _).trans hx))
  clear hx d0 d1 d2
  go_wp2
  go_ret
  unfold Q07
  rw [HD.out]
  exact ⟨rfl,_,_,_,L ++ [(.slice (some ⟨w7.heap.size,0,none⟩) N N,List.replicate N 0)],by rw [List.map_append];rfl,HS10.out⟩
end Go.Proofs.YtiafchefbehfbaaGreatDoor
