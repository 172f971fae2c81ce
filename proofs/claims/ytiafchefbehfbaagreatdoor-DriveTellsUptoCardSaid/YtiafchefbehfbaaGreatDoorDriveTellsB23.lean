/- Laid together from: Form2, Form3, Form4, FormR, FormR2, FormR3, FormR4, FormR5, FormR6, Form5, FormS, FormS2, FormF. -/
import Derived.Test.YtiafchefbehfbaaGreatDoorDriveTellsB20
import Derived.Test.YtiafchefbehfbaaGreatDoorDriveTellsB11
import Derived.Test.YtiafchefbehfbaaGreatDoorDriveTellsB14

namespace Go.Proofs.YtiafchefbehfbaaGreatDoor
open Go.ChangeShapes Go.WideShapes Go.ChangeAt Go.RowKit
theorem Q3o {oa:Option Addr} {n b o cap:Nat} (h:0 < n→oa=some ⟨b,o,none⟩) (W:World) (i:Int) (h0:0≤i) (h1:i < n) :
  (Instr.indexAt 35 (.slice oa n cap) (.int .i64 i)).run Tryz.prog W=.ok (.pointer (some ⟨b,o+i.toNat,none⟩)) W:=by
 obtain rfl:=h (by omega)
 have hs:(Tryz.prog.info? 2).map (·.size)=some 1:=by kernel_rfl
 simp [Instr.indexAt,run_underlying Tryz.underlying35,asIntOf,h0,h1]
 exact Q4d b o _
theorem Qb2 {α:Type} (f:α→Bool) (l:List α) (k:Nat) (d:α) (hk:k < l.length) (ok:Bool):(ok && (l.take (k+1)).all f)=(ok && (l.take k).all f && f (l.getD k d)):=by
 rw [List.take_succ_eq_append_getElem hk,List.all_append]
 simp [hk,Bool.and_assoc]
set_option maxHeartbeats 1000000 in
theorem in_c (g:Nat) (below:Int) (ok:Bool) (ns:List Int) (oa:Option Addr) (cap b o:Nat) (w:World) (hb:∀ x ∈ ns,R64 x) (hc1:ns.length≤cap) (hc2:cap≤maxLen) (hR:Rows w oa b o ns.length 1 fun i _=>.int .i64 (ns.getD i default)) (hbg:g≠b)
  (hok:w.cell? ⟨g,3,none⟩=some (.bool ok)∧w.frozen? ⟨g,3,none⟩=false) :
  Calls Tryz.prog 111 #[.pointer (some ⟨g,0,none⟩),.int .i64 below,.slice oa ns.length cap] w fun e w'=>e=.returned (.tuple #[])∧Ext (w.setCell ⟨g,3,none⟩ (.bool (ok && ns.all (okIn below)))) w':=by
 go_enter Tryz.func111,Tryz.ntmps111
 have hix:=Q3o (cap:=cap) hR.at_
 have Hrow:=zh hR
 have hlen:=Q5h hc1 hc2
 clear hR hc1 hc2
 go_wp2_with fail
 go_loopw [10] (fun i wr => ∃ k:Nat,k≤ns.length∧i=.int .i64 k∧Ext (w.setCell ⟨g,3,none⟩ (.bool (ok && (ns.take k).all (okIn below)))) wr) (fun i _=>ns.length - (intOf i).toNat)
 case atStart=>exact ⟨0,by omega,rfl,by simpa using Q84 hok.1 (Ext.refl w)⟩
 case round =>
  obtain ⟨k,hk,rfl,hE⟩:=hrel
  have d0:=Q9u hE hok
  by_cases hlt:k < ns.length
  ·have e0:=Q3q hE (by simp <;> omega) (Hrow.out.one k hlt)
   have hn:=hb _ (Q25 hlt)
   have Hs:=zh (Qb2 (okIn below) ns k default hlt ok)
   have HE:=zh hE
   clear hE
   generalize ns.getD k default=n at *
   generalize (ok && (ns.take k).all (okIn below))=ok' at *
   have hfin:∀ u,u=(ok' && okIn below n)→Ext (w.setCell ⟨g,3,none⟩ (.bool (ok && (ns.take (k+1)).all (okIn below)))) (wr.setCell ⟨g,3,none⟩ (.bool u)):=fun u hu=>by
    rw [Hs.out,← hu]
    exact Q30 HE.out (Ext.refl _)
   have Hf:=zh hfin
   clear hfin
   cases ok'
   ·go_wp2
    go_roundw
    case rel=>exact ⟨k+1,by omega,by go_num,Hf.out _ (by simp)⟩
    case measure=>first | (simp [intOf];done) | (simp [intOf];omega)
   ·by_cases h0:0≤n
    ·by_cases h1:n < below
     ·go_wp2
      go_roundw
      case rel=>exact ⟨k+1,by omega,by go_num,Hf.out _ (by simp [okIn,h0,h1])⟩
      case measure=>first | (simp [intOf];done) | (simp [intOf];omega)
     ·go_wp2
      go_roundw
      case rel=>exact ⟨k+1,by omega,by go_num,Hf.out _ (by simp [okIn,h0,h1])⟩
      case measure=>first | (simp [intOf];done) | (simp [intOf];omega)
    ·go_wp2
     go_roundw
     case rel=>exact ⟨k+1,by omega,by go_num,Hf.out _ (by simp [okIn,h0])⟩
     case measure=>first | (simp [intOf];done) | (simp [intOf];omega)
  ·have hke:k=ns.length:=by omega
   subst hke
   rw [List.take_length] at hE
   go_wp2
   refine bodyPost_end (results_none rfl _ _ _) rfl ?_
   exact ⟨rfl,hE⟩
theorem Qgx (w:World) (T:TypeId) (ns:List Int):Rows (w.alloc (.cells (ns.map (Value.int .i64)).toArray T)) (some ⟨w.heap.size,0,none⟩) w.heap.size 0 ns.length 1 fun i _=>.int .i64 (ns.getD i default) :=
 ⟨fun _=>rfl,fun i j hi hj=>by
  obtain rfl:j=0:=by omega
  have:=(Blk.new w T (ns.map (Value.int .i64)).toArray).cell i
  rw [show (0+i * 1+0)=i by omega,this]
  simp [hi]⟩
theorem Qeb {w:World} {p:Addr} {v:Value} (o:Obj) (h:w.cell? p=some v∧w.frozen? p=false):(w.alloc o).cell? p=some v∧(w.alloc o).frozen? p=false:=Q0i ((Ext.refl w).alloc o) h
theorem Qae (g:Nat) (below:Int) (ok:Bool) (n:Int) (w:World) (T:TypeId) (hn:R64 n)
  (hok:w.cell? ⟨g,3,none⟩=some (.bool ok)∧w.frozen? ⟨g,3,none⟩=false) :
  Calls Tryz.prog 111 #[.pointer (some ⟨g,0,none⟩),.int .i64 below,.slice (some ⟨w.heap.size,0,none⟩) 1 1] (w.alloc (.cells #[.int .i64 n] T)) fun e w'=>e=.returned (.tuple #[])∧Ext (w.setCell ⟨g,3,none⟩ (.bool (ok && okIn below n))) w' :=
 (in_c g below ok [n] _ 1 w.heap.size 0 _ (by simpa using hn) (by simp) (by decide) (Qgx w T [n]) (by have:=Q0k hok.1;simp at this;omega) (Qeb _ hok)).mono fun e w' ⟨h1,h2⟩=>⟨h1,by
  have:=Q43 ((Ext.refl w).alloc _) h2
  simpa using this⟩
theorem Q2k {oa:Option Addr} {n b o cap:Nat} (h:0 < n→oa=some ⟨b,o,none⟩) (W:World) (i:Int) (h0:0≤i) (h1:i < n) :
  (Instr.indexAt 49 (.slice oa n cap) (.int .i64 i)).run Tryz.prog W=.ok (.pointer (some ⟨b,o+i.toNat,none⟩)) W:=by
 obtain rfl:=h (by omega)
 have hs:(Tryz.prog.info? 3).map (·.size)=some 1:=by kernel_rfl
 simp [Instr.indexAt,run_underlying Tryz.underlying49,asIntOf,h0,h1]
 exact Q4d b o _
set_option maxHeartbeats 1000000 in
theorem Qdg (g:Nat) (R:Int) (ok:Bool) (ns:List Int) (oa:Option Addr) (cap b o:Nat) (w:World) (hb:∀ x ∈ ns,R64 x) (hc1:ns.length≤cap) (hc2:cap≤maxLen) (hR:Rows w oa b o ns.length 1 fun i _=>.int .i64 (ns.getD i default)) (hbg:g≠b)
  (hr:w.cell? ⟨g,2,none⟩=some (.int .i64 R)) (hok:w.cell? ⟨g,3,none⟩=some (.bool ok)∧w.frozen? ⟨g,3,none⟩=false) :
  Calls Tryz.prog 108 #[.pointer (some ⟨g,0,none⟩),.slice oa ns.length cap] w fun e w'=>e=.returned (.tuple #[])∧Ext (w.setCell ⟨g,3,none⟩ (.bool (ok && ns.all (okIn R)))) w':=by
 go_enter Tryz.func108,Tryz.ntmps108
 have hix:=Q2k (cap:=cap) hR.at_
 have Hrow:=zh hR
 have hlen:=Q5h hc1 hc2
 clear hR hc1 hc2
 go_wp2_with fail
 go_loopw [8] (fun i wr => ∃ k:Nat,k≤ns.length∧i=.int .i64 k∧Ext (w.setCell ⟨g,3,none⟩ (.bool (ok && (ns.take k).all (okIn R)))) wr) (fun i _=>ns.length - (intOf i).toNat)
 case atStart=>exact ⟨0,by omega,rfl,by simpa using Q84 hok.1 (Ext.refl w)⟩
 case round =>
  obtain ⟨k,hk,rfl,hE⟩:=hrel
  have d0:=Q9u hE hok
  have d2:=Q3q hE (by simp) hr
  by_cases hlt:k < ns.length
  ·have e0:=Q3q hE (by simp <;> omega) (Hrow.out.one k hlt)
   have hn:=hb _ (Q25 hlt)
   have Hs:=zh (Qb2 (okIn R) ns k default hlt ok)
   have HE:=zh hE
   clear hE
   generalize ns.getD k default=n at *
   generalize (ok && (ns.take k).all (okIn R))=ok' at *
   go_wp2_with fail
   refine (Qae g R ok' n wr _ hn d0).mono ?_
   rintro e w2 ⟨rfl,hx⟩
   have hfin:=zh (Q30 HE.out hx)
   rw [← Hs.out] at hfin
   go_wp2
   go_roundw
   case rel=>exact ⟨k+1,by omega,by go_num,hfin.out⟩
   case measure=>first | (simp [intOf];done) | (simp [intOf];omega)
  ·have hke:k=ns.length:=by omega
   subst hke
   rw [List.take_length] at hE
   go_wp2
   refine bodyPost_end (results_none rfl _ _ _) rfl ?_
   exact ⟨rfl,hE⟩
set_option maxHeartbeats 1000000 in
theorem Q0g (g:Nat) (ok:Bool) (oa:Option Addr) (len cap:Nat) (n:Int) (w:World) (hn:R64 n)
  (hr:w.cell? ⟨g,0,none⟩=some (.slice oa len cap)) (hok:w.cell? ⟨g,3,none⟩=some (.bool ok)∧w.frozen? ⟨g,3,none⟩=false) :
  Calls Tryz.prog 110 #[.pointer (some ⟨g,0,none⟩),.int .i64 n] w fun e w'=>e=.returned (.tuple #[])∧Ext (w.setCell ⟨g,3,none⟩ (.bool (ok && okIn len n))) w':=by
 go_enter Tryz.func110,Tryz.ntmps110
 go_wp2_with fail
 refine (Qae g len ok n w _ hn hok).mono ?_
 rintro e w2 ⟨rfl,hx⟩
 go_wp2
 refine bodyPost_end (results_none rfl _ _ _) rfl ?_
 exact ⟨rfl,hx⟩
set_option maxHeartbeats 1000000 in
theorem Qic (g:Nat) (ok:Bool) (m:Int) (hm:R64 m) (ns:List Int) (oa:Option Addr) (cap b o:Nat) (w:World) (hb:∀ x ∈ ns,R64 x) (hc1:ns.length≤cap) (hc2:cap≤maxLen) (hR:Rows w oa b o ns.length 1 fun i _=>.int .i64 (ns.getD i default)) (hbg:g≠b)
  (hok:w.cell? ⟨g,3,none⟩=some (.bool ok)∧w.frozen? ⟨g,3,none⟩=false) :
  Calls Tryz.prog 109 #[.pointer (some ⟨g,0,none⟩),.int .i64 m,.slice oa ns.length cap] w fun e w'=>e=.returned (.tuple #[])∧Ext (w.setCell ⟨g,3,none⟩ (.bool (ok && okIn 1 m && ns.all (okIn 1)))) w':=by
 go_enter Tryz.func109,Tryz.ntmps109
 have hix:=Q2k (cap:=cap) hR.at_
 have Hrow:=zh hR
 have hlen:=Q5h hc1 hc2
 clear hR hc1 hc2
 go_wp2_with fail
 refine (Qae g 1 ok m w _ hm hok).mono ?_
 rintro e w1 ⟨rfl,hx1⟩
 generalize hok1:(ok && okIn 1 m)=ok1 at *
 have Hok:=zh hok1
 clear hok1
 have Hx1:=zh hx1
 clear hx1
 go_wp2_with fail
 go_loopw [14] (fun i wr => ∃ k:Nat,k≤ns.length∧i=.int .i64 k∧Ext (w.setCell ⟨g,3,none⟩ (.bool (ok1 && (ns.take k).all (okIn 1)))) wr) (fun i _=>ns.length - (intOf i).toNat)
 case atStart=>exact ⟨0,by omega,rfl,by simpa using Hx1.out⟩
 case round =>
  obtain ⟨k,hk,rfl,hE⟩:=hrel
  have d0:=Q9u hE hok
  by_cases hlt:k < ns.length
  ·have e0:=Q3q hE (by simp <;> omega) (Hrow.out.one k hlt)
   have hn:=hb _ (Q25 hlt)
   have Hs:=zh (Qb2 (okIn 1) ns k default hlt ok1)
   have HE:=zh hE
   clear hE
   generalize ns.getD k default=n at *
   generalize (ok1 && (ns.take k).all (okIn 1))=ok' at *
   go_wp2_with fail
   refine (Qae g 1 ok' n wr _ hn d0).mono ?_
   rintro e w2 ⟨rfl,hx⟩
   have hfin:=zh (Q30 HE.out hx)
   rw [← Hs.out] at hfin
   go_wp2
   go_roundw
   case rel=>exact ⟨k+1,by omega,by go_num,hfin.out⟩
   case measure=>first | (simp [intOf];done) | (simp [intOf];omega)
  ·have hke:k=ns.length:=by omega
   subst hke
   rw [List.take_length] at hE
   go_wp2
   refine bodyPost_end (results_none rfl _ _ _) rfl ?_
   exact ⟨rfl,by rw [Hok.out];exact hE⟩
end Go.Proofs.YtiafchefbehfbaaGreatDoor

namespace Go.Proofs.YtiafchefbehfbaaGreatDoor
open Go.ChangeShapes Go.WideShapes Go.ChangeAt Go.RowKit
set_option linter.unusedVariables false
set_option linter.unusedSimpArgs false
theorem new5 (w:World) (T:TypeId) (v0 v1 v2 v3 v4:Value):∃ W g,w.heap.size=g∧w.alloc (.cells #[v0,v1,v2,v3,v4] T)=W∧W.heap.size=g+1∧Ext w W∧(W.cell? ⟨g,0,none⟩=some v0)∧(W.cell? ⟨g,1,none⟩=some v1)∧(W.cell? ⟨g,2,none⟩=some v2)∧(W.cell? ⟨g,3,none⟩=some v3)∧(W.cell? ⟨g,4,none⟩=some v4):=by
 have h:=Blk.new w T #[v0,v1,v2,v3,v4]
 exact ⟨_,_,rfl,rfl,by simp,(Ext.refl _).alloc _,by rw [h.cell];rfl,by rw [h.cell];rfl,by rw [h.cell];rfl,by rw [h.cell];rfl,by rw [h.cell];rfl⟩
structure Lk (w:World) (g e:Nat) (v1 v2:Value) (R:Int) (ok:Bool) (i:LIns):Prop where
 ge:g≠e
 g0:w.cell? ⟨g,0,none⟩=some v1
 g1:w.cell? ⟨g,1,none⟩=some v2
 g2:w.cell? ⟨g,2,none⟩=some (.int .i64 R)
 g3:w.cell? ⟨g,3,none⟩=some (.bool ok)∧w.frozen? ⟨g,3,none⟩=false
 e0:w.cell? ⟨e,0,none⟩=some (.int .i64 i.op)
 e1:w.cell? ⟨e,1,none⟩=some (.int .i64 i.a)
 e2:w.cell? ⟨e,2,none⟩=some (.int .i64 i.b)
 e3:w.cell? ⟨e,3,none⟩=some (.int .i64 i.c)
 e4:w.cell? ⟨e,4,none⟩=some (.int .i64 i.n)
theorem Lk.upd {w w':World} {g e:Nat} {v1 v2:Value} {R:Int} {ok ok':Bool} {i:LIns} (h:Lk w g e v1 v2 R ok i) (hx:Ext (w.setCell ⟨g,3,none⟩ (.bool ok')) w'):Lk w' g e v1 v2 R ok' i:=by
 have hge:=h.ge
 exact ⟨h.ge,Q3q hx (by simp) h.g0,Q3q hx (by simp) h.g1,Q3q hx (by simp) h.g2,Q9u hx h.g3,Q3q hx (by simp [hge]) h.e0,Q3q hx (by simp [hge]) h.e1,Q3q hx (by simp [hge]) h.e2,Q3q hx (by simp [hge]) h.e3,Q3q hx (by simp [hge]) h.e4⟩
theorem r64w (x:Int):R64 (wrap64 x):=by unfold R64 wrap64;omega
theorem okIn_iff' {b n:Int}:okIn b n=true ↔ 0≤n∧n < b:=by simp [okIn]
theorem Qq3:okIn 1 0=true:=by decide
theorem Qgy (w:World) (T:TypeId) (ns:List Int) {cs:Array Value} (h:cs=(ns.map (Value.int .i64)).toArray):Rows (w.alloc (.cells cs T)) (some ⟨w.heap.size,0,none⟩) w.heap.size 0 ns.length 1 fun i _=>.int .i64 (ns.getD i default):=by
 subst h;exact Qgx w T ns
theorem Q63 (g:Nat) (ok:Bool) (w:World) (k:Nat) (hk:w.heap.size=k) (T:TypeId) (R:Int) (ns:List Int) {cs:Array Value} (h:cs=(ns.map (Value.int .i64)).toArray) (n:Nat) (hnn:ns.length=n) (hn:∀ x ∈ ns,R64 x) (hs:ns.length≤8)
  (hr:w.cell? ⟨g,2,none⟩=some (.int .i64 R)) (hok:w.cell? ⟨g,3,none⟩=some (.bool ok)∧w.frozen? ⟨g,3,none⟩=false) :
  Calls Tryz.prog 108 #[.pointer (some ⟨g,0,none⟩),.slice (some ⟨k,0,none⟩) n n] (w.alloc (.cells cs T)) fun e w'=>e=.returned (.tuple #[])∧Ext (w.setCell ⟨g,3,none⟩ (.bool (ok && ns.all (okIn R)))) w':=by
 subst hnn;subst hk
 exact (Qdg g R ok ns _ ns.length w.heap.size 0 _ hn (Nat.le_refl _) (by unfold maxLen;omega) (Qgy w T ns h) (by have:=Q0k hok.1;simp at this;omega) (((Ext.refl w).alloc _).kept hr) (Qeb _ hok)).mono fun e w' ⟨h1,h2⟩=>⟨h1,Q43 ((Ext.refl w).alloc _) h2⟩
theorem Q6y (g:Nat) (ok:Bool) (w:World) (k:Nat) (hk:w.heap.size=k) (T:TypeId) (m:Int) (hm:R64 m) (ns:List Int) {cs:Array Value} (h:cs=(ns.map (Value.int .i64)).toArray) (n:Nat) (hnn:ns.length=n) (hn:∀ x ∈ ns,R64 x) (hs:ns.length≤8)
  (hok:w.cell? ⟨g,3,none⟩=some (.bool ok)∧w.frozen? ⟨g,3,none⟩=false) :
  Calls Tryz.prog 109 #[.pointer (some ⟨g,0,none⟩),.int .i64 m,.slice (some ⟨k,0,none⟩) n n] (w.alloc (.cells cs T)) fun e w'=>e=.returned (.tuple #[])∧Ext (w.setCell ⟨g,3,none⟩ (.bool (ok && okIn 1 m && ns.all (okIn 1)))) w':=by
 subst hnn;subst hk
 exact (Qic g ok m hm ns _ ns.length w.heap.size 0 _ hn (Nat.le_refl _) (by unfold maxLen;omega) (Qgy w T ns h) (by have:=Q0k hok.1;simp at this;omega) (Qeb _ hok)).mono fun e w' ⟨h1,h2⟩=>⟨h1,Q43 ((Ext.refl w).alloc _) h2⟩
theorem Qep (g:Nat) (ok:Bool) (w:World) (k:Nat) (hk:w.heap.size=k) (T:TypeId) (below:Int) (n:Int) (hn:R64 n) (hok:w.cell? ⟨g,3,none⟩=some (.bool ok)∧w.frozen? ⟨g,3,none⟩=false) :
  Calls Tryz.prog 111 #[.pointer (some ⟨g,0,none⟩),.int .i64 below,.slice (some ⟨k,0,none⟩) 1 1] (w.alloc (.cells #[.int .i64 n] T)) fun e w'=>e=.returned (.tuple #[])∧Ext (w.setCell ⟨g,3,none⟩ (.bool (ok && okIn below n))) w':=by
 subst hk
 exact Qae g below ok n w T hn hok
theorem Qqb (g:Nat) (ok:Bool) (w:World) (m:Int) (hm:R64 m) (hok:w.cell? ⟨g,3,none⟩=some (.bool ok)∧w.frozen? ⟨g,3,none⟩=false) :
  Calls Tryz.prog 109 #[.pointer (some ⟨g,0,none⟩),.int .i64 m,.slice none 0 0] w fun e w'=>e=.returned (.tuple #[])∧Ext (w.setCell ⟨g,3,none⟩ (.bool (ok && okIn 1 m && true))) w':=by
 have hR:Rows w none (g+1) 0 0 1 fun i _=>.int .i64 (([]:List Int).getD i default):=⟨fun h=>by omega,fun i j hi=>by omega⟩
 exact Qic g ok m hm [] none 0 (g+1) 0 w (by simp) (by simp) (by decide) hR (by omega) hok
theorem Lk.ext {w w':World} {g e:Nat} {v1 v2:Value} {R:Int} {ok:Bool} {i:LIns} (h:Lk w g e v1 v2 R ok i) (hx:Ext w w'):Lk w' g e v1 v2 R ok i :=
 ⟨h.ge,hx.kept h.g0,hx.kept h.g1,hx.kept h.g2,Q0i hx h.g3,hx.kept h.e0,hx.kept h.e1,hx.kept h.e2,hx.kept h.e3,hx.kept h.e4⟩
theorem Qi7 {b c:Int} (hc:R64 c) (hb:b≤1000):okIn b (wrap64 (c - 1))=okIn b (c - 1):=by
 unfold R64 at hc
 rw [Bool.eq_iff_iff,okIn_iff',okIn_iff']
 unfold wrap64
 omega
theorem Qq4 {c:Int} (hc:R64 c):okIn 10 (wrap64 (wrap64 (c - 20) - 1))=okIn 10 (c - 21):=by
 unfold R64 at hc
 rw [Bool.eq_iff_iff,okIn_iff',okIn_iff']
 unfold wrap64
 omega
theorem Qc1 (g:Nat) (ok:Bool) (w:World) (T:TypeId) (below n:Int) (hn:R64 n) (k:Nat) (hb:Blk w k T #[.int .i64 n]) (hk:g≠k) (hok:w.cell? ⟨g,3,none⟩=some (.bool ok)∧w.frozen? ⟨g,3,none⟩=false) :
  Calls Tryz.prog 111 #[.pointer (some ⟨g,0,none⟩),.int .i64 below,.slice (some ⟨k,0,none⟩) 1 1] w fun e w'=>e=.returned (.tuple #[])∧Ext (w.setCell ⟨g,3,none⟩ (.bool (ok && okIn below n))) w' :=
 (in_c g below ok [n] _ 1 k 0 w (by simpa using hn) (by simp) (by decide) ⟨fun _=>rfl,fun i j hi hj=>by
  simp at hi hj
  subst hi;subst hj
  have:=hb.cell 0
  simpa using this⟩ hk hok).mono fun e w' ⟨h1,h2⟩=>⟨h1,by simpa using h2⟩
set_option maxRecDepth 100000 in
set_option maxHeartbeats 2000000 in
theorem Qsp (g:Nat) (oa:Option Addr) (cap:Nat) (ob:Option Addr) (capb:Nat) (R:Int) (ok:Bool) (p:Q00) (a b c n:Int) (fa:R64 a) (fb:R64 b) (fc:R64 c) (fn:R64 n) (w:World)
  (h0:w.cell? ⟨g,0,none⟩=some (.slice oa p.regs.length cap)) (h1:w.cell? ⟨g,1,none⟩=some (.slice ob p.code.length capb)) (h2:w.cell? ⟨g,2,none⟩=some (.int .i64 R)) (h3:w.cell? ⟨g,3,none⟩=some (.bool ok)∧w.frozen? ⟨g,3,none⟩=false) :
  Calls Tryz.prog 91 #[.pointer (some ⟨g,0,none⟩),.agg #[.int .i64 1,.int .i64 a,.int .i64 b,.int .i64 c,.int .i64 n]] w fun e w'=>e=.returned (.tuple #[])∧Ext (w.setCell ⟨g,3,none⟩ (.bool (ok && Q04 p R ⟨1,a,b,c,n⟩))) w':=by
 have hgl:=Q0k h3.1
 simp only at hgl
 have Hgoal:Hid ((ok && Q04 p R ⟨1,a,b,c,n⟩)=(((ok && [a].all (okIn R)) && okIn 1 0 && [b,c].all (okIn 1)))):=zh (by
  unfold Q04
  simp [okIn,Bool.and_assoc])
 go_enter Tryz.func91,Tryz.ntmps91
 go_wp2_with fail
 obtain ⟨w0,e,he,hW,hs0,hx0,e0,e1,e2,e3,e4⟩:=new5 w 41 (.int .i64 1) (.int .i64 a) (.int .i64 b) (.int .i64 c) (.int .i64 n)
 rw [hW,he]
 have L:Lk w0 g e (.slice oa p.regs.length cap) (.slice ob p.code.length capb) R ok ⟨1,a,b,c,n⟩:=⟨by omega,hx0.kept h0,hx0.kept h1,hx0.kept h2,Q0i hx0 h3,e0,e1,e2,e3,e4⟩
 have F0:=zh hx0
 clear hW he hx0 e0 e1 e2 e3 e4 h0 h1 h2
 have C:=Q63 g ok w0 (e+1) hs0 3 R [a] (cs:=#[.int .i64 a]) rfl 1 rfl (by intro x hx;simp at hx;subst hx;assumption) (by simp) L.g2 L.g3
 (with_reducible refine C.mono ?_)
 clear C
 rintro e' w1 ⟨rfl,hx⟩
 have L:=L.upd hx
 have F1:=zh (Q43 F0.out hx)
 clear hx
 obtain ⟨ok1,Hok1⟩:∃ bb:Bool,Hid (bb=(ok && [a].all (okIn R))):=⟨_,zh rfl⟩
 rw [← Hok1.out] at L F1
 obtain ⟨-,g0,g1,g2,g3,e0,e1,e2,e3,e4⟩:=id L
 go_wp2_with fail
 clear g0 g1 g2 g3 e0 e1 e2 e3 e4
 have C:=Q6y g ok1 w1 _ rfl 3 0 ⟨by omega,by omega⟩ [b,c] (cs:=#[.int .i64 b,.int .i64 c]) rfl 2 rfl (by intro x hx;simp at hx;rcases hx with rfl | rfl <;> assumption) (by simp) L.g3
 (with_reducible refine C.mono ?_)
 clear C
 rintro e' w2 ⟨rfl,hx⟩
 have L:=L.upd hx
 have F2:=zh (Q30 F1.out hx)
 clear hx
 obtain ⟨ok2,Hok2⟩:∃ bb:Bool,Hid (bb=(ok1 && okIn 1 0 && [b,c].all (okIn 1))):=⟨_,zh rfl⟩
 rw [← Hok2.out] at L F2
 obtain ⟨-,g0,g1,g2,g3,e0,e1,e2,e3,e4⟩:=id L
 go_wp2_with fail
 clear g0 g1 g2 g3 e0 e1 e2 e3 e4
 refine bodyPost_end (results_none rfl _ _ _) rfl ?_
 refine ⟨rfl,?_⟩
 rw [Hgoal.out,← Hok1.out,← Hok2.out]
 exact F2.out
set_option maxRecDepth 100000 in
set_option maxHeartbeats 2000000 in
theorem Qss (g:Nat) (oa:Option Addr) (cap:Nat) (ob:Option Addr) (capb:Nat) (R:Int) (ok:Bool) (p:Q00) (a b c n:Int) (fa:R64 a) (fb:R64 b) (fc:R64 c) (fn:R64 n) (w:World)
  (h0:w.cell? ⟨g,0,none⟩=some (.slice oa p.regs.length cap)) (h1:w.cell? ⟨g,1,none⟩=some (.slice ob p.code.length capb)) (h2:w.cell? ⟨g,2,none⟩=some (.int .i64 R)) (h3:w.cell? ⟨g,3,none⟩=some (.bool ok)∧w.frozen? ⟨g,3,none⟩=false) :
  Calls Tryz.prog 91 #[.pointer (some ⟨g,0,none⟩),.agg #[.int .i64 2,.int .i64 a,.int .i64 b,.int .i64 c,.int .i64 n]] w fun e w'=>e=.returned (.tuple #[])∧Ext (w.setCell ⟨g,3,none⟩ (.bool (ok && Q04 p R ⟨2,a,b,c,n⟩))) w':=by
 have hgl:=Q0k h3.1
 simp only at hgl
 have Hgoal:Hid ((ok && Q04 p R ⟨2,a,b,c,n⟩)=(((ok && [a,b].all (okIn R)) && okIn 1 n && [c].all (okIn 1)))):=zh (by
  unfold Q04
  simp [okIn,Bool.and_assoc])
 go_enter Tryz.func91,Tryz.ntmps91
 go_wp2_with fail
 obtain ⟨w0,e,he,hW,hs0,hx0,e0,e1,e2,e3,e4⟩:=new5 w 41 (.int .i64 2) (.int .i64 a) (.int .i64 b) (.int .i64 c) (.int .i64 n)
 rw [hW,he]
 have L:Lk w0 g e (.slice oa p.regs.length cap) (.slice ob p.code.length capb) R ok ⟨2,a,b,c,n⟩:=⟨by omega,hx0.kept h0,hx0.kept h1,hx0.kept h2,Q0i hx0 h3,e0,e1,e2,e3,e4⟩
 have F0:=zh hx0
 clear hW he hx0 e0 e1 e2 e3 e4 h0 h1 h2
 have C:=Q63 g ok w0 (e+1) hs0 3 R [a,b] (cs:=#[.int .i64 a,.int .i64 b]) rfl 2 rfl (by intro x hx;simp at hx;rcases hx with rfl | rfl <;> assumption) (by simp) L.g2 L.g3
 (with_reducible refine C.mono ?_)
 clear C
 rintro e' w1 ⟨rfl,hx⟩
 have L:=L.upd hx
 have F1:=zh (Q43 F0.out hx)
 clear hx
 obtain ⟨ok1,Hok1⟩:∃ bb:Bool,Hid (bb=(ok && [a,b].all (okIn R))):=⟨_,zh rfl⟩
 rw [← Hok1.out] at L F1
 obtain ⟨-,g0,g1,g2,g3,e0,e1,e2,e3,e4⟩:=id L
 go_wp2_with fail
 clear g0 g1 g2 g3 e0 e1 e2 e3 e4
 have C:=Q6y g ok1 w1 _ rfl 3 n fn [c] (cs:=#[.int .i64 c]) rfl 1 rfl (by intro x hx;simp at hx;subst hx;assumption) (by simp) L.g3
 (with_reducible refine C.mono ?_)
 clear C
 rintro e' w2 ⟨rfl,hx⟩
 have L:=L.upd hx
 have F2:=zh (Q30 F1.out hx)
 clear hx
 obtain ⟨ok2,Hok2⟩:∃ bb:Bool,Hid (bb=(ok1 && okIn 1 n && [c].all (okIn 1))):=⟨_,zh rfl⟩
 rw [← Hok2.out] at L F2
 obtain ⟨-,g0,g1,g2,g3,e0,e1,e2,e3,e4⟩:=id L
 go_wp2_with fail
 clear g0 g1 g2 g3 e0 e1 e2 e3 e4
 refine bodyPost_end (results_none rfl _ _ _) rfl ?_
 refine ⟨rfl,?_⟩
 rw [Hgoal.out,← Hok1.out,← Hok2.out]
 exact F2.out
set_option maxRecDepth 100000 in
set_option maxHeartbeats 2000000 in
theorem Qsz (g:Nat) (oa:Option Addr) (cap:Nat) (ob:Option Addr) (capb:Nat) (R:Int) (ok:Bool) (p:Q00) (a b c n:Int) (fa:R64 a) (fb:R64 b) (fc:R64 c) (fn:R64 n) (w:World)
  (h0:w.cell? ⟨g,0,none⟩=some (.slice oa p.regs.length cap)) (h1:w.cell? ⟨g,1,none⟩=some (.slice ob p.code.length capb)) (h2:w.cell? ⟨g,2,none⟩=some (.int .i64 R)) (h3:w.cell? ⟨g,3,none⟩=some (.bool ok)∧w.frozen? ⟨g,3,none⟩=false) :
  Calls Tryz.prog 91 #[.pointer (some ⟨g,0,none⟩),.agg #[.int .i64 10,.int .i64 a,.int .i64 b,.int .i64 c,.int .i64 n]] w fun e w'=>e=.returned (.tuple #[])∧Ext (w.setCell ⟨g,3,none⟩ (.bool (ok && Q04 p R ⟨10,a,b,c,n⟩))) w':=by
 have hgl:=Q0k h3.1
 simp only at hgl
 have Hgoal:Hid ((ok && Q04 p R ⟨10,a,b,c,n⟩)=(((ok && [a,b].all (okIn R)) && okIn 1 0 && [c].all (okIn 1)))):=zh (by
  unfold Q04
  simp [okIn,Bool.and_assoc])
 go_enter Tryz.func91,Tryz.ntmps91
 go_wp2_with fail
 obtain ⟨w0,e,he,hW,hs0,hx0,e0,e1,e2,e3,e4⟩:=new5 w 41 (.int .i64 10) (.int .i64 a) (.int .i64 b) (.int .i64 c) (.int .i64 n)
 rw [hW,he]
 have L:Lk w0 g e (.slice oa p.regs.length cap) (.slice ob p.code.length capb) R ok ⟨10,a,b,c,n⟩:=⟨by omega,hx0.kept h0,hx0.kept h1,hx0.kept h2,Q0i hx0 h3,e0,e1,e2,e3,e4⟩
 have F0:=zh hx0
 clear hW he hx0 e0 e1 e2 e3 e4 h0 h1 h2
 have C:=Q63 g ok w0 (e+1) hs0 3 R [a,b] (cs:=#[.int .i64 a,.int .i64 b]) rfl 2 rfl (by intro x hx;simp at hx;rcases hx with rfl | rfl <;> assumption) (by simp) L.g2 L.g3
 (with_reducible refine C.mono ?_)
 clear C
 rintro e' w1 ⟨rfl,hx⟩
 have L:=L.upd hx
 have F1:=zh (Q43 F0.out hx)
 clear hx
 obtain ⟨ok1,Hok1⟩:∃ bb:Bool,Hid (bb=(ok && [a,b].all (okIn R))):=⟨_,zh rfl⟩
 rw [← Hok1.out] at L F1
 obtain ⟨-,g0,g1,g2,g3,e0,e1,e2,e3,e4⟩:=id L
 go_wp2_with fail
 clear g0 g1 g2 g3 e0 e1 e2 e3 e4
 have C:=Q6y g ok1 w1 _ rfl 3 0 ⟨by omega,by omega⟩ [c] (cs:=#[.int .i64 c]) rfl 1 rfl (by intro x hx;simp at hx;subst hx;assumption) (by simp) L.g3
 (with_reducible refine C.mono ?_)
 clear C
 rintro e' w2 ⟨rfl,hx⟩
 have L:=L.upd hx
 have F2:=zh (Q30 F1.out hx)
 clear hx
 obtain ⟨ok2,Hok2⟩:∃ bb:Bool,Hid (bb=(ok1 && okIn 1 0 && [c].all (okIn 1))):=⟨_,zh rfl⟩
 rw [← Hok2.out] at L F2
 obtain ⟨-,g0,g1,g2,g3,e0,e1,e2,e3,e4⟩:=id L
 go_wp2_with fail
 clear g0 g1 g2 g3 e0 e1 e2 e3 e4
 refine bodyPost_end (results_none rfl _ _ _) rfl ?_
 refine ⟨rfl,?_⟩
 rw [Hgoal.out,← Hok1.out,← Hok2.out]
 exact F2.out
set_option maxRecDepth 100000 in
set_option maxHeartbeats 2000000 in
theorem Qei (g:Nat) (oa:Option Addr) (cap:Nat) (ob:Option Addr) (capb:Nat) (R:Int) (ok:Bool) (p:Q00) (a b c n:Int) (fa:R64 a) (fb:R64 b) (fc:R64 c) (fn:R64 n) (w:World)
  (h0:w.cell? ⟨g,0,none⟩=some (.slice oa p.regs.length cap)) (h1:w.cell? ⟨g,1,none⟩=some (.slice ob p.code.length capb)) (h2:w.cell? ⟨g,2,none⟩=some (.int .i64 R)) (h3:w.cell? ⟨g,3,none⟩=some (.bool ok)∧w.frozen? ⟨g,3,none⟩=false) :
  Calls Tryz.prog 91 #[.pointer (some ⟨g,0,none⟩),.agg #[.int .i64 3,.int .i64 a,.int .i64 b,.int .i64 c,.int .i64 n]] w fun e w'=>e=.returned (.tuple #[])∧Ext (w.setCell ⟨g,3,none⟩ (.bool (ok && Q04 p R ⟨3,a,b,c,n⟩))) w':=by
 have hgl:=Q0k h3.1
 simp only at hgl
 have Hgoal:Hid ((ok && Q04 p R ⟨3,a,b,c,n⟩)=(((ok && [a,b].all (okIn R)) && okIn (p.regs.length:Nat) c))):=zh (by
  unfold Q04
  simp [okIn,Bool.and_assoc])
 go_enter Tryz.func91,Tryz.ntmps91
 go_wp2_with fail
 obtain ⟨w0,e,he,hW,hs0,hx0,e0,e1,e2,e3,e4⟩:=new5 w 41 (.int .i64 3) (.int .i64 a) (.int .i64 b) (.int .i64 c) (.int .i64 n)
 rw [hW,he]
 have L:Lk w0 g e (.slice oa p.regs.length cap) (.slice ob p.code.length capb) R ok ⟨3,a,b,c,n⟩:=⟨by omega,hx0.kept h0,hx0.kept h1,hx0.kept h2,Q0i hx0 h3,e0,e1,e2,e3,e4⟩
 have F0:=zh hx0
 clear hW he hx0 e0 e1 e2 e3 e4 h0 h1 h2
 have C:=Q63 g ok w0 (e+1) hs0 3 R [a,b] (cs:=#[.int .i64 a,.int .i64 b]) rfl 2 rfl (by intro x hx;simp at hx;rcases hx with rfl | rfl <;> assumption) (by simp) L.g2 L.g3
 (with_reducible refine C.mono ?_)
 clear C
 rintro e' w1 ⟨rfl,hx⟩
 have L:=L.upd hx
 have F1:=zh (Q43 F0.out hx)
 clear hx
 obtain ⟨ok1,Hok1⟩:∃ bb:Bool,Hid (bb=(ok && [a,b].all (okIn R))):=⟨_,zh rfl⟩
 rw [← Hok1.out] at L F1
 obtain ⟨-,g0,g1,g2,g3,e0,e1,e2,e3,e4⟩:=id L
 go_wp2_with fail
 clear g0 g1 g2 g3 e0 e1 e2 e3 e4
 have C:=Q0g g ok1 _ _ _ c w1 fc L.g0 L.g3
 (with_reducible refine C.mono ?_)
 clear C
 rintro e' w2 ⟨rfl,hx⟩
 have L:=L.upd hx
 have F2:=zh (Q30 F1.out hx)
 clear hx
 obtain ⟨ok2,Hok2⟩:∃ bb:Bool,Hid (bb=(ok1 && okIn (p.regs.length:Nat) c)):=⟨_,zh rfl⟩
 rw [← Hok2.out] at L F2
 obtain ⟨-,g0,g1,g2,g3,e0,e1,e2,e3,e4⟩:=id L
 go_wp2_with fail
 clear g0 g1 g2 g3 e0 e1 e2 e3 e4
 refine bodyPost_end (results_none rfl _ _ _) rfl ?_
 refine ⟨rfl,?_⟩
 rw [Hgoal.out,← Hok1.out,← Hok2.out]
 exact F2.out
set_option maxRecDepth 100000 in
set_option maxHeartbeats 2000000 in
theorem Qeg (g:Nat) (oa:Option Addr) (cap:Nat) (ob:Option Addr) (capb:Nat) (R:Int) (ok:Bool) (p:Q00) (a b c n:Int) (fa:R64 a) (fb:R64 b) (fc:R64 c) (fn:R64 n) (w:World)
  (h0:w.cell? ⟨g,0,none⟩=some (.slice oa p.regs.length cap)) (h1:w.cell? ⟨g,1,none⟩=some (.slice ob p.code.length capb)) (h2:w.cell? ⟨g,2,none⟩=some (.int .i64 R)) (h3:w.cell? ⟨g,3,none⟩=some (.bool ok)∧w.frozen? ⟨g,3,none⟩=false) :
  Calls Tryz.prog 91 #[.pointer (some ⟨g,0,none⟩),.agg #[.int .i64 4,.int .i64 a,.int .i64 b,.int .i64 c,.int .i64 n]] w fun e w'=>e=.returned (.tuple #[])∧Ext (w.setCell ⟨g,3,none⟩ (.bool (ok && Q04 p R ⟨4,a,b,c,n⟩))) w':=by
 have hgl:=Q0k h3.1
 simp only at hgl
 have Hgoal:Hid ((ok && Q04 p R ⟨4,a,b,c,n⟩)=(((ok && [a,b].all (okIn R)) && okIn (p.regs.length:Nat) c))):=zh (by
  unfold Q04
  simp [okIn,Bool.and_assoc])
 go_enter Tryz.func91,Tryz.ntmps91
 go_wp2_with fail
 obtain ⟨w0,e,he,hW,hs0,hx0,e0,e1,e2,e3,e4⟩:=new5 w 41 (.int .i64 4) (.int .i64 a) (.int .i64 b) (.int .i64 c) (.int .i64 n)
 rw [hW,he]
 have L:Lk w0 g e (.slice oa p.regs.length cap) (.slice ob p.code.length capb) R ok ⟨4,a,b,c,n⟩:=⟨by omega,hx0.kept h0,hx0.kept h1,hx0.kept h2,Q0i hx0 h3,e0,e1,e2,e3,e4⟩
 have F0:=zh hx0
 clear hW he hx0 e0 e1 e2 e3 e4 h0 h1 h2
 have C:=Q63 g ok w0 (e+1) hs0 3 R [a,b] (cs:=#[.int .i64 a,.int .i64 b]) rfl 2 rfl (by intro x hx;simp at hx;rcases hx with rfl | rfl <;> assumption) (by simp) L.g2 L.g3
 (with_reducible refine C.mono ?_)
 clear C
 rintro e' w1 ⟨rfl,hx⟩
 have L:=L.upd hx
 have F1:=zh (Q43 F0.out hx)
 clear hx
 obtain ⟨ok1,Hok1⟩:∃ bb:Bool,Hid (bb=(ok && [a,b].all (okIn R))):=⟨_,zh rfl⟩
 rw [← Hok1.out] at L F1
 obtain ⟨-,g0,g1,g2,g3,e0,e1,e2,e3,e4⟩:=id L
 go_wp2_with fail
 clear g0 g1 g2 g3 e0 e1 e2 e3 e4
 have C:=Q0g g ok1 _ _ _ c w1 fc L.g0 L.g3
 (with_reducible refine C.mono ?_)
 clear C
 rintro e' w2 ⟨rfl,hx⟩
 have L:=L.upd hx
 have F2:=zh (Q30 F1.out hx)
 clear hx
 obtain ⟨ok2,Hok2⟩:∃ bb:Bool,Hid (bb=(ok1 && okIn (p.regs.length:Nat) c)):=⟨_,zh rfl⟩
 rw [← Hok2.out] at L F2
 obtain ⟨-,g0,g1,g2,g3,e0,e1,e2,e3,e4⟩:=id L
 go_wp2_with fail
 clear g0 g1 g2 g3 e0 e1 e2 e3 e4
 refine bodyPost_end (results_none rfl _ _ _) rfl ?_
 refine ⟨rfl,?_⟩
 rw [Hgoal.out,← Hok1.out,← Hok2.out]
 exact F2.out
set_option maxRecDepth 100000 in
set_option maxHeartbeats 2000000 in
theorem Qsx (g:Nat) (oa:Option Addr) (cap:Nat) (ob:Option Addr) (capb:Nat) (R:Int) (ok:Bool) (p:Q00) (a b c n:Int) (fa:R64 a) (fb:R64 b) (fc:R64 c) (fn:R64 n) (w:World)
  (h0:w.cell? ⟨g,0,none⟩=some (.slice oa p.regs.length cap)) (h1:w.cell? ⟨g,1,none⟩=some (.slice ob p.code.length capb)) (h2:w.cell? ⟨g,2,none⟩=some (.int .i64 R)) (h3:w.cell? ⟨g,3,none⟩=some (.bool ok)∧w.frozen? ⟨g,3,none⟩=false) :
  Calls Tryz.prog 91 #[.pointer (some ⟨g,0,none⟩),.agg #[.int .i64 9,.int .i64 a,.int .i64 b,.int .i64 c,.int .i64 n]] w fun e w'=>e=.returned (.tuple #[])∧Ext (w.setCell ⟨g,3,none⟩ (.bool (ok && Q04 p R ⟨9,a,b,c,n⟩))) w':=by
 have hgl:=Q0k h3.1
 simp only at hgl
 have Hgoal:Hid ((ok && Q04 p R ⟨9,a,b,c,n⟩)=(((ok && [a].all (okIn R)) && okIn 1 n && [b,c].all (okIn 1)))):=zh (by
  unfold Q04
  simp [okIn,Bool.and_assoc])
 go_enter Tryz.func91,Tryz.ntmps91
 go_wp2_with fail
 obtain ⟨w0,e,he,hW,hs0,hx0,e0,e1,e2,e3,e4⟩:=new5 w 41 (.int .i64 9) (.int .i64 a) (.int .i64 b) (.int .i64 c) (.int .i64 n)
 rw [hW,he]
 have L:Lk w0 g e (.slice oa p.regs.length cap) (.slice ob p.code.length capb) R ok ⟨9,a,b,c,n⟩:=⟨by omega,hx0.kept h0,hx0.kept h1,hx0.kept h2,Q0i hx0 h3,e0,e1,e2,e3,e4⟩
 have F0:=zh hx0
 clear hW he hx0 e0 e1 e2 e3 e4 h0 h1 h2
 have C:=Q63 g ok w0 (e+1) hs0 3 R [a] (cs:=#[.int .i64 a]) rfl 1 rfl (by intro x hx;simp at hx;subst hx;assumption) (by simp) L.g2 L.g3
 (with_reducible refine C.mono ?_)
 clear C
 rintro e' w1 ⟨rfl,hx⟩
 have L:=L.upd hx
 have F1:=zh (Q43 F0.out hx)
 clear hx
 obtain ⟨ok1,Hok1⟩:∃ bb:Bool,Hid (bb=(ok && [a].all (okIn R))):=⟨_,zh rfl⟩
 rw [← Hok1.out] at L F1
 obtain ⟨-,g0,g1,g2,g3,e0,e1,e2,e3,e4⟩:=id L
 go_wp2_with fail
 clear g0 g1 g2 g3 e0 e1 e2 e3 e4
 have C:=Q6y g ok1 w1 _ rfl 3 n fn [b,c] (cs:=#[.int .i64 b,.int .i64 c]) rfl 2 rfl (by intro x hx;simp at hx;rcases hx with rfl | rfl <;> assumption) (by simp) L.g3
 (with_reducible refine C.mono ?_)
 clear C
 rintro e' w2 ⟨rfl,hx⟩
 have L:=L.upd hx
 have F2:=zh (Q30 F1.out hx)
 clear hx
 obtain ⟨ok2,Hok2⟩:∃ bb:Bool,Hid (bb=(ok1 && okIn 1 n && [b,c].all (okIn 1))):=⟨_,zh rfl⟩
 rw [← Hok2.out] at L F2
 obtain ⟨-,g0,g1,g2,g3,e0,e1,e2,e3,e4⟩:=id L
 go_wp2_with fail
 clear g0 g1 g2 g3 e0 e1 e2 e3 e4
 refine bodyPost_end (results_none rfl _ _ _) rfl ?_
 refine ⟨rfl,?_⟩
 rw [Hgoal.out,← Hok1.out,← Hok2.out]
 exact F2.out
set_option maxRecDepth 100000 in
set_option maxHeartbeats 2000000 in
theorem Qst (g:Nat) (oa:Option Addr) (cap:Nat) (ob:Option Addr) (capb:Nat) (R:Int) (ok:Bool) (p:Q00) (a b c n:Int) (fa:R64 a) (fb:R64 b) (fc:R64 c) (fn:R64 n) (w:World)
  (h0:w.cell? ⟨g,0,none⟩=some (.slice oa p.regs.length cap)) (h1:w.cell? ⟨g,1,none⟩=some (.slice ob p.code.length capb)) (h2:w.cell? ⟨g,2,none⟩=some (.int .i64 R)) (h3:w.cell? ⟨g,3,none⟩=some (.bool ok)∧w.frozen? ⟨g,3,none⟩=false) :
  Calls Tryz.prog 91 #[.pointer (some ⟨g,0,none⟩),.agg #[.int .i64 11,.int .i64 a,.int .i64 b,.int .i64 c,.int .i64 n]] w fun e w'=>e=.returned (.tuple #[])∧Ext (w.setCell ⟨g,3,none⟩ (.bool (ok && Q04 p R ⟨11,a,b,c,n⟩))) w':=by
 have hgl:=Q0k h3.1
 simp only at hgl
 have Hgoal:Hid ((ok && Q04 p R ⟨11,a,b,c,n⟩)=((((ok && [a].all (okIn R)) && okIn 1 0 && [b,c].all (okIn 1)) && okIn 64 (wrap64 (n - 1))))):=zh (by
  unfold Q04
  simp [Qi7 fn,Bool.and_assoc,Qq3])
 go_enter Tryz.func91,Tryz.ntmps91
 go_wp2_with fail
 obtain ⟨w0,e,he,hW,hs0,hx0,e0,e1,e2,e3,e4⟩:=new5 w 41 (.int .i64 11) (.int .i64 a) (.int .i64 b) (.int .i64 c) (.int .i64 n)
 rw [hW,he]
 have L:Lk w0 g e (.slice oa p.regs.length cap) (.slice ob p.code.length capb) R ok ⟨11,a,b,c,n⟩:=⟨by omega,hx0.kept h0,hx0.kept h1,hx0.kept h2,Q0i hx0 h3,e0,e1,e2,e3,e4⟩
 have F0:=zh hx0
 clear hW he hx0 e0 e1 e2 e3 e4 h0 h1 h2
 have C:=Q63 g ok w0 (e+1) hs0 3 R [a] (cs:=#[.int .i64 a]) rfl 1 rfl (by intro x hx;simp at hx;subst hx;assumption) (by simp) L.g2 L.g3
 (with_reducible refine C.mono ?_)
 clear C
 rintro e' w1 ⟨rfl,hx⟩
 have L:=L.upd hx
 have F1:=zh (Q43 F0.out hx)
 clear hx
 obtain ⟨ok1,Hok1⟩:∃ bb:Bool,Hid (bb=(ok && [a].all (okIn R))):=⟨_,zh rfl⟩
 rw [← Hok1.out] at L F1
 obtain ⟨-,g0,g1,g2,g3,e0,e1,e2,e3,e4⟩:=id L
 go_wp2_with fail
 clear g0 g1 g2 g3 e0 e1 e2 e3 e4
 have C:=Q6y g ok1 w1 _ rfl 3 0 ⟨by omega,by omega⟩ [b,c] (cs:=#[.int .i64 b,.int .i64 c]) rfl 2 rfl (by intro x hx;simp at hx;rcases hx with rfl | rfl <;> assumption) (by simp) L.g3
 (with_reducible refine C.mono ?_)
 clear C
 rintro e' w2 ⟨rfl,hx⟩
 have L:=L.upd hx
 have F2:=zh (Q30 F1.out hx)
 clear hx
 obtain ⟨ok2,Hok2⟩:∃ bb:Bool,Hid (bb=(ok1 && okIn 1 0 && [b,c].all (okIn 1))):=⟨_,zh rfl⟩
 rw [← Hok2.out] at L F2
 obtain ⟨-,g0,g1,g2,g3,e0,e1,e2,e3,e4⟩:=id L
 go_wp2_with fail
 clear g0 g1 g2 g3 e0 e1 e2 e3 e4
 have C:=Qep g ok2 w2 _ rfl 2 64 (wrap64 (n - 1)) (r64w _) L.g3
 (with_reducible refine C.mono ?_)
 clear C
 rintro e' w3 ⟨rfl,hx⟩
 have L:=L.upd hx
 have F3:=zh (Q30 F2.out hx)
 clear hx
 obtain ⟨ok3,Hok3⟩:∃ bb:Bool,Hid (bb=(ok2 && okIn 64 (wrap64 (n - 1)))):=⟨_,zh rfl⟩
 rw [← Hok3.out] at L F3
 obtain ⟨-,g0,g1,g2,g3,e0,e1,e2,e3,e4⟩:=id L
 go_wp2_with fail
 clear g0 g1 g2 g3 e0 e1 e2 e3 e4
 refine bodyPost_end (results_none rfl _ _ _) rfl ?_
 refine ⟨rfl,?_⟩
 rw [Hgoal.out,← Hok1.out,← Hok2.out,← Hok3.out]
 exact F3.out
set_option maxRecDepth 100000 in
set_option maxHeartbeats 2000000 in
theorem Qsy (g:Nat) (oa:Option Addr) (cap:Nat) (ob:Option Addr) (capb:Nat) (R:Int) (ok:Bool) (p:Q00) (a b c n:Int) (fa:R64 a) (fb:R64 b) (fc:R64 c) (fn:R64 n) (w:World)
  (h0:w.cell? ⟨g,0,none⟩=some (.slice oa p.regs.length cap)) (h1:w.cell? ⟨g,1,none⟩=some (.slice ob p.code.length capb)) (h2:w.cell? ⟨g,2,none⟩=some (.int .i64 R)) (h3:w.cell? ⟨g,3,none⟩=some (.bool ok)∧w.frozen? ⟨g,3,none⟩=false) :
  Calls Tryz.prog 91 #[.pointer (some ⟨g,0,none⟩),.agg #[.int .i64 12,.int .i64 a,.int .i64 b,.int .i64 c,.int .i64 n]] w fun e w'=>e=.returned (.tuple #[])∧Ext (w.setCell ⟨g,3,none⟩ (.bool (ok && Q04 p R ⟨12,a,b,c,n⟩))) w':=by
 have hgl:=Q0k h3.1
 simp only at hgl
 have Hgoal:Hid ((ok && Q04 p R ⟨12,a,b,c,n⟩)=((ok && okIn 1 n && [a,b,c].all (okIn 1)))):=zh (by
  unfold Q04
  simp [okIn,Bool.and_assoc])
 go_enter Tryz.func91,Tryz.ntmps91
 go_wp2_with fail
 obtain ⟨w0,e,he,hW,hs0,hx0,e0,e1,e2,e3,e4⟩:=new5 w 41 (.int .i64 12) (.int .i64 a) (.int .i64 b) (.int .i64 c) (.int .i64 n)
 rw [hW,he]
 have L:Lk w0 g e (.slice oa p.regs.length cap) (.slice ob p.code.length capb) R ok ⟨12,a,b,c,n⟩:=⟨by omega,hx0.kept h0,hx0.kept h1,hx0.kept h2,Q0i hx0 h3,e0,e1,e2,e3,e4⟩
 have F0:=zh hx0
 clear hW he hx0 e0 e1 e2 e3 e4 h0 h1 h2
 have C:=Q6y g ok w0 (e+1) hs0 3 n fn [a,b,c] (cs:=#[.int .i64 a,.int .i64 b,.int .i64 c]) rfl 3 rfl (by intro x hx;simp at hx;rcases hx with rfl | rfl | rfl <;> assumption) (by simp) L.g3
 (with_reducible refine C.mono ?_)
 clear C
 rintro e' w1 ⟨rfl,hx⟩
 have L:=L.upd hx
 have F1:=zh (Q43 F0.out hx)
 clear hx
 obtain ⟨ok1,Hok1⟩:∃ bb:Bool,Hid (bb=(ok && okIn 1 n && [a,b,c].all (okIn 1))):=⟨_,zh rfl⟩
 rw [← Hok1.out] at L F1
 obtain ⟨-,g0,g1,g2,g3,e0,e1,e2,e3,e4⟩:=id L
 go_wp2_with fail
 clear g0 g1 g2 g3 e0 e1 e2 e3 e4
 refine bodyPost_end (results_none rfl _ _ _) rfl ?_
 refine ⟨rfl,?_⟩
 rw [Hgoal.out,← Hok1.out]
 exact F1.out
set_option maxRecDepth 100000 in
set_option maxHeartbeats 2000000 in
theorem Qsv (g:Nat) (oa:Option Addr) (cap:Nat) (ob:Option Addr) (capb:Nat) (R:Int) (ok:Bool) (p:Q00) (a b c n:Int) (fa:R64 a) (fb:R64 b) (fc:R64 c) (fn:R64 n) (w:World)
  (h0:w.cell? ⟨g,0,none⟩=some (.slice oa p.regs.length cap)) (h1:w.cell? ⟨g,1,none⟩=some (.slice ob p.code.length capb)) (h2:w.cell? ⟨g,2,none⟩=some (.int .i64 R)) (h3:w.cell? ⟨g,3,none⟩=some (.bool ok)∧w.frozen? ⟨g,3,none⟩=false) :
  Calls Tryz.prog 91 #[.pointer (some ⟨g,0,none⟩),.agg #[.int .i64 7,.int .i64 a,.int .i64 b,.int .i64 c,.int .i64 n]] w fun e w'=>e=.returned (.tuple #[])∧Ext (w.setCell ⟨g,3,none⟩ (.bool (ok && Q04 p R ⟨7,a,b,c,n⟩))) w':=by
 have hgl:=Q0k h3.1
 simp only at hgl
 have Hgoal:Hid ((ok && Q04 p R ⟨7,a,b,c,n⟩)=(((ok && okIn 1 0 && [a,b,c].all (okIn 1)) && okIn (p.code.length:Nat) n))):=zh (by
  unfold Q04
  simp [okIn,Bool.and_assoc])
 go_enter Tryz.func91,Tryz.ntmps91
 go_wp2_with fail
 obtain ⟨w0,e,he,hW,hs0,hx0,e0,e1,e2,e3,e4⟩:=new5 w 41 (.int .i64 7) (.int .i64 a) (.int .i64 b) (.int .i64 c) (.int .i64 n)
 rw [hW,he]
 have L:Lk w0 g e (.slice oa p.regs.length cap) (.slice ob p.code.length capb) R ok ⟨7,a,b,c,n⟩:=⟨by omega,hx0.kept h0,hx0.kept h1,hx0.kept h2,Q0i hx0 h3,e0,e1,e2,e3,e4⟩
 have F0:=zh hx0
 clear hW he hx0 e0 e1 e2 e3 e4 h0 h1 h2
 have C:=Q6y g ok w0 (e+1) hs0 3 0 ⟨by omega,by omega⟩ [a,b,c] (cs:=#[.int .i64 a,.int .i64 b,.int .i64 c]) rfl 3 rfl (by intro x hx;simp at hx;rcases hx with rfl | rfl | rfl <;> assumption) (by simp) L.g3
 (with_reducible refine C.mono ?_)
 clear C
 rintro e' w1 ⟨rfl,hx⟩
 have L:=L.upd hx
 have F1:=zh (Q43 F0.out hx)
 clear hx
 obtain ⟨ok1,Hok1⟩:∃ bb:Bool,Hid (bb=(ok && okIn 1 0 && [a,b,c].all (okIn 1))):=⟨_,zh rfl⟩
 rw [← Hok1.out] at L F1
 obtain ⟨-,g0,g1,g2,g3,e0,e1,e2,e3,e4⟩:=id L
 go_wp2_with fail
 clear g0 g1 g2 g3 e0 e1 e2 e3 e4
 have kg0:∀ W,Ext w1 W→W.cell? ⟨g,0,none⟩=some (.slice oa p.regs.length cap):=fun _ h=>h.kept L.g0
 have kg1:∀ W,Ext w1 W→W.cell? ⟨g,1,none⟩=some (.slice ob p.code.length capb):=fun _ h=>h.kept L.g1
 have ke3:∀ W,Ext w1 W→W.cell? ⟨e,3,none⟩=some (.int .i64 c):=fun _ h=>h.kept L.e3
 have ke4:∀ W,Ext w1 W→W.cell? ⟨e,4,none⟩=some (.int .i64 n):=fun _ h=>h.kept L.e4
 refine Q8b 10 9 (some 140) (by decide) rfl (by kernel_rfl) (by kernel_rfl) (fun k=>.slice (some ⟨k,0,none⟩) 1 1) 2 #[.int .i64 n] ?_
 simp only [List.take_succ_cons,List.take_zero,List.drop_succ_cons,List.drop_zero]
 repeat (first | (refine Q5x ?_ ?_ (fun wc hE=>?_) ?_;(decide);rfl;(focus (go_simp;done));go_simp) | (refine Q0d ?_ ?_ ?_;(decide);(first | rfl | (focus (go_simp;done)));apply Exists.intro;refine ⟨fun wc hE=>?_,?_⟩;(go_simp;exact rfl);go_simp) | (refine Q0e ?_ ?_ ?_;(decide);(focus (go_simp;done));go_simp))
 refine Q0f ?_
 intro k wx hk hB hE
 have hgk:g≠k:=by have:=Q0k L.g3.1;simp only at this;omega
 have F1:=zh (Q30 F1.out (Q84 L.g3.1 hE))
 have L:=L.ext hE
 clear kg0 kg1 ke3 ke4 hE
 go_wp2_with fail
 have C:=Qc1 g ok1 wx 2 ((p.code.length:Nat)) n fn k hB hgk L.g3
 (with_reducible refine C.mono ?_)
 clear C
 rintro e' w2 ⟨rfl,hx⟩
 have F2:=zh (Q30 F1.out hx)
 clear hx hB
 obtain ⟨ok2,Hok2⟩:∃ bb:Bool,Hid (bb=(ok1 && okIn ((p.code.length:Nat)) n)):=⟨_,zh rfl⟩
 rw [← Hok2.out] at F2
 go_wp2
 refine bodyPost_end (results_none rfl _ _ _) rfl ?_
 refine ⟨rfl,?_⟩
 rw [Hgoal.out,← Hok1.out,← Hok2.out]
 exact F2.out
set_option maxRecDepth 100000 in
set_option maxHeartbeats 2000000 in
theorem Qsw (g:Nat) (oa:Option Addr) (cap:Nat) (ob:Option Addr) (capb:Nat) (R:Int) (ok:Bool) (p:Q00) (a b c n:Int) (fa:R64 a) (fb:R64 b) (fc:R64 c) (fn:R64 n) (w:World)
  (h0:w.cell? ⟨g,0,none⟩=some (.slice oa p.regs.length cap)) (h1:w.cell? ⟨g,1,none⟩=some (.slice ob p.code.length capb)) (h2:w.cell? ⟨g,2,none⟩=some (.int .i64 R)) (h3:w.cell? ⟨g,3,none⟩=some (.bool ok)∧w.frozen? ⟨g,3,none⟩=false) :
  Calls Tryz.prog 91 #[.pointer (some ⟨g,0,none⟩),.agg #[.int .i64 8,.int .i64 a,.int .i64 b,.int .i64 c,.int .i64 n]] w fun e w'=>e=.returned (.tuple #[])∧Ext (w.setCell ⟨g,3,none⟩ (.bool (ok && Q04 p R ⟨8,a,b,c,n⟩))) w':=by
 have hgl:=Q0k h3.1
 simp only at hgl
 have Hgoal:Hid ((ok && Q04 p R ⟨8,a,b,c,n⟩)=((((ok && [a,b].all (okIn R)) && okIn 4 (wrap64 (c - 1))) && okIn (p.code.length:Nat) n))):=zh (by
  unfold Q04
  simp [Qi7 fc,Bool.and_assoc])
 go_enter Tryz.func91,Tryz.ntmps91
 go_wp2_with fail
 obtain ⟨w0,e,he,hW,hs0,hx0,e0,e1,e2,e3,e4⟩:=new5 w 41 (.int .i64 8) (.int .i64 a) (.int .i64 b) (.int .i64 c) (.int .i64 n)
 rw [hW,he]
 have L:Lk w0 g e (.slice oa p.regs.length cap) (.slice ob p.code.length capb) R ok ⟨8,a,b,c,n⟩:=⟨by omega,hx0.kept h0,hx0.kept h1,hx0.kept h2,Q0i hx0 h3,e0,e1,e2,e3,e4⟩
 have F0:=zh hx0
 clear hW he hx0 e0 e1 e2 e3 e4 h0 h1 h2
 have C:=Q63 g ok w0 (e+1) hs0 3 R [a,b] (cs:=#[.int .i64 a,.int .i64 b]) rfl 2 rfl (by intro x hx;simp at hx;rcases hx with rfl | rfl <;> assumption) (by simp) L.g2 L.g3
 (with_reducible refine C.mono ?_)
 clear C
 rintro e' w1 ⟨rfl,hx⟩
 have L:=L.upd hx
 have F1:=zh (Q43 F0.out hx)
 clear hx
 obtain ⟨ok1,Hok1⟩:∃ bb:Bool,Hid (bb=(ok && [a,b].all (okIn R))):=⟨_,zh rfl⟩
 rw [← Hok1.out] at L F1
 obtain ⟨-,g0,g1,g2,g3,e0,e1,e2,e3,e4⟩:=id L
 go_wp2_with fail
 clear g0 g1 g2 g3 e0 e1 e2 e3 e4
 have C:=Qep g ok1 w1 _ rfl 2 4 (wrap64 (c - 1)) (r64w _) L.g3
 (with_reducible refine C.mono ?_)
 clear C
 rintro e' w2 ⟨rfl,hx⟩
 have L:=L.upd hx
 have F2:=zh (Q30 F1.out hx)
 clear hx
 obtain ⟨ok2,Hok2⟩:∃ bb:Bool,Hid (bb=(ok1 && okIn 4 (wrap64 (c - 1)))):=⟨_,zh rfl⟩
 rw [← Hok2.out] at L F2
 obtain ⟨-,g0,g1,g2,g3,e0,e1,e2,e3,e4⟩:=id L
 go_wp2_with fail
 clear g0 g1 g2 g3 e0 e1 e2 e3 e4
 have kg0:∀ W,Ext w2 W→W.cell? ⟨g,0,none⟩=some (.slice oa p.regs.length cap):=fun _ h=>h.kept L.g0
 have kg1:∀ W,Ext w2 W→W.cell? ⟨g,1,none⟩=some (.slice ob p.code.length capb):=fun _ h=>h.kept L.g1
 have ke3:∀ W,Ext w2 W→W.cell? ⟨e,3,none⟩=some (.int .i64 c):=fun _ h=>h.kept L.e3
 have ke4:∀ W,Ext w2 W→W.cell? ⟨e,4,none⟩=some (.int .i64 n):=fun _ h=>h.kept L.e4
 refine Q8b 10 9 (some 166) (by decide) rfl (by kernel_rfl) (by kernel_rfl) (fun k=>.slice (some ⟨k,0,none⟩) 1 1) 2 #[.int .i64 n] ?_
 simp only [List.take_succ_cons,List.take_zero,List.drop_succ_cons,List.drop_zero]
 repeat (first | (refine Q5x ?_ ?_ (fun wc hE=>?_) ?_;(decide);rfl;(focus (go_simp;done));go_simp) | (refine Q0d ?_ ?_ ?_;(decide);(first | rfl | (focus (go_simp;done)));apply Exists.intro;refine ⟨fun wc hE=>?_,?_⟩;(go_simp;exact rfl);go_simp) | (refine Q0e ?_ ?_ ?_;(decide);(focus (go_simp;done));go_simp))
 refine Q0f ?_
 intro k wx hk hB hE
 have hgk:g≠k:=by have:=Q0k L.g3.1;simp only at this;omega
 have F2:=zh (Q30 F2.out (Q84 L.g3.1 hE))
 have L:=L.ext hE
 clear kg0 kg1 ke3 ke4 hE
 go_wp2_with fail
 have C:=Qc1 g ok2 wx 2 ((p.code.length:Nat)) n fn k hB hgk L.g3
 (with_reducible refine C.mono ?_)
 clear C
 rintro e' w3 ⟨rfl,hx⟩
 have F3:=zh (Q30 F2.out hx)
 clear hx hB
 obtain ⟨ok3,Hok3⟩:∃ bb:Bool,Hid (bb=(ok2 && okIn ((p.code.length:Nat)) n)):=⟨_,zh rfl⟩
 rw [← Hok3.out] at F3
 go_wp2
 refine bodyPost_end (results_none rfl _ _ _) rfl ?_
 refine ⟨rfl,?_⟩
 rw [Hgoal.out,← Hok1.out,← Hok2.out,← Hok3.out]
 exact F3.out
set_option maxRecDepth 100000 in
set_option maxHeartbeats 2000000 in
theorem Qsu (g:Nat) (oa:Option Addr) (cap:Nat) (ob:Option Addr) (capb:Nat) (R:Int) (ok:Bool) (p:Q00) (a b c n:Int) (fa:R64 a) (fb:R64 b) (fc:R64 c) (fn:R64 n) (w:World) (b0 o0:Nat) (hgb:g≠b0) (hR:Rows w oa b0 o0 p.regs.length 2 fun i=>Q2v (p.regs.getD i default)) (hreg:ok=true→∀ r ∈ p.regs,0≤r.log∧r.log≤6)
  (h0:w.cell? ⟨g,0,none⟩=some (.slice oa p.regs.length cap)) (h1:w.cell? ⟨g,1,none⟩=some (.slice ob p.code.length capb)) (h2:w.cell? ⟨g,2,none⟩=some (.int .i64 R)) (h3:w.cell? ⟨g,3,none⟩=some (.bool ok)∧w.frozen? ⟨g,3,none⟩=false) :
  Calls Tryz.prog 91 #[.pointer (some ⟨g,0,none⟩),.agg #[.int .i64 5,.int .i64 a,.int .i64 b,.int .i64 c,.int .i64 n]] w fun e w'=>e=.returned (.tuple #[])∧Ext (w.setCell ⟨g,3,none⟩ (.bool (ok && Q04 p R ⟨5,a,b,c,n⟩))) w':=by
 have hgl:=Q0k h3.1
 simp only at hgl
 have Hgoal:Hid ((ok && Q04 p R ⟨5,a,b,c,n⟩)=(((((ok && [a].all (okIn R)) && okIn 1 0 && [b].all (okIn 1)) && okIn (p.regs.length:Nat) c) && okIn (Q0t (p.regs.getD c.toNat default):Nat) n))):=zh (by
  unfold Q04
  simp [okIn,Bool.and_assoc])
 go_enter Tryz.func91,Tryz.ntmps91
 go_wp2_with fail
 obtain ⟨w0,e,he,hW,hs0,hx0,e0,e1,e2,e3,e4⟩:=new5 w 41 (.int .i64 5) (.int .i64 a) (.int .i64 b) (.int .i64 c) (.int .i64 n)
 rw [hW,he]
 have L:Lk w0 g e (.slice oa p.regs.length cap) (.slice ob p.code.length capb) R ok ⟨5,a,b,c,n⟩:=⟨by omega,hx0.kept h0,hx0.kept h1,hx0.kept h2,Q0i hx0 h3,e0,e1,e2,e3,e4⟩
 have F0:=zh hx0
 have hat:=hR.at_
 have HR:=zh hR
 have Hreg:=zh hreg
 clear hR hreg
 clear hW he hx0 e0 e1 e2 e3 e4 h0 h1 h2
 have C:=Q63 g ok w0 (e+1) hs0 3 R [a] (cs:=#[.int .i64 a]) rfl 1 rfl (by intro x hx;simp at hx;subst hx;assumption) (by simp) L.g2 L.g3
 (with_reducible refine C.mono ?_)
 clear C
 rintro e' w1 ⟨rfl,hx⟩
 have L:=L.upd hx
 have F1:=zh (Q43 F0.out hx)
 clear hx
 obtain ⟨ok1,Hok1⟩:∃ bb:Bool,Hid (bb=(ok && [a].all (okIn R))):=⟨_,zh rfl⟩
 rw [← Hok1.out] at L F1
 obtain ⟨-,g0,g1,g2,g3,e0,e1,e2,e3,e4⟩:=id L
 go_wp2_with fail
 clear g0 g1 g2 g3 e0 e1 e2 e3 e4
 have C:=Q6y g ok1 w1 _ rfl 3 0 ⟨by omega,by omega⟩ [b] (cs:=#[.int .i64 b]) rfl 1 rfl (by intro x hx;simp at hx;subst hx;assumption) (by simp) L.g3
 (with_reducible refine C.mono ?_)
 clear C
 rintro e' w2 ⟨rfl,hx⟩
 have L:=L.upd hx
 have F2:=zh (Q30 F1.out hx)
 clear hx
 obtain ⟨ok2,Hok2⟩:∃ bb:Bool,Hid (bb=(ok1 && okIn 1 0 && [b].all (okIn 1))):=⟨_,zh rfl⟩
 rw [← Hok2.out] at L F2
 obtain ⟨-,g0,g1,g2,g3,e0,e1,e2,e3,e4⟩:=id L
 go_wp2_with fail
 clear g0 g1 g2 g3 e0 e1 e2 e3 e4
 have C:=Q0g g ok2 _ _ _ c w2 fc L.g0 L.g3
 (with_reducible refine C.mono ?_)
 clear C
 rintro e' w3 ⟨rfl,hx⟩
 have L:=L.upd hx
 have F3:=zh (Q30 F2.out hx)
 clear hx
 obtain ⟨ok3,Hok3⟩:∃ bb:Bool,Hid (bb=(ok2 && okIn (p.regs.length:Nat) c)):=⟨_,zh rfl⟩
 rw [← Hok3.out] at L F3
 obtain ⟨-,g0,g1,g2,g3,e0,e1,e2,e3,e4⟩:=id L
 cases ok3
 ·go_wp2
  refine bodyPost_end (results_none rfl _ _ _) rfl ?_
  refine ⟨rfl,?_⟩
  rw [Hgoal.out,← Hok1.out,← Hok2.out,← Hok3.out]
  exact F3.out
 have h3':=Hok3.out.symm
 simp only [Bool.and_eq_true] at h3'
 obtain ⟨h2',hc⟩:=h3'
 rw [Hok2.out,Hok1.out] at h2'
 simp only [Bool.and_eq_true] at h2'
 have hok1:=h2'.1.1.1
 rw [okIn_iff'] at hc
 have hcl:c.toNat < p.regs.length:=by omega
 have hlog:=Hreg.out hok1 _ (Q25 hcl)
 have q0:=HR.out.reg c.toNat hcl
 have hgb':=hgb
 have k0:∀ W,Ext w3 W→W.cell? ⟨b0,o0+c.toNat * 2,none⟩=some (.int .i64 (p.regs.getD c.toNat default).log):=fun _ h=>h.kept (Q3q F3.out (by simp [hgb]) q0.1)
 have k1:∀ W,Ext w3 W→W.cell? ⟨b0,o0+c.toNat * 2+1,none⟩=some (.bool (p.regs.getD c.toNat default).secret):=fun _ h=>h.kept (Q3q F3.out (by simp [hgb]) q0.2)
 have c0:=hc.1
 have c1:=hc.2
 have hix:=Q50 (cap:=cap) hat
 clear h2' hc q0
 generalize p.regs.getD c.toNat default=r at *
 go_wp2_with fail
 clear g0 g1 g2 g3 e0 e1 e2 e3 e4
 have kg0:∀ W,Ext w3 W→W.cell? ⟨g,0,none⟩=some (.slice oa p.regs.length cap):=fun _ h=>h.kept L.g0
 have kg1:∀ W,Ext w3 W→W.cell? ⟨g,1,none⟩=some (.slice ob p.code.length capb):=fun _ h=>h.kept L.g1
 have ke3:∀ W,Ext w3 W→W.cell? ⟨e,3,none⟩=some (.int .i64 c):=fun _ h=>h.kept L.e3
 have ke4:∀ W,Ext w3 W→W.cell? ⟨e,4,none⟩=some (.int .i64 n):=fun _ h=>h.kept L.e4
 refine Q8b 14 13 (some 118) (by decide) rfl (by kernel_rfl) (by kernel_rfl) (fun k=>.slice (some ⟨k,0,none⟩) 1 1) 2 #[.int .i64 n] ?_
 simp only [List.take_succ_cons,List.take_zero,List.drop_succ_cons,List.drop_zero]
 repeat (first | (refine Q5x ?_ ?_ (fun wc hE=>?_) ?_;(decide);rfl;(focus (go_simp;done));go_simp) | (refine Q0d ?_ ?_ ?_;(decide);(first | rfl | (focus (go_simp;done)));apply Exists.intro;refine ⟨fun wc hE=>?_,?_⟩;(go_simp;exact rfl);go_simp) | (refine Q2g ?_ ?_ ?_;(decide);(first | rfl | (focus (go_simp;done)));apply Exists.intro;refine ⟨fun wc hE=>?_,?_⟩;(go_simp;(first | (with_reducible exact Q26 (Q78 r hlog.1 hlog.2 _))));go_simp) | (refine Q0e ?_ ?_ ?_;(decide);(focus (go_simp;done));go_simp))
 refine Q0f ?_
 intro k wx hk hB hE
 have hgk:g≠k:=by have:=Q0k L.g3.1;simp only at this;omega
 have F3:=zh (Q30 F3.out (Q84 L.g3.1 hE))
 have L:=L.ext hE
 clear kg0 kg1 ke3 ke4 hE
 go_wp2_with fail
 have C:=Qc1 g true wx 2 ((Q0t r:Nat)) n fn k hB hgk L.g3
 (with_reducible refine C.mono ?_)
 clear C
 rintro e' w4 ⟨rfl,hx⟩
 have F4:=zh (Q30 F3.out hx)
 clear hx hB
 obtain ⟨ok4,Hok4⟩:∃ bb:Bool,Hid (bb=(true && okIn ((Q0t r:Nat)) n)):=⟨_,zh rfl⟩
 rw [← Hok4.out] at F4
 go_wp2
 refine bodyPost_end (results_none rfl _ _ _) rfl ?_
 refine ⟨rfl,?_⟩
 rw [Hgoal.out,← Hok1.out,← Hok2.out,← Hok3.out,← Hok4.out]
 exact F4.out
set_option maxRecDepth 100000 in
set_option maxHeartbeats 2000000 in
theorem Qsq (g:Nat) (oa:Option Addr) (cap:Nat) (ob:Option Addr) (capb:Nat) (R:Int) (ok:Bool) (p:Q00) (a b c n:Int) (fa:R64 a) (fb:R64 b) (fc:R64 c) (fn:R64 n) (w:World) (b0 o0:Nat) (hgb:g≠b0) (hR:Rows w oa b0 o0 p.regs.length 2 fun i=>Q2v (p.regs.getD i default)) (hreg:ok=true→∀ r ∈ p.regs,0≤r.log∧r.log≤6)
  (h0:w.cell? ⟨g,0,none⟩=some (.slice oa p.regs.length cap)) (h1:w.cell? ⟨g,1,none⟩=some (.slice ob p.code.length capb)) (h2:w.cell? ⟨g,2,none⟩=some (.int .i64 R)) (h3:w.cell? ⟨g,3,none⟩=some (.bool ok)∧w.frozen? ⟨g,3,none⟩=false) :
  Calls Tryz.prog 91 #[.pointer (some ⟨g,0,none⟩),.agg #[.int .i64 6,.int .i64 a,.int .i64 b,.int .i64 c,.int .i64 n]] w fun e w'=>e=.returned (.tuple #[])∧Ext (w.setCell ⟨g,3,none⟩ (.bool (ok && Q04 p R ⟨6,a,b,c,n⟩))) w':=by
 have hgl:=Q0k h3.1
 simp only at hgl
 have Hgoal:Hid ((ok && Q04 p R ⟨6,a,b,c,n⟩)=(((((ok && [a].all (okIn R)) && okIn 1 0 && [b].all (okIn 1)) && okIn (p.regs.length:Nat) c) && okIn (Q0t (p.regs.getD c.toNat default):Nat) n))):=zh (by
  unfold Q04
  simp [okIn,Bool.and_assoc])
 go_enter Tryz.func91,Tryz.ntmps91
 go_wp2_with fail
 obtain ⟨w0,e,he,hW,hs0,hx0,e0,e1,e2,e3,e4⟩:=new5 w 41 (.int .i64 6) (.int .i64 a) (.int .i64 b) (.int .i64 c) (.int .i64 n)
 rw [hW,he]
 have L:Lk w0 g e (.slice oa p.regs.length cap) (.slice ob p.code.length capb) R ok ⟨6,a,b,c,n⟩:=⟨by omega,hx0.kept h0,hx0.kept h1,hx0.kept h2,Q0i hx0 h3,e0,e1,e2,e3,e4⟩
 have F0:=zh hx0
 have hat:=hR.at_
 have HR:=zh hR
 have Hreg:=zh hreg
 clear hR hreg
 clear hW he hx0 e0 e1 e2 e3 e4 h0 h1 h2
 have C:=Q63 g ok w0 (e+1) hs0 3 R [a] (cs:=#[.int .i64 a]) rfl 1 rfl (by intro x hx;simp at hx;subst hx;assumption) (by simp) L.g2 L.g3
 (with_reducible refine C.mono ?_)
 clear C
 rintro e' w1 ⟨rfl,hx⟩
 have L:=L.upd hx
 have F1:=zh (Q43 F0.out hx)
 clear hx
 obtain ⟨ok1,Hok1⟩:∃ bb:Bool,Hid (bb=(ok && [a].all (okIn R))):=⟨_,zh rfl⟩
 rw [← Hok1.out] at L F1
 obtain ⟨-,g0,g1,g2,g3,e0,e1,e2,e3,e4⟩:=id L
 go_wp2_with fail
 clear g0 g1 g2 g3 e0 e1 e2 e3 e4
 have C:=Q6y g ok1 w1 _ rfl 3 0 ⟨by omega,by omega⟩ [b] (cs:=#[.int .i64 b]) rfl 1 rfl (by intro x hx;simp at hx;subst hx;assumption) (by simp) L.g3
 (with_reducible refine C.mono ?_)
 clear C
 rintro e' w2 ⟨rfl,hx⟩
 have L:=L.upd hx
 have F2:=zh (Q30 F1.out hx)
 clear hx
 obtain ⟨ok2,Hok2⟩:∃ bb:Bool,Hid (bb=(ok1 && okIn 1 0 && [b].all (okIn 1))):=⟨_,zh rfl⟩
 rw [← Hok2.out] at L F2
 obtain ⟨-,g0,g1,g2,g3,e0,e1,e2,e3,e4⟩:=id L
 go_wp2_with fail
 clear g0 g1 g2 g3 e0 e1 e2 e3 e4
 have C:=Q0g g ok2 _ _ _ c w2 fc L.g0 L.g3
 (with_reducible refine C.mono ?_)
 clear C
 rintro e' w3 ⟨rfl,hx⟩
 have L:=L.upd hx
 have F3:=zh (Q30 F2.out hx)
 clear hx
 obtain ⟨ok3,Hok3⟩:∃ bb:Bool,Hid (bb=(ok2 && okIn (p.regs.length:Nat) c)):=⟨_,zh rfl⟩
 rw [← Hok3.out] at L F3
 obtain ⟨-,g0,g1,g2,g3,e0,e1,e2,e3,e4⟩:=id L
 cases ok3
 ·go_wp2
  refine bodyPost_end (results_none rfl _ _ _) rfl ?_
  refine ⟨rfl,?_⟩
  rw [Hgoal.out,← Hok1.out,← Hok2.out,← Hok3.out]
  exact F3.out
 have h3':=Hok3.out.symm
 simp only [Bool.and_eq_true] at h3'
 obtain ⟨h2',hc⟩:=h3'
 rw [Hok2.out,Hok1.out] at h2'
 simp only [Bool.and_eq_true] at h2'
 have hok1:=h2'.1.1.1
 rw [okIn_iff'] at hc
 have hcl:c.toNat < p.regs.length:=by omega
 have hlog:=Hreg.out hok1 _ (Q25 hcl)
 have q0:=HR.out.reg c.toNat hcl
 have hgb':=hgb
 have k0:∀ W,Ext w3 W→W.cell? ⟨b0,o0+c.toNat * 2,none⟩=some (.int .i64 (p.regs.getD c.toNat default).log):=fun _ h=>h.kept (Q3q F3.out (by simp [hgb]) q0.1)
 have k1:∀ W,Ext w3 W→W.cell? ⟨b0,o0+c.toNat * 2+1,none⟩=some (.bool (p.regs.getD c.toNat default).secret):=fun _ h=>h.kept (Q3q F3.out (by simp [hgb]) q0.2)
 have c0:=hc.1
 have c1:=hc.2
 have hix:=Q50 (cap:=cap) hat
 clear h2' hc q0
 generalize p.regs.getD c.toNat default=r at *
 go_wp2_with fail
 clear g0 g1 g2 g3 e0 e1 e2 e3 e4
 have kg0:∀ W,Ext w3 W→W.cell? ⟨g,0,none⟩=some (.slice oa p.regs.length cap):=fun _ h=>h.kept L.g0
 have kg1:∀ W,Ext w3 W→W.cell? ⟨g,1,none⟩=some (.slice ob p.code.length capb):=fun _ h=>h.kept L.g1
 have ke3:∀ W,Ext w3 W→W.cell? ⟨e,3,none⟩=some (.int .i64 c):=fun _ h=>h.kept L.e3
 have ke4:∀ W,Ext w3 W→W.cell? ⟨e,4,none⟩=some (.int .i64 n):=fun _ h=>h.kept L.e4
 refine Q8b 14 13 (some 118) (by decide) rfl (by kernel_rfl) (by kernel_rfl) (fun k=>.slice (some ⟨k,0,none⟩) 1 1) 2 #[.int .i64 n] ?_
 simp only [List.take_succ_cons,List.take_zero,List.drop_succ_cons,List.drop_zero]
 repeat (first | (refine Q5x ?_ ?_ (fun wc hE=>?_) ?_;(decide);rfl;(focus (go_simp;done));go_simp) | (refine Q0d ?_ ?_ ?_;(decide);(first | rfl | (focus (go_simp;done)));apply Exists.intro;refine ⟨fun wc hE=>?_,?_⟩;(go_simp;exact rfl);go_simp) | (refine Q2g ?_ ?_ ?_;(decide);(first | rfl | (focus (go_simp;done)));apply Exists.intro;refine ⟨fun wc hE=>?_,?_⟩;(go_simp;(first | (with_reducible exact Q26 (Q78 r hlog.1 hlog.2 _))));go_simp) | (refine Q0e ?_ ?_ ?_;(decide);(focus (go_simp;done));go_simp))
 refine Q0f ?_
 intro k wx hk hB hE
 have hgk:g≠k:=by have:=Q0k L.g3.1;simp only at this;omega
 have F3:=zh (Q30 F3.out (Q84 L.g3.1 hE))
 have L:=L.ext hE
 clear kg0 kg1 ke3 ke4 hE
 go_wp2_with fail
 have C:=Qc1 g true wx 2 ((Q0t r:Nat)) n fn k hB hgk L.g3
 (with_reducible refine C.mono ?_)
 clear C
 rintro e' w4 ⟨rfl,hx⟩
 have F4:=zh (Q30 F3.out hx)
 clear hx hB
 obtain ⟨ok4,Hok4⟩:∃ bb:Bool,Hid (bb=(true && okIn ((Q0t r:Nat)) n)):=⟨_,zh rfl⟩
 rw [← Hok4.out] at F4
 go_wp2
 refine bodyPost_end (results_none rfl _ _ _) rfl ?_
 refine ⟨rfl,?_⟩
 rw [Hgoal.out,← Hok1.out,← Hok2.out,← Hok3.out,← Hok4.out]
 exact F4.out
set_option maxRecDepth 100000 in
set_option maxHeartbeats 2000000 in
theorem Qeh (g:Nat) (oa:Option Addr) (cap:Nat) (ob:Option Addr) (capb:Nat) (R:Int) (ok:Bool) (p:Q00) (op a b c n:Int) (fa:R64 a) (fb:R64 b) (fc:R64 c) (fn:R64 n) (w:World) (fo:R64 op) (n1:(op == 1)=false) (n2:(op == 2)=false) (n3:(op == 3)=false) (n4:(op == 4)=false) (n5:(op == 5)=false) (n6:(op == 6)=false) (n7:(op == 7)=false) (n8:(op == 8)=false) (n9:(op == 9)=false) (n10:(op == 10)=false) (n11:(op == 11)=false) (n12:(op == 12)=false)
  (h0:w.cell? ⟨g,0,none⟩=some (.slice oa p.regs.length cap)) (h1:w.cell? ⟨g,1,none⟩=some (.slice ob p.code.length capb)) (h2:w.cell? ⟨g,2,none⟩=some (.int .i64 R)) (h3:w.cell? ⟨g,3,none⟩=some (.bool ok)∧w.frozen? ⟨g,3,none⟩=false) :
  Calls Tryz.prog 91 #[.pointer (some ⟨g,0,none⟩),.agg #[.int .i64 op,.int .i64 a,.int .i64 b,.int .i64 c,.int .i64 n]] w fun e w'=>e=.returned (.tuple #[])∧Ext (w.setCell ⟨g,3,none⟩ (.bool (ok && Q04 p R ⟨op,a,b,c,n⟩))) w':=by
 have hgl:=Q0k h3.1
 simp only at hgl
 have Hgoal:Hid ((ok && Q04 p R ⟨op,a,b,c,n⟩)=((((ok && [a,b,c].all (okIn R)) && okIn 1 n && true) && okIn 10 (wrap64 (wrap64 (op - 20) - 1))))):=zh (by
  unfold Q04
  have e:∀ k:Int,(op == k)=false→¬ op=k:=fun k h=>by simpa using h
  have m1:=e 1 n1;have m2:=e 2 n2;have m3:=e 3 n3;have m4:=e 4 n4;have m5:=e 5 n5;have m6:=e 6 n6;have m7:=e 7 n7;have m8:=e 8 n8;have m9:=e 9 n9;have m10:=e 10 n10;have m11:=e 11 n11;have m12:=e 12 n12
  simp [m1,m2,m3,m4,m5,m6,m7,m8,m9,m10,m11,m12,Qq4 fo,Bool.and_assoc])
 go_enter Tryz.func91,Tryz.ntmps91
 go_wp2_with fail
 obtain ⟨w0,e,he,hW,hs0,hx0,e0,e1,e2,e3,e4⟩:=new5 w 41 (.int .i64 op) (.int .i64 a) (.int .i64 b) (.int .i64 c) (.int .i64 n)
 rw [hW,he]
 have L:Lk w0 g e (.slice oa p.regs.length cap) (.slice ob p.code.length capb) R ok ⟨op,a,b,c,n⟩:=⟨by omega,hx0.kept h0,hx0.kept h1,hx0.kept h2,Q0i hx0 h3,e0,e1,e2,e3,e4⟩
 have F0:=zh hx0
 clear hW he hx0 e0 e1 e2 e3 e4 h0 h1 h2
 have C:=Q63 g ok w0 (e+1) hs0 3 R [a,b,c] (cs:=#[.int .i64 a,.int .i64 b,.int .i64 c]) rfl 3 rfl (by intro x hx;simp at hx;rcases hx with rfl | rfl | rfl <;> assumption) (by simp) L.g2 L.g3
 (with_reducible refine C.mono ?_)
 clear C
 rintro e' w1 ⟨rfl,hx⟩
 have L:=L.upd hx
 have F1:=zh (Q43 F0.out hx)
 clear hx
 obtain ⟨ok1,Hok1⟩:∃ bb:Bool,Hid (bb=(ok && [a,b,c].all (okIn R))):=⟨_,zh rfl⟩
 rw [← Hok1.out] at L F1
 obtain ⟨-,g0,g1,g2,g3,e0,e1,e2,e3,e4⟩:=id L
 go_wp2_with fail
 clear g0 g1 g2 g3 e0 e1 e2 e3 e4
 have C:=Qqb g ok1 w1 n fn L.g3
 (with_reducible refine C.mono ?_)
 clear C
 rintro e' w2 ⟨rfl,hx⟩
 have L:=L.upd hx
 have F2:=zh (Q30 F1.out hx)
 clear hx
 obtain ⟨ok2,Hok2⟩:∃ bb:Bool,Hid (bb=(ok1 && okIn 1 n && true)):=⟨_,zh rfl⟩
 rw [← Hok2.out] at L F2
 obtain ⟨-,g0,g1,g2,g3,e0,e1,e2,e3,e4⟩:=id L
 go_wp2_with fail
 clear g0 g1 g2 g3 e0 e1 e2 e3 e4
 have C:=Qep g ok2 w2 _ rfl 2 10 (wrap64 (wrap64 (op - 20) - 1)) (r64w _) L.g3
 (with_reducible refine C.mono ?_)
 clear C
 rintro e' w3 ⟨rfl,hx⟩
 have L:=L.upd hx
 have F3:=zh (Q30 F2.out hx)
 clear hx
 obtain ⟨ok3,Hok3⟩:∃ bb:Bool,Hid (bb=(ok2 && okIn 10 (wrap64 (wrap64 (op - 20) - 1)))):=⟨_,zh rfl⟩
 rw [← Hok3.out] at L F3
 obtain ⟨-,g0,g1,g2,g3,e0,e1,e2,e3,e4⟩:=id L
 go_wp2_with fail
 clear g0 g1 g2 g3 e0 e1 e2 e3 e4
 refine bodyPost_end (results_none rfl _ _ _) rfl ?_
 refine ⟨rfl,?_⟩
 rw [Hgoal.out,← Hok1.out,← Hok2.out,← Hok3.out]
 exact F3.out
theorem Qej (g:Nat) (oa:Option Addr) (cap:Nat) (ob:Option Addr) (capb:Nat) (R:Int) (ok:Bool) (p:Q00) (i:LIns) (hi:i.fits) (w:World) (b0 o0:Nat) (hgb:g≠b0) (hR:Rows w oa b0 o0 p.regs.length 2 fun i=>Q2v (p.regs.getD i default)) (hreg:ok=true→∀ r ∈ p.regs,0≤r.log∧r.log≤6)
  (h0:w.cell? ⟨g,0,none⟩=some (.slice oa p.regs.length cap)) (h1:w.cell? ⟨g,1,none⟩=some (.slice ob p.code.length capb)) (h2:w.cell? ⟨g,2,none⟩=some (.int .i64 R)) (h3:w.cell? ⟨g,3,none⟩=some (.bool ok)∧w.frozen? ⟨g,3,none⟩=false) :
  Calls Tryz.prog 91 #[.pointer (some ⟨g,0,none⟩),.agg #[.int .i64 i.op,.int .i64 i.a,.int .i64 i.b,.int .i64 i.c,.int .i64 i.n]] w fun e w'=>e=.returned (.tuple #[])∧Ext (w.setCell ⟨g,3,none⟩ (.bool (ok && Q04 p R i))) w':=by
 obtain ⟨op,a,b,c,n⟩:=i
 obtain ⟨fo,fa,fb,fc,fn⟩:=hi
 by_cases e1:op=1
 ·subst e1;exact Qsp g oa cap ob capb R ok p a b c n fa fb fc fn w h0 h1 h2 h3
 by_cases e2:op=2
 ·subst e2;exact Qss g oa cap ob capb R ok p a b c n fa fb fc fn w h0 h1 h2 h3
 by_cases e3:op=3
 ·subst e3;exact Qei g oa cap ob capb R ok p a b c n fa fb fc fn w h0 h1 h2 h3
 by_cases e4:op=4
 ·subst e4;exact Qeg g oa cap ob capb R ok p a b c n fa fb fc fn w h0 h1 h2 h3
 by_cases e5:op=5
 ·subst e5;exact Qsu g oa cap ob capb R ok p a b c n fa fb fc fn w b0 o0 hgb hR hreg h0 h1 h2 h3
 by_cases e6:op=6
 ·subst e6;exact Qsq g oa cap ob capb R ok p a b c n fa fb fc fn w b0 o0 hgb hR hreg h0 h1 h2 h3
 by_cases e7:op=7
 ·subst e7;exact Qsv g oa cap ob capb R ok p a b c n fa fb fc fn w h0 h1 h2 h3
 by_cases e8:op=8
 ·subst e8;exact Qsw g oa cap ob capb R ok p a b c n fa fb fc fn w h0 h1 h2 h3
 by_cases e9:op=9
 ·subst e9;exact Qsx g oa cap ob capb R ok p a b c n fa fb fc fn w h0 h1 h2 h3
 by_cases e10:op=10
 ·subst e10;exact Qsz g oa cap ob capb R ok p a b c n fa fb fc fn w h0 h1 h2 h3
 by_cases e11:op=11
 ·subst e11;exact Qst g oa cap ob capb R ok p a b c n fa fb fc fn w h0 h1 h2 h3
 by_cases e12:op=12
 ·subst e12;exact Qsy g oa cap ob capb R ok p a b c n fa fb fc fn w h0 h1 h2 h3
 exact Qeh g oa cap ob capb R ok p op a b c n fa fb fc fn w fo (by simpa using e1) (by simpa using e2) (by simpa using e3) (by simpa using e4) (by simpa using e5) (by simpa using e6) (by simpa using e7) (by simpa using e8) (by simpa using e9) (by simpa using e10) (by simpa using e11) (by simpa using e12) h0 h1 h2 h3
theorem Q24 {oa:Option Addr} {n b o cap:Nat} (h:0 < n→oa=some ⟨b,o,none⟩) (W:World) (i:Int) (h0:0≤i) (h1:i < n) :
  (Instr.indexAt 26 (.slice oa n cap) (.int .i64 i)).run Tryz.prog W=.ok (.pointer (some ⟨b,o+i.toNat * 5,none⟩)) W:=by
 obtain rfl:=h (by omega)
 have hs:(Tryz.prog.info? 41).map (·.size)=some 5:=by kernel_rfl
 simp [Instr.indexAt,run_underlying Tryz.underlying26,asIntOf,h0,h1]
 exact Q4d b o _
theorem Rows.upd {w w':World} {oa:Option Addr} {b o n c:Nat} {f:Nat→Nat→Value} {p:Addr} {v:Value} (h:Rows w oa b o n c f) (hp:p.block≠b) (hx:Ext (w.setCell p v) w'):Rows w' oa b o n c f :=
 ⟨h.at_,fun i j hi hj=>Q3q hx (by rintro rfl;exact hp rfl) (h.cell i j hi hj)⟩
theorem Qr8 {w:World} {oa:Option Addr} {b o n c:Nat} {f:Nat→Nat→Value} (h:Rows w oa b o n c f) (hn:0 < n) (hc:0 < c):b < w.heap.size:=by
 have:=Q0k (h.cell 0 0 hn hc)
 exact this
theorem Rows.away {w:World} {oa:Option Addr} {b o n c:Nat} {f:Nat→Nat→Value} (h:Rows w oa b o n c f) (hc:0 < c) (g:Nat) (hg:w.heap.size≤g):∃ b',b'≠g∧Rows w oa b' o n c f:=by
 by_cases hn:0 < n
 ·exact ⟨b,by have:=Qr8 h hn hc;omega,h⟩
 ·refine ⟨g+1,by omega,⟨fun h0=>absurd h0 hn,fun i j hi hj=>by omega⟩⟩
theorem Qi6 (n:Nat):decide (1≤n)=decide ((1:Int)≤(n:Int)):=by rw [Bool.eq_iff_iff];simp;omega
set_option maxHeartbeats 4000000 in
theorem Qit (p:Q00) (v:Value) (most R:Int) (hm:R64 most) (hRr:R64 R) (w:World) (hp:Q29 w v p) :
  Calls Tryz.prog 61 #[v,.int .i64 most,.int .i64 R] w fun e w'=>e=.returned (.bool (Q6p p most R))∧Ext w w':=by
 have hp':=hp
 obtain ⟨v1,v2,rfl,⟨hb,oa,cap,b,o,rfl,hc1,hc2,hrow⟩,⟨hf,ob,capb,b2,o2,rfl,hd1,hd2,hrow2⟩⟩:=hp
 have HP:=zh hp'
 have hm0:=hm.1
 have hm1:=hm.2
 have Hrow:=zh hrow
 have Hrow2:=zh hrow2
 have hlen:=Q5h hc1 hc2
 have hlen2:=Q5h hd1 hd2
 have hix:=Q24 (cap:=capb) hrow2.at_
 clear hrow hrow2 hc1 hc2 hd1 hd2 hp'
 go_enter Tryz.func61,Tryz.ntmps61
 go_upto_region 1 with fail
 obtain ⟨w0,g,hg,hW,hx,c0,c1⟩:=new2 w 28 (.slice oa p.regs.length cap) (.slice ob p.code.length capb)
 rw [hW,hg]
 have X0:=zh hx
 clear hW hx
 have hgs:w.heap.size≤g:=by omega
 clear hg
 obtain ⟨ok0,Hok0⟩:∃ b:Bool,Hid (b=(Q0p p.regs && decide ((1:Int)≤(p.code.length:Int)) && decide ((p.code.length:Int)≤most))):=⟨_,zh rfl⟩
 go_cut [7] (fun s7 wx => ∃ k:Nat,s7=.pointer (some ⟨k,0,none⟩)∧w0.heap.size≤k∧Ext w0 wx∧Blk wx k 159 #[.slice oa p.regs.length cap,.slice ob p.code.length capb,.int .i64 R,.bool ok0])
 case first =>
  have k0:∀ W,Ext w0 W→W.cell? ⟨g,0,none⟩=some (.slice oa p.regs.length cap):=fun _ h=>h.kept c0.1
  have k1:∀ W,Ext w0 W→W.cell? ⟨g,1,none⟩=some (.slice ob p.code.length capb):=fun _ h=>h.kept c1.1
  have HC:∀ W,Ext w0 W→Hid (Calls Tryz.prog 83 #[.agg #[.slice oa p.regs.length cap,.slice ob p.code.length capb]] W fun e w'=>e=.returned (.bool (Q0p p.regs))∧Ext W w'):=fun W h=>zh (Qh4 p _ W (HP.out.ext (X0.out.trans h)))
  refine Q8b 19 18 (some 28) (by decide) rfl (by kernel_rfl) (by kernel_rfl) (fun k=>.pointer (some ⟨k,0,none⟩)) 159 #[.slice oa p.regs.length cap,.slice ob p.code.length capb,.int .i64 R,.bool ok0] ?_
  simp only [List.take_succ_cons,List.take_zero,List.drop_succ_cons,List.drop_zero]
  cases hr:Q0p p.regs
  ·have hk0:ok0=false:=by rw [Hok0.out,hr];rfl
   rw [hr] at HC
   clear hr Hok0
   subst hk0
   repeat (first | (refine Q5x ?_ ?_ (fun wc hE=>?_) ?_;(decide);rfl;(focus (go_simp;done));go_simp) | (refine Q0d ?_ ?_ ?_;(decide);(first | rfl | (focus (go_simp;done)));apply Exists.intro;refine ⟨fun wc hE=>?_,?_⟩;(go_simp;exact rfl);go_simp) | (refine Q2g ?_ ?_ ?_;(decide);(first | rfl | (focus (go_simp;done)));apply Exists.intro;refine ⟨fun wc hE=>?_,?_⟩;(go_simp;(first | (with_reducible exact Q26 ((HC _ ‹_›).out))));go_simp) | (refine Q0e ?_ ?_ ?_;(decide);(focus (go_simp;done));go_simp))
   refine Q0f ?_
   intro k wx hk hB hE
   go_wp2
   go_meet
   exact ⟨k,rfl,hk,hE,hB⟩
  ·rw [hr] at HC
   by_cases h1:(1:Int)≤(p.code.length:Int)
   ·by_cases h2:(p.code.length:Int)≤most
    ·have hk0:ok0=true:=by rw [Hok0.out,hr];simp [h1,h2]
     clear hr Hok0
     subst hk0
     repeat (first | (refine Q5x ?_ ?_ (fun wc hE=>?_) ?_;(decide);rfl;(focus (go_simp;done));go_simp) | (refine Q0d ?_ ?_ ?_;(decide);(first | rfl | (focus (go_simp;done)));apply Exists.intro;refine ⟨fun wc hE=>?_,?_⟩;(go_simp;exact rfl);go_simp) | (refine Q2g ?_ ?_ ?_;(decide);(first | rfl | (focus (go_simp;done)));apply Exists.intro;refine ⟨fun wc hE=>?_,?_⟩;(go_simp;(first | (with_reducible exact Q26 ((HC _ ‹_›).out))));go_simp) | (refine Q0e ?_ ?_ ?_;(decide);(focus (go_simp;done));go_simp))
     refine Q0f ?_
     intro k wx hk hB hE
     go_wp2
     go_meet
     exact ⟨k,rfl,hk,hE,hB⟩
    ·have hk0:ok0=false:=by rw [Hok0.out,hr];simp [h1,h2]
     have h2':decide ((p.code.length:Int)≤most)=false:=by simpa using h2
     clear hr Hok0 h2
     subst hk0
     repeat (first | (refine Q5x ?_ ?_ (fun wc hE=>?_) ?_;(decide);rfl;(focus (go_simp;done));go_simp) | (refine Q0d ?_ ?_ ?_;(decide);(first | rfl | (focus (go_simp;done)));apply Exists.intro;refine ⟨fun wc hE=>?_,?_⟩;(go_simp;exact rfl);go_simp) | (refine Q2g ?_ ?_ ?_;(decide);(first | rfl | (focus (go_simp;done)));apply Exists.intro;refine ⟨fun wc hE=>?_,?_⟩;(go_simp;(first | (with_reducible exact Q26 ((HC _ ‹_›).out))));go_simp) | (refine Q0e ?_ ?_ ?_;(decide);(focus (go_simp;done));go_simp))
     refine Q0f ?_
     intro k wx hk hB hE
     go_wp2
     go_meet
     exact ⟨k,rfl,hk,hE,hB⟩
   ·have hk0:ok0=false:=by rw [Hok0.out,hr];simp [h1]
    have h1':decide ((1:Int)≤(p.code.length:Int))=false:=by simpa using h1
    clear hr Hok0 h1
    subst hk0
    repeat (first | (refine Q5x ?_ ?_ (fun wc hE=>?_) ?_;(decide);rfl;(focus (go_simp;done));go_simp) | (refine Q0d ?_ ?_ ?_;(decide);(first | rfl | (focus (go_simp;done)));apply Exists.intro;refine ⟨fun wc hE=>?_,?_⟩;(go_simp;exact rfl);go_simp) | (refine Q2g ?_ ?_ ?_;(decide);(first | rfl | (focus (go_simp;done)));apply Exists.intro;refine ⟨fun wc hE=>?_,?_⟩;(go_simp;(first | (with_reducible exact Q26 ((HC _ ‹_›).out))));go_simp) | (refine Q0e ?_ ?_ ?_;(decide);(focus (go_simp;done));go_simp))
    refine Q0f ?_
    intro k wx hk hB hE
    go_wp2
    go_meet
    exact ⟨k,rfl,hk,hE,hB⟩
 case rest =>
 obtain ⟨k,rfl,hk,hE,hB⟩:=hcut
 have g0:wc.cell? ⟨k,0,none⟩=some (.slice oa p.regs.length cap):=by rw [hB.cell];rfl
 have g1:wc.cell? ⟨k,1,none⟩=some (.slice ob p.code.length capb):=by rw [hB.cell];rfl
 have g2:wc.cell? ⟨k,2,none⟩=some (.int .i64 R):=by rw [hB.cell];rfl
 have g3:wc.cell? ⟨k,3,none⟩=some (.bool ok0)∧wc.frozen? ⟨k,3,none⟩=false:=⟨by rw [hB.cell];rfl,hB.frozen 3⟩
 have c0:=Q0i hE c0
 have c1:=Q0i hE c1
 have XC:=zh (X0.out.trans hE)
 have hks:w.heap.size≤k:=Nat.le_trans X0.out.size hk
 obtain ⟨b',hb',hR'⟩:=Hrow.out.away (by omega) k hks
 have HR:=zh (hR'.ext XC.out)
 clear hB hE hk hR'
 go_wp2_with fail
 go_loopw [32] (fun i wr => ∃ j:Nat,j≤p.code.length∧i=.int .i64 j∧Ext (wc.setCell ⟨k,3,none⟩ (.bool (ok0 && (p.code.take j).all (Q04 p R)))) wr) (fun i _=>p.code.length - (intOf i).toNat)
 case atStart=>exact ⟨0,by omega,rfl,by simpa using Q84 g3.1 (Ext.refl _)⟩
 case round =>
  obtain ⟨j,hj,rfl,hr⟩:=hrel
  have r0:=Q3q hr (by simp) g0
  have r1:=Q3q hr (by simp) g1
  have r2:=Q3q hr (by simp) g2
  have r3:=Q9u hr g3
  have Hr:=zh hr
  have EW:=zh (Qlu hr XC.out hks)
  clear hr
  by_cases hlt:j < p.code.length
  ·obtain ⟨e0,e1,e2,e3,e4⟩:=(Hrow2.out.ext EW.out).ins j hlt
   have hfi:=hf _ (Q25 hlt)
   have Hs:=zh (Qb2 (Q04 p R) p.code j default hlt ok0)
   have Hfalse:=zh (Ql3 (Q04 p R) p.code j default hlt)
   generalize p.code.getD j default=i at *
   obtain ⟨okj,Hokj⟩:∃ b:Bool,Hid (b=(ok0 && (p.code.take j).all (Q04 p R))):=⟨_,zh rfl⟩
   rw [← Hokj.out] at r3 Hr Hs
   have hkl:k < wr.heap.size:=Q0k r3.1
   cases okj
   ·go_wp2
    go_ret
    refine ⟨Q1z ?_,EW.out.alloc _⟩
    have hz:=Hokj.out
    have ht:(ok0 && p.code.all (Q04 p R))=false:=by
     rw [← List.take_append_drop j p.code,List.all_append,← Bool.and_assoc,← hz];rfl
    unfold Q6p
    rw [← ht,Hok0.out]
    rw [Qi6]
   ·have hreg:true=true→∀ r ∈ p.regs,0≤r.log∧r.log≤6:=fun _=>by
     have hz:=Hokj.out.symm
     rw [Hok0.out] at hz
     simp only [Bool.and_eq_true] at hz
     have h1:=hz.1.1.1
     simp only [Q0p,Bool.and_eq_true,List.all_eq_true] at h1
     intro r hr
     have:=h1.1 r hr
     simpa [Q4s] using this
    have hA:=(Ext.refl wr).alloc (.cells #[.int .i64 i.op,.int .i64 i.a,.int .i64 i.b,.int .i64 i.c,.int .i64 i.n] 41)
    have C:=Qej k oa cap ob capb R true p i hfi (wr.alloc (.cells #[.int .i64 i.op,.int .i64 i.a,.int .i64 i.b,.int .i64 i.c,.int .i64 i.n] 41)) b' o (Ne.symm hb') ((HR.out.upd (Ne.symm hb') Hr.out).ext hA) hreg (hA.kept r0) (hA.kept r1) (hA.kept r2) (Q0i hA r3)
    have HC:=zh C
    clear C hA hreg
    go_wp2_with fail
    (with_reducible refine HC.out.mono ?_)
    rintro e' w2 ⟨rfl,hx⟩
    have hfin:=zh (Q30 Hr.out (Q43 ((Ext.refl wr).alloc _) hx))
    rw [← Hs.out] at hfin
    clear hx HC
    go_wp2
    go_roundw
    case rel=>exact ⟨j+1,by omega,by go_num,hfin.out⟩
    case measure=>first | (simp [intOf];done) | (simp [intOf];omega)
  ·have hje:j=p.code.length:=by omega
   subst hje
   rw [List.take_length] at r3
   go_wp2
   go_ret
   refine ⟨Q1z ?_,EW.out⟩
   unfold Q6p
   rw [Hok0.out]
   rw [Qi6]
theorem Qqv (p:Q00) (v:Value) (w:World) (hp:Q29 w v p) :
  Calls Tryz.prog 30 #[v] w fun e w'=>e=.returned (.bool (Q2p p))∧Ext w w':=by
 have HP:=zh hp
 obtain ⟨v1,v2,rfl,-⟩:=hp
 go_enter Tryz.func30,Tryz.ntmps30
 go_wp2_with fail
 have hA:=(Ext.refl w).alloc (.cells #[v1,v2] 28)
 have C:=Qit p _ 200 8 (by unfold R64;omega) (by unfold R64;omega) _ (HP.out.ext hA)
 (with_reducible refine C.mono ?_)
 rintro e w1 ⟨rfl,hx⟩
 have HX:=zh (hA.trans hx)
 clear hx hA C
 go_wp2
 go_ret
 exact ⟨rfl,HX.out⟩
theorem Qaf (p:Q00) (v:Value) (w:World) (hp:Q29 w v p) :
  Calls Tryz.prog 36 #[v] w fun e w'=>e=.returned (.bool (Q3f p))∧Ext w w':=by
 have HP:=zh hp
 obtain ⟨v1,v2,rfl,-⟩:=hp
 go_enter Tryz.func36,Tryz.ntmps36
 go_wp2_with fail
 have hA:=(Ext.refl w).alloc (.cells #[v1,v2] 28)
 have C:=Qit p _ 8000 10 (by unfold R64;omega) (by unfold R64;omega) _ (HP.out.ext hA)
 (with_reducible refine C.mono ?_)
 rintro e w1 ⟨rfl,hx⟩
 have HX:=zh (hA.trans hx)
 clear hx hA C
 go_wp2
 go_ret
 exact ⟨rfl,HX.out⟩
theorem Qc0 {oa:Option Addr} {n b o cap:Nat} (h:0 < n→oa=some ⟨b,o,none⟩) (W:World) (i:Int) (h0:0≤i) (h1:i < n) :
  (Instr.indexAt 29 (.slice oa n cap) (.int .i64 i)).run Tryz.prog W=.ok (.pointer (some ⟨b,o+i.toNat,none⟩)) W:=by
 obtain rfl:=h (by omega)
 have hs:(Tryz.prog.info? 35).map (·.size)=some 1:=by kernel_rfl
 simp [Instr.indexAt,run_underlying Tryz.underlying29,asIntOf,h0,h1]
 exact Q4d b o _
def Qai (p:Q00) (m:List (List Int)) (i:Nat):Bool:=decide ((m.getD i default).length=Q0t (p.regs.getD i default))
theorem Qma (f:Nat→Bool) (k n:Nat) (hk:k < n) (h:(List.range k).all f=true):(List.range (k+1)).all f=f k:=by
 rw [List.range_succ,List.all_append,h];simp
theorem Qoh (f:Nat→Bool) (k n:Nat) (hk:k < n) (h:f k=false):(List.range n).all f=false:=by
 rw [List.all_eq_false];exact ⟨k,List.mem_range.2 hk,by simp [h]⟩
theorem Qc8 (p:Q00) (m:List (List Int)):Q51 p m=(Q0p p.regs && decide (m.length=p.regs.length) && (List.range p.regs.length).all (Qai p m)):=rfl
theorem Qra {l:List LReg} (h:Q0p l=true):∀ r ∈ l,0≤r.log∧r.log≤6:=by
 intro r hr
 simp only [Q0p,Bool.and_eq_true,List.all_eq_true] at h
 have:=h.1 r hr
 simpa [Q4s] using this
theorem Qlj {r:LReg} (h:r.log≤6):Q0t r≤64:=by
 unfold Q0t
 exact Nat.le_trans (Nat.pow_le_pow_right (by omega) (show r.log.toNat≤6 by omega)) (by decide)
set_option maxHeartbeats 4000000 in
theorem Qrr (p:Q00) (v:Value) (m:List (List Int)) (vm:Value) (w:World) (hp:Q29 w v p) (hm:Q4q w vm m) :
  Calls Tryz.prog 50 #[v,vm] w fun e w'=>e=.returned (.bool (Q51 p m))∧Ext w w':=by
 have hp':=hp
 have hm':=hm
 obtain ⟨v1,v2,rfl,⟨hb,oa,cap,b,o,rfl,hc1,hc2,hrow⟩,hcode⟩:=hp
 obtain ⟨om,capm,bm,um,rfl,hd1,hd2,vs,hrow2,hvs⟩:=hm
 have HP:=zh hp'
 have hlen:=Q5h hc1 hc2
 have hlen2:=Q5h hd1 hd2
 have hix:=Q50 (cap:=cap) hrow.at_
 have hixm:=Qc0 (cap:=capm) hrow2.at_
 have Hrow:=zh hrow
 have Hrow2:=zh hrow2
 have Hvs:=zh hvs
 have Hgoal:∀ r:Bool,Hid (r=Q51 p m→Ending.returned (.bool r)=.returned (.bool (Q51 p m))):=fun r=>zh fun h=>by rw [h]
 clear hrow hrow2 hc1 hc2 hd1 hd2 hp' hcode hvs hm'
 go_enter Tryz.func50,Tryz.ntmps50
 go_wp2_with fail
 obtain ⟨w0,g,hg,hW,hx,c0,c1⟩:=new2 w 28 (.slice oa p.regs.length cap) v2
 rw [hW,hg]
 have X:=zh hx
 clear hW hg hx
 have C:=Qh4 p _ w0 (HP.out.ext X.out)
 cases hr:Q0p p.regs
 ·rw [hr] at C
  have Hr:=zh hr
  clear hr
  (with_reducible refine C.mono ?_)
  rintro e w1 ⟨rfl,h1⟩
  have X:=zh (X.out.trans h1)
  clear h1 C
  go_wp2
  go_ret
  exact ⟨(Hgoal _).out (by simp [Qc8,Hr.out]),X.out⟩
 rw [hr] at C
 have Hr:=zh hr
 clear hr
 (with_reducible refine C.mono ?_)
 rintro e w1 ⟨rfl,h1⟩
 have X:=zh (X.out.trans h1)
 have c0:=Q0i h1 c0
 have c1:=Q0i h1 c1
 clear h1 C
 by_cases q0:m.length=p.regs.length
 rotate_left
 ·have q0d:((m.length:Int) != (p.regs.length:Int))=true:=by simp;omega
  have Q:=zh q0
  clear q0
  go_wp2
  go_ret
  exact ⟨(Hgoal _).out (by simp [Qc8,Q.out]),X.out⟩
 have q0d:((m.length:Int) != (p.regs.length:Int))=false:=by simp;omega
 have Q:=zh q0
 have hml:m.length≤p.regs.length∧p.regs.length≤m.length:=by omega
 clear q0
 go_wp2_with fail
 go_loopw [21] (fun i wr => ∃ j:Nat,j≤p.regs.length∧i=.int .i64 j∧Ext w1 wr∧(List.range j).all (Qai p m)=true) (fun i _=>p.regs.length - (intOf i).toNat)
 case atStart=>exact ⟨0,by omega,rfl,Ext.refl _,by simp⟩
 case round =>
  obtain ⟨j,hj,rfl,hE,hall⟩:=hrel
  have c0:=Q0i hE c0
  have c1:=Q0i hE c1
  have X:=zh (X.out.trans hE)
  have HE:=zh hE
  have Hall:=zh hall
  clear hE hall
  by_cases hlt:j < p.regs.length
  ·obtain ⟨e0,e1⟩:=(Hrow.out.ext X.out).reg j hlt
   have hjm:j < m.length:=by omega
   have f0:=(Hrow2.out.ext X.out).one j hjm
   obtain ⟨-,oj,capj,bj,uj,hvj,hj1,hj2,-⟩:=Hvs.out j hjm
   rw [hvj] at f0
   clear hvj
   have hlj:=Q5h hj1 hj2
   have hlog:=Qra Hr.out _ (Q25 hlt)
   have Hs:=zh (Qma (Qai p m) j p.regs.length hlt Hall.out)
   have Hfalse:=zh (Qoh (Qai p m) j p.regs.length hlt)
   have Hone:Hid (Qai p m j=decide ((m.getD j default).length=Q0t (p.regs.getD j default))):=zh rfl
   have Hw:=zh (Qlj hlog.2)
   generalize p.regs.getD j default=r at *
   generalize hmj:(m.getD j default).length=lm at *
   clear hmj hj1 hj2
   go_upto_region 6 with fail
   obtain ⟨w2,hw2⟩:∃ w2,w2=wr.alloc (.cells #[.int .i64 r.log,.bool r.secret] 67):=⟨_,rfl⟩
   have bR:Blk w2 wr.heap.size 67 #[.int .i64 r.log,.bool r.secret]:=by rw [hw2];exact Blk.new wr _ _
   have h2:Ext wr w2:=by rw [hw2];exact (Ext.refl wr).alloc _
   rw [← hw2]
   clear hw2
   have r0:w2.cell? ⟨wr.heap.size,0,none⟩=some (.int .i64 r.log):=by rw [bR.cell];rfl
   have r1:w2.cell? ⟨wr.heap.size,1,none⟩=some (.bool r.secret):=by rw [bR.cell];rfl
   generalize wr.heap.size=kr at *
   have k0:∀ W,Ext w2 W→W.cell? ⟨kr,0,none⟩=some (.int .i64 r.log):=fun _ h=>h.kept r0
   have k1:∀ W,Ext w2 W→W.cell? ⟨kr,1,none⟩=some (.bool r.secret):=fun _ h=>h.kept r1
   have k2:∀ W,Ext w2 W→W.cell? ⟨bm,um+j,none⟩=some (.slice oj lm capj):=fun _ h=>h.kept (h2.kept f0)
   have X:=zh (X.out.trans h2)
   have HE:=zh (HE.out.trans h2)
   have c0:=Q0i h2 c0
   have c1:=Q0i h2 c1
   clear h2 e0 e1 f0 r0 r1 bR
   have hjm':(j:Int) < (m.length:Int):=by omega
   refine Q0j 8 (by kernel_rfl) (by kernel_rfl) ?_
   simp only [List.take_succ_cons,List.take_zero,List.drop_succ_cons,List.drop_zero]
   repeat (first | (refine Q0d ?_ ?_ ?_;(decide);(first | rfl | (focus (go_simp;done)));apply Exists.intro;refine ⟨fun wc hE=>?_,?_⟩;(go_simp;exact rfl);go_simp) | (refine Q2g ?_ ?_ ?_;(decide);(first | rfl | (focus (go_simp;done)));apply Exists.intro;refine ⟨fun wc hE=>?_,?_⟩;(go_simp;(first | (with_reducible exact Q26 (Q78 r hlog.1 hlog.2 _))));go_simp) | (refine Q0e ?_ ?_ ?_;(decide);(focus (go_simp;done));go_simp))
   refine Q0f ?_
   intro wx hx
   have HX:=zh (HE.out.trans hx)
   have X:=zh (X.out.trans hx)
   clear hx k0 k1 k2
   by_cases hq:lm=Q0t r
   ·have hqd:((lm:Int) != ((Q0t r:Nat):Int))=false:=by simp;omega
    have HQ:=zh hq
    clear hq
    go_wp2
    go_roundw
    case rel=>exact ⟨j+1,by omega,by go_num,HX.out,by rw [Hs.out,Hone.out];simp [HQ.out]⟩
    case measure=>first | (simp [intOf];done) | (simp [intOf];omega)
   ·have hqd:((lm:Int) != ((Q0t r:Nat):Int))=true:=by simp;omega
    have HQ:=zh hq
    clear hq
    go_wp2
    go_ret
    exact ⟨(Hgoal _).out (by rw [Qc8,Hfalse.out (by rw [Hone.out];simp [HQ.out]),Bool.and_false]),X.out⟩
  ·have hje:j=p.regs.length:=by omega
   subst hje
   have hjm:m.length≤p.regs.length:=by omega
   go_wp2
   go_ret
   exact ⟨(Hgoal _).out (by simp [Qc8,Hr.out,Q.out,Hall.out]),X.out⟩
end Go.Proofs.YtiafchefbehfbaaGreatDoor
