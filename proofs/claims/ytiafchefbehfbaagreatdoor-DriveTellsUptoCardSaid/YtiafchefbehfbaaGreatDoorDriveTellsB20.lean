/- Laid together from: Form1. -/
import Derived.Test.YtiafchefbehfbaaGreatDoorProg
import Derived.Test.YtiafchefbehfbaaGreatDoorDriveTellsB11
import Derived.WalkLawsBesides
import Derived.WalkSpells
import Derived.Outline
import Derived.Deep.RegionWith
import Derived.Deep.DeepCutAuto

namespace Go.Proofs.YtiafchefbehfbaaGreatDoor
open Go.ChangeShapes Go.WideShapes Go.ChangeAt Go.RowKit
theorem Q4d (b o n:Nat):(Addr.add ⟨b,o,none⟩ n)=⟨b,o+n,none⟩:=by
 unfold Addr.add
 split
 ·subst_vars;rfl
 ·rfl
theorem Qmb {α:Type} (f:α→Bool) (l:List α) (k:Nat) (d:α) (hk:k < l.length) (h:(l.take k).all f=true):(l.take (k+1)).all f=f (l.getD k d):=by
 rw [List.take_succ_eq_append_getElem hk,List.all_append,h]
 simp [hk]
theorem Ql3 {α:Type} (f:α→Bool) (l:List α) (k:Nat) (d:α) (hk:k < l.length) (h:f (l.getD k d)=false):l.all f=false:=by
 rw [List.all_eq_false]
 exact ⟨l[k],List.getElem_mem hk,by simpa [hk] using h⟩
theorem Q50 {oa:Option Addr} {n b o cap:Nat} (h:0 < n→oa=some ⟨b,o,none⟩) (W:World) (i:Int) (h0:0≤i) (h1:i < n) :
  (Instr.indexAt 25 (.slice oa n cap) (.int .i64 i)).run Tryz.prog W=.ok (.pointer (some ⟨b,o+i.toNat * 2,none⟩)) W:=by
 obtain rfl:=h (by omega)
 have hs:(Tryz.prog.info? 67).map (·.size)=some 2:=by kernel_rfl
 simp [Instr.indexAt,run_underlying Tryz.underlying25,asIntOf,h0,h1]
 exact Q4d b o _
set_option maxHeartbeats 1000000 in
theorem Qh4 (p:Q00) (v:Value) (w:World) (hp:Q29 w v p) :
  Calls Tryz.prog 83 #[v] w fun e w'=>e=.returned (.bool (Q0p p.regs))∧Ext w w':=by
 obtain ⟨v1,v2,rfl,⟨hb,oa,cap,b,o,rfl,hc1,hc2,hat,hrow⟩,-⟩:=hp
 go_enter Tryz.func83,Tryz.ntmps83
 have hix:=Q50 (cap:=cap) hat
 have Hrow:=zh (Rows.mk hat hrow)
 clear hat hrow
 go_wp2_with fail
 obtain ⟨w0,g,hg,hW,hx,c0,c1⟩:=new2 w 28 (.slice oa p.regs.length cap) v2
 rw [hW,hg]
 have Hr:=zh (Hrow.out.ext hx)
 have Hx:=zh hx
 have hlen:=Q5h hc1 hc2
 clear hW hg hx Hrow hc1 hc2
 go_loopw [8] (fun i wr => ∃ k:Nat,k≤p.regs.length∧i=.int .i64 k∧Ext w0 wr∧(p.regs.take k).all Q4s=true) (fun i _=>p.regs.length - (intOf i).toNat)
 case atStart=>exact ⟨0,by omega,rfl,Ext.refl _,by simp⟩
 case round =>
  obtain ⟨k,hk,rfl,hE,hall⟩:=hrel
  by_cases hlt:k < p.regs.length
  ·obtain ⟨e0,e1⟩:=(Hr.out.ext hE).reg k hlt
   have hr:=hb _ (Q25 hlt)
   have Hn:=zh (Qmb Q4s p.regs k default hlt hall)
   have Hf:=zh (Ql3 Q4s p.regs k default hlt)
   generalize p.regs.getD k default=r at *
   by_cases h0:0≤r.log
   ·by_cases h6:r.log≤6
    ·have hok:Q4s r=true:=by simp [Q4s,h0,h6]
     go_wp2
     go_roundw
     case rel=>exact ⟨k+1,by omega,by go_num,(hE.alloc _),by rw [Hn.out,hok]⟩
     case measure=>first | (simp [intOf];done) | (simp [intOf];omega)
    ·have hok:Q4s r=false:=by simp [Q4s,h0,h6]
     have hfin:Q0p p.regs=false:=by simp [Q0p,Hf.out hok]
     go_wp2
     go_ret
     exact ⟨rfl,(Hx.out.trans hE).alloc _⟩
   ·have hok:Q4s r=false:=by simp [Q4s,h0]
    have hfin:Q0p p.regs=false:=by simp [Q0p,Hf.out hok]
    go_wp2
    go_ret
    exact ⟨rfl,(Hx.out.trans hE).alloc _⟩
  ·have d0:=hE.kept c0.1
   have hke:k=p.regs.length:=by omega
   subst hke
   rw [List.take_length] at hall
   go_wp2
   go_ret
   exact ⟨Q1z (by simp [Q0p,hall];omega),Hx.out.trans hE⟩
set_option maxHeartbeats 1000000 in
theorem Q78 (r:LReg) (h0:0≤r.log) (h6:r.log≤6) (w:World) :
  Calls Tryz.prog 35 #[.agg #[.int .i64 r.log,.bool r.secret]] w fun e w'=>e=.returned (.int .i64 (Q0t r:Nat))∧Ext w w':=by
 unfold Q0t
 generalize r.log=l at *
 generalize r.secret=s
 have hl:l=0∨l=1∨l=2∨l=3∨l=4∨l=5∨l=6:=by omega
 rcases hl with rfl | rfl | rfl | rfl | rfl | rfl | rfl
 all_goals
  go_enter Tryz.func35,Tryz.ntmps35
  go_wp2
  go_ret
  exact ⟨rfl,(Ext.refl w).alloc _⟩
end Go.Proofs.YtiafchefbehfbaaGreatDoor
