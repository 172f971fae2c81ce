/- Laid together from: Txc. -/
import Derived.Test.YtiafchefbehfbaaGreatDoorDriveTellsB43
import Derived.Test.YtiafchefbehfbaaGreatDoorDriveTellsB7
import Derived.Test.YtiafchefbehfbaaGreatDoorDriveTellsB10
import Derived.Lib.SmallJoins

namespace Go.Proofs.YtiafchefbehfbaaGreatDoor
open Go.ChangeShapes Go.WideShapes Go.ChangeAt Go.RowKit
set_option linter.unusedVariables false
set_option linter.unusedSimpArgs false
structure Tab9 (w:World):Prop where
 tabs:Tabs w
 max:∃ m,w.cell? ⟨0,0,none⟩=some (.int .i64 m)
 syn:∃ ev,w.cell? ⟨4,0,none⟩=some ev∧(ev=.nilIface∨∃ te pe,ev=.iface te pe)
 rng:∃ ev,w.cell? ⟨5,0,none⟩=some ev∧(ev=.nilIface∨∃ te pe,ev=.iface te pe)
theorem Tab9.ext {w w':World} (h:Tab9 w) (hx:Ext w w'):Tab9 w':=by
 obtain ⟨h1,⟨m,h2⟩,⟨a,h3,h3'⟩,⟨b,h4,h4'⟩⟩:=h
 exact ⟨h1.ext hx,⟨m,hx.kept h2⟩,⟨a,hx.kept h3,h3'⟩,⟨b,hx.kept h4,h4'⟩⟩
def Qap (w:World) (v:Value) (L:List (List UInt8)):Prop := ∃ k cap,v=.slice (some ⟨k,0,none⟩) L.length cap∧L.length≤cap∧cap≤maxLen∧k < w.heap.size∧∀ j,j < L.length→w.cell? ⟨k,j,none⟩=some (str (L.getD j []))
theorem Qap.ext {w w':World} {v:Value} {L:List (List UInt8)} (h:Qap w v L) (hx:Ext w w'):Qap w' v L:=by
 obtain ⟨k,cap,h1,h2,h2',h3,h4⟩:=h
 exact ⟨k,cap,h1,h2,h2',Nat.lt_of_lt_of_le h3 hx.size,fun j hj=>hx.kept (h4 j hj)⟩
def Qaq (c:UInt8) (s:List UInt8) (w:World) (e:Ending) (w':World):Prop := ∃ v,e=.returned v∧Qap w' v (Q08 c s)∧Ext w w'
theorem toB (x:ByteArray):(⟨x.data.toList.toArray⟩:ByteArray)=x:=by
 obtain ⟨⟨l⟩⟩:=x
 rfl
theorem Q4k (c:UInt8) (s:List UInt8) (hs:s.length≤1000000000) (w:World) (ht:Tab9 w) :
  Calls Tryz.prog 19 #[str s,str [c]] w (Qaq c s w):=by
 obtain ⟨m,hm⟩:=ht.max
 refine (Tryz.strings_Split ⟨s.toArray⟩ ⟨[c].toArray⟩ m w (by rw [Q59];omega) hm (by rw [Q59];simp)).mono ?_
 rintro e w' ⟨rfl,rfl⟩
 have hn:Lib.countB ⟨s.toArray⟩ ⟨[c].toArray⟩=s.count c:=by
  have:Lib.countB ⟨s.toArray⟩ ⟨[c].toArray⟩=Lib.count s [c]:=rfl
  rw [this,Lib.count_one]
 have hd:(Lib.splitB ⟨[c].toArray⟩ 0 (s.count c) ⟨s.toArray⟩).map (·.data.toList)=Q08 c s:=by
  rw [Lib.splitB_data]
  exact Qgg c _ s (Nat.le_refl _)
 have hL:(Lib.splitB ⟨[c].toArray⟩ 0 (s.count c) ⟨s.toArray⟩).map Value.string=(Q08 c s).map str:=by
  rw [← hd,List.map_map]
  apply List.map_congr_left
  intro x _
  show Value.string x=Value.string ⟨x.data.toList.toArray⟩
  rw [toB]
 have hl:=Q8z c s
 have hcl:=List.count_le_length (a:=c) (l:=s)
 rw [hn,hL,← hl]
 refine ⟨_,rfl,⟨w.heap.size,_,rfl,Nat.le_refl _,by unfold maxLen;omega,(Blk.new w 9 ((Q08 c s).map str).toArray).lt,fun j hj=>?_⟩,(Ext.refl w).alloc _⟩
 rw [(Blk.new w 9 ((Q08 c s).map str).toArray).cell]
 simp [hj]
def Qw2 (s:List UInt8) (w:World) (e:Ending) (w':World):Prop :=
 ∃ n ev,e=.returned (.tuple #[.int .i64 n,ev])∧R64 n∧((Lib.parseIntB 64 s=.ok n∧ev=.nilIface)∨((∀ v,Lib.parseIntB 64 s≠.ok v)∧∃ t p,ev=.iface t p))∧Ext w w'
theorem Qpf (s:List UInt8) (hs:s.length≤1000000000) (w:World) (ht:Tab9 w) :
  Calls Tryz.prog 79 #[str s,.int .i64 10,.int .i64 64] w (Qw2 s w):=by
 have hz:(⟨s.toArray⟩:ByteArray).size≤281474976710656:=by rw [Q59];omega
 have hl:(⟨s.toArray⟩:ByteArray).data.toList=s:=by simp
 rcases hp:Lib.parseIntB 64 s with v | _ | _
 ·refine (Tryz.strconv_ParseInt_10_at64_ok ⟨s.toArray⟩ (by omega) v (by rw [hl];exact hp) w).mono ?_
  rintro e w' ⟨rfl,hw⟩
  have hb:=Lib.parseIntB_bounds hp
  refine ⟨v,.nilIface,rfl,⟨by simpa using hb.1,by have:=hb.2;simp at this;omega⟩,.inl ⟨hp,rfl⟩,?_⟩
  rcases hw with rfl | ⟨t,rfl⟩
  ·exact Ext.refl _
  ·exact Lib.bytesWorld_below _ _ _
 ·obtain ⟨ev,hv,hev⟩:=ht.syn
  have hne:(∀ v,Lib.parseIntB 64 s≠.ok v)∧Lib.parseIntB 64 s≠.range:=by rw [hp];simp
  refine (Tryz.strconv_ParseInt_10_at64_syntax ⟨s.toArray⟩ hz (Lib.parseIntB 64 s) (by rw [hl]) hne ev w hv hev).mono ?_
  rintro e w' ⟨N,rfl,-,-,hb⟩
  exact ⟨0,_,rfl,⟨by omega,by omega⟩,.inr ⟨by rw [hp];simp,_,_,rfl⟩,hb⟩
 ·obtain ⟨ev,hv,hev⟩:=ht.rng
  refine (Tryz.strconv_ParseInt_10_at64_range ⟨s.toArray⟩ hz (by rw [hl];exact hp) ev w hv hev).mono ?_
  rintro e w' ⟨N,rfl,-,-,hb⟩
  refine ⟨_,_,rfl,?_,.inr ⟨by rw [hp];simp,_,_,rfl⟩,hb⟩
  unfold Lib.intSat
  split
  ·exact ⟨by simp,by simp⟩
  ·exact ⟨by simp,by simp⟩
end Go.Proofs.YtiafchefbehfbaaGreatDoor
