/- Laid together from: Dr2, Dr3. -/
import Derived.Test.YtiafchefbehfbaaGreatDoorDriveOnB41
import Derived.Test.YtiafchefbehfbaaGreatDoorDriveOnB10
import Derived.Test.YtiafchefbehfbaaGreatDoorDriveOnB43
import Derived.Test.YtiafchefbehfbaaGreatDoorDriveOnB23

namespace Go.Proofs.YtiafchefbehfbaaGreatDoor
open Go.ChangeShapes Go.WideShapes Go.ChangeAt Go.RowKit
set_option linter.unusedVariables false
set_option linter.unusedSimpArgs false
theorem Q6j (kw:List UInt8):∀ (l:List Int),(∀ x ∈ l,R64 x)→(sayT kw l).length≤kw.length+21 * l.length
 | [],_=>by simp [sayT]
 | x :: l,h=>by
  have ih:=Q6j kw l (fun y hy=>h y (List.mem_cons_of_mem _ hy))
  have h1:=Q5j (h x (by simp))
  unfold sayT at ih ⊢
  simp only [List.length_append,List.flatMap_cons,List.length_cons] at ih ⊢
  omega
theorem Qfq (kw:List UInt8) (l:List Int) {k:Nat} (hk:k < l.length):sayT kw (l.take (k+1))=sayT kw (l.take k) ++ (32 :: Lib.itoa (l.getD k default)):=by
 unfold sayT
 rw [List.take_succ_eq_append_getElem hk,List.flatMap_append]
 simp [hk]
def Q8x (kw:List UInt8) (l:List Int) (w:World) (e:Ending) (w':World):Prop:=e=.returned (str (sayT kw l))∧Ext w w'
set_option maxHeartbeats 4000000 in
theorem Qfr (kw:List UInt8) (l:List Int) (v:Value) (w:World) (hv:Q2z w v l) (hk:kw.length≤1000) (hl:l.length≤100) (ht:Tabs w) :
  Calls Tryz.prog 49 #[str kw,v] w (Q8x kw l w):=by
 obtain ⟨h64,oa,cap,b,o,rfl,hc1,hc2,hrow⟩:=hv
 have H64:=Lib.hid h64
 have HR:=Lib.hid hrow
 have Ht:=Lib.hid ht
 have hix:=Q6a (cap:=cap) hrow.at_
 have hadd:=Qa7
 clear hrow h64 hc2 ht
 go_enter Tryz.func49,Tryz.ntmps49
 go_wp2_with fail
 go_loopw [0,9] (fun s i wr => ∃ k:Nat,k≤l.length∧i=.int .i64 (k:Int)∧s=str (sayT kw (l.take k))∧Ext w wr) (fun s i _=>l.length - (intOf i).toNat)
 case atStart=>exact ⟨0,by omega,rfl,by simp [sayT],Ext.refl _⟩
 case round =>
  obtain ⟨k,hkl,rfl,rfl,hE⟩:=hrel
  have X:=Lib.hid hE
  have Hm:Hid ((sayT kw (l.take k)).length≤4000):=Lib.hid (by
   have:=Q6j kw (l.take k) (fun x hx=>H64.out x (List.mem_of_mem_take hx))
   rw [List.length_take] at this
   omega)
  by_cases hlt:k < l.length
  ·have c0:=(HR.out.ext hE).one k hlt
   have HT:=Lib.hid (Qfq kw l hlt)
   have Hx:=Lib.hid (H64.out _ (Q1p hlt))
   generalize l.getD k default=x at *
   generalize sayT kw (l.take k)=m at *
   have hm:=Hm.out
   have hd:=Q5j Hx.out
   have hd1:([32] ++ Lib.itoa x).length≤4000000:=by simp;omega
   clear hE
   go_wp2_with fail
   (with_reducible refine (Q74 x Hx.out _ (Ht.out.ext X.out)).mono ?_)
   rintro e w2 ⟨rfl,hx⟩
   have X:=Lib.hid (X.out.trans hx)
   generalize hde:Lib.itoa x=d at *
   clear hx c0
   go_wp2
   go_roundw
   case rel=>exact ⟨k+1,by omega,by go_num,by rw [HT.out];show Value.string (_ ++ ((⟨([32]:List UInt8).toArray⟩:ByteArray) ++ _))=_;rw [Q3h,Q3h];rfl,X.out⟩
   case measure=>first | (simp [intOf];done) | (simp [intOf];omega)
  ·obtain rfl:k=l.length:=by omega
   rw [List.take_length]
   go_wp2
   go_ret
   exact ⟨rfl,X.out⟩
set_option maxHeartbeats 4000000 in
theorem Qfp (kw:List UInt8) (l:List Int) (v:Value) (w:World) (hv:Q2z w v l) (hk:kw.length≤1000) (hl:l.length≤100) (ht:Tabs w) :
  Calls Tryz.prog 45 #[str kw,v] w (Q8x kw l w):=by
 obtain ⟨h64,oa,cap,b,o,rfl,hc1,hc2,hrow⟩:=hv
 have H64:=Lib.hid h64
 have HR:=Lib.hid hrow
 have Ht:=Lib.hid ht
 have hix:=Q3n (cap:=cap) hrow.at_
 have hadd:=Qa7
 clear hrow h64 hc2 ht
 go_enter Tryz.func45,Tryz.ntmps45
 go_wp2_with fail
 go_loopw [0,9] (fun s i wr => ∃ k:Nat,k≤l.length∧i=.int .i64 (k:Int)∧s=str (sayT kw (l.take k))∧Ext w wr) (fun s i _=>l.length - (intOf i).toNat)
 case atStart=>exact ⟨0,by omega,rfl,by simp [sayT],Ext.refl _⟩
 case round =>
  obtain ⟨k,hkl,rfl,rfl,hE⟩:=hrel
  have X:=Lib.hid hE
  have Hm:Hid ((sayT kw (l.take k)).length≤4000):=Lib.hid (by
   have:=Q6j kw (l.take k) (fun x hx=>H64.out x (List.mem_of_mem_take hx))
   rw [List.length_take] at this
   omega)
  by_cases hlt:k < l.length
  ·have c0:=(HR.out.ext hE).one k hlt
   have HT:=Lib.hid (Qfq kw l hlt)
   have Hx:=Lib.hid (H64.out _ (Q1p hlt))
   generalize l.getD k default=x at *
   generalize sayT kw (l.take k)=m at *
   have hm:=Hm.out
   have hd:=Q5j Hx.out
   have hd1:([32] ++ Lib.itoa x).length≤4000000:=by simp;omega
   clear hE
   go_wp2_with fail
   (with_reducible refine (Q74 x Hx.out _ (Ht.out.ext X.out)).mono ?_)
   rintro e w2 ⟨rfl,hx⟩
   have X:=Lib.hid (X.out.trans hx)
   generalize hde:Lib.itoa x=d at *
   clear hx c0
   go_wp2
   go_roundw
   case rel=>exact ⟨k+1,by omega,by go_num,by rw [HT.out];show Value.string (_ ++ ((⟨([32]:List UInt8).toArray⟩:ByteArray) ++ _))=_;rw [Q3h,Q3h];rfl,X.out⟩
   case measure=>first | (simp [intOf];done) | (simp [intOf];omega)
  ·obtain rfl:k=l.length:=by omega
   rw [List.take_length]
   go_wp2
   go_ret
   exact ⟨rfl,X.out⟩
end Go.Proofs.YtiafchefbehfbaaGreatDoor
