/- Laid together from: Dr2, Dr3. -/
import Derived.Test.YtiafchefbehfbaaGreatDoorDriveTellsB41
import Derived.Test.YtiafchefbehfbaaGreatDoorDriveTellsB10
import Derived.Test.YtiafchefbehfbaaGreatDoorDriveTellsB43
import Derived.Test.YtiafchefbehfbaaGreatDoorDriveTellsB23

namespace Go.Proofs.YtiafchefbehfbaaGreatDoor
open Go.ChangeShapes Go.WideShapes Go.ChangeAt Go.RowKit
set_option linter.unusedVariables false
set_option linter.unusedSimpArgs false
theorem Q6m (kw:List UInt8):∀ (l:List Int),(∀ x ∈ l,R64 x)→(sayT kw l).length≤kw.length+21 * l.length
 | [],_=>by simp [sayT]
 | x :: l,h=>by
  have ih:=Q6m kw l (fun y hy=>h y (List.mem_cons_of_mem _ hy))
  have h1:=Q5i (h x (by simp))
  unfold sayT at ih ⊢
  simp only [List.length_append,List.flatMap_cons,List.length_cons] at ih ⊢
  omega
theorem Qd4 (kw:List UInt8) (l:List Int) {k:Nat} (hk:k < l.length):sayT kw (l.take (k+1))=sayT kw (l.take k) ++ (32 :: Lib.itoa (l.getD k default)):=by
 unfold sayT
 rw [List.take_succ_eq_append_getElem hk,List.flatMap_append]
 simp [hk]
theorem Qn1 (m d:List UInt8):(m ++ [32]) ++ d=m ++ (32 :: d):=by simp
def Q6f (kw:List UInt8) (l:List Int) (w:World) (e:Ending) (w':World):Prop:=e=.returned (str (sayT kw l))∧Ext w w'
set_option maxHeartbeats 4000000 in
theorem Qbb (kw:List UInt8) (l:List Int) (v:Value) (w:World) (hv:Q2z w v l) (hk:kw.length≤1000) (hl:l.length≤100) :
  Calls Tryz.prog 10 #[str kw,v] w (Q6f kw l w):=by
 obtain ⟨h64,oa,cap,b,o,rfl,hc1,hc2,hrow⟩:=hv
 have H64:=zh h64
 have HR:=zh hrow
 have hix:=Q3o (cap:=cap) hrow.at_
 have hadd:=Q85
 have C:=zh fun n (hn:R64 n) W=>Qsf n hn W
 clear hrow h64 hc2
 go_enter Tryz.func10,Tryz.ntmps10
 go_wp2_with fail
 go_loopw [0,5] (fun s i wr => ∃ k:Nat,k≤l.length∧i=.int .i64 (k:Int)∧s=str (sayT kw (l.take k))∧Ext w wr) (fun s i _=>l.length - (intOf i).toNat)
 case atStart=>exact ⟨0,by omega,rfl,by simp [sayT],Ext.refl _⟩
 case round =>
  obtain ⟨k,hkl,rfl,rfl,hE⟩:=hrel
  have X:=zh hE
  have Hm:Hid ((sayT kw (l.take k)).length≤4000):=zh (by
   have:=Q6m kw (l.take k) (fun x hx=>H64.out x (List.mem_of_mem_take hx))
   rw [List.length_take] at this
   omega)
  by_cases hlt:k < l.length
  ·have c0:=(HR.out.ext hE).one k hlt
   have HT:=zh (Qd4 kw l hlt)
   have Hx:=zh (H64.out _ (Q25 hlt))
   generalize l.getD k default=x at *
   generalize sayT kw (l.take k)=m at *
   have hm:=Hm.out
   have hm1:(m ++ [32]).length≤4000000:=by simp;omega
   have hd:=Q5i Hx.out
   clear hE
   go_wp2_with fail
   (with_reducible refine (C.out x Hx.out _).mono ?_)
   rintro e w2 ⟨rfl,hx⟩
   have X:=zh (X.out.trans hx)
   generalize Lib.itoa x=d at *
   clear hx c0
   go_wp2
   go_roundw
   case rel=>exact ⟨k+1,by omega,by go_num,by rw [HT.out,← Qn1];show Value.string (_ ++ (⟨([32]:List UInt8).toArray⟩:ByteArray) ++ _)=_;rw [Q2h,Q2h],X.out⟩
   case measure=>first | (simp [intOf];done) | (simp [intOf];omega)
  ·obtain rfl:k=l.length:=by omega
   rw [List.take_length]
   go_wp2
   go_ret
   exact ⟨rfl,X.out⟩
set_option maxHeartbeats 4000000 in
theorem Qgr (kw:List UInt8) (l:List Int) (v:Value) (w:World) (hv:Q2z w v l) (hk:kw.length≤1000) (hl:l.length≤100) (ht:Tabs w) :
  Calls Tryz.prog 49 #[str kw,v] w (Q6f kw l w):=by
 obtain ⟨h64,oa,cap,b,o,rfl,hc1,hc2,hrow⟩:=hv
 have H64:=zh h64
 have HR:=zh hrow
 have Ht:=zh ht
 have hix:=Q3o (cap:=cap) hrow.at_
 have hadd:=Q85
 clear hrow h64 hc2 ht
 go_enter Tryz.func49,Tryz.ntmps49
 go_wp2_with fail
 go_loopw [0,9] (fun s i wr => ∃ k:Nat,k≤l.length∧i=.int .i64 (k:Int)∧s=str (sayT kw (l.take k))∧Ext w wr) (fun s i _=>l.length - (intOf i).toNat)
 case atStart=>exact ⟨0,by omega,rfl,by simp [sayT],Ext.refl _⟩
 case round =>
  obtain ⟨k,hkl,rfl,rfl,hE⟩:=hrel
  have X:=zh hE
  have Hm:Hid ((sayT kw (l.take k)).length≤4000):=zh (by
   have:=Q6m kw (l.take k) (fun x hx=>H64.out x (List.mem_of_mem_take hx))
   rw [List.length_take] at this
   omega)
  by_cases hlt:k < l.length
  ·have c0:=(HR.out.ext hE).one k hlt
   have HT:=zh (Qd4 kw l hlt)
   have Hx:=zh (H64.out _ (Q25 hlt))
   generalize l.getD k default=x at *
   generalize sayT kw (l.take k)=m at *
   have hm:=Hm.out
   have hd:=Q5i Hx.out
   have hd1:([32] ++ Lib.itoa x).length≤4000000:=by simp;omega
   clear hE
   go_wp2_with fail
   (with_reducible refine (Q7o x Hx.out _ (Ht.out.ext X.out)).mono ?_)
   rintro e w2 ⟨rfl,hx⟩
   have X:=zh (X.out.trans hx)
   generalize hde:Lib.itoa x=d at *
   clear hx c0
   go_wp2
   go_roundw
   case rel=>exact ⟨k+1,by omega,by go_num,by rw [HT.out];show Value.string (_ ++ ((⟨([32]:List UInt8).toArray⟩:ByteArray) ++ _))=_;rw [Q2h,Q2h];rfl,X.out⟩
   case measure=>first | (simp [intOf];done) | (simp [intOf];omega)
  ·obtain rfl:k=l.length:=by omega
   rw [List.take_length]
   go_wp2
   go_ret
   exact ⟨rfl,X.out⟩
set_option maxHeartbeats 4000000 in
theorem Qgq (kw:List UInt8) (l:List Int) (v:Value) (w:World) (hv:Q2z w v l) (hk:kw.length≤1000) (hl:l.length≤100) (ht:Tabs w) :
  Calls Tryz.prog 45 #[str kw,v] w (Q6f kw l w):=by
 obtain ⟨h64,oa,cap,b,o,rfl,hc1,hc2,hrow⟩:=hv
 have H64:=zh h64
 have HR:=zh hrow
 have Ht:=zh ht
 have hix:=Q2k (cap:=cap) hrow.at_
 have hadd:=Q85
 clear hrow h64 hc2 ht
 go_enter Tryz.func45,Tryz.ntmps45
 go_wp2_with fail
 go_loopw [0,9] (fun s i wr => ∃ k:Nat,k≤l.length∧i=.int .i64 (k:Int)∧s=str (sayT kw (l.take k))∧Ext w wr) (fun s i _=>l.length - (intOf i).toNat)
 case atStart=>exact ⟨0,by omega,rfl,by simp [sayT],Ext.refl _⟩
 case round =>
  obtain ⟨k,hkl,rfl,rfl,hE⟩:=hrel
  have X:=zh hE
  have Hm:Hid ((sayT kw (l.take k)).length≤4000):=zh (by
   have:=Q6m kw (l.take k) (fun x hx=>H64.out x (List.mem_of_mem_take hx))
   rw [List.length_take] at this
   omega)
  by_cases hlt:k < l.length
  ·have c0:=(HR.out.ext hE).one k hlt
   have HT:=zh (Qd4 kw l hlt)
   have Hx:=zh (H64.out _ (Q25 hlt))
   generalize l.getD k default=x at *
   generalize sayT kw (l.take k)=m at *
   have hm:=Hm.out
   have hd:=Q5i Hx.out
   have hd1:([32] ++ Lib.itoa x).length≤4000000:=by simp;omega
   clear hE
   go_wp2_with fail
   (with_reducible refine (Q7o x Hx.out _ (Ht.out.ext X.out)).mono ?_)
   rintro e w2 ⟨rfl,hx⟩
   have X:=zh (X.out.trans hx)
   generalize hde:Lib.itoa x=d at *
   clear hx c0
   go_wp2
   go_roundw
   case rel=>exact ⟨k+1,by omega,by go_num,by rw [HT.out];show Value.string (_ ++ ((⟨([32]:List UInt8).toArray⟩:ByteArray) ++ _))=_;rw [Q2h,Q2h];rfl,X.out⟩
   case measure=>first | (simp [intOf];done) | (simp [intOf];omega)
  ·obtain rfl:k=l.length:=by omega
   rw [List.take_length]
   go_wp2
   go_ret
   exact ⟨rfl,X.out⟩
def finD (a:Nat):List UInt8→Option Nat
 | []=>some a
 | c :: l=>if isD c=true then finD (10 * a+(c.toNat - 48)) l else none
theorem Qkb:∀ (l:List UInt8) (a:Nat),finD a l=if l.all isD=true then some (valA a l) else none
 | [],a=>rfl
 | c :: l,a=>by
  rw [finD,Qkb l]
  by_cases h:isD c=true
  ·rw [if_pos h,List.all_cons,h,Bool.true_and,Q5z]
  ·rw [if_neg h,if_neg (by simp [h])]
theorem Qfy:∀ (l:List UInt8) (a:Nat),l.all isD=true→valA a l < (a+1) * 10 ^ l.length
 | [],a,_=>by simp [Q8x]
 | c :: l,a,h=>by
  rw [List.all_cons,Bool.and_eq_true] at h
  have h1:=Q9h h.1
  have ih:=Qfy l (10 * a+(c.toNat - 48)) h.2
  rw [Q5z]
  have h2:(10 * a+(c.toNat - 48)+1) * 10 ^ l.length≤(10 * a+10) * 10 ^ l.length:=Nat.mul_le_mul_right _ (by omega)
  have h3:(a+1) * 10 ^ (c :: l).length=(10 * a+10) * 10 ^ l.length:=by
   rw [List.length_cons,Nat.pow_succ,Nat.mul_comm (10 ^ l.length) 10,← Nat.mul_assoc]
   congr 1
   omega
  omega
theorem Qib (s T:List UInt8) (d:UInt8) (r:List UInt8) (hT:T=d :: r) (below:Bool) (hs:s=if below=true then 45 :: T else T) (hb:below=true∨d≠45∨r=[]) :
  numT s 6=if 6 < T.length∨(d.toNat=48∧(1 < T.length∨below=true)) then none else match finD 0 T with
   | none=>none
   | some n=>some (if below=true then -(n:Int) else (n:Int)):=by
 have key:∀ (b:Bool),6 < T.length∨Qbd b T=(match finD 0 T with | none=>none | some n=>some (if b=true then -(n:Int) else (n:Int))):=fun b=>by
  by_cases h6:6 < T.length
  ·exact .inl h6
  ·right
   unfold Qbd
   have h:=Qbf b T 0 (by omega)
   rw [show (-((0:Nat):Int))=0 from rfl] at h
   rw [h,Qkb]
   by_cases ha:T.all isD=true
   ·have hv:=Qfy T 0 ha
    have hp:10 ^ T.length≤10 ^ 6:=Nat.pow_le_pow_right (by omega) (by omega)
    have hbd:valA 0 T≤bnd b:=by unfold bnd;cases b <;> simp <;> omega
    rw [if_pos ha,if_pos ⟨ha,hbd⟩]
    cases b
    ·simp
    ·simp
   ·rw [if_neg ha,if_neg (fun h=>ha h.1)]
 rw [← Qh9]
 cases below with
 | true =>
  simp only [if_true] at hs
  subst hs
  rw [Qh8 (45 :: T) T d r hT true rfl (by simp) 6]
  by_cases hc:6 < T.length∨(d.toNat=48∧(1 < T.length∨(true:Bool)=true))
  ·rw [if_pos hc,if_pos hc]
  ·rw [if_neg hc,if_neg hc]
   rcases key true with h | h
   ·exact absurd (.inl h) hc
   ·exact h
 | false =>
  simp only [Bool.false_eq_true,if_false] at hs
  subst hs
  by_cases h45:d=45
  ·have hr:r=[]:=by
    rcases hb with h | h | h
    ·cases h
    ·exact absurd h45 h
    ·exact h
   subst h45 hr hT
   rfl
  ·rw [Qh8 s s d r hT false (by rw [hT];simp [h45]) (by rw [hT];simp [h45]) 6]
   by_cases hc:6 < s.length∨(d.toNat=48∧(1 < s.length∨(false:Bool)=true))
   ·rw [if_pos hc,if_pos hc]
   ·rw [if_neg hc,if_neg hc]
    rcases key false with h | h
    ·exact absurd (.inl h) hc
    ·exact h
def Qau (s:List UInt8) (w:World) (e:Ending) (w':World):Prop :=
 ∃ n b,e=.returned (.tuple #[.int .i64 n,.bool b])∧((b=true∧numT s 6=some n)∨(b=false∧numT s 6=none))∧Ext w w'
theorem Qau.no {s:List UInt8} {w:World} (h:numT s 6=none):Qau s w (.returned (.tuple #[.int .i64 0,.bool false])) w:=⟨0,false,rfl,.inr ⟨rfl,h⟩,Ext.refl _⟩
theorem Qau.yes {s:List UInt8} {w:World} {n:Int} (h:numT s 6=some n):Qau s w (.returned (.tuple #[.int .i64 n,.bool true])) w:=⟨n,true,rfl,.inl ⟨rfl,h⟩,Ext.refl _⟩
set_option maxRecDepth 100000 in
set_option maxHeartbeats 8000000 in
theorem Q69 (s:List UInt8) (w:World) :
  Calls Tryz.prog 8 #[str s] w (Qau s w):=by
 cases s with
 | nil =>
  have HR:Hid (numT [] 6=none):=zh (by rw [← Qh9];rfl)
  go_enter Tryz.func8,Tryz.ntmps8
  go_wp2
  go_ret2
  exact .no HR.out
 | cons c r =>
  by_cases hb:c=45∧r≠[]
  ·obtain ⟨rfl,hr⟩:=hb
   cases r with
   | nil=>exact absurd rfl hr
   | cons d r =>
    clear hr
    have HR:=zh (Qib (45 :: d :: r) (d :: r) d r rfl true rfl (.inl rfl))
    have hsz:=Q59 (45 :: d :: r)
    have hix0:∀ W,(Instr.index 9 (str (45 :: d :: r)) (.int .i64 0)).run Tryz.prog W=.ok (.int .u8 45) W:=fun W=>by simpa using Q6v (45 :: d :: r) 0 45 rfl W
    have hixT:∀ W,(Instr.index 9 (str (d :: r)) (.int .i64 0)).run Tryz.prog W=.ok (.int .u8 (d.toNat:Int)) W:=fun W=>by simpa using Q6v (d :: r) 0 d rfl W
    have hT:((⟨(45 :: d :: r).toArray⟩:ByteArray).extract 1 ((d :: r).length+1))=⟨(d :: r).toArray⟩:=by
     apply ByteArray.ext
     rw [ByteArray.data_extract]
     simp
    have hl:(45 :: d :: r).length=(d :: r).length+1:=rfl
    have h1:1≤(d :: r).length:=by simp
    have hd1:decide (((d :: r).length:Int) < 1)=false:=by simp;omega
    generalize (45 :: d :: r:List UInt8)=S at *
    generalize (d :: r:List UInt8)=T at *
    generalize d.toNat=m at *
    have hsT:=Q59 T
    by_cases hmo:6 < T.length
    ·go_enter Tryz.func8,Tryz.ntmps8
     go_wp2
     all_goals go_ret2
     all_goals exact .no (by rw [HR.out];rw [if_pos (.inl hmo)])
    by_cases h48:m=48
    ·subst h48
     go_enter Tryz.func8,Tryz.ntmps8
     go_wp2
     all_goals go_ret2
     all_goals exact .no (by rw [HR.out];simp)
    have h48b:((m:Int) == 48)=false:=by simpa using (show ¬ (m:Int)=48 by omega)
    rw [if_neg (by simp only [or_true,and_true];omega)] at HR
    have hT6:T.length≤6:=by omega
    have HT6:=zh hT6
    clear hmo
    go_enter Tryz.func8,Tryz.ntmps8
    go_wp2_with fail
    go_loopw [5,6] (fun nv iv wr => ∃ a j:Nat,j≤T.length∧iv=.int .i64 (j:Int)∧nv=.int .i64 (a:Int)∧a < 10 ^ j∧finD a (T.drop j)=finD 0 T∧wr=w) (fun _ i _=>T.length - (intOf i).toNat)
    case atStart=>exact ⟨0,0,by omega,rfl,rfl,by simp,rfl,rfl⟩
    case round =>
     obtain ⟨a,j,hj,rfl,rfl,ha,hR,rfl⟩:=hrel
     have hR:=zh hR
     have Ha:=zh ha
     clear ha
     by_cases hlt:j < T.length
     case pos =>
      have ha5:a < 100000:=Nat.lt_of_lt_of_le Ha.out (by have:10 ^ j≤10 ^ 5:=Nat.pow_le_pow_right (by omega) (by have:=HT6.out;omega);omega)
      have hix:=Q6v T j T[j] (by simp [hlt])
      have hdr:T.drop j=T[j] :: T.drop (j+1):=List.drop_eq_getElem_cons hlt
      rw [hdr] at hR
      generalize T[j]=x at *
      clear hdr
      by_cases hlo:x.toNat < 48
      ·have HN:Hid (finD 0 T=none):=zh (by rw [← hR.out,finD,if_neg (by unfold isD;simp;omega)])
       generalize x.toNat=mm at *
       go_wp2
       go_ret2
       exact .no (by rw [HR.out,HN.out])
      by_cases hhi:57 < x.toNat
      ·have HN:Hid (finD 0 T=none):=zh (by rw [← hR.out,finD,if_neg (by unfold isD;simp;omega)])
       generalize x.toNat=mm at *
       go_wp2
       go_ret2
       exact .no (by rw [HR.out,HN.out])
      obtain ⟨dd,hd⟩:∃ dd,x.toNat=48+dd:=⟨x.toNat - 48,by omega⟩
      have hd9:dd≤9:=by omega
      have HN:Hid (finD (10 * a+dd) (T.drop (j+1))=finD 0 T):=zh (by rw [← hR.out,finD,if_pos (by unfold isD;simp;omega),hd,Nat.add_sub_cancel_left])
      rw [hd] at hix
      clear hR hlo hhi hd
      have hwd:((48:Int)+(dd:Int) - 48) % 256=(dd:Int):=by omega
      have hwd2:(48:Int)+(dd:Int) - 48=(dd:Int):=by omega
      have hw1:(((48+dd:Nat):Int))=48+(dd:Int):=by omega
      have Hpow:Hid (10 * a+dd < 10 ^ (j+1)):=zh (by rw [Nat.pow_succ];have:=Ha.out;omega)
      go_wp2
      go_roundw
      case rel=>exact ⟨10 * a+dd,j+1,by omega,by go_num,by first | go_num | (congr 1;omega),Hpow.out,HN.out,by first | rfl | trivial⟩
      case measure=>first | (simp [intOf];done) | (simp [intOf];omega)
     case neg =>
      have hje:j=T.length:=by omega
      subst hje
      rw [List.drop_length] at hR
      have HN:Hid (finD 0 T=some a):=zh (by rw [← hR.out];rfl)
      have ha6:a < 1000000:=Nat.lt_of_lt_of_le Ha.out (by have:10 ^ T.length≤10 ^ 6:=Nat.pow_le_pow_right (by omega) HT6.out;omega)
      clear hR
      go_wp2
      go_ret2
      exact .yes (n := -(a:Int)) (by rw [HR.out,HN.out];rfl)
  ·have hbc:c≠45∨r=[]:=by
    by_cases h:c=45
    ·exact .inr (Classical.byContradiction fun hn=>hb ⟨h,hn⟩)
    ·exact .inl h
   have HR:=zh (Qib (c :: r) (c :: r) c r rfl false rfl (.inr hbc))
   have hsz:=Q59 (c :: r)
   have hixT:∀ W,(Instr.index 9 (str (c :: r)) (.int .i64 0)).run Tryz.prog W=.ok (.int .u8 (c.toNat:Int)) W:=fun W=>by simpa using Q6v (c :: r) 0 c rfl W
   have h1l:1≤(c :: r).length:=by simp
   have hd1:decide (((c :: r).length:Int) < 1)=false:=by simp;omega
   have hbm:1 < (c :: r).length→¬ c.toNat=45:=fun hl e=>by
    rcases hbc with h | h
    ·exact h (UInt8.toNat_inj.1 e)
    ·rw [h] at hl;simp at hl
   clear hb hbc
   generalize (c :: r:List UInt8)=T at *
   generalize c.toNat=m at *
   have hlen2:T.length=1∨(1 < T.length∧((m:Int) == 45)=false):=by
    by_cases h:1 < T.length
    ·exact .inr ⟨h,by simpa using (show ¬ (m:Int)=45 by have:=hbm h;omega)⟩
    ·exact .inl (by omega)
   clear hbm
   rcases hlen2 with hlen1 | ⟨hlen1,hbm2⟩
   case inl =>
    have hd2:decide (1 < (T.length:Int))=false:=by simp;omega
    have hl1n:¬ 1 < T.length:=by omega
    clear hlen1
    by_cases hmo:6 < T.length
    ·go_enter Tryz.func8,Tryz.ntmps8
     go_wp2
     all_goals go_ret2
     all_goals exact .no (by rw [HR.out];rw [if_pos (.inl hmo)])
    by_cases h48:m=48
    case pos =>
     rw [if_neg (by simp only [Bool.false_eq_true,or_false];omega)] at HR
     subst h48
     have hT6:T.length≤6:=by omega
     have HT6:=zh hT6
     clear hmo
     go_enter Tryz.func8,Tryz.ntmps8
     go_wp2_with fail
     go_loopw [5,6] (fun nv iv wr => ∃ a j:Nat,j≤T.length∧iv=.int .i64 (j:Int)∧nv=.int .i64 (a:Int)∧a < 10 ^ j∧finD a (T.drop j)=finD 0 T∧wr=w) (fun _ i _=>T.length - (intOf i).toNat)
     case atStart=>exact ⟨0,0,by omega,rfl,rfl,by simp,rfl,rfl⟩
     case round =>
      obtain ⟨a,j,hj,rfl,rfl,ha,hR,rfl⟩:=hrel
      have hR:=zh hR
      have Ha:=zh ha
      clear ha
      by_cases hlt:j < T.length
      case pos =>
       have ha5:a < 100000:=Nat.lt_of_lt_of_le Ha.out (by have:10 ^ j≤10 ^ 5:=Nat.pow_le_pow_right (by omega) (by have:=HT6.out;omega);omega)
       have hix:=Q6v T j T[j] (by simp [hlt])
       have hdr:T.drop j=T[j] :: T.drop (j+1):=List.drop_eq_getElem_cons hlt
       rw [hdr] at hR
       generalize T[j]=x at *
       clear hdr
       by_cases hlo:x.toNat < 48
       ·have HN:Hid (finD 0 T=none):=zh (by rw [← hR.out,finD,if_neg (by unfold isD;simp;omega)])
        generalize x.toNat=mm at *
        go_wp2
        go_ret2
        exact .no (by rw [HR.out,HN.out])
       by_cases hhi:57 < x.toNat
       ·have HN:Hid (finD 0 T=none):=zh (by rw [← hR.out,finD,if_neg (by unfold isD;simp;omega)])
        generalize x.toNat=mm at *
        go_wp2
        go_ret2
        exact .no (by rw [HR.out,HN.out])
       obtain ⟨dd,hd⟩:∃ dd,x.toNat=48+dd:=⟨x.toNat - 48,by omega⟩
       have hd9:dd≤9:=by omega
       have HN:Hid (finD (10 * a+dd) (T.drop (j+1))=finD 0 T):=zh (by rw [← hR.out,finD,if_pos (by unfold isD;simp;omega),hd,Nat.add_sub_cancel_left])
       rw [hd] at hix
       clear hR hlo hhi hd
       have hwd:((48:Int)+(dd:Int) - 48) % 256=(dd:Int):=by omega
       have hwd2:(48:Int)+(dd:Int) - 48=(dd:Int):=by omega
       have hw1:(((48+dd:Nat):Int))=48+(dd:Int):=by omega
       have Hpow:Hid (10 * a+dd < 10 ^ (j+1)):=zh (by rw [Nat.pow_succ];have:=Ha.out;omega)
       go_wp2
       go_roundw
       case rel=>exact ⟨10 * a+dd,j+1,by omega,by go_num,by first | go_num | (congr 1;omega),Hpow.out,HN.out,by first | rfl | trivial⟩
       case measure=>first | (simp [intOf];done) | (simp [intOf];omega)
      case neg =>
       have hje:j=T.length:=by omega
       subst hje
       rw [List.drop_length] at hR
       have HN:Hid (finD 0 T=some a):=zh (by rw [← hR.out];rfl)
       have ha6:a < 1000000:=Nat.lt_of_lt_of_le Ha.out (by have:10 ^ T.length≤10 ^ 6:=Nat.pow_le_pow_right (by omega) HT6.out;omega)
       clear hR
       go_wp2
       go_ret2
       exact .yes (n:=(a:Int)) (by rw [HR.out,HN.out];rfl)
    case neg =>
     have h48b:((m:Int) == 48)=false:=by simpa using (show ¬ (m:Int)=48 by omega)
     rw [if_neg (by omega)] at HR
     have hT6:T.length≤6:=by omega
     have HT6:=zh hT6
     clear hmo
     go_enter Tryz.func8,Tryz.ntmps8
     go_wp2_with fail
     go_loopw [5,6] (fun nv iv wr => ∃ a j:Nat,j≤T.length∧iv=.int .i64 (j:Int)∧nv=.int .i64 (a:Int)∧a < 10 ^ j∧finD a (T.drop j)=finD 0 T∧wr=w) (fun _ i _=>T.length - (intOf i).toNat)
     case atStart=>exact ⟨0,0,by omega,rfl,rfl,by simp,rfl,rfl⟩
     case round =>
      obtain ⟨a,j,hj,rfl,rfl,ha,hR,rfl⟩:=hrel
      have hR:=zh hR
      have Ha:=zh ha
      clear ha
      by_cases hlt:j < T.length
      case pos =>
       have ha5:a < 100000:=Nat.lt_of_lt_of_le Ha.out (by have:10 ^ j≤10 ^ 5:=Nat.pow_le_pow_right (by omega) (by have:=HT6.out;omega);omega)
       have hix:=Q6v T j T[j] (by simp [hlt])
       have hdr:T.drop j=T[j] :: T.drop (j+1):=List.drop_eq_getElem_cons hlt
       rw [hdr] at hR
       generalize T[j]=x at *
       clear hdr
       by_cases hlo:x.toNat < 48
       ·have HN:Hid (finD 0 T=none):=zh (by rw [← hR.out,finD,if_neg (by unfold isD;simp;omega)])
        generalize x.toNat=mm at *
        go_wp2
        go_ret2
        exact .no (by rw [HR.out,HN.out])
       by_cases hhi:57 < x.toNat
       ·have HN:Hid (finD 0 T=none):=zh (by rw [← hR.out,finD,if_neg (by unfold isD;simp;omega)])
        generalize x.toNat=mm at *
        go_wp2
        go_ret2
        exact .no (by rw [HR.out,HN.out])
       obtain ⟨dd,hd⟩:∃ dd,x.toNat=48+dd:=⟨x.toNat - 48,by omega⟩
       have hd9:dd≤9:=by omega
       have HN:Hid (finD (10 * a+dd) (T.drop (j+1))=finD 0 T):=zh (by rw [← hR.out,finD,if_pos (by unfold isD;simp;omega),hd,Nat.add_sub_cancel_left])
       rw [hd] at hix
       clear hR hlo hhi hd
       have hwd:((48:Int)+(dd:Int) - 48) % 256=(dd:Int):=by omega
       have hwd2:(48:Int)+(dd:Int) - 48=(dd:Int):=by omega
       have hw1:(((48+dd:Nat):Int))=48+(dd:Int):=by omega
       have Hpow:Hid (10 * a+dd < 10 ^ (j+1)):=zh (by rw [Nat.pow_succ];have:=Ha.out;omega)
       go_wp2
       go_roundw
       case rel=>exact ⟨10 * a+dd,j+1,by omega,by go_num,by first | go_num | (congr 1;omega),Hpow.out,HN.out,by first | rfl | trivial⟩
       case measure=>first | (simp [intOf];done) | (simp [intOf];omega)
      case neg =>
       have hje:j=T.length:=by omega
       subst hje
       rw [List.drop_length] at hR
       have HN:Hid (finD 0 T=some a):=zh (by rw [← hR.out];rfl)
       have ha6:a < 1000000:=Nat.lt_of_lt_of_le Ha.out (by have:10 ^ T.length≤10 ^ 6:=Nat.pow_le_pow_right (by omega) HT6.out;omega)
       clear hR
       go_wp2
       go_ret2
       exact .yes (n:=(a:Int)) (by rw [HR.out,HN.out];rfl)
   case inr =>
    have hd2:decide (1 < (T.length:Int))=true:=by simp;omega
    by_cases hmo:6 < T.length
    ·go_enter Tryz.func8,Tryz.ntmps8
     go_wp2
     all_goals go_ret2
     all_goals exact .no (by rw [HR.out];rw [if_pos (.inl hmo)])
    by_cases h48:m=48
    case pos =>
     subst h48
     go_enter Tryz.func8,Tryz.ntmps8
     go_wp2
     all_goals go_ret2
     all_goals exact .no (by rw [HR.out];rw [if_pos (.inr ⟨by first | rfl | trivial,.inl hlen1⟩)])
    case neg =>
     have h48b:((m:Int) == 48)=false:=by simpa using (show ¬ (m:Int)=48 by omega)
     rw [if_neg (by omega)] at HR
     have hT6:T.length≤6:=by omega
     have HT6:=zh hT6
     clear hmo
     go_enter Tryz.func8,Tryz.ntmps8
     go_wp2_with fail
     go_loopw [5,6] (fun nv iv wr => ∃ a j:Nat,j≤T.length∧iv=.int .i64 (j:Int)∧nv=.int .i64 (a:Int)∧a < 10 ^ j∧finD a (T.drop j)=finD 0 T∧wr=w) (fun _ i _=>T.length - (intOf i).toNat)
     case atStart=>exact ⟨0,0,by omega,rfl,rfl,by simp,rfl,rfl⟩
     case round =>
      obtain ⟨a,j,hj,rfl,rfl,ha,hR,rfl⟩:=hrel
      have hR:=zh hR
      have Ha:=zh ha
      clear ha
      by_cases hlt:j < T.length
      case pos =>
       have ha5:a < 100000:=Nat.lt_of_lt_of_le Ha.out (by have:10 ^ j≤10 ^ 5:=Nat.pow_le_pow_right (by omega) (by have:=HT6.out;omega);omega)
       have hix:=Q6v T j T[j] (by simp [hlt])
       have hdr:T.drop j=T[j] :: T.drop (j+1):=List.drop_eq_getElem_cons hlt
       rw [hdr] at hR
       generalize T[j]=x at *
       clear hdr
       by_cases hlo:x.toNat < 48
       ·have HN:Hid (finD 0 T=none):=zh (by rw [← hR.out,finD,if_neg (by unfold isD;simp;omega)])
        generalize x.toNat=mm at *
        go_wp2
        go_ret2
        exact .no (by rw [HR.out,HN.out])
       by_cases hhi:57 < x.toNat
       ·have HN:Hid (finD 0 T=none):=zh (by rw [← hR.out,finD,if_neg (by unfold isD;simp;omega)])
        generalize x.toNat=mm at *
        go_wp2
        go_ret2
        exact .no (by rw [HR.out,HN.out])
       obtain ⟨dd,hd⟩:∃ dd,x.toNat=48+dd:=⟨x.toNat - 48,by omega⟩
       have hd9:dd≤9:=by omega
       have HN:Hid (finD (10 * a+dd) (T.drop (j+1))=finD 0 T):=zh (by rw [← hR.out,finD,if_pos (by unfold isD;simp;omega),hd,Nat.add_sub_cancel_left])
       rw [hd] at hix
       clear hR hlo hhi hd
       have hwd:((48:Int)+(dd:Int) - 48) % 256=(dd:Int):=by omega
       have hwd2:(48:Int)+(dd:Int) - 48=(dd:Int):=by omega
       have hw1:(((48+dd:Nat):Int))=48+(dd:Int):=by omega
       have Hpow:Hid (10 * a+dd < 10 ^ (j+1)):=zh (by rw [Nat.pow_succ];have:=Ha.out;omega)
       go_wp2
       go_roundw
       case rel=>exact ⟨10 * a+dd,j+1,by omega,by go_num,by first | go_num | (congr 1;omega),Hpow.out,HN.out,by first | rfl | trivial⟩
       case measure=>first | (simp [intOf];done) | (simp [intOf];omega)
      case neg =>
       have hje:j=T.length:=by omega
       subst hje
       rw [List.drop_length] at hR
       have HN:Hid (finD 0 T=some a):=zh (by rw [← hR.out];rfl)
       have ha6:a < 1000000:=Nat.lt_of_lt_of_le Ha.out (by have:10 ^ T.length≤10 ^ 6:=Nat.pow_le_pow_right (by omega) HT6.out;omega)
       clear hR
       go_wp2
       go_ret2
       exact .yes (n:=(a:Int)) (by rw [HR.out,HN.out];rfl)
end Go.Proofs.YtiafchefbehfbaaGreatDoor
