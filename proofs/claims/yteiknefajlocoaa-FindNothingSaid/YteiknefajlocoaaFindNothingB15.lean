/- Laid together from: KnownL, CheckL, CheckQ, CheckS. -/
import Derived.Test.YteiknefajlocoaaFindNothingB3
import Derived.Test.YteiknefajlocoaaFindNothingB12
import Derived.Test.YteiknefajlocoaaFindNothingB6
import Derived.Test.YteiknefajlocoaaFindNothingB5

namespace Go.Proofs.Yteiknefajlocoaa
open Go.RowKit
theorem Q8f {b n:Int} (h:nrm b=17):khas b n=true:=by unfold khas kfit;rw [h];rfl
theorem Q42 {b:Int} {m:Nat} (h:nrm b=m) (hm:m≤16) (n:Int):khas b n=true ↔ 0≤n∧n < 2 ^ m:=by
 unfold khas kfit
 rw [h,Int.toNat_natCast]
 simp
 omega
theorem Q6d (b:Int):nrm b=17∨∃ m:Nat,nrm b=m∧m≤16:=by
 obtain ⟨h0,h1⟩:=Q41 b
 by_cases h:nrm b=17
 ·exact .inl h
 ·exact .inr ⟨(nrm b).toNat,by omega,by omega⟩
theorem Q68 (m:Nat) (h:m≤16):(2:Int) ^ m≤65536:=Q4g m 16 h
theorem Qnv (m:Nat):(1:Int)≤2 ^ m:=by have:(0:Int) < 2 ^ m:=Int.pow_pos (by omega);omega
theorem Qhs {b c n:Int} (h:nrm b≤nrm c) (hb:khas b n=true):khas c n=true:=by
 rcases Q6d c with hc | ⟨k,hc,hk⟩
 ·exact Q8f hc
 ·rcases Q6d b with hb' | ⟨m,hb',hm⟩
  ·omega
  ·rw [Q42 hb' hm] at hb
   rw [Q42 hc hk]
   have:=Q4g m k (by omega)
   omega
theorem Qdd (n:Int):khas (kof n) n=true:=by
 obtain ⟨h0,h1⟩:=Qd8 n
 by_cases h:kof n≤16
 ·have:=Qhm n (kof n).toNat (by omega)
  rw [show (((kof n).toNat:Nat):Int)=kof n by omega] at this
  rw [this];simp
 ·exact Q8f (by rw [Q9b h0 h1];omega)
theorem Q8v {n:Int} (h0:0≤n) (h1:n < 18446744073709551616):u64 n=n:=by unfold u64;omega
theorem Q9h {b c n m:Int} (n0 : -9223372036854775808≤n) (n1:n≤9223372036854775807) (hn:khas b n=true) (hm:khas c m=true) (h:Q5t m n=false):khas (min (nrm b) (nrm c)) n=true:=by
 obtain ⟨b0,b1⟩:=Q41 b
 obtain ⟨c0,c1⟩:=Q41 c
 have e:nrm (min (nrm b) (nrm c))=min (nrm b) (nrm c):=Q9b (by omega) (by omega)
 by_cases hbc:nrm b≤nrm c
 ·exact Qhs (by rw [e];omega) hn
 ·rcases Q6d c with hc | ⟨k,hc,hk⟩
  ·omega
  ·rw [Q42 hc hk] at hm
   have hp:=Q68 k hk
   unfold Q5t at h
   rw [Q8v hm.1 (by omega)] at h
   simp at h
   rw [Q42 (b:=min (nrm b) (nrm c)) (m:=k) (by rw [e];omega) hk]
   rcases Q6d b with hb | ⟨j,hb,hj⟩
   ·unfold u64 at h;omega
   ·rw [Q42 hb hj] at hn
    have hq:=Q68 j hj
    rw [Q8v hn.1 (by omega)] at h
    omega
theorem Q5z {n:Int} (h0:0≤n) (h1:n≤9223372036854775807):wrap64 n=n:=by unfold wrap64;omega
theorem Qj8 (n m:Int) (h0:0≤m) (h1:m < 65536):0≤bits .and .i64 n m∧bits .and .i64 n m≤m:=by
 have e:bits .and .i64 n m=IntKind.i64.wrap ((BitVec.ofInt 64 n &&& BitVec.ofInt 64 m).toNat:Int):=rfl
 have hm:(BitVec.ofInt 64 m).toNat=m.toNat:=by rw [BitVec.toNat_ofInt];omega
 have hl:(BitVec.ofInt 64 n &&& BitVec.ofInt 64 m).toNat≤m.toNat:=by
  rw [BitVec.toNat_and,hm];exact Nat.and_le_right
 rw [e,Q9m,Q5z (by omega) (by omega)]
 omega
theorem and_comm' (n m:Int):bits .and .i64 n m=bits .and .i64 m n:=by
 show IntKind.i64.wrap ((BitVec.ofInt 64 n &&& BitVec.ofInt 64 m).toNat:Int)=IntKind.i64.wrap ((BitVec.ofInt 64 m &&& BitVec.ofInt 64 n).toNat:Int)
 rw [BitVec.and_comm]
theorem Qgs (k:Nat):((2 ^ k:Nat):Int)=(2:Int) ^ k:=by rw [Int.natCast_pow];rfl
theorem Qct (n m:Int) (k:Nat) (hk:k≤16) (n0:0≤n) (n1:n < 2 ^ k) (m0:0≤m) (m1:m < 2 ^ k):0≤bits .or .i64 n m∧bits .or .i64 n m < 2 ^ k:=by
 have e:bits .or .i64 n m=IntKind.i64.wrap ((BitVec.ofInt 64 n ||| BitVec.ofInt 64 m).toNat:Int):=rfl
 have hp:=Q68 k hk
 have hc:=Qgs k
 have hn:(BitVec.ofInt 64 n).toNat=n.toNat:=by rw [BitVec.toNat_ofInt];omega
 have hm:(BitVec.ofInt 64 m).toNat=m.toNat:=by rw [BitVec.toNat_ofInt];omega
 have hl:(BitVec.ofInt 64 n ||| BitVec.ofInt 64 m).toNat < 2 ^ k:=by
  rw [BitVec.toNat_or,hn,hm];exact Nat.or_lt_two_pow (by omega) (by omega)
 rw [e,Q9m,Q5z (by omega) (by omega)]
 omega
theorem Qjf (n m:Int) (k:Nat) (hk:k≤16) (n0:0≤n) (n1:n < 2 ^ k) (m0:0≤m) (m1:m < 2 ^ k):0≤bits .xor .i64 n m∧bits .xor .i64 n m < 2 ^ k:=by
 have e:bits .xor .i64 n m=IntKind.i64.wrap ((BitVec.ofInt 64 n ^^^ BitVec.ofInt 64 m).toNat:Int):=rfl
 have hp:=Q68 k hk
 have hc:=Qgs k
 have hn:(BitVec.ofInt 64 n).toNat=n.toNat:=by rw [BitVec.toNat_ofInt];omega
 have hm:(BitVec.ofInt 64 m).toNat=m.toNat:=by rw [BitVec.toNat_ofInt];omega
 have hl:(BitVec.ofInt 64 n ^^^ BitVec.ofInt 64 m).toNat < 2 ^ k:=by
  rw [BitVec.toNat_xor,hn,hm];exact Nat.xor_lt_two_pow (by omega) (by omega)
 rw [e,Q9m,Q5z (by omega) (by omega)]
 omega
theorem Qd5 (op a b:Int) (a0:0≤a) (a1:a≤17) (b0:0≤b) (b1:b≤17):0≤kop op a b∧kop op a b≤17:=by
 unfold kop kopN
 split
 ·split <;> omega
 repeat' (split <;> try omega)
theorem Qhr {op b c n m:Int} (hn:khas b n=true) (hm:khas c m=true):khas (kop op (nrm b) (nrm c)) (nop op n m)=true:=by
 obtain ⟨b0,b1⟩:=Q41 b
 obtain ⟨c0,c1⟩:=Q41 c
 obtain ⟨k0,k1⟩:=Qd5 op (nrm b) (nrm c) b0 b1 c0 c1
 have ek:=Q9b k0 k1
 by_cases h17:kop op (nrm b) (nrm c)=17
 ·exact Q8f (by rw [ek,h17])
 obtain ⟨k,hk⟩:∃ k:Nat,kop op (nrm b) (nrm c)=k:=⟨(kop op (nrm b) (nrm c)).toNat,by omega⟩
 have hk16:k≤16:=by omega
 rw [Q42 (by rw [ek,hk]) hk16]
 have hpk:=Qnv k
 by_cases h1:op=1
 ·subst h1
  rcases Q6d b with hb | ⟨i,hb,hi⟩
  ·exfalso;apply h17;rw [hb];simp [kop,kopN];split <;> omega
  rcases Q6d c with hc | ⟨j,hc,hj⟩
  ·exfalso;apply h17;rw [hc];simp [kop,kopN];split <;> omega
  rw [Q42 hb hi] at hn
  rw [Q42 hc hj] at hm
  have p1:=Q68 i hi
  have p2:=Q68 j hj
  have e:nop 1 n m=wrap64 (n+m):=rfl
  rw [e,Q5z (by omega) (by omega)]
  have hkop:kop 1 (nrm b) (nrm c)=min (max (nrm b) (nrm c)+(if 0 < min (nrm b) (nrm c) then 1 else 0)) 17:=rfl
  rw [hb,hc] at hkop hk
  by_cases hz:0 < min (i:Int) (j:Int)
  ·rw [if_pos hz] at hkop
   have q1:=Q4g i (max i j) (by omega)
   have q2:=Q4g j (max i j) (by omega)
   have q3:(2:Int) ^ k=2 ^ (max i j) * 2:=by rw [← Int.pow_succ];congr 1;omega
   omega
  ·rw [if_neg hz] at hkop
   have q1:=Q4g i k (by omega)
   have q2:=Q4g j k (by omega)
   rcases (show i=0∨j=0 by omega) with h | h
   ·subst h;simp at hn;omega
   ·subst h;simp at hm;omega
 by_cases h3:op=3
 ·subst h3
  have hkop:kop 3 (nrm b) (nrm c)=min (if nrm b=0∨nrm c=0 then 0 else nrm b+nrm c) 17:=rfl
  have e:nop 3 n m=wrap64 (n * m):=rfl
  rw [e]
  by_cases hz:nrm b=0∨nrm c=0
  ·rw [if_pos hz] at hkop
   have hnm:n * m=0:=by
    rcases hz with h | h
    ·rw [Q42 (m:=0) h (by omega)] at hn;simp at hn
     obtain rfl:n=0:=by omega
     simp
    ·rw [Q42 (m:=0) h (by omega)] at hm;simp at hm
     obtain rfl:m=0:=by omega
     simp
   rw [hnm,Q5z (by omega) (by omega)]
   omega
  ·rw [if_neg hz] at hkop
   rcases Q6d b with hb | ⟨i,hb,hi⟩
   ·omega
   rcases Q6d c with hc | ⟨j,hc,hj⟩
   ·omega
   rw [Q42 hb hi] at hn
   rw [Q42 hc hj] at hm
   have q3:(2:Int) ^ k=2 ^ i * 2 ^ j:=by rw [← Int.pow_add];congr 1;omega
   have l1:n * m < 2 ^ i * 2 ^ j:=by
    have h1:n * m≤n * 2 ^ j:=Int.mul_le_mul_of_nonneg_left (by omega) hn.1
    have h2:n * 2 ^ j < 2 ^ i * 2 ^ j:=Int.mul_lt_mul_of_pos_right hn.2 (Int.pow_pos (by omega))
    omega
   have l0:0≤n * m:=Int.mul_nonneg hn.1 hm.1
   have p:=Q68 k hk16
   rw [Q5z l0 (by omega)]
   omega
 by_cases h4:op=4
 ·subst h4
  have hkop:kop 4 (nrm b) (nrm c)=min (min (nrm b) (nrm c)) 17:=rfl
  have e:nop 4 n m=bits .and .i64 n m:=rfl
  rw [e]
  by_cases hbc:nrm c≤nrm b
  ·have hc:nrm c=k:=by omega
   rw [Q42 hc hk16] at hm
   have:=Qj8 n m hm.1 (by have:=Q68 k hk16;omega)
   omega
  ·have hb:nrm b=k:=by omega
   rw [Q42 hb hk16] at hn
   have:=Qj8 m n hn.1 (by have:=Q68 k hk16;omega)
   rw [and_comm']
   omega
 by_cases h5:op=5∨op=6
 ·have hkop:kop op (nrm b) (nrm c)=min (max (nrm b) (nrm c)) 17:=by rcases h5 with rfl | rfl <;> rfl
  rcases Q6d b with hb | ⟨i,hb,hi⟩
  ·omega
  rcases Q6d c with hc | ⟨j,hc,hj⟩
  ·omega
  rw [Q42 hb hi] at hn
  rw [Q42 hc hj] at hm
  have q1:=Q4g i k (by omega)
  have q2:=Q4g j k (by omega)
  rcases h5 with rfl | rfl
  ·exact Qct n m k hk16 hn.1 (by omega) hm.1 (by omega)
  ·exact Qjf n m k hk16 hn.1 (by omega) hm.1 (by omega)
 by_cases h8:op=8∨op=9∨op=10
 ·have hkop:kop op (nrm b) (nrm c)=min (nrm b) 17:=by rcases h8 with rfl | rfl | rfl <;> rfl
  have hb:nrm b=k:=by omega
  rw [Q42 hb hk16] at hn
  have p:=Q68 k hk16
  have hu:u64 n=n:=Q8v hn.1 (by omega)
  have hum:=Qbp m
  rcases h8 with rfl | rfl | rfl
  ·have e:nop 8 n m=wrap64 (u64 n / 2 ^ sh m):=rfl
   rw [e,hu]
   have d0:0≤n / 2 ^ sh m:=Int.ediv_nonneg hn.1 (Int.le_of_lt (pow_pos' _))
   have d1:n / 2 ^ sh m≤n:=Int.ediv_le_self _ hn.1
   rw [Q5z d0 (by omega)]
   omega
  ·have e:nop 9 n m=if u64 m=0 then 0 else wrap64 (u64 n / u64 m):=rfl
   rw [e,hu]
   split
   ·omega
   ·have d0:0≤n / u64 m:=Int.ediv_nonneg hn.1 hum
    have d1:n / u64 m≤n:=Int.ediv_le_self _ hn.1
    rw [Q5z d0 (by omega)]
    omega
  ·have e:nop 10 n m=if u64 m=0 then n else wrap64 (u64 n % u64 m):=rfl
   rw [e,hu]
   split
   ·omega
   ·rename_i hz
    have d0:0≤n % u64 m:=Int.emod_nonneg _ hz
    have d1:n % u64 m≤n:=by
     have:=Int.emod_add_mul_ediv n (u64 m)
     have h2:0≤u64 m * (n / u64 m):=Int.mul_nonneg hum (Int.ediv_nonneg hn.1 hum)
     omega
    rw [Q5z d0 (by omega)]
    omega
 ·exfalso
  apply h17
  unfold kop
  rw [Qd6 _ _ h1 h3 h4 (fun h=>h5 (.inl h)) (fun h=>h5 (.inr h)) (fun h=>h8 (.inl h)) (fun h=>h8 (.inr (.inl h))) (fun h=>h8 (.inr (.inr h)))]
  rfl
end Go.Proofs.Yteiknefajlocoaa

namespace Go.Proofs.Yteiknefajlocoaa
open Go.RowKit
set_option linter.unusedSimpArgs false
set_option linter.unusedVariables false
def Q63:List LReg→Nat→Bool
 | [],_=>false
 | r :: l,n=>if n < Q0e r then r.secret else Q63 l (n - Q0e r)
theorem Qa0:∀ (l:List LReg) (r x:Nat),r < l.length→x < Q0e (l.getD r default)→Q63 l (((l.take r).map Q0e).sum+x)=(l.getD r default).secret
 | [],r,x,h,_=>by simp at h
 | a :: l,0,x,_,h=>by
  simp only [List.getD_cons_zero] at h
  simp [Q63,h]
 | a :: l,r+1,x,h,hx=>by
  simp only [List.getD_cons_succ] at hx
  have:=Qa0 l r x (by simpa using h) hx
  simp only [List.take_succ_cons,List.map_cons,List.sum_cons,List.getD_cons_succ,Q63]
  rw [if_neg (by omega),show Q0e a+((l.take r).map Q0e).sum+x - Q0e a=((l.take r).map Q0e).sum+x by omega,this]
def secW (p:Q00) (n:Nat):Bool:=Q63 p.regs n
def Pub (p:Q00) (a b:List Int):Prop := ∀ n,secW p n=false→a.getD n 0=b.getD n 0
def Q1w (l:List Int):Prop := ∀ n:Nat,R64 (l.getD n 0)
theorem Q67:R64 0:=⟨by omega,by omega⟩
theorem Qcg (x:Int):R64 (wrap64 x):=by unfold R64 wrap64;omega
theorem Qtb (a b:Int):R64 (bits .and .i64 a b)∧R64 (bits .or .i64 a b)∧R64 (bits .xor .i64 a b):=by
 have e:∀ x:Int,R64 (IntKind.i64.wrap x):=fun x=>by rw [Q9m];exact Qcg x
 exact ⟨e _,e _,e _⟩
theorem Qn9 {op a b:Int} (ha:R64 a):R64 (nop op a b):=by
 have hb:=Qtb a b
 unfold nop
 repeat' split
 all_goals first | exact Qcg _ | exact hb.1 | exact hb.2.1 | exact hb.2.2 | exact ha | exact Q67
theorem Q1w.set {l:List Int} (h:Q1w l) (k:Nat) {x:Int} (hx:R64 x):Q1w (l.set k x):=fun n=>by
 rw [List.getD_eq_getElem?_getD,List.getElem?_set]
 by_cases e:k=n
 ·subst e
  by_cases h2:k < l.length
  ·simpa [h2] using hx
  ·simpa [h2] using Q67
 ·rw [if_neg e,← List.getD_eq_getElem?_getD];exact h n
theorem Q20 (l:List Int) (k:Nat) (x:Int) (n:Nat):(l.set k x).getD n 0=if n=k∧n < l.length then x else l.getD n 0:=by
 rw [List.getD_eq_getElem?_getD,List.getElem?_set]
 by_cases e:k=n
 ·subst e
  by_cases h2:k < l.length <;> simp [h2]
 ·rw [if_neg e,if_neg (by omega),← List.getD_eq_getElem?_getD]
def Sat (s:KSt) (r:List Int):Prop := ∀ j,j < 8→khas (s.getD j default).bits (r.getD j 0)=true
theorem Sat.mono {s t:KSt} {r:List Int} (hs:Sok s) (ht:Sok t) (h:Sat s r) (k:Sle s t):Sat t r:=fun j hj=>by
 refine Qhs ?_ (h j hj)
 rw [Q4p (hs.ok j),Q4p (ht.ok j)]
 exact (k j).1
theorem Sat.set {s:KSt} {r:List Int} (h:Sat s r) (hl:s.length=8) (hr:r.length=10) (a:Int) {k:LKn} {v:Int} (hv:khas k.bits v=true):Sat (kset s a k) (rset r a v):=fun j hj=>by
 rw [Q5j,hl]
 unfold rset
 rw [Q20,hr]
 by_cases e:j=a.toNat
 ·rw [if_pos ⟨e,hj⟩,if_pos ⟨e,by omega⟩];exact hv
 ·rw [if_neg (by omega),if_neg (by omega)];exact h j hj
theorem Sat.know {s:KSt} {r:List Int} (h:Sat s r) (hl:s.length=8) (a:Int) {k:LKn} (hv:khas k.bits (rg r a)=true):Sat (kset s a k) r:=fun j hj=>by
 rw [Q5j,hl]
 by_cases e:j=a.toNat
 ·rw [if_pos ⟨e,hj⟩,e];exact hv
 ·rw [if_neg (by omega)];exact h j hj
theorem Q08 {b n:Int}:okIn b n=true ↔ 0≤n∧n < b:=by simp [okIn]
theorem Sat.at_ {s:KSt} {r:List Int} (h:Sat s r) {a:Int} (ha:okIn 8 a=true):khas (kg s a).bits (rg r a)=true:=by
 rw [Q08] at ha
 exact h a.toNat (by omega)
theorem Qhp (b:Int):khas b 0=true:=by
 unfold khas kfit
 simp [Int.pow_pos]
theorem Qhq {k:LKn} {x n:Int} (h:khas k.bits x=true):khas (ksum k n).bits (wrap64 (x+n))=true:=by
 unfold ksum
 split
 ·exact Q8f rfl
 ·exact Qhr (op:=1) h (Qdd n)
theorem khas_less' {a b:LKn} {n m:Int} (h:R64 n) (hn:khas a.bits n=true) (hm:khas b.bits m=true) (hb:Q5t m n=false):khas (Q0r a b).bits n=true:=Q9h h.1 h.2 hn hm hb
theorem Qrt {p:Q00} {s:KSt} {r:List Int} {i:LIns} (h:Sat s r) (hb:okIn 8 i.b=true) (hs:Sok s) (hop:i.op=3∨i.op=4) (hn:0≤i.n) (hk:(ksum (kg s i.b) i.n).bits≤(Q0c p i).log) (hl:(Q0c p i).log≤6) :
  Q2v p i (Q1a r i)=true:=by
 have e:Q1a r i=wrap64 (rg r i.b+i.n):=by unfold Q1a;rw [if_neg (by omega)]
 have h1:=Qhq (n:=i.n) (h.at_ hb)
 have ok:=Qd3 (kg s i.b) i.n
 rw [e]
 obtain ⟨m,hm⟩:∃ m:Nat,(ksum (kg s i.b) i.n).bits=m:=⟨(ksum (kg s i.b) i.n).bits.toNat,by have:=ok.1;omega⟩
 rw [Q42 (m:=m) (by rw [Q4p ok,hm]) (by omega)] at h1
 have h2:=Q4g m (Q0c p i).log.toNat (by omega)
 have h3:((Q0e (Q0c p i):Nat):Int)=2 ^ (Q0c p i).log.toNat:=by unfold Q0e;rw [Int.natCast_pow];rfl
 simp only [Q2v,Bool.and_eq_true,decide_eq_true_eq]
 rw [h3]
 omega
structure Good (p:Q00) (s:KSt) (a:Plc):Prop where
 regs:a.regs.length=10
 r64:Q1w a.regs
 sat:Sat s a.regs
 words:a.words.length=Q14 p
 w64:Q1w a.words
 past:a.past.length=Q14 p
 p64:∀ n,Q1w (a.past.getD n [])
theorem Good.mono {p:Q00} {s t:KSt} {a:Plc} (hs:Sok s) (ht:Sok t) (h:Good p s a) (k:Sle s t):Good p t a:=⟨h.1,h.2,h.3.mono hs ht k,h.4,h.5,h.6,h.7⟩
theorem Good.goTo {p:Q00} {s:KSt} {a:Plc} (h:Good p s a) (k:Nat):Good p s { a with at_:=k }:=⟨h.1,h.2,h.3,h.4,h.5,h.6,h.7⟩
theorem Qco (r:List Int) (i:LIns) (P:List Int→Prop) (h1:i.op=1→P (rset r i.a i.n)) (h2:i.op=2→P (rset r i.a (rg r i.b))) (h10:i.op=10→P (rset r i.a (wrap64 (rg r i.b+i.n))))
  (h11:i.op=11→(rg r i.a < 0∨i.n≤rg r i.a→P (rset r i.a 0))∧(0≤rg r i.a∧rg r i.a < i.n→P r)) (h12:i.op=12→P r)
  (ho:i.op≠1→i.op≠2→i.op≠10→i.op≠11→i.op≠12→P (rset r i.a (nop (i.op - 20) (rg r i.b) (rg r i.c)))):P (Q1i r i):=by
 unfold Q1i
 by_cases e1:i.op=1
 ·rw [if_pos e1];exact h1 e1
 rw [if_neg e1]
 by_cases e2:i.op=2
 ·rw [if_pos e2];exact h2 e2
 rw [if_neg e2]
 by_cases e10:i.op=10
 ·rw [if_pos e10];exact h10 e10
 rw [if_neg e10]
 by_cases e11:i.op=11
 ·rw [if_pos e11]
  split
  ·rename_i h;exact (h11 e11).1 h
  ·rename_i h;exact (h11 e11).2 (by omega)
 rw [if_neg e11]
 by_cases e12:i.op=12
 ·rw [if_pos e12];exact h12 e12
 rw [if_neg e12]
 exact ho e1 e2 e10 e11 e12
theorem Q4w (r:List Int) (a v:Int):(rset r a v).length=r.length:=by simp [rset]
theorem Q1w.rset {r:List Int} (h:Q1w r) (a:Int) {v:Int} (hv:R64 v):Q1w (rset r a v):=h.set _ hv
theorem Qed {r:List Int} {i:LIns} (h:Q1w r) (hn:R64 i.n):Q1w (Q1i r i) :=
 Qco r i Q1w (fun _=>h.rset _ hn) (fun _=>h.rset _ (h _)) (fun _=>h.rset _ (Qcg _)) (fun _=>⟨fun _=>h.rset _ Q67,fun _=>h⟩) (fun _=>h) (fun _ _ _ _ _=>h.rset _ (Qn9 (h _)))
theorem Q96 (r:List Int) (i:LIns):(Q1i r i).length=r.length :=
 Qco r i (fun r'=>r'.length=r.length) (fun _=>Q4w _ _ _) (fun _=>Q4w _ _ _) (fun _=>Q4w _ _ _) (fun _=>⟨fun _=>Q4w _ _ _,fun _=>rfl⟩) (fun _=>rfl) (fun _ _ _ _ _=>Q4w _ _ _)
theorem Q2e {p:Q00} {R:Int} {i:LIns} (h:Q01 p R i=true) :
  (i.op=1→okIn R i.a=true)∧(i.op=2→okIn R i.a=true∧okIn R i.b=true)∧(i.op=10→okIn R i.a=true∧okIn R i.b=true)∧(i.op=3∨i.op=4→okIn R i.a=true∧okIn R i.b=true) ∧
   (i.op=5∨i.op=6→okIn R i.a=true)∧(i.op=8→okIn R i.a=true∧okIn R i.b=true∧1≤i.c∧i.c≤4)∧(i.op=9→okIn R i.a=true)∧(i.op=11→okIn R i.a=true∧1≤i.n∧i.n≤64) ∧
   (i.op≠1→i.op≠2→i.op≠10→i.op≠3→i.op≠4→i.op≠5→i.op≠6→i.op≠7→i.op≠8→i.op≠9→i.op≠11→i.op≠12→okIn R i.a=true∧okIn R i.b=true∧okIn R i.c=true∧21≤i.op∧i.op≤30) ∧
   (i.op=7∨i.op=8→0≤i.n∧i.n.toNat < p.code.length)∧(1≤i.op∧i.op≤12∨21≤i.op∧i.op≤30):=by
 simp only [Q01] at h
 by_cases e1:i.op=1
 ·simp [e1,okIn] at h ⊢;omega
 by_cases e2:i.op=2
 ·simp [e2,okIn] at h ⊢;omega
 by_cases e10:i.op=10
 ·simp [e10,okIn] at h ⊢;omega
 by_cases e3:i.op=3∨i.op=4
 ·rcases e3 with e3 | e3 <;> simp [e3,okIn] at h ⊢ <;> omega
 by_cases e5:i.op=5∨i.op=6
 ·rcases e5 with e5 | e5 <;> simp [e5,okIn] at h ⊢ <;> omega
 by_cases e7:i.op=7
 ·simp [e7,okIn] at h ⊢;omega
 by_cases e8:i.op=8
 ·simp [e8,okIn] at h ⊢;omega
 by_cases e9:i.op=9
 ·simp [e9,okIn] at h ⊢;omega
 by_cases e11:i.op=11
 ·simp [e11,okIn] at h ⊢;omega
 by_cases e12:i.op=12
 ·simp [e12,okIn] at h ⊢
 rw [if_neg e1,if_neg e2,if_neg e10,if_neg e3,if_neg e5,if_neg e7,if_neg e8,if_neg e9,if_neg e11,if_neg e12] at h
 simp [okIn] at h
 simp [okIn]
 omega
theorem Qlt {p:Q00} {s:KSt} {r:List Int} {i:LIns} (hok:Q01 p 8 i=true) (hs:Sok s) (hl:r.length=10) (h64:Q1w r) (h:Sat s r) (hw:Q1n i=false) (h7:i.op≠7) (h8:i.op≠8) (h9:i.op≠9):Sat (oneK p s i) (Q1i r i):=by
 obtain ⟨g1,g2,g10,g3,g5,g8,g9,g11,go,g7,gop⟩:=Q2e hok
 have hw3:i.op≠3∧i.op≠4∧i.op≠5∧i.op≠6:=by
  simp [Q1n,Q0s,Q0m] at hw;omega
 unfold oneK
 refine Qco r i (fun r'=>Sat _ r') (fun e=>?_) (fun e=>?_) (fun e=>?_) (fun e=>?_) (fun e=>?_) (fun n1 n2 n10 n11 n12=>?_)
 ·rw [if_pos e];exact h.set hs.len hl _ (Qdd _)
 ·rw [if_neg (by omega),if_pos e];exact h.set hs.len hl _ (h.at_ (g2 e).2)
 ·rw [if_neg (by omega),if_neg (by omega),if_pos e];exact h.set hs.len hl _ (Qhq (h.at_ (g10 e).2))
 ·rw [if_neg (by omega),if_neg (by omega),if_neg (by omega),if_neg (by omega),if_pos e]
  refine ⟨fun _=>h.set hs.len hl _ (Qhp _),fun hin=>h.know hs.len _ ?_⟩
  refine khas_less' (h64 _) (h.at_ (g11 e).1) (Qdd (i.n - 1)) ?_
  unfold Q5t
  rw [Q8v (by have:=(g11 e).2.1;omega) (by have:=(g11 e).2.2;omega),Q8v hin.1 (by have:=(g11 e).2.2;omega)]
  simp;omega
 ·rw [if_neg (by omega),if_neg (by omega),if_neg (by omega),if_neg (by omega),if_neg (by omega),if_pos (by omega)];exact h
 ·rw [if_neg (by omega),if_neg (by omega),if_neg (by omega),if_neg (by omega),if_neg (by omega),if_neg (by omega)]
  have:=go n1 n2 n10 hw3.1 hw3.2.1 hw3.2.2.1 hw3.2.2.2 h7 h8 h9 n11 n12
  exact h.set hs.len hl _ (Qhr (h.at_ this.2.1) (h.at_ this.2.2.1))
theorem Qgr {a b:Int} (h:u64 b≤u64 a):Q5t a b=false:=by unfold Q5t;simp;omega
theorem Qfi {p:Q00} {s:KSt} {r:List Int} {i:LIns} (ha:okIn 8 i.a=true) (hb:okIn 8 i.b=true) (hs:Sok s) (hl:r.length=10) (h64:Q1w r) (h:Sat s r):Sat (Q16 s i (Q3d i.c (rg r i.a) (rg r i.b))) r:=by
 have ka:=h.at_ ha
 have kb:=h.at_ hb
 generalize hc:Q3d i.c (rg r i.a) (rg r i.b)=hold
 have t1:Q3i i.c hold=true→Q5t (rg r i.b) (rg r i.a)=false:=by
  intro t
  apply Qgr
  subst hc
  simp only [Q3i,Q3d] at t
  by_cases e1:i.c=1
  ·simp [e1] at t;rw [t];omega
  by_cases e2:i.c=2
  ·simp [e2] at t;rw [t];omega
  by_cases e3:i.c=3
  ·simp [e3] at t;omega
  by_cases e4:i.c=4
  ·simp [e4] at t;omega
  simp [e1,e2,e3,e4] at t
 have t2:Q4c i.c hold=true→Q5t (rg r i.a) (rg r i.b)=false:=by
  intro t
  apply Qgr
  subst hc
  simp only [Q4c,Q3d] at t
  by_cases e1:i.c=1
  ·simp [e1] at t;rw [t];omega
  by_cases e2:i.c=2
  ·simp [e2] at t;rw [t];omega
  by_cases e3:i.c=3
  ·simp [e3] at t;omega
  by_cases e4:i.c=4
  ·simp [e4] at t;omega
  simp [e1,e2,e3,e4] at t
 simp only [Q16]
 have h1:Sat (if Q3i i.c hold then kset s i.a (Q0r (kg s i.a) (kg s i.b)) else s) r:=by
  split
  ·rename_i e
   exact h.know hs.len _ (khas_less' (h64 _) ka kb (t1 e))
  ·exact h
 have hl1:(if Q3i i.c hold then kset s i.a (Q0r (kg s i.a) (kg s i.b)) else s).length=8:=by
  split <;> simp [kset,hs.len]
 split
 ·rename_i e
  exact h1.know hl1 _ (khas_less' (h64 _) kb ka (t2 e))
 ·exact h1
def Qac (r:List Int) (i:LIns):Int :=
 if i.op=1 then i.n else if i.op=2 then rg r i.b else if i.op=10 then wrap64 (rg r i.b+i.n)
 else if i.op=11 then (if rg r i.a < 0∨i.n≤rg r i.a then 0 else rg r i.a) else nop (i.op - 20) (rg r i.b) (rg r i.c)
theorem Qm3 (r:List Int) (a:Int):rset r a (rg r a)=r:=by
 unfold rset rg
 apply List.ext_getElem?
 intro j
 rw [List.getElem?_set]
 by_cases h:a.toNat=j
 ·subst h
  by_cases h2:a.toNat < r.length
  ·simp [h2]
  ·simp [h2]
 ·rw [if_neg h]
theorem Qad (r:List Int) (i:LIns) (h:i.op≠12):Q1i r i=rset r i.a (Qac r i):=by
 unfold Q1i Qac
 by_cases e1:i.op=1
 ·rw [if_pos e1,if_pos e1]
 rw [if_neg e1,if_neg e1]
 by_cases e2:i.op=2
 ·rw [if_pos e2,if_pos e2]
 rw [if_neg e2,if_neg e2]
 by_cases e10:i.op=10
 ·rw [if_pos e10,if_pos e10]
 rw [if_neg e10,if_neg e10]
 by_cases e11:i.op=11
 ·rw [if_pos e11,if_pos e11]
  split
  ·rfl
  ·exact (Qm3 r i.a).symm
 rw [if_neg e11,if_neg e11,if_neg h]
theorem Q9c {i:LIns} (h:Q1n i=false):i.op≠3∧i.op≠4∧i.op≠5∧i.op≠6∧Q0s i=false∧Q0m i=false:=by
 simp only [Q1n,Bool.or_eq_false_iff] at h
 have h2:=h
 simp [Q0s,Q0m] at h2
 exact ⟨by omega,by omega,by omega,by omega,h.1,h.2⟩
theorem Q5r (p:Q00) (a:Plc) {i:LIns} (hw:Q1n i=false) (h7:i.op≠7) (h8:i.op≠8) (h9:i.op≠9):Q07 p i a={ a with at_:=a.at_+1,regs:=Q1i a.regs i }:=by
 obtain ⟨-,-,-,-,hp,ht⟩:=Q9c hw
 unfold Q07
 rw [if_neg h7,if_neg h8,hp,ht]
 by_cases e12:i.op=12
 ·rw [if_pos (.inr e12)]
  simp [Q1i,e12]
 ·rw [if_neg (by omega)]
  simp
theorem Q6k (p:Q00) (a:Plc) {i:LIns} (h:Q0m i=true):Q07 p i a={ a with at_:=a.at_+1,regs:=rset a.regs i.a (if Q1z p i a then a.words.getD (Q0y p i a).toNat 0 else 0) }:=by
 have hop:i.op=3∨i.op=5:=by simpa [Q0m] using h
 have hp:Q0s i=false:=by simp [Q0s];omega
 unfold Q07
 rw [if_neg (by omega),if_neg (by omega),if_neg (by omega),hp,h]
 simp
theorem Q4o (p:Q00) (a:Plc) {i:LIns} (h:Q0s i=true) (ht:Q1z p i a=true):Q07 p i a={ a with at_:=a.at_+1,past:=a.past.set (Q0y p i a).toNat (a.past.getD (Q0y p i a).toNat [] ++ [a.words.getD (Q0y p i a).toNat 0]),words:=a.words.set (Q0y p i a).toNat (rg a.regs i.a) }:=by
 have hop:i.op=4∨i.op=6:=by simpa [Q0s] using h
 unfold Q07
 rw [if_neg (by omega),if_neg (by omega),if_neg (by omega),h,ht]
 simp
theorem Q7k (p:Q00) (a:Plc) {i:LIns} (h:Q0s i=true) (ht:Q1z p i a=false):Q07 p i a={ a with at_:=a.at_+1 }:=by
 have hop:i.op=4∨i.op=6:=by simpa [Q0s] using h
 unfold Q07
 rw [if_neg (by omega),if_neg (by omega),if_neg (by omega),h,ht]
 simp
theorem Q83 (p:Q00) (a:Plc) {i:LIns} (h7:i.op≠7) (h8:i.op≠8):(Q07 p i a).at_=a.at_+1:=by
 unfold Q07
 rw [if_neg h7,if_neg h8]
 repeat' split
 all_goals rfl
theorem Qa4 (p:Q00) (a:Plc) {i:LIns} (h8:i.op=8):Q07 p i a={ a with at_:=if Q3d i.c (rg a.regs i.a) (rg a.regs i.b) then i.n.toNat else a.at_+1 }:=by
 unfold Q07
 rw [if_neg (by omega),if_pos h8]
theorem Qa3 (p:Q00) (a:Plc) {i:LIns} (h7:i.op=7):Q07 p i a={ a with at_:=i.n.toNat }:=by
 unfold Q07
 rw [if_pos h7]
theorem Qai (p:Q00) (s:KSt) {i:LIns} (h:Q0m i=true):oneK p s i=kset s i.a ⟨17,(Q0c p i).secret⟩:=by
 have hop:i.op=3∨i.op=5:=by simpa [Q0m] using h
 unfold oneK
 rw [if_neg (by omega),if_neg (by omega),if_neg (by omega),if_pos hop]
theorem Qgn (p:Q00) (s:KSt) {i:LIns} (h:Q0s i=true):oneK p s i=s:=by
 have hop:i.op=4∨i.op=6:=by simpa [Q0s] using h
 unfold oneK
 rw [if_neg (by omega),if_neg (by omega),if_neg (by omega),if_neg (by omega),if_neg (by omega),if_pos (by omega)]
theorem Q6l (l:List (List Int)) (k:Nat) (x:List Int) (n:Nat):(l.set k x).getD n []=if n=k∧n < l.length then x else l.getD n []:=by
 rw [List.getD_eq_getElem?_getD,List.getElem?_set]
 by_cases e:k=n
 ·subst e
  by_cases h2:k < l.length <;> simp [h2]
 ·rw [if_neg e,if_neg (by omega),← List.getD_eq_getElem?_getD]
theorem Qkw (l:List Int) (x:Int) (n:Nat):(l ++ [x]).getD n 0=if n=l.length then x else l.getD n 0:=by
 simp only [List.getD_eq_getElem?_getD,List.getElem?_append]
 by_cases h:n < l.length
 ·rw [if_pos h,if_neg (by omega)]
 ·rw [if_neg h]
  by_cases e:n=l.length
  ·subst e;simp
  ·rw [if_neg e,List.getElem?_eq_none (by simp;omega),List.getElem?_eq_none (by omega)]
theorem Q1w.snoc {l:List Int} (h:Q1w l) {x:Int} (hx:R64 x):Q1w (l ++ [x]):=fun n=>by
 rw [Qkw]
 split
 ·exact hx
 ·exact h n
theorem Qif {p:Q00} {s:KSt} {a:Plc} {i:LIns} (hok:Q01 p 8 i=true) (hn:R64 i.n) (hs:Sok s) (h:Good p s a) (h7:i.op≠7) (h8:i.op≠8) (h9:i.op≠9):Good p (oneK p s i) (Q07 p i a):=by
 cases hw:Q1n i
 ·rw [Q5r p a hw h7 h8 h9]
  exact ⟨by simp [Q96,h.regs],Qed h.r64 hn,Qlt hok hs h.regs h.r64 h.sat hw h7 h8 h9,h.words,h.w64,h.past,h.p64⟩
 ·cases hp:Q0s i
  ·have ht:Q0m i=true:=by simpa [Q1n,hp] using hw
   rw [Q6k p a ht,Qai p s ht]
   have hv:R64 (if Q1z p i a then a.words.getD (Q0y p i a).toNat 0 else 0):=by
    split
    ·exact h.w64 _
    ·exact Q67
   exact ⟨by simp [Q4w,h.regs],h.r64.rset _ hv,h.sat.set hs.len h.regs _ (Q8f rfl),h.words,h.w64,h.past,h.p64⟩
  ·rw [Qgn p s hp]
   cases ht:Q1z p i a
   ·rw [Q7k p a hp ht]
    exact h.goTo _
   ·rw [Q4o p a hp ht]
    refine ⟨h.regs,h.r64,h.sat,by simp [h.words],h.w64.set _ (h.r64 _),by simp [h.past],fun n=>?_⟩
    simp only
    rw [Q6l]
    split
    ·exact (h.p64 _).snoc (h.w64 _)
    ·exact h.p64 n
theorem Qid {p:Q00} {s:KSt} {a x:Plc} {i:LIns} {c:Int} (hs:Sok s) (h:Good p s a) (ht:Q0m i=true) (hx:Q1b p i a c=some x):Good p (oneK p s i) x:=by
 have hop:i.op=3∨i.op=5:=by simpa [Q0m] using ht
 unfold Q1b at hx
 rw [if_neg (by omega)] at hx
 split at hx
 ·split at hx
  ·simp only [Option.some.injEq] at hx
   subst hx
   rw [Qai p s ht]
   have e:∀ (u v:Int),rset (rset a.regs i.a u) i.a v=rset a.regs i.a v:=fun u v=>by simp [rset]
   rw [e]
   exact ⟨by simp [Q4w,h.regs],h.r64.rset _ (h.p64 _ _),h.sat.set hs.len h.regs _ (Q8f rfl),h.words,h.w64,h.past,h.p64⟩
  ·cases hx
 ·cases hx
def EqP (s:KSt) (r t:List Int):Prop := ∀ j,j < 8→(s.getD j default).sec=false→r.getD j 0=t.getD j 0
structure MemR (p:Q00) (a b:Plc):Prop where
 pub:Pub p a.words b.words
 plen:∀ n,(a.past.getD n []).length=(b.past.getD n []).length
 ppub:∀ n,secW p n=false→a.past.getD n []=b.past.getD n []
structure Pair (p:Q00) (s:KSt) (a b:Plc):Prop where
 ga:Good p s a
 gb:Good p s b
 eq:EqP s a.regs b.regs
 mem:MemR p a b
theorem EqP.mono {s t:KSt} {r u:List Int} (h:EqP s r u) (k:Sle s t):EqP t r u:=fun j hj e=>h j hj (by
 cases hs:(s.getD j default).sec
 ·rfl
 ·rw [(k j).2 hs] at e;cases e)
theorem EqP.set {s:KSt} {r u:List Int} (h:EqP s r u) (hl:s.length=8) (hr:r.length=10) (hu:u.length=10) (a:Int) {k:LKn} {v w:Int} (hv:k.sec=false→v=w):EqP (kset s a k) (rset r a v) (rset u a w):=fun j hj=>by
 rw [Q5j,hl]
 unfold rset
 rw [Q20,Q20,hr,hu]
 by_cases e:j=a.toNat
 ·rw [if_pos ⟨e,hj⟩,if_pos ⟨e,by omega⟩,if_pos ⟨e,by omega⟩];exact hv
 ·rw [if_neg (by omega),if_neg (by omega),if_neg (by omega)];exact h j hj
theorem EqP.at_ {s:KSt} {r u:List Int} (h:EqP s r u) {a:Int} (ha:okIn 8 a=true) (hs:(kg s a).sec=false):rg r a=rg u a:=by
 rw [Q08] at ha
 exact h a.toNat (by omega) hs
theorem EqP.know {s:KSt} {r u:List Int} (h:EqP s r u) (hl:s.length=8) (a:Int) {k:LKn} (hk:k.sec=(kg s a).sec):EqP (kset s a k) r u:=fun j hj=>by
 rw [Q5j,hl]
 by_cases e:j=a.toNat
 ·rw [if_pos ⟨e,hj⟩,e,hk]
  intro hs
  exact h a.toNat (by omega) hs
 ·rw [if_neg (by omega)];exact h j hj
theorem Pair.mono {p:Q00} {s t:KSt} {a b:Plc} (hs:Sok s) (ht:Sok t) (h:Pair p s a b) (k:Sle s t):Pair p t a b:=⟨h.ga.mono hs ht k,h.gb.mono hs ht k,h.eq.mono k,h.mem⟩
theorem Pair.goTo {p:Q00} {s:KSt} {a b:Plc} (h:Pair p s a b) (k l:Nat):Pair p s { a with at_:=k } { b with at_:=l }:=⟨h.ga.goTo k,h.gb.goTo l,h.eq,⟨h.mem.1,h.mem.2,h.mem.3⟩⟩
theorem Qag {p:Q00} {s:KSt} {a b:Plc} {i:LIns} (hok:Q01 p 8 i=true) (hq:Q0t p s i=true) (h:Pair p s a b) (hw:Q1n i=true):Q1a a.regs i=Q1a b.regs i∧Q0y p i a=Q0y p i b∧Q1z p i a=Q1z p i b:=by
 obtain ⟨g1,g2,g10,g3,g5,g8,g9,g11,go,g7,gop⟩:=Q2e hok
 have e1:Q1a a.regs i=Q1a b.regs i:=by
  unfold Q1a
  rcases Q7f hw with e | e | e | e
  ·rw [if_neg (by omega),if_neg (by omega),h.eq.at_ (g3 (.inl e)).2 (by simpa [Q0t,e] using hq)]
  ·have:(kg s i.b).sec=false:=by
    simp only [Q0t,e] at hq
    simp at hq
    exact hq.1
   rw [if_neg (by omega),if_neg (by omega),h.eq.at_ (g3 (.inr e)).2 this]
  ·rw [if_pos (by omega),if_pos (by omega)]
  ·rw [if_pos (by omega),if_pos (by omega)]
 have e2:Q0y p i a=Q0y p i b:=by unfold Q0y;rw [e1]
 exact ⟨e1,e2,by unfold Q1z;rw [e2,h.ga.words,h.gb.words]⟩
theorem Q82 {p:Q00} {i:LIns} {a:Plc} (hp:Q02 p.regs=true) (hc:i.c.toNat < p.regs.length) (hin:Q2v p i (Q1a a.regs i)=true):secW p (Q0y p i a).toNat=(Q0c p i).secret∧0≤Q0y p i a∧(Q0y p i a).toNat < Q14 p:=by
 obtain ⟨h1,h2,h3,h4⟩:=Qrs hp hc hin
 unfold Q0y
 rw [h4,Int.toNat_natCast]
 refine ⟨?_,by omega,h2⟩
 simp only [Q2v,Bool.and_eq_true,decide_eq_true_eq] at hin
 unfold Q0c at hin ⊢
 exact Qa0 p.regs i.c.toNat (Q1a a.regs i).toNat hc (by omega)
theorem Qo3 {p:Q00} {s:KSt} {r u:List Int} {i:LIns} (hok:Q01 p 8 i=true) (hs:Sok s) (hr:r.length=10) (hu:u.length=10) (h:EqP s r u) (hw:Q1n i=false) (h7:i.op≠7) (h8:i.op≠8) (h9:i.op≠9):EqP (oneK p s i) (Q1i r i) (Q1i u i):=by
 obtain ⟨g1,g2,g10,g3,g5,g8,g9,g11,go,g7,gop⟩:=Q2e hok
 obtain ⟨w3,w4,w5,w6,-,-⟩:=Q9c hw
 by_cases e12:i.op=12
 ·have:oneK p s i=s:=by
   unfold oneK
   rw [if_neg (by omega),if_neg (by omega),if_neg (by omega),if_neg (by omega),if_neg (by omega),if_pos (by omega)]
  rw [this]
  unfold Q1i
  rw [if_neg (by omega),if_neg (by omega),if_neg (by omega),if_neg (by omega),if_pos e12,if_neg (by omega),if_neg (by omega),if_neg (by omega),if_neg (by omega),if_pos e12]
  exact h
 rw [Qad r i e12,Qad u i e12]
 unfold oneK Qac
 by_cases e1:i.op=1
 ·rw [if_pos e1,if_pos e1,if_pos e1]
  exact h.set hs.len hr hu _ fun _=>rfl
 rw [if_neg e1,if_neg e1,if_neg e1]
 by_cases e2:i.op=2
 ·rw [if_pos e2,if_pos e2,if_pos e2]
  exact h.set hs.len hr hu _ fun e=>h.at_ (g2 e2).2 e
 rw [if_neg e2,if_neg e2,if_neg e2]
 by_cases e10:i.op=10
 ·rw [if_pos e10,if_pos e10,if_pos e10]
  refine h.set hs.len hr hu _ fun e=>?_
  have hb:(kg s i.b).sec=false:=by
   unfold ksum at e
   split at e
   ·exact e
   ·simp only [kopK,Bool.or_eq_false_iff] at e;exact e.1
  rw [h.at_ (g10 e10).2 hb]
 rw [if_neg e10,if_neg e10,if_neg e10,if_neg (by omega)]
 by_cases e11:i.op=11
 ·rw [if_pos e11,if_pos e11,if_pos e11]
  refine h.set hs.len hr hu _ fun e=>?_
  have ha:rg r i.a=rg u i.a:=h.at_ (g11 e11).1 e
  rw [ha]
 rw [if_neg e11,if_neg e11,if_neg e11,if_neg (by omega)]
 have:=go e1 e2 e10 w3 w4 w5 w6 h7 h8 h9 e11 e12
 refine h.set hs.len hr hu _ fun e=>?_
 simp only [kopK,Bool.or_eq_false_iff] at e
 rw [h.at_ this.2.1 e.1,h.at_ this.2.2.1 e.2]
theorem Qgf {p:Q00} {s:KSt} {a b:Plc} {i:LIns} (hok:Q01 p 8 i=true) (hq:Q0t p s i=true) (h:Pair p s a b):Q24 p i a=Q24 p i b∧Q2s p i a=Q2s p i b:=by
 obtain ⟨g1,g2,g10,g3,g5,g8,g9,g11,go,g7,gop⟩:=Q2e hok
 cases hw:Q1n i
 ·obtain ⟨w3,w4,w5,w6,hp,ht⟩:=Q9c hw
  refine ⟨by simp [Q24,ht],?_⟩
  unfold Q2s
  rw [hw]
  split
  ·rfl
  ·rename_i hc
   simp only [Bool.false_eq_true,if_false,Q3b]
   split
   ·rename_i h29
    have:=go (by omega) (by omega) (by omega) w3 w4 w5 w6 (by omega) (by omega) (by omega) (by omega) (by omega)
    have hq':(kg s i.b).sec=false∧(kg s i.c).sec=false:=by
     unfold Q0t at hq
     rw [if_neg w3,if_neg w4,if_neg w6,if_neg (by omega),if_pos h29] at hq
     simpa using hq
    rw [h.eq.at_ this.2.1 hq'.1,h.eq.at_ this.2.2.1 hq'.2]
   ·rfl
 ·obtain ⟨e1,e2,e3⟩:=Qag hok hq h hw
  refine ⟨by unfold Q24;rw [e3],?_⟩
  unfold Q2s
  rw [e2,hw]
  split
  ·rfl
  ·rfl
theorem Qoe {p:Q00} {s:KSt} {a b:Plc} {i:LIns} (hp:Q02 p.regs=true) (hok:Q01 p 8 i=true) (hn:R64 i.n) (hs:Sok s) (hq:Q0t p s i=true) (h:Pair p s a b) (hin:Q1n i=true→Q2v p i (Q1a a.regs i)=true)
  (h7:i.op≠7) (h8:i.op≠8) (h9:i.op≠9):Pair p (oneK p s i) (Q07 p i a) (Q07 p i b):=by
 refine ⟨Qif hok hn hs h.ga h7 h8 h9,Qif hok hn hs h.gb h7 h8 h9,?_,?_⟩
 ·cases hw:Q1n i
  ·rw [Q5r p a hw h7 h8 h9,Q5r p b hw h7 h8 h9]
   exact Qo3 hok hs h.ga.regs h.gb.regs h.eq hw h7 h8 h9
  ·obtain ⟨e1,e2,e3⟩:=Qag hok hq h hw
   have hc:=(Q35 hok hw).2
   obtain ⟨s1,s2,s3⟩:=Q82 hp hc (hin hw)
   cases hput:Q0s i
   ·have ht:Q0m i=true:=by simpa [Q1n,hput] using hw
    rw [Q6k p a ht,Q6k p b ht,Qai p s ht,← e2,← e3]
    refine h.eq.set hs.len h.ga.regs h.gb.regs _ fun e=>?_
    split
    ·exact h.mem.pub _ (by rw [s1];exact e)
    ·rfl
   ·rw [Qgn p s hput]
    cases ht:Q1z p i a
    ·rw [Q7k p a hput ht,Q7k p b hput (by rw [← e3];exact ht)]
     exact h.eq
    ·rw [Q4o p a hput ht,Q4o p b hput (by rw [← e3];exact ht)]
     exact h.eq
 ·cases hw:Q1n i
  ·rw [Q5r p a hw h7 h8 h9,Q5r p b hw h7 h8 h9]
   exact ⟨h.mem.1,h.mem.2,h.mem.3⟩
  ·obtain ⟨e1,e2,e3⟩:=Qag hok hq h hw
   have hc:=(Q35 hok hw).2
   obtain ⟨s1,s2,s3⟩:=Q82 hp hc (hin hw)
   cases hput:Q0s i
   ·have ht:Q0m i=true:=by simpa [Q1n,hput] using hw
    rw [Q6k p a ht,Q6k p b ht]
    exact ⟨h.mem.1,h.mem.2,h.mem.3⟩
   ·cases ht:Q1z p i a
    ·rw [Q7k p a hput ht,Q7k p b hput (by rw [← e3];exact ht)]
     exact ⟨h.mem.1,h.mem.2,h.mem.3⟩
    ·rw [Q4o p a hput ht,Q4o p b hput (by rw [← e3];exact ht),← e2]
     have hA:secW p (Q0y p i a).toNat=false→rg a.regs i.a=rg b.regs i.a:=fun e=>by
      rw [s1] at e
      obtain ⟨g1,g2,g10,g3,g5,g8,g9,g11,go,g7,gop⟩:=Q2e hok
      have hop:i.op=4∨i.op=6:=by simpa [Q0s] using hput
      rcases hop with o | o
      ·refine h.eq.at_ (g3 (.inr o)).1 ?_
       simp [Q0t,o,e] at hq
       exact hq.2
      ·refine h.eq.at_ (g5 (.inr o)) ?_
       simpa [Q0t,o,e] using hq
     refine ⟨fun n e=>?_,fun n=>?_,fun n e=>?_⟩
     ·simp only
      rw [Q20,Q20,h.ga.words,h.gb.words]
      split
      ·rename_i hh;exact hA (by rw [← hh.1];exact e)
      ·exact h.mem.pub n e
     ·simp only
      rw [Q6l,Q6l,h.ga.past,h.gb.past]
      split
      ·rw [List.length_append,List.length_append,h.mem.plen];rfl
      ·exact h.mem.plen n
     ·simp only
      rw [Q6l,Q6l,h.ga.past,h.gb.past]
      split
      ·rename_i hh
       rw [← hh.1,h.mem.ppub n e,h.mem.pub n e]
      ·exact h.mem.ppub n e
theorem Qoc {p:Q00} {s:KSt} {a b:Plc} {i:LIns} (hp:Q02 p.regs=true) (hok:Q01 p 8 i=true) (hs:Sok s) (hq:Q0t p s i=true) (h:Pair p s a b) (hin:Q1n i=true→Q2v p i (Q1a a.regs i)=true)
  (ht:Q0m i=true) (c:Int):(Q1b p i a c=none∧Q1b p i b c=none)∨∃ x y,Q1b p i a c=some x∧Q1b p i b c=some y∧Pair p (oneK p s i) x y∧x.at_=a.at_+1∧y.at_=b.at_+1:=by
 have hw:Q1n i=true:=by simp [Q1n,ht]
 have hop:i.op=3∨i.op=5:=by simpa [Q0m] using ht
 obtain ⟨e1,e2,e3⟩:=Qag hok hq h hw
 have hc:=(Q35 hok hw).2
 obtain ⟨s1,s2,s3⟩:=Q82 hp hc (hin hw)
 have hl:=h.mem.plen (Q0y p i a).toNat
 have wa:Q1b p i a c=if 0 < c∧c≤(a.past.getD (Q0y p i a).toNat []).length∧Q1z p i a=true then
   some { a with at_:=a.at_+1,regs:=rset (rset a.regs i.a (a.words.getD (Q0y p i a).toNat 0)) i.a ((a.past.getD (Q0y p i a).toNat []).getD ((a.past.getD (Q0y p i a).toNat []).length - c.toNat) 0) } else none:=by
  unfold Q1b
  rw [if_neg (by omega),ht]
  cases Q1z p i a
  ·rw [if_neg (by simp),if_neg (by simp)]
  ·rw [if_pos (by simp)]
   by_cases hcc:0 < c∧c≤(a.past.getD (Q0y p i a).toNat []).length
   ·rw [if_pos hcc,if_pos ⟨hcc.1,hcc.2,rfl⟩]
   ·rw [if_neg hcc,if_neg (by rintro ⟨q1,q2,-⟩;exact hcc ⟨q1,q2⟩)]
 have wb:Q1b p i b c=if 0 < c∧c≤(a.past.getD (Q0y p i a).toNat []).length∧Q1z p i a=true then
   some { b with at_:=b.at_+1,regs:=rset (rset b.regs i.a (b.words.getD (Q0y p i a).toNat 0)) i.a ((b.past.getD (Q0y p i a).toNat []).getD ((a.past.getD (Q0y p i a).toNat []).length - c.toNat) 0) } else none:=by
  unfold Q1b
  rw [if_neg (by omega),ht,← e2,← e3,← hl]
  cases Q1z p i a
  ·rw [if_neg (by simp),if_neg (by simp)]
  ·rw [if_pos (by simp)]
   by_cases hcc:0 < c∧c≤(a.past.getD (Q0y p i a).toNat []).length
   ·rw [if_pos hcc,if_pos ⟨hcc.1,hcc.2,rfl⟩]
   ·rw [if_neg hcc,if_neg (by rintro ⟨q1,q2,-⟩;exact hcc ⟨q1,q2⟩)]
 by_cases hcc:0 < c∧c≤(a.past.getD (Q0y p i a).toNat []).length∧Q1z p i a=true
 ·rw [if_pos hcc] at wa wb
  refine .inr ⟨_,_,wa,wb,⟨Qid hs h.ga ht wa,Qid hs h.gb ht wb,?_,⟨h.mem.1,h.mem.2,h.mem.3⟩⟩,rfl,rfl⟩
  rw [Qai p s ht]
  have e:∀ (r:List Int) (u v:Int),rset (rset r i.a u) i.a v=rset r i.a v:=fun r u v=>by simp [rset]
  simp only [e]
  refine h.eq.set hs.len h.ga.regs h.gb.regs _ fun es=>?_
  rw [h.mem.ppub _ (by rw [s1];exact es)]
 ·rw [if_neg hcc] at wa wb
  exact .inl ⟨wa,wb⟩
theorem Qgg {p:Q00} {s:KSt} {a b:Plc} {i:LIns} (hok:Q01 p 8 i=true) (hs:Sok s) (hq:Q0t p s i=true) (h:Pair p s a b) (h8:i.op=8) :
  Q3d i.c (rg a.regs i.a) (rg a.regs i.b)=Q3d i.c (rg b.regs i.a) (rg b.regs i.b)∧Pair p (Q16 s i (Q3d i.c (rg a.regs i.a) (rg a.regs i.b))) a b:=by
 obtain ⟨g1,g2,g10,g3,g5,g8,g9,g11,go,g7,gop⟩:=Q2e hok
 obtain ⟨ha,hb,-,-⟩:=g8 h8
 have hq':(kg s i.a).sec=false∧(kg s i.b).sec=false:=by
  simpa [Q0t,h8] using hq
 have e:=h.eq.at_ ha hq'.1
 have f:=h.eq.at_ hb hq'.2
 have eh:Q3d i.c (rg a.regs i.a) (rg a.regs i.b)=Q3d i.c (rg b.regs i.a) (rg b.regs i.b):=by rw [e,f]
 refine ⟨eh,?_,?_,?_,h.mem⟩
 ·exact ⟨h.ga.regs,h.ga.r64,Qfi (p:=p) ha hb hs h.ga.regs h.ga.r64 h.ga.sat,h.ga.words,h.ga.w64,h.ga.past,h.ga.p64⟩
 ·rw [eh]
  exact ⟨h.gb.regs,h.gb.r64,Qfi (p:=p) ha hb hs h.gb.regs h.gb.r64 h.gb.sat,h.gb.words,h.gb.w64,h.gb.past,h.gb.p64⟩
 ·simp only [Q16]
  have h1:EqP (if Q3i i.c (Q3d i.c (rg a.regs i.a) (rg a.regs i.b)) then kset s i.a (Q0r (kg s i.a) (kg s i.b)) else s) a.regs b.regs:=by
   split
   ·exact h.eq.know hs.len _ rfl
   ·exact h.eq
  split
  ·refine EqP.know h1 (by split <;> simp [kset,hs.len]) _ ?_
   show (kg s i.b).sec=_
   split
   ·unfold kg
    rw [Q5j]
    split
    ·rename_i e2
     show _=(kg s i.a).sec
     unfold kg
     rw [e2.1]
    ·rfl
   ·rfl
  ·exact h1
structure Q3r (p:Q00) (T:Tab):Prop where
 may:Q36 p=true
 n64:∀ i ∈ p.code,R64 i.n
 post:Post p T
 none_:(Q22 p T).1=0
theorem Qi4 {p:Q00} {k:Nat} {i:LIns} (h:p.code[k]? = some i):Q0d p k=i:=by
 unfold Q0d
 rw [List.getD_eq_getElem?_getD,h];rfl
theorem Q9t {p:Q00} {T:Tab} (h:Tok p T) {k:Nat} {s:KSt} (hk:tg T k=some s):k < p.code.length:=by
 rcases Nat.lt_or_ge k p.code.length with h1 | h1
 ·exact h1
 ·unfold tg at hk
  rw [List.getD_eq_getElem?_getD,List.getElem?_eq_none (by rw [h.len];omega)] at hk
  simp at hk
section
variable {p : Q00} {T : Tab} {k : Nat} {s : KSt} {i : LIns}
theorem Q3r.ins (h:Q3r p T) (hi:p.code[k]? = some i):Q01 p 8 i=true∧R64 i.n:=by
 have hm:=List.mem_of_getElem? hi
 exact ⟨(Q6a h.may).2.2.2 i hm,h.n64 i hm⟩
theorem Q3r.faults (h:Q3r p T) (hk:tg T k=some s) (hi:p.code[k]? = some i):Q1d p k s i=true∧Q0t p s i=true:=by
 have:=Qse h.post.tok.len h.none_ k s hk
 rw [Qi4 hi] at this
 exact this
theorem Q3r.led (h:Q3r p T) (hk:tg T k=some s) (hi:p.code[k]? = some i) {x:Nat × KSt} (hx:x ∈ Q0f p k s i):x.1 < p.code.length→∃ t,tg T x.1=some t∧Sle x.2 t:=by
 have:=h.post.leads k s hk
 rw [Qi4 hi] at this
 exact this x hx
theorem Q3r.inside (h:Q3r p T) (hk:tg T k=some s) (hi:p.code[k]? = some i) {r:List Int} (hs:Sat s r) (hw:Q1n i=true):Q2v p i (Q1a r i)=true:=by
 obtain ⟨hb,hq⟩:=h.faults hk hi
 obtain ⟨hok,hn⟩:=h.ins hi
 obtain ⟨g1,g2,g10,g3,g5,g8,g9,g11,go,g7,gop⟩:=Q2e hok
 have hregs:=(Q6a h.may).1
 have hc:=Q35 hok hw
 have hlog:=Q66 hregs (Q0c p i) (by unfold Q0c;simp [hc.2])
 have hop:=Q7f hw
 by_cases e:i.op=3∨i.op=4
 ·unfold Q1d at hb
  rw [if_neg (by omega),if_pos e] at hb
  simp only [Bool.and_eq_true,decide_eq_true_eq] at hb
  exact Qrt hs (g3 e).2 (h.post.tok.ok k s hk) e hb.1.2 hb.2 hlog.2
 ·have e5:i.op=5∨i.op=6:=by omega
  have:Q1a r i=i.n:=by unfold Q1a;rw [if_pos e5]
  rw [this]
  simp only [Q01] at hok
  rw [if_neg (by omega),if_neg (by omega),if_neg (by omega),if_neg (by omega),if_pos e5] at hok
  simp only [okIn,Bool.and_eq_true,decide_eq_true_eq] at hok
  simp only [Q2v,Bool.and_eq_true,decide_eq_true_eq]
  unfold Q0c
  exact hok.2
theorem Q3r.next (h:Q3r p T) (hk:tg T k=some s) (hi:p.code[k]? = some i) (h7:i.op≠7) (h9:i.op≠9):k+1 < p.code.length:=by
 obtain ⟨hb,hq⟩:=h.faults hk hi
 have hlt:=Q9t h.post.tok hk
 have:Q2k p k=false:=by
  unfold Q1d at hb
  rw [if_neg (by omega)] at hb
  split at hb
  ·simp only [Bool.and_eq_true] at hb;simpa using hb.1.1
  ·simpa using hb
 simp only [Q2k,decide_eq_false_iff_not] at this
 omega
end
def PP (p:Q00) (T:Tab) (a b:Plc):Prop:=a.at_=b.at_∧∃ s,tg T a.at_=some s∧Pair p s a b
theorem PP.to {p:Q00} {T:Tab} (h:Q3r p T) {k:Nat} {s s':KSt} {i:LIns} (hk:tg T k=some s) (hi:p.code[k]? = some i) {a b:Plc} {n:Nat} (hx:(n,s') ∈ Q0f p k s i) (hn:n < p.code.length) (hP:Pair p s' a b) (ha:a.at_=n) (hb:b.at_=n):PP p T a b:=by
 obtain ⟨t,ht,hl⟩:=h.led hk hi hx hn
 refine ⟨by rw [ha,hb],t,by rw [ha];exact ht,hP.mono ?_ (h.post.tok.ok _ _ ht) hl⟩
 exact Q8d p k (h.post.tok.ok k s hk) i _ hx
theorem Qie {p:Q00} {ws:List Int} (hl:ws.length=Q14 p) (hw:∀ x ∈ ws,R64 x):Good p Q32 ⟨List.replicate 10 0,ws,List.replicate ws.length [],0⟩:=by
 have hz:∀ n:Nat,(List.replicate 10 (0:Int)).getD n 0=0:=fun n=>by
  rw [List.getD_eq_getElem?_getD,List.getElem?_replicate]
  split <;> rfl
 have hp:∀ n:Nat,(List.replicate ws.length ([]:List Int)).getD n []=[]:=fun n=>by
  rw [List.getD_eq_getElem?_getD,List.getElem?_replicate]
  split <;> rfl
 refine ⟨by simp,fun n=>?_,fun j _=>?_,hl,fun n=>?_,by simp [hl],fun n m=>?_⟩
 ·simp only [hz];exact Q67
 ·simp only [hz];exact Qhp _
 ·simp only
  rw [List.getD_eq_getElem?_getD]
  by_cases h:n < ws.length
  ·simpa [h] using hw _ (List.getElem_mem h)
  ·simpa [h] using Q67
 ·simp only [hp];simpa using Q67
theorem Qod {p:Q00} {ws wt:List Int} (hl:ws.length=Q14 p) (hm:wt.length=Q14 p) (hw:∀ x ∈ ws,R64 x) (hv:∀ x ∈ wt,R64 x) (hp:Pub p ws wt) :
  Pair p Q32 ⟨List.replicate 10 0,ws,List.replicate ws.length [],0⟩ ⟨List.replicate 10 0,wt,List.replicate wt.length [],0⟩ :=
 ⟨Qie hl hw,Qie hm hv,fun _ _ _=>rfl,⟨hp,fun n=>by simp only;rw [hl,hm],fun n _=>by simp only;rw [hl,hm]⟩⟩
end Go.Proofs.Yteiknefajlocoaa
