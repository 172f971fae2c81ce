/- Laid together from: Own. -/
import Derived.Test.YtiafchefbehfbaaGreatDoorDriveOnB11
import Derived.OwnWalk

namespace Go.Proofs.YtiafchefbehfbaaGreatDoor
open Go.RowKit
set_option linter.unusedVariables false
set_option linter.unusedSimpArgs false
def Q5z (w:World) (v:Value) (l:List Int):Prop :=
 (∀ x ∈ l,0≤x∧x < 4294967296)∧∃ oa cap b o,v=.slice oa l.length cap∧l.length≤cap∧cap≤maxLen∧Rows w oa b o l.length 1 fun i _=>.int .u32 (l.getD i default)
theorem Q5z.ext {w w':World} {v:Value} {l:List Int} (h:Q5z w v l) (hx:Ext w w'):Q5z w' v l:=by
 obtain ⟨h0,oa,cap,b,o,h1,h2,h3,h4⟩:=h
 exact ⟨h0,oa,cap,b,o,h1,h2,h3,h4.ext hx⟩
def Q1l (i:LIns):List Value:=[.int .i64 i.op,.int .i64 i.a,.int .i64 i.b,.int .i64 i.c,.int .i64 i.n]
def Q3k (r:LReg):List Value:=[.int .i64 r.log,.bool r.secret]
theorem Qbc {α:Type} [Inhabited α] (f:α→List Value) (c:Nat) (hf:∀ x,(f x).length=c):∀ (l:List α) (i j:Nat),i < l.length→j < c→(l.flatMap f)[i * c+j]? = (f (l.getD i default))[j]?
 | [],i,j,h,_=>by simp at h
 | x :: l,0,j,_,hj=>by
  rw [List.flatMap_cons,Nat.zero_mul,Nat.zero_add,List.getElem?_append_left (by rw [hf];exact hj)]
  rfl
 | x :: l,i+1,j,h,hj=>by
  rw [List.flatMap_cons,List.getElem?_append_right (by rw [hf,Nat.succ_mul];omega),hf,show (i+1) * c+j - c=i * c+j by rw [Nat.succ_mul];omega]
  simp only [List.getD_cons_succ]
  exact Qbc f c hf l i j (by simpa using h) hj
theorem Qdt {α:Type} (f:α→List Value) (c:Nat) (hf:∀ x,(f x).length=c) (l:List α):(l.flatMap f).length=l.length * c:=by
 induction l with
 | nil=>simp
 | cons x l ih=>rw [List.flatMap_cons,List.length_append,hf,ih,List.length_cons,Nat.succ_mul];omega
theorem Q6z {α:Type} [Inhabited α] {w:World} {base:Nat} {e:TypeId} {c:Nat} {v:Value} {l:List α} {f:α→List Value} {g:α→Nat→Value} (hc:0 < c) (hf:∀ x,(f x).length=c) (hg:∀ x j,j < c→(f x)[j]? = some (g x j))
  (h:w.ownsRow base e c v l.length (l.flatMap f)):∃ oa cap b,v=.slice oa l.length cap∧l.length≤cap∧cap≤maxLen∧Rows w oa b 0 l.length c (fun i=>g (l.getD i default))∧(l≠[]→base≤b):=by
 have h':=h
 obtain ⟨h0,⟨rfl,hn⟩ | ⟨k,cap,cur,rfl,hb,hh,h1,h2,h3,h4⟩⟩:=h
 ·exact ⟨none,0,0,by rw [hn],by omega,by decide,⟨fun hh=>by omega,fun i j hi hj=>by omega⟩,fun hne=>absurd (List.length_eq_zero_iff.1 hn) hne⟩
 ·refine ⟨_,cap,k,rfl,h1,h2,⟨fun _=>rfl,fun i j hi hj=>?_⟩,fun _=>hb⟩
  have hlt:i * c+j < l.length * c:=by
   have:(i+1) * c≤l.length * c:=Nat.mul_le_mul_right c hi
   rw [Nat.succ_mul] at this
   omega
  rw [Nat.zero_add,World.ownsRow.cellAt h' (i * c+j) hlt,Qbc f c hf l i j hi hj,hg _ _ hj]
theorem Qrl (i:LIns) (j:Nat) (hj:j < 5):(Q1l i)[j]? = some (Q18 i j):=by
 rcases (show j=0∨j=1∨j=2∨j=3∨j=4 by omega) with rfl | rfl | rfl | rfl | rfl <;> rfl
theorem Qg4 (r:LReg) (j:Nat) (hj:j < 2):(Q3k r)[j]? = some (Q2c r j):=by
 rcases (show j=0∨j=1 by omega) with rfl | rfl <;> rfl
theorem Qbi {w:World} {base:Nat} {e:TypeId} {v:Value} {l:List LIns} (h:w.ownsRow base e 5 v l.length (l.flatMap Q1l)) (hl:∀ i ∈ l,i.fits):Q8z w v l:=by
 obtain ⟨oa,cap,b,h1,h2,h3,h4,-⟩:=Q6z (c:=5) (f:=Q1l) (g:=Q18) (by omega) (fun _=>rfl) Qrl h
 exact ⟨hl,oa,cap,b,0,h1,h2,h3,h4⟩
theorem Qce {w:World} {base:Nat} {e:TypeId} {v:Value} {l:List LReg} (h:w.ownsRow base e 2 v l.length (l.flatMap Q3k)) (hl:∀ r ∈ l,R64 r.log):Q60 w v l:=by
 obtain ⟨oa,cap,b,h1,h2,h3,h4,-⟩:=Q6z (c:=2) (f:=Q3k) (g:=Q2c) (by omega) (fun _=>rfl) Qg4 h
 exact ⟨hl,oa,cap,b,0,h1,h2,h3,h4⟩
theorem Qbb (k:IntKind) (l:List Int):l.flatMap (fun x=>[Value.int k x])=l.map (Value.int k):=by
 induction l with
 | nil=>rfl
 | cons x l ih=>rw [List.flatMap_cons,ih];rfl
theorem Qk6 {w:World} {base:Nat} {e:TypeId} {v:Value} {l:List Int} (h:w.ownsRow base e 1 v l.length (l.map (Value.int .u32))) (hl:∀ x ∈ l,0≤x∧x < 4294967296):Q5z w v l:=by
 rw [← Qbb] at h
 obtain ⟨oa,cap,b,h1,h2,h3,h4,-⟩:=Q6z (c:=1) (f:=fun x=>[Value.int .u32 x]) (g:=fun x _=>Value.int .u32 x) (by omega) (fun _=>rfl) (fun x j hj=>by
  obtain rfl:j=0:=by omega
  rfl) h
 exact ⟨hl,oa,cap,b,0,h1,h2,h3,h4⟩
theorem Q2m {w:World} {base:Nat} {e:TypeId} {v:Value} {l:List Int} (h:w.ownsRow base e 1 v l.length (l.map (Value.int .i64))) (hl:∀ x ∈ l,R64 x):Q2z w v l:=by
 rw [← Qbb] at h
 obtain ⟨oa,cap,b,h1,h2,h3,h4,-⟩:=Q6z (c:=1) (f:=fun x=>[Value.int .i64 x]) (g:=fun x _=>Value.int .i64 x) (by omega) (fun _=>rfl) (fun x j hj=>by
  obtain rfl:j=0:=by omega
  rfl) h
 exact ⟨hl,oa,cap,b,0,h1,h2,h3,h4⟩
end Go.Proofs.YtiafchefbehfbaaGreatDoor
