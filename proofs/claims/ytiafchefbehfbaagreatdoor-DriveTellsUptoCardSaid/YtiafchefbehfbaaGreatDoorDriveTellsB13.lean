/- Laid together from: Own. -/
import Derived.Test.YtiafchefbehfbaaGreatDoorDriveTellsB11
import Derived.OwnWalk

namespace Go.Proofs.YtiafchefbehfbaaGreatDoor
open Go.RowKit
set_option linter.unusedVariables false
set_option linter.unusedSimpArgs false
def Q6e (w:World) (v:Value) (l:List Int):Prop :=
 (∀ x ∈ l,0≤x∧x < 4294967296)∧∃ oa cap b o,v=.slice oa l.length cap∧l.length≤cap∧cap≤maxLen∧Rows w oa b o l.length 1 fun i _=>.int .u32 (l.getD i default)
theorem Q6e.ext {w w':World} {v:Value} {l:List Int} (h:Q6e w v l) (hx:Ext w w'):Q6e w' v l:=by
 obtain ⟨h0,oa,cap,b,o,h1,h2,h3,h4⟩:=h
 exact ⟨h0,oa,cap,b,o,h1,h2,h3,h4.ext hx⟩
def Q21 (i:LIns):List Value:=[.int .i64 i.op,.int .i64 i.a,.int .i64 i.b,.int .i64 i.c,.int .i64 i.n]
def Q40 (r:LReg):List Value:=[.int .i64 r.log,.bool r.secret]
theorem Qc7 {α:Type} [Inhabited α] (f:α→List Value) (c:Nat) (hf:∀ x,(f x).length=c):∀ (l:List α) (i j:Nat),i < l.length→j < c→(l.flatMap f)[i * c+j]? = (f (l.getD i default))[j]?
 | [],i,j,h,_=>by simp at h
 | x :: l,0,j,_,hj=>by
  rw [List.flatMap_cons,Nat.zero_mul,Nat.zero_add,List.getElem?_append_left (by rw [hf];exact hj)]
  rfl
 | x :: l,i+1,j,h,hj=>by
  rw [List.flatMap_cons,List.getElem?_append_right (by rw [hf,Nat.succ_mul];omega),hf,show (i+1) * c+j - c=i * c+j by rw [Nat.succ_mul];omega]
  simp only [List.getD_cons_succ]
  exact Qc7 f c hf l i j (by simpa using h) hj
theorem Qew {α:Type} (f:α→List Value) (c:Nat) (hf:∀ x,(f x).length=c) (l:List α):(l.flatMap f).length=l.length * c:=by
 induction l with
 | nil=>simp
 | cons x l ih=>rw [List.flatMap_cons,List.length_append,hf,ih,List.length_cons,Nat.succ_mul];omega
theorem Q7j {α:Type} [Inhabited α] {w:World} {base:Nat} {e:TypeId} {c:Nat} {v:Value} {l:List α} {f:α→List Value} {g:α→Nat→Value} (hc:0 < c) (hf:∀ x,(f x).length=c) (hg:∀ x j,j < c→(f x)[j]? = some (g x j))
  (h:w.ownsRow base e c v l.length (l.flatMap f)):∃ oa cap b,v=.slice oa l.length cap∧l.length≤cap∧cap≤maxLen∧Rows w oa b 0 l.length c (fun i=>g (l.getD i default))∧(l≠[]→base≤b):=by
 have h':=h
 obtain ⟨h0,⟨rfl,hn⟩ | ⟨k,cap,cur,rfl,hb,hh,h1,h2,h3,h4⟩⟩:=h
 ·exact ⟨none,0,0,by rw [hn],by omega,by decide,⟨fun hh=>by omega,fun i j hi hj=>by omega⟩,fun hne=>absurd (List.length_eq_zero_iff.1 hn) hne⟩
 ·refine ⟨_,cap,k,rfl,h1,h2,⟨fun _=>rfl,fun i j hi hj=>?_⟩,fun _=>hb⟩
  have hlt:i * c+j < l.length * c:=by
   have:(i+1) * c≤l.length * c:=Nat.mul_le_mul_right c hi
   rw [Nat.succ_mul] at this
   omega
  rw [Nat.zero_add,World.ownsRow.cellAt h' (i * c+j) hlt,Qc7 f c hf l i j hi hj,hg _ _ hj]
theorem Qt2 (i:LIns) (j:Nat) (hj:j < 5):(Q21 i)[j]? = some (Q1e i j):=by
 rcases (show j=0∨j=1∨j=2∨j=3∨j=4 by omega) with rfl | rfl | rfl | rfl | rfl <;> rfl
theorem Qh7 (r:LReg) (j:Nat) (hj:j < 2):(Q40 r)[j]? = some (Q2v r j):=by
 rcases (show j=0∨j=1 by omega) with rfl | rfl <;> rfl
theorem Qcd {w:World} {base:Nat} {e:TypeId} {v:Value} {l:List LIns} (h:w.ownsRow base e 5 v l.length (l.flatMap Q21)) (hl:∀ i ∈ l,i.fits):Q9t w v l:=by
 obtain ⟨oa,cap,b,h1,h2,h3,h4,-⟩:=Q7j (c:=5) (f:=Q21) (g:=Q1e) (by omega) (fun _=>rfl) Qt2 h
 exact ⟨hl,oa,cap,b,0,h1,h2,h3,h4⟩
theorem Qdf {w:World} {base:Nat} {e:TypeId} {v:Value} {l:List LReg} (h:w.ownsRow base e 2 v l.length (l.flatMap Q40)) (hl:∀ r ∈ l,R64 r.log):Q6g w v l:=by
 obtain ⟨oa,cap,b,h1,h2,h3,h4,-⟩:=Q7j (c:=2) (f:=Q40) (g:=Q2v) (by omega) (fun _=>rfl) Qh7 h
 exact ⟨hl,oa,cap,b,0,h1,h2,h3,h4⟩
theorem Qc6 (k:IntKind) (l:List Int):l.flatMap (fun x=>[Value.int k x])=l.map (Value.int k):=by
 induction l with
 | nil=>rfl
 | cons x l ih=>rw [List.flatMap_cons,ih];rfl
theorem Qlz {w:World} {base:Nat} {e:TypeId} {v:Value} {l:List Int} (h:w.ownsRow base e 1 v l.length (l.map (Value.int .u32))) (hl:∀ x ∈ l,0≤x∧x < 4294967296):Q6e w v l:=by
 rw [← Qc6] at h
 obtain ⟨oa,cap,b,h1,h2,h3,h4,-⟩:=Q7j (c:=1) (f:=fun x=>[Value.int .u32 x]) (g:=fun x _=>Value.int .u32 x) (by omega) (fun _=>rfl) (fun x j hj=>by
  obtain rfl:j=0:=by omega
  rfl) h
 exact ⟨hl,oa,cap,b,0,h1,h2,h3,h4⟩
theorem Q32 {w:World} {base:Nat} {e:TypeId} {v:Value} {l:List Int} (h:w.ownsRow base e 1 v l.length (l.map (Value.int .i64))) (hl:∀ x ∈ l,R64 x):Q2z w v l:=by
 rw [← Qc6] at h
 obtain ⟨oa,cap,b,h1,h2,h3,h4,-⟩:=Q7j (c:=1) (f:=fun x=>[Value.int .i64 x]) (g:=fun x _=>Value.int .i64 x) (by omega) (fun _=>rfl) (fun x j hj=>by
  obtain rfl:j=0:=by omega
  rfl) h
 exact ⟨hl,oa,cap,b,0,h1,h2,h3,h4⟩
end Go.Proofs.YtiafchefbehfbaaGreatDoor
