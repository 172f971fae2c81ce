/- Laid together from: FenceP, FenL, Ref6P, PubL. -/
import Derived.Test.YtmfgckfflkddcaaFenceQuietB13
import Derived.Test.YtmfgckfflkddcaaFenceQuietB6
import Derived.Test.YtmfgckfflkddcaaFenceQuietB5

namespace Go.Proofs.Ytmfgckfflkddcaa
open Go.RowKit
set_option linter.unusedSimpArgs false
set_option linter.unusedVariables false
def fenI : LIns := ⟨12, 0, 0, 0, 0⟩
def blockF (i : LIns) : List LIns := if i.op = 8 then [i, fenI] else [i]
def placeF (p : LProg) (k : Nat) : Nat := plc blockF p.code k
def rawF (p : LProg) : Nat := (p.code.flatMap blockF).length
def trampF (p : LProg) (i : LIns) : List LIns := if i.op = 8 then [fenI, ⟨7, 0, 0, 0, (placeF p i.n.toNat : Nat)⟩] else []
def otherF (p : LProg) (k : Nat) : Nat := rawF p + plc (trampF p) p.code k
def relF (p : LProg) (k : Nat) (i : LIns) : LIns := if i.op = 7 then { i with n := (placeF p i.n.toNat : Nat) } else if i.op = 8 then { i with n := (otherF p k : Nat) } else i
def mainF (p : LProg) : List LIns := p.code.zipIdx.flatMap fun x => blockF (relF p x.2 x.1)
def fenceP (p : LProg) : LProg := ⟨p.regs, mainF p ++ p.code.flatMap (trampF p)⟩
theorem relF_op (p : LProg) (k : Nat) (i : LIns) : (relF p k i).op = i.op ∧ (relF p k i).a = i.a ∧ (relF p k i).b = i.b ∧ (relF p k i).c = i.c := by
  unfold relF
  split
  · simp
  · split <;> simp
theorem relF_other {p : LProg} {k : Nat} {i : LIns} (h7 : i.op ≠ 7) (h8 : i.op ≠ 8) : relF p k i = i := by
  unfold relF; rw [if_neg h7, if_neg h8]
theorem blockF_len (i : LIns) : (blockF i).length = if i.op = 8 then 2 else 1 := by unfold blockF; split <;> rfl
theorem blockF_ne (i : LIns) : blockF i ≠ [] := by unfold blockF; split <;> simp
theorem zip_get {p : LProg} {k : Nat} {i : LIns} (h : p.code[k]? = some i) : p.code.zipIdx[k]? = some (i, k) := by
  rw [List.getElem?_zipIdx, h]; simp
theorem place_zip (p : LProg) : ∀ k, plc (fun x : LIns × Nat => blockF (relF p x.2 x.1)) p.code.zipIdx k = placeF p k
  | 0 => by rw [plc_zero]; exact (plc_zero _ _).symm
  | k + 1 => by
    rcases Nat.lt_or_ge k p.code.length with h | h
    · have hi := List.getElem?_eq_getElem h
      have e1 := plc_succ (fun x : LIns × Nat => blockF (relF p x.2 x.1)) p.code.zipIdx (zip_get hi)
      have e2 := plc_succ blockF p.code hi
      have ih := place_zip p k
      unfold placeF at ih ⊢
      rw [e1, e2, ih, blockF_len, blockF_len, (relF_op p k _).1]
    · have e1 : plc (fun x : LIns × Nat => blockF (relF p x.2 x.1)) p.code.zipIdx (k + 1) = plc (fun x : LIns × Nat => blockF (relF p x.2 x.1)) p.code.zipIdx k := by
        rw [plc_all _ _ (by simp; omega), plc_all _ _ (by simp; omega)]
      have e2 : plc blockF p.code (k + 1) = plc blockF p.code k := by
        rw [plc_all _ _ (by omega), plc_all _ _ (by omega)]
      have ih := place_zip p k
      unfold placeF at ih ⊢
      rw [e1, e2, ih]
theorem main_len (p : LProg) : (mainF p).length = rawF p := by
  have h := place_zip p p.code.length
  unfold placeF at h
  rw [plc_all _ _ (by simp), plc_all _ _ (Nat.le_refl _)] at h
  exact h
theorem placeF_le (p : LProg) (k : Nat) : placeF p k ≤ rawF p := by
  have h := plc_mono blockF p.code (show k ≤ max k p.code.length by omega)
  rw [plc_all blockF p.code (show p.code.length ≤ max k p.code.length by omega)] at h
  exact h
theorem placeF_lt {p : LProg} {k : Nat} (h : k < p.code.length) : placeF p k < rawF p := plc_lt _ blockF_ne _ h
theorem placeF_succ {p : LProg} {k : Nat} {i : LIns} (h : p.code[k]? = some i) : placeF p (k + 1) = placeF p k + if i.op = 8 then 2 else 1 := by
  have := plc_succ blockF p.code h
  rw [blockF_len] at this
  exact this
theorem fence_len (p : LProg) : (fenceP p).code.length = rawF p + (p.code.flatMap (trampF p)).length := by
  simp [fenceP, main_len]
theorem fence_le (p : LProg) : (fenceP p).code.length ≤ 4 * p.code.length := by
  rw [fence_len]
  have h1 := flat_le blockF 2 p.code fun x _ => by rw [blockF_len]; split <;> omega
  have h2 := flat_le (trampF p) 2 p.code fun x _ => by unfold trampF; split <;> simp
  unfold rawF
  omega
theorem main_get {p : LProg} {k : Nat} {i : LIns} (h : p.code[k]? = some i) (j : Nat) (hj : j < (blockF i).length) : (fenceP p).code[placeF p k + j]? = (blockF (relF p k i))[j]? := by
  have hl : (blockF (relF p k i)).length = (blockF i).length := by rw [blockF_len, blockF_len, (relF_op p k i).1]
  have h1 := flat_get (fun x : LIns × Nat => blockF (relF p x.2 x.1)) p.code.zipIdx (zip_get h) j (by simpa [hl] using hj)
  rw [place_zip] at h1
  have h2 := placeF_succ h
  have h3 := placeF_le p (k + 1)
  rw [blockF_len] at hj
  simp only [fenceP]
  rw [List.getElem?_append_left (by rw [main_len]; omega)]
  exact h1
theorem fence_ins {p : LProg} {k : Nat} {i : LIns} (h : p.code[k]? = some i) : (fenceP p).code[placeF p k]? = some (relF p k i) ∧ (i.op = 8 → (fenceP p).code[placeF p k + 1]? = some fenI) := by
  have h0 := main_get h 0 (by rw [blockF_len]; split <;> omega)
  refine ⟨?_, fun h8 => ?_⟩
  · rw [Nat.add_zero] at h0
    rw [h0]
    unfold blockF
    split <;> rfl
  · rw [main_get h 1 (by rw [blockF_len, if_pos h8]; omega)]
    unfold blockF
    rw [if_pos (by rw [(relF_op p k i).1]; exact h8)]
    rfl
theorem fence_other {p : LProg} {k : Nat} {i : LIns} (h : p.code[k]? = some i) (h8 : i.op = 8) : (fenceP p).code[otherF p k]? = some fenI ∧ (fenceP p).code[otherF p k + 1]? = some ⟨7, 0, 0, 0, (placeF p i.n.toNat : Nat)⟩ := by
  have e : trampF p i = [fenI, ⟨7, 0, 0, 0, (placeF p i.n.toNat : Nat)⟩] := by unfold trampF; rw [if_pos h8]
  have g := fun j hj => flat_get (trampF p) p.code h j (by rw [e]; exact hj)
  simp only [e] at g
  have m : ∀ j x, (p.code.flatMap (trampF p))[plc (trampF p) p.code k + j]? = some x → (fenceP p).code[otherF p k + j]? = some x := by
    intro j x hx
    simp only [fenceP]
    unfold otherF
    rw [List.getElem?_append_right (by rw [main_len]; omega), main_len, show rawF p + plc (trampF p) p.code k + j - rawF p = plc (trampF p) p.code k + j by omega]
    exact hx
  exact ⟨by simpa using m 0 _ (by simpa using g 0 (by simp)), m 1 _ (by simpa using g 1 (by simp))⟩
theorem fence_hard {p : LProg} (hm : mayOk p = true) : hardOk (fenceP p) = true := by
  obtain ⟨m1, m2, m3, m4⟩ := may_parts hm
  have hl := fence_le p
  have hpos := placeF_lt (p := p) (k := 0) (by omega)
  have hfl := fence_len p
  have hfen : insOk (fenceP p) 10 fenI = true := by simp [insOk, okIn, fenI]
  simp only [hardOk, progOk, Bool.and_eq_true, decide_eq_true_eq, List.all_eq_true]
  refine ⟨⟨⟨m1, by omega⟩, by omega⟩, fun x hx => ?_⟩
  have hx' : x ∈ mainF p ∨ x ∈ p.code.flatMap (trampF p) := by simpa [fenceP] using hx
  rcases hx' with hx' | hx'
  · obtain ⟨⟨i, k⟩, hik, hxb⟩ := List.mem_flatMap.1 hx'
    have hk : p.code[k]? = some i := by
      have := List.mem_zipIdx_iff_getElem?.1 hik
      simpa using this
    have hi := m4 i (List.mem_of_getElem? hk)
    have hi10 := insOk_mono (S := 10) (by omega) hi
    obtain ⟨g1, g2, g10, g3, g5, g8, g9, g11, go, g7, gop⟩ := ins_regs hi
    have hrel : insOk (fenceP p) 10 (relF p k i) = true := by
      by_cases e7 : i.op = 7
      · have ht := placeF_lt (g7 (.inl e7)).2
        unfold relF
        rw [if_pos e7]
        simp only [insOk] at hi10 ⊢
        simp [e7, okIn] at hi10 ⊢; omega
      by_cases e8 : i.op = 8
      · have ht := (List.getElem?_eq_some_iff.1 (fence_other hk e8).1).1
        unfold relF
        rw [if_neg e7, if_pos e8]
        simp only [insOk] at hi10 ⊢
        simp [e8, okIn] at hi10 ⊢; omega
      rw [relF_other e7 e8]
      exact insOk_regs (p := p) (q := fenceP p) rfl hi10 (by omega)
    unfold blockF at hxb
    split at hxb
    · simp at hxb
      rcases hxb with rfl | rfl
      · exact hrel
      · exact hfen
    · simp at hxb
      subst hxb
      exact hrel
  · obtain ⟨i, hi, hxb⟩ := List.mem_flatMap.1 hx'
    unfold trampF at hxb
    split at hxb
    · rename_i h8
      have hi' := m4 i hi
      obtain ⟨g1, g2, g10, g3, g5, g8, g9, g11, go, g7, gop⟩ := ins_regs hi'
      have ht := placeF_lt (g7 (.inr h8)).2
      simp at hxb
      rcases hxb with rfl | rfl
      · exact hfen
      · simp [insOk, okIn]; omega
    · simp at hxb
inductive PosF (p : LProg) : Nat → Nat → Prop
  | at_ (k : Nat) : PosF p (placeF p k) k
  | fen (k : Nat) (i : LIns) (hi : p.code[k]? = some i) (h8 : i.op = 8) : PosF p (placeF p k + 1) (k + 1)
  | other (k : Nat) (i : LIns) (hi : p.code[k]? = some i) (h8 : i.op = 8) : PosF p (otherF p k) i.n.toNat
  | jump (k : Nat) (i : LIns) (hi : p.code[k]? = some i) (h8 : i.op = 8) : PosF p (otherF p k + 1) i.n.toNat
def INF (p : LProg) (T : Tab) (a b : Plc) : Prop := a.at_ = b.at_ ∧ ∃ k s, PosF p a.at_ k ∧ tg T k = some s ∧ Pair p s a b
def IAF (p : LProg) (T : Tab) (a b : Plc) : Prop := INF p T a b ∨ (a.at_ = b.at_ ∧ (fenceP p).code[a.at_]? = some fenI)
theorem INF.to {p : LProg} {T : Tab} (h : Sound p T) {k : Nat} {s s' : KSt} {i : LIns} (hk : tg T k = some s) (hi : p.code[k]? = some i) {a b : Plc} {n : Nat} (hx : (n, s') ∈ leadsK p k s i) (hn : n < p.code.length) (hP : Pair p s' a b) (hab : a.at_ = b.at_) (hpos : PosF p a.at_ n) : INF p T a b := by
  obtain ⟨t, ht, hl⟩ := h.led hk hi hx hn
  exact ⟨hab, n, t, hpos, ht, hP.mono (leadsK_ok p k (h.post.tok.ok k s hk) i _ hx) (h.post.tok.ok _ _ ht) hl⟩
theorem INF.keep {p : LProg} {T : Tab} {k : Nat} {s : KSt} (hk : tg T k = some s) {a b : Plc} (hP : Pair p s a b) {m n : Nat} (hmn : m = n) (hpos : PosF p m k) : INF p T { a with at_ := m } { b with at_ := n } := ⟨hmn, k, s, hpos, hk, hP.goTo _ _⟩
theorem fen_facts {p : LProg} (a : Plc) (c : Int) : usesC p fenI a = false ∧ seesP p fenI a = [] ∧ wrongP p fenI a c = none ∧ rightP p fenI a = { a with at_ := a.at_ + 1 } := by
  refine ⟨by simp [usesC, fenI, isTake], by simp [seesP, fenI], by simp [wrongP, fenI, isTake], by simp [rightP, fenI]⟩
theorem jmp_facts {p : LProg} (a : Plc) (c : Int) (n : Nat) : usesC p ⟨7, 0, 0, 0, (n : Nat)⟩ a = false ∧ seesP p ⟨7, 0, 0, 0, (n : Nat)⟩ a = [] ∧ wrongP p ⟨7, 0, 0, 0, (n : Nat)⟩ a c = none ∧ rightP p ⟨7, 0, 0, 0, (n : Nat)⟩ a = { a with at_ := n } := by
  refine ⟨by simp [usesC, isTake], by simp [seesP], by simp [wrongP, isTake], by simp [rightP]⟩
theorem pos_cases {p : LProg} {T : Tab} (S : Sound p T) {q k : Nat} {s : KSt} (h : PosF p q k) (hk : tg T k = some s) {x : LIns} (hx : (fenceP p).code[q]? = some x) :
    (∃ i, q = placeF p k ∧ p.code[k]? = some i ∧ x = relF p k i) ∨ (x = fenI ∧ PosF p (q + 1) k) ∨ x = ⟨7, 0, 0, 0, (placeF p k : Nat)⟩ := by
  cases h with
  | at_ =>
    have hl := tg_lt S.post.tok hk
    have hi := List.getElem?_eq_getElem hl
    rw [(fence_ins hi).1] at hx
    exact .inl ⟨_, rfl, hi, (Option.some.inj hx).symm⟩
  | fen k i hi h8 =>
    rw [(fence_ins hi).2 h8] at hx
    refine .inr (.inl ⟨(Option.some.inj hx).symm, ?_⟩)
    have := placeF_succ hi
    rw [if_pos h8] at this
    rw [show placeF p k + 1 + 1 = placeF p (k + 1) by omega]
    exact .at_ _
  | other k i hi h8 =>
    rw [(fence_other hi h8).1] at hx
    exact .inr (.inl ⟨(Option.some.inj hx).symm, .jump k i hi h8⟩)
  | jump k i hi h8 =>
    rw [(fence_other hi h8).2] at hx
    exact .inr (.inr (Option.some.inj hx).symm)
theorem relF_facts {p : LProg} (a : Plc) (k : Nat) (i : LIns) : usesC (fenceP p) (relF p k i) a = usesC p i a ∧ seesP (fenceP p) (relF p k i) a = seesP p i a ∧ isWord (relF p k i) = isWord i := by
  by_cases h7 : i.op = 7
  · have e : (relF p k i).op = 7 := by rw [(relF_op p k i).1, h7]
    exact ⟨by simp [usesC, e, h7, isTake], by simp [seesP, e, h7], by simp [isWord, isPut, isTake, e, h7]⟩
  by_cases h8 : i.op = 8
  · have e : (relF p k i).op = 8 := by rw [(relF_op p k i).1, h8]
    exact ⟨by simp [usesC, e, h8, isTake], by simp [seesP, e, h8], by simp [isWord, isPut, isTake, e, h8]⟩
  rw [relF_other h7 h8]
  exact ⟨rfl, rfl, rfl⟩
theorem wrongP_if (p : LProg) (a : Plc) {i : LIns} (h8 : i.op = 8) (c : Int) : wrongP p i a c = if c = 0 then none else some { a with at_ := if nholds i.c (rg a.regs i.a) (rg a.regs i.b) then a.at_ + 1 else i.n.toNat } := by
  unfold wrongP
  rw [if_pos h8]
theorem fence_sys {p : LProg} {T : Tab} (S : Sound p T) : Sys (fenceP p) (fun _ => True) (INF p T) (IAF p T) (Pub p) := by
  have hregs := (may_parts S.may).1
  have rightN : ∀ a b i, INF p T a b → (fenceP p).code[a.at_]? = some i → i.op ≠ 9 → INF p T (rightP (fenceP p) i a) (rightP (fenceP p) i b) := by
    rintro a b x ⟨hab, k, s, hpos, hk, hP⟩ hx h9
    rcases pos_cases S hpos hk hx with ⟨i, hq, hi, rfl⟩ | ⟨rfl, hpos'⟩ | rfl
    · obtain ⟨hok, hn⟩ := S.ins hi
      obtain ⟨hbd, hq'⟩ := S.faults hk hi
      obtain ⟨g1, g2, g10, g3, g5, g8, g9, g11, go, g7, gop⟩ := ins_regs hok
      have hS := S.post.tok.ok _ _ hk
      have asucc := placeF_succ hi
      rw [(relF_op p k i).1] at h9
      by_cases h7 : i.op = 7
      · have er : relF p k i = { i with n := (placeF p i.n.toNat : Nat) } := by unfold relF; rw [if_pos h7]
        rw [rightP_jump _ a (i := relF p k i) (by rw [er]; exact h7), rightP_jump _ b (i := relF p k i) (by rw [er]; exact h7), er]
        refine INF.to S hk hi (n := i.n.toNat) (s' := s) (by unfold leadsK; rw [if_pos h7]; simp) (g7 (.inl h7)).2 (hP.goTo _ _) rfl ?_
        simp only [Int.toNat_natCast]
        exact .at_ _
      · have hnx := S.next hk hi h7 h9
        by_cases h8 : i.op = 8
        · have er : relF p k i = { i with n := (otherF p k : Nat) } := by unfold relF; rw [if_neg h7, if_pos h8]
          obtain ⟨e, hB⟩ := pair_branch hok hS hq' hP h8
          rw [rightP_if _ a (i := relF p k i) (by rw [er]; exact h8), rightP_if _ b (i := relF p k i) (by rw [er]; exact h8), (relF_op p k i).2.1, (relF_op p k i).2.2.1, (relF_op p k i).2.2.2, ← e, er]
          have hl8 : (k + 1, branchK s i false) ∈ leadsK p k s i ∧ (i.n.toNat, branchK s i true) ∈ leadsK p k s i := by
            unfold leadsK; rw [if_neg h7, if_neg h9, if_pos h8]; simp
          generalize nholds i.c (rg a.regs i.a) (rg a.regs i.b) = hold at *
          cases hold
          · refine INF.to S hk hi hl8.1 hnx (hB.goTo _ _) (by simp [hab]) ?_
            simp only [Bool.false_eq_true, if_false]
            rw [hq]
            exact .fen k i hi h8
          · refine INF.to S hk hi hl8.2 (g7 (.inr h8)).2 (hB.goTo _ _) (by simp) ?_
            simp only [if_true, Int.toNat_natCast]
            exact .other k i hi h8
        · rw [relF_other h7 h8]
          have := pair_right hregs hok hn hS hq' hP (fun hw => S.inside hk hi hP.ga.sat hw) h7 h8 h9
          refine INF.to S hk hi (leads_next h7 h8 h9) hnx this (by rw [rightP_at _ a h7 h8, rightP_at _ b h7 h8, hab]) ?_
          rw [rightP_at _ a h7 h8, hq]
          rw [if_neg h8] at asucc
          rw [← asucc]
          exact .at_ _
    · rw [(fen_facts (p := fenceP p) a 0).2.2.2, (fen_facts (p := fenceP p) b 0).2.2.2]
      exact INF.keep hk hP (by rw [hab]) hpos'
    · rw [(jmp_facts (p := fenceP p) a 0 _).2.2.2, (jmp_facts (p := fenceP p) b 0 _).2.2.2]
      exact INF.keep hk hP rfl (.at_ _)
  have wrong : ∀ a b i c, IAF p T a b → (fenceP p).code[a.at_]? = some i → True → (wrongP (fenceP p) i a c = none ∧ wrongP (fenceP p) i b c = none) ∨ ∃ x y, wrongP (fenceP p) i a c = some x ∧ wrongP (fenceP p) i b c = some y ∧ IAF p T x y := by
    rintro a b x c (⟨hab, k, s, hpos, hk, hP⟩ | ⟨hab, hf⟩) hx -
    · rcases pos_cases S hpos hk hx with ⟨i, hq, hi, rfl⟩ | ⟨rfl, hpos'⟩ | rfl
      · obtain ⟨hok, hn⟩ := S.ins hi
        obtain ⟨hbd, hq'⟩ := S.faults hk hi
        have hS := S.post.tok.ok _ _ hk
        have asucc := placeF_succ hi
        obtain ⟨a1, a8⟩ := fence_ins hi
        by_cases h8 : i.op = 8
        · obtain ⟨t1, t2⟩ := fence_other hi h8
          have er : relF p k i = { i with n := (otherF p k : Nat) } := by unfold relF; rw [if_neg (by omega), if_pos h8]
          obtain ⟨e, hB⟩ := pair_branch hok hS hq' hP h8
          rw [wrongP_if _ a (i := relF p k i) (by rw [er]; exact h8), wrongP_if _ b (i := relF p k i) (by rw [er]; exact h8), (relF_op p k i).2.1, (relF_op p k i).2.2.1, (relF_op p k i).2.2.2, ← e, er]
          by_cases hc : c = 0
          · rw [if_pos hc, if_pos hc]; exact .inl ⟨rfl, rfl⟩
          · rw [if_neg hc, if_neg hc]
            refine .inr ⟨_, _, rfl, rfl, .inr ?_⟩
            generalize nholds i.c (rg a.regs i.a) (rg a.regs i.b) = hold at *
            cases hold
            · simp only [Bool.false_eq_true, if_false, Int.toNat_natCast]
              exact ⟨trivial, t1⟩
            · simp only [if_true]
              rw [← hab, hq]
              exact ⟨rfl, a8 h8⟩
        · cases ht : isTake i
          · have hnt : isTake (relF p k i) = false := by
              have e := (relF_op p k i).1
              simp only [isTake, e] at ht ⊢; exact ht
            unfold wrongP
            rw [(relF_op p k i).1, if_neg h8, if_neg h8, hnt]
            exact .inl ⟨rfl, rfl⟩
          · have hop : i.op = 3 ∨ i.op = 5 := by simpa [isTake] using ht
            rw [relF_other (by omega) h8]
            rcases pair_wrong hregs hok hS hq' hP (fun hw => S.inside hk hi hP.ga.sat hw) ht c with h | ⟨x, y, hx1, hy1, hP', ex, ey⟩
            · exact .inl h
            · refine .inr ⟨x, y, hx1, hy1, .inl ?_⟩
              refine INF.to S hk hi (leads_next (by omega) (by omega) (by omega)) (S.next hk hi (by omega) (by omega)) hP' (by rw [ex, ey, hab]) ?_
              rw [ex, hq]
              rw [if_neg h8] at asucc
              rw [← asucc]
              exact .at_ _
      · exact .inl ⟨(fen_facts (p := fenceP p) a c).2.2.1, (fen_facts (p := fenceP p) b c).2.2.1⟩
      · exact .inl ⟨(jmp_facts (p := fenceP p) a c _).2.2.1, (jmp_facts (p := fenceP p) b c _).2.2.1⟩
    · rw [hf] at hx
      obtain rfl := Option.some.inj hx
      exact .inl ⟨(fen_facts (p := fenceP p) a c).2.2.1, (fen_facts (p := fenceP p) b c).2.2.1⟩
  refine ⟨?_, fun _ _ h => .inl h, ?_, ?_, ?_, wrong, ?_, rightN, ?_, ?_⟩
  · rintro a b (h | h)
    · exact h.1
    · exact h.1
  · rintro a b ⟨hab, k, s, hpos, hk, hP⟩
    exact hP.mem.pub
  · rintro a b x (⟨hab, k, s, hpos, hk, hP⟩ | ⟨hab, hf⟩) hx
    · rcases pos_cases S hpos hk hx with ⟨i, hq, hi, rfl⟩ | ⟨rfl, hpos'⟩ | rfl
      · rw [(relF_facts a k i).1, (relF_facts b k i).1]
        exact (pair_sees (S.ins hi).1 (S.faults hk hi).2 hP).1
      · rw [(fen_facts a 0).1, (fen_facts b 0).1]
      · rw [(jmp_facts a 0 _).1, (jmp_facts b 0 _).1]
    · rw [hf] at hx
      obtain rfl := Option.some.inj hx
      rw [(fen_facts a 0).1, (fen_facts b 0).1]
  · rintro a b x (⟨hab, k, s, hpos, hk, hP⟩ | ⟨hab, hf⟩) hx
    · rcases pos_cases S hpos hk hx with ⟨i, hq, hi, rfl⟩ | ⟨rfl, hpos'⟩ | rfl
      · rw [(relF_facts a k i).2.1, (relF_facts b k i).2.1]
        exact (pair_sees (S.ins hi).1 (S.faults hk hi).2 hP).2
      · rw [(fen_facts a 0).2.1, (fen_facts b 0).2.1]
      · rw [(jmp_facts a 0 _).2.1, (jmp_facts b 0 _).2.1]
    · rw [hf] at hx
      obtain rfl := Option.some.inj hx
      rw [(fen_facts a 0).2.1, (fen_facts b 0).2.1]
  · rintro a b x (h | ⟨hab, hf⟩) hx h9 h12
    · exact .inl (rightN a b x h hx h9)
    · rw [hf] at hx
      obtain rfl := Option.some.inj hx
      exact absurd rfl h12
  · rintro a b x ⟨hab, k, s, hpos, hk, hP⟩ hx hw
    rcases pos_cases S hpos hk hx with ⟨i, hq, hi, rfl⟩ | ⟨rfl, hpos'⟩ | rfl
    · rw [(relF_facts a k i).2.2] at hw
      have hop := word_ops hw
      rw [relF_other (by omega) (by omega)]
      exact ⟨S.inside hk hi hP.ga.sat hw, S.inside hk hi hP.gb.sat hw⟩
    · cases hw
    · cases hw
  · rintro a b x ⟨hab, k, s, hpos, hk, hP⟩ hx h9
    rcases pos_cases S hpos hk hx with ⟨i, hq, hi, rfl⟩ | ⟨rfl, hpos'⟩ | rfl
    · rw [(relF_op p k i).1] at h9
      rw [(relF_op p k i).2.1]
      obtain ⟨g1, g2, g10, g3, g5, g8, g9, g11, go, g7, gop⟩ := ins_regs (S.ins hi).1
      refine hP.eq.at_ (g9 h9) ?_
      have hq := (S.faults hk hi).2
      simpa [quietK, h9] using hq
    · cases h9
    · cases h9
theorem fence_quiet {p : LProg} {T : Tab} (S : Sound p T) {ws wt : List Int} (script : List Int) (hl : ws.length = total p) (hm : wt.length = total p) (hw : ∀ x ∈ ws, R64 x) (hv : ∀ x ∈ wt, R64 x) (hp : Pub p ws wt) (k : Nat) :
    (runS (fenceP p) k (startS ws script)).seen = (runS (fenceP p) k (startS wt script)).seen ∧ (runS (fenceP p) k (startS ws script)).fin = (runS (fenceP p) k (startS wt script)).fin ∧ (runS (fenceP p) k (startS ws script)).value = (runS (fenceP p) k (startS wt script)).value ∧
      (runS (fenceP p) k (startS ws script)).steps = (runS (fenceP p) k (startS wt script)).steps ∧ Pub p (endS (runS (fenceP p) k (startS ws script))).pl.words (endS (runS (fenceP p) k (startS wt script))).pl.words := by
  obtain ⟨s0, e0, l0⟩ := S.post.first
  refine quiet_end (fence_sys S) (runS_quiet (fence_sys S) k _ _ ⟨rfl, rfl, rfl, rfl, rfl, rfl, rfl, ⟨trivial, fun _ _ => trivial⟩, fun _ _ => ⟨rfl, 0, s0, ?_, e0, ?_⟩, fun k => absurd rfl k, fun k => by simp [startS] at k⟩)
  · have : PosF p (placeF p 0) 0 := .at_ 0
    simpa [placeF, plc_zero, startS] using this
  · exact (pair_start hl hm hw hv hp).mono kstart_ok (S.post.tok.ok _ _ e0) l0
def rel7 (p : LProg) (i : LIns) : LIns := if i.op = 7 then { i with n := (placeF p i.n.toNat : Nat) } else i
def relG (f : LIns → LIns) (l : List LIns) (k : Nat) : List LIns := (l.take k).map f ++ l.drop k
theorem relG_zero (f : LIns → LIns) (l : List LIns) : relG f l 0 = l := by simp [relG]
theorem relG_all (f : LIns → LIns) (l : List LIns) : relG f l l.length = l.map f := by simp [relG]
theorem relG_len (f : LIns → LIns) (l : List LIns) (k : Nat) : (relG f l k).length = l.length := by
  simp only [relG, List.length_append, List.length_map, List.length_take, List.length_drop]
  omega
theorem relG_get (f : LIns → LIns) (l : List LIns) {k : Nat} (hk : k < l.length) : (relG f l k).getD k default = l.getD k default := by
  unfold relG
  rw [List.getD_eq_getElem?_getD, List.getElem?_append_right (by simp; omega)]
  simp [Nat.min_eq_left (Nat.le_of_lt hk), hk]
theorem relG_succ (f : LIns → LIns) (l : List LIns) {k : Nat} (hk : k < l.length) : relG f l (k + 1) = (relG f l k).set k (f (l.getD k default)) := by
  have e : l.drop k = l.getD k default :: l.drop (k + 1) := by
    rw [List.drop_eq_getElem_cons hk]
    simp [hk]
  have hlen : ((l.take k).map f).length = k := by simp; omega
  have h1 : l[k] = l.getD k default := by simp [hk]
  unfold relG
  rw [List.take_succ_eq_append_getElem hk, e, List.set_append_right _ _ (by omega), hlen, Nat.sub_self, List.set_cons_zero, List.map_append, List.append_assoc, h1]
  rfl
theorem relG_same (f : LIns → LIns) (l : List LIns) {k : Nat} (hk : k < l.length) (h : f (l.getD k default) = l.getD k default) : relG f l (k + 1) = relG f l k := by
  rw [relG_succ f l hk, h]
  apply List.ext_getElem (by simp)
  intro j h1 h2
  rw [List.getElem_set]
  split
  · rename_i e
    subst e
    have := relG_get f l hk
    rw [List.getD_eq_getElem?_getD, List.getElem?_eq_getElem h2] at this
    exact this.symm
  · rfl
def isIf (p : LProg) (j : Nat) : Bool := decide ((p.code.getD j default).op = 8)
def ifsF (p : LProg) (n : Nat) : List Nat := (List.range n).filter (isIf p)
theorem ifs_succ (p : LProg) (n : Nat) : ifsF p (n + 1) = ifsF p n ++ (if isIf p n = true then [n] else []) := by
  unfold ifsF
  rw [List.range_succ, List.filter_append]
  cases h : isIf p n <;> simp [h]
theorem ifs_at (p : LProg) : ∀ (n t : Nat), t < (ifsF p n).length → ∃ j, j < n ∧ isIf p j = true ∧ (ifsF p n).getD t 0 = j ∧ (ifsF p n).take t = ifsF p j
  | 0, t, h => by simp [ifsF] at h
  | n + 1, t, h => by
    rw [ifs_succ] at h ⊢
    by_cases ht : t < (ifsF p n).length
    · obtain ⟨j, h1, h2, h3, h4⟩ := ifs_at p n t ht
      refine ⟨j, by omega, h2, ?_, ?_⟩
      · rw [List.getD_eq_getElem?_getD, List.getElem?_append_left ht, ← List.getD_eq_getElem?_getD]
        exact h3
      · rw [List.take_append_of_le_length (by omega)]
        exact h4
    · cases hi : isIf p n
      · rw [hi] at h
        simp at h
        omega
      · rw [hi] at h
        simp only [if_true, List.length_append, List.length_cons, List.length_nil] at h ⊢
        have hte : t = (ifsF p n).length := by omega
        subst hte
        refine ⟨n, by omega, hi, ?_, ?_⟩
        · rw [List.getD_eq_getElem?_getD, List.getElem?_append_right (Nat.le_refl _)]
          simp
        · rw [List.take_append_of_le_length (Nat.le_refl _), List.take_length]
def partF (p : LProg) (j : Nat) : List LIns := p.code.zipIdx.flatMap fun x => blockF (if x.2 < j then relF p x.2 x.1 else rel7 p x.1)
def stateF (p : LProg) (j : Nat) : List LIns := partF p j ++ (p.code.take j).flatMap (trampF p)
theorem rel7_op (p : LProg) (i : LIns) : (rel7 p i).op = i.op := by unfold rel7; split <;> simp
theorem rel7_fen (p : LProg) : rel7 p fenI = fenI := by unfold rel7 fenI; simp
theorem relF_not {p : LProg} {k : Nat} {i : LIns} (h : i.op ≠ 8) : relF p k i = rel7 p i := by
  unfold relF rel7
  simp [h]
theorem part_zero (p : LProg) : partF p 0 = (p.code.flatMap blockF).map (rel7 p) := by
  unfold partF
  have e1 : (fun x : LIns × Nat => blockF (if x.2 < 0 then relF p x.2 x.1 else rel7 p x.1)) = (fun i => (blockF i).map (rel7 p)) ∘ Prod.fst := by
    funext x
    simp only [Nat.not_lt_zero, if_false, Function.comp]
    unfold blockF
    rw [rel7_op]
    split
    · simp [rel7_fen]
    · simp
  have e2 : p.code.zipIdx.map Prod.fst = p.code := by
    apply List.ext_getElem (by simp)
    intro k h1 h2
    simp
  rw [e1, List.map_flatMap]
  conv => rhs; rw [← e2]
  rw [List.flatMap_map]
  rfl
theorem zip_split {p : LProg} {j : Nat} {i : LIns} (h : p.code[j]? = some i) : p.code.zipIdx = p.code.zipIdx.take j ++ (i, j) :: p.code.zipIdx.drop (j + 1) := by
  have hz := zip_get h
  obtain ⟨h1, h2⟩ := List.getElem?_eq_some_iff.1 hz
  conv => lhs; rw [← List.take_append_drop j p.code.zipIdx, List.drop_eq_getElem_cons h1, h2]
theorem zip_take {p : LProg} {j : Nat} : ∀ x ∈ p.code.zipIdx.take j, x.2 < j := by
  intro x hx
  obtain ⟨k, hk, rfl⟩ := List.getElem_of_mem hx
  simp only [List.length_take, List.length_zipIdx] at hk
  simp
  omega
theorem zip_drop {p : LProg} {j : Nat} : ∀ x ∈ p.code.zipIdx.drop j, j ≤ x.2 := by
  intro x hx
  obtain ⟨k, hk, rfl⟩ := List.getElem_of_mem hx
  simp
theorem part_split {p : LProg} {j : Nat} {i : LIns} (h : p.code[j]? = some i) (m : Nat) (hm : m = j ∨ m = j + 1) :
    partF p m = (p.code.zipIdx.take j).flatMap (fun x => blockF (relF p x.2 x.1)) ++ (blockF (if j < m then relF p j i else rel7 p i) ++ (p.code.zipIdx.drop (j + 1)).flatMap (fun x => blockF (rel7 p x.1))) := by
  unfold partF
  rw [zip_split h, List.flatMap_append, List.flatMap_cons]
  congr 1
  · rw [← zip_split h]
    have e : ∀ l : List (LIns × Nat), (∀ x ∈ l, x.2 < j) → l.flatMap (fun x => blockF (if x.2 < m then relF p x.2 x.1 else rel7 p x.1)) = l.flatMap fun x => blockF (relF p x.2 x.1) := by
      intro l hl
      induction l with
      | nil => rfl
      | cons x l ih =>
        rw [List.flatMap_cons, List.flatMap_cons, ih (fun y hy => hl y (by simp [hy])), if_pos (by have := hl x (by simp); omega)]
    exact e _ zip_take
  · congr 1
    rw [← zip_split h]
    have e : ∀ l : List (LIns × Nat), (∀ x ∈ l, j + 1 ≤ x.2) → l.flatMap (fun x => blockF (if x.2 < m then relF p x.2 x.1 else rel7 p x.1)) = l.flatMap fun x => blockF (rel7 p x.1) := by
      intro l hl
      induction l with
      | nil => rfl
      | cons x l ih =>
        rw [List.flatMap_cons, List.flatMap_cons, ih (fun y hy => hl y (by simp [hy])), if_neg (by have := hl x (by simp); omega)]
    exact e _ zip_drop
theorem take_len {p : LProg} (j : Nat) : ((p.code.zipIdx.take j).flatMap (fun x => blockF (relF p x.2 x.1))).length = placeF p j := place_zip p j
theorem part_len (p : LProg) (j : Nat) : (partF p j).length = rawF p := by
  have key : ∀ l : List (LIns × Nat), (l.flatMap fun x => blockF (if x.2 < j then relF p x.2 x.1 else rel7 p x.1)).length = (l.flatMap fun x => blockF x.1).length := by
    intro l
    induction l with
    | nil => rfl
    | cons x l ih =>
      rw [List.flatMap_cons, List.flatMap_cons, List.length_append, List.length_append, ih, blockF_len, blockF_len]
      split
      · rw [(relF_op p x.2 x.1).1]
      · rw [rel7_op]
  unfold partF rawF
  rw [key]
  have e2 : p.code.zipIdx.map Prod.fst = p.code := by
    apply List.ext_getElem (by simp)
    intro k h1 h2
    simp
  conv => rhs; rw [← e2]
  rw [List.flatMap_map]
theorem state_len (p : LProg) (j : Nat) : (stateF p j).length = otherF p j := by
  unfold stateF otherF
  rw [List.length_append, part_len]
  rfl
theorem state_get {p : LProg} {j : Nat} {i : LIns} (h : p.code[j]? = some i) (h8 : i.op = 8) : placeF p j < (stateF p j).length ∧ (stateF p j).getD (placeF p j) default = i := by
  have hj := (List.getElem?_eq_some_iff.1 h).1
  have hp := placeF_lt hj
  have hl := part_len p j
  have e : rel7 p i = i := by unfold rel7; rw [if_neg (by omega)]
  refine ⟨by unfold stateF; rw [List.length_append]; omega, ?_⟩
  unfold stateF
  rw [List.getD_eq_getElem?_getD, List.getElem?_append_left (by omega), part_split h j (.inl rfl), if_neg (by omega), e, List.getElem?_append_right (by rw [take_len]; exact Nat.le_refl _), take_len, Nat.sub_self]
  unfold blockF
  rw [if_pos h8]
  rfl
theorem state_step {p : LProg} {j : Nat} {i : LIns} (h : p.code[j]? = some i) (h8 : i.op = 8) :
    stateF p (j + 1) = (stateF p j).set (placeF p j) { i with n := ((stateF p j).length : Nat) } ++ [fenI, ⟨7, 0, 0, 0, ((placeF p i.n.toNat : Nat) : Int)⟩] := by
  obtain ⟨hj, hi⟩ := List.getElem?_eq_some_iff.1 h
  have hp := placeF_lt hj
  have hl := part_len p j
  rw [state_len]
  have e1 : (p.code.take (j + 1)).flatMap (trampF p) = (p.code.take j).flatMap (trampF p) ++ [fenI, ⟨7, 0, 0, 0, ((placeF p i.n.toNat : Nat) : Int)⟩] := by
    rw [List.take_succ_eq_append_getElem hj, List.flatMap_append, hi]
    simp [trampF, h8]
  have e2 : partF p (j + 1) = (partF p j).set (placeF p j) { i with n := ((otherF p j : Nat) : Int) } := by
    rw [part_split h (j + 1) (.inr rfl), part_split h j (.inl rfl), if_pos (by omega), if_neg (by omega)]
    rw [List.set_append_right _ _ (by rw [take_len]; exact Nat.le_refl _), take_len, Nat.sub_self]
    congr 1
    unfold blockF
    rw [(relF_op p j i).1, rel7_op, if_pos h8, if_pos h8]
    have e3 : relF p j i = { i with n := ((otherF p j : Nat) : Int) } := by unfold relF; rw [if_neg (by omega), if_pos h8]
    rw [e3]
    rfl
  unfold stateF
  rw [e1, e2, List.set_append_left _ _ (by omega), List.append_assoc]
theorem state_skip {p : LProg} {j : Nat} (h : isIf p j = false) : stateF p (j + 1) = stateF p j := by
  by_cases hj : j < p.code.length
  · have hi := List.getElem?_eq_getElem hj
    have h8 : p.code[j].op ≠ 8 := by
      unfold isIf at h
      simpa [hj] using h
    have e1 : (p.code.take (j + 1)).flatMap (trampF p) = (p.code.take j).flatMap (trampF p) := by
      rw [List.take_succ_eq_append_getElem hj, List.flatMap_append]
      simp [trampF, h8]
    unfold stateF
    rw [e1, part_split hi (j + 1) (.inr rfl), part_split hi j (.inl rfl), if_pos (by omega), if_neg (by omega), relF_not h8]
  · have e1 : (p.code.take (j + 1)).flatMap (trampF p) = (p.code.take j).flatMap (trampF p) := by
      rw [List.take_of_length_le (by omega), List.take_of_length_le (by omega)]
    have e2 : partF p (j + 1) = partF p j := by
      unfold partF
      have : ∀ l : List (LIns × Nat), (∀ x ∈ l, x.2 < j) → l.flatMap (fun x => blockF (if x.2 < j + 1 then relF p x.2 x.1 else rel7 p x.1)) = l.flatMap fun x => blockF (if x.2 < j then relF p x.2 x.1 else rel7 p x.1) := by
        intro l hl
        induction l with
        | nil => rfl
        | cons x l ih =>
          have hx := hl x (by simp)
          rw [List.flatMap_cons, List.flatMap_cons, ih (fun y hy => hl y (by simp [hy])), if_pos (by omega), if_pos hx]
      refine this _ (fun x hx => ?_)
      obtain ⟨k, hk, rfl⟩ := List.getElem_of_mem hx
      simp only [List.length_zipIdx] at hk
      simp
      omega
    unfold stateF
    rw [e1, e2]
theorem state_same {p : LProg} : ∀ (d j : Nat), (∀ k, j ≤ k → k < j + d → isIf p k = false) → stateF p (j + d) = stateF p j
  | 0, j, _ => rfl
  | d + 1, j, h => by
    rw [← Nat.add_assoc, state_skip (h (j + d) (by omega) (by omega)), state_same d j fun k h1 h2 => h k h1 (by omega)]
def turnF (p : LProg) (t : Nat) : List LIns := if t < (ifsF p p.code.length).length then stateF p ((ifsF p p.code.length).getD t 0) else stateF p p.code.length
theorem ifs_mono (p : LProg) {a b : Nat} (h : a ≤ b) : (ifsF p a).length ≤ (ifsF p b).length := by
  obtain ⟨d, rfl⟩ : ∃ d, b = a + d := ⟨b - a, by omega⟩
  induction d with
  | zero => exact Nat.le_refl _
  | succ d ih =>
    rw [← Nat.add_assoc, ifs_succ, List.length_append]
    have := ih (by omega)
    omega
theorem ifs_none {p : LProg} {a b : Nat} (h : (ifsF p a).length = (ifsF p b).length) {k : Nat} (h1 : a ≤ k) (h2 : k < b) : isIf p k = false := by
  cases hi : isIf p k
  · rfl
  · exfalso
    have m1 := ifs_mono p h1
    have m2 := ifs_mono p (show k + 1 ≤ b by omega)
    rw [ifs_succ, hi] at m2
    simp only [if_true, List.length_append, List.length_cons, List.length_nil] at m2
    omega
theorem turn_at {p : LProg} {t : Nat} (h : t < (ifsF p p.code.length).length) : ∃ j i, p.code[j]? = some i ∧ i.op = 8 ∧ (ifsF p p.code.length).getD t 0 = j ∧ turnF p t = stateF p j ∧ turnF p (t + 1) = stateF p (j + 1) := by
  obtain ⟨j, h1, h2, h3, h4⟩ := ifs_at p _ t h
  refine ⟨j, p.code[j], List.getElem?_eq_getElem h1, ?_, h3, ?_, ?_⟩
  · unfold isIf at h2
    simpa [h1] using h2
  · unfold turnF
    rw [if_pos h, h3]
  · have hl : (ifsF p (j + 1)).length = t + 1 := by
      rw [ifs_succ, h2, ← h4]
      simp
      omega
    unfold turnF
    by_cases ht : t + 1 < (ifsF p p.code.length).length
    · obtain ⟨j', g1, g2, g3, g4⟩ := ifs_at p _ (t + 1) ht
      rw [if_pos ht, g3]
      have hl' : (ifsF p j').length = t + 1 := by rw [← g4]; simp; omega
      have hle : j + 1 ≤ j' := by
        rcases Nat.lt_or_ge j j' with hlt | hge
        · exact hlt
        · have := ifs_mono p hge
          have h5 : (ifsF p j).length = t := by rw [← h4]; simp; omega
          omega
      obtain ⟨d, rfl⟩ : ∃ d, j' = j + 1 + d := ⟨j' - (j + 1), by omega⟩
      exact state_same d (j + 1) fun k k1 k2 => ifs_none (by omega) k1 k2
    · rw [if_neg ht]
      obtain ⟨d, hd⟩ : ∃ d, p.code.length = j + 1 + d := ⟨p.code.length - (j + 1), by omega⟩
      rw [hd]
      exact state_same d (j + 1) fun k k1 k2 => ifs_none (by rw [← hd]; omega) k1 k2
theorem turn_zero (p : LProg) : turnF p 0 = (p.code.flatMap blockF).map (rel7 p) := by
  have h0 : stateF p 0 = (p.code.flatMap blockF).map (rel7 p) := by
    unfold stateF
    rw [part_zero]
    simp
  unfold turnF
  split
  · rename_i h
    obtain ⟨j, h1, h2, h3, h4⟩ := ifs_at p _ 0 h
    rw [h3, ← h0]
    have hl : (ifsF p j).length = 0 := by rw [← h4]; simp
    have := state_same j 0 (p := p) fun k k1 k2 => ifs_none (p := p) (a := 0) (b := j) (by rw [hl]; rfl) k1 (by omega)
    simpa using this
  · rename_i h
    rw [← h0]
    have := state_same p.code.length 0 (p := p) fun k k1 k2 => ifs_none (p := p) (a := 0) (b := p.code.length) (by
      have : (ifsF p 0).length = 0 := rfl
      omega) k1 (by omega)
    simpa using this
theorem turn_all (p : LProg) : turnF p (ifsF p p.code.length).length = (fenceP p).code := by
  unfold turnF
  rw [if_neg (by omega)]
  unfold stateF fenceP mainF partF
  rw [List.take_length]
  congr 1
  have key : ∀ l : List (LIns × Nat), (∀ x ∈ l, x.2 < p.code.length) → l.flatMap (fun x => blockF (if x.2 < p.code.length then relF p x.2 x.1 else rel7 p x.1)) = l.flatMap fun x => blockF (relF p x.2 x.1) := by
    intro l hl
    induction l with
    | nil => rfl
    | cons x l ih => rw [List.flatMap_cons, List.flatMap_cons, ih (fun y hy => hl y (by simp [hy])), if_pos (hl x (by simp))]
  refine key _ (fun x hx => ?_)
  obtain ⟨k, hk, rfl⟩ := List.getElem_of_mem hx
  simp only [List.length_zipIdx] at hk
  simpa using hk
end Go.Proofs.Ytmfgckfflkddcaa

namespace Go.Proofs.Ytmfgckfflkddcaa
open Go
set_option linter.unusedVariables false
set_option linter.unusedSimpArgs false
def leads6 (p : LProg) (at_ : Nat) (s : KSt) (i : LIns) : List (Nat × KSt) :=
  if i.op = 7 then [(i.n.toNat, s)]
  else if i.op = 9 then []
  else if i.op = 8 then [(i.n.toNat, branchK s i true), (at_ + 1, branchK s i false)]
  else [(at_ + 1, oneK p s i)]
theorem leads6_mem (p : LProg) (at_ : Nat) (s : KSt) (i : LIns) (x : Nat × KSt) : x ∈ leads6 p at_ s i ↔ x ∈ leadsK p at_ s i := by
  unfold leads6 leadsK
  repeat' split
  all_goals simp
  exact Or.comm
theorem leads6_len (p : LProg) (at_ : Nat) (s : KSt) (i : LIns) : (leads6 p at_ s i).length ≤ 2 := by
  unfold leads6
  repeat' split
  all_goals simp
theorem joinT_phi {p : LProg} {T : Tab} (h : Tok p T) {x : Nat × KSt} (hs : Sok x.2) (hx : x.1 < p.code.length) : phi (joinT T x) ≤ phi T ∧ (joinT T x ≠ T → phi (joinT T x) < phi T) := by
  have hxT : x.1 < T.length := by rw [h.len]; exact hx
  unfold joinT
  cases ht : tg T x.1 with
  | none =>
    have := phi_set T x.1 (some x.2) hxT
    rw [ht] at this
    simp only [ph] at this
    simp only
    exact ⟨by omega, fun _ => by omega⟩
  | some t =>
    have hk := h.ok _ _ ht
    have hj := sjoin_ok x.2 t
    have := phi_set T x.1 (some (sjoin x.2 t)) hxT
    rw [ht] at this
    simp only [ph] at this
    have r1 := rank_mono t (sjoin x.2 t) (by rw [hk.len, hj.len]) hk.ok hj.ok (sjoin_le2 hk)
    have r2 := rank_144 hk
    have r3 := rank_144 hj
    simp only
    refine ⟨by omega, fun hne => ?_⟩
    by_cases e : rank t = rank (sjoin x.2 t)
    · exfalso
      apply hne
      rw [← r1.2 e]
      exact tg_same ht hxT
    · omega
structure A6 (p : LProg) (T0 T : Tab) (again : Bool) (at_ : Nat) : Prop where
  tok : Tok p T
  under : Under p T
  first : ∃ s, tg T 0 = some s ∧ Sle kstart s
  less : phi T ≤ phi T0
  still : again = false → T = T0 ∧ ∀ j, j < at_ → ∀ s, tg T j = some s → ∀ x ∈ leadsK p j s (insAt p j), Led p T x
  some_ : again = true → phi T < phi T0
structure K6 (p : LProg) (T0 T : Tab) (again : Bool) (at_ : Nat) (s : KSt) (k : Nat) : Prop where
  a6 : A6 p T0 T again at_
  here : ∃ s', tg T at_ = some s' ∧ Sle s s'
  same : again = false → tg T at_ = some s
  led : again = false → ∀ j, j < k → Led p T ((leads6 p at_ s (insAt p at_)).getD j default)
theorem A6.begin {p : LProg} {T : Tab} (h1 : Tok p T) (h2 : Under p T) (h3 : ∃ s, tg T 0 = some s ∧ Sle kstart s) : A6 p T T false 0 :=
  ⟨h1, h2, h3, Nat.le_refl _, fun _ => ⟨rfl, fun j hj => by omega⟩, fun h => by cases h⟩
theorem A6.skip {p : LProg} {T0 T : Tab} {again : Bool} {at_ : Nat} (h : A6 p T0 T again at_) (hn : tg T at_ = none) : A6 p T0 T again (at_ + 1) :=
  ⟨h.tok, h.under, h.first, h.less, fun e => ⟨(h.still e).1, fun j hj s hs => by
    by_cases hja : j = at_
    · subst hja; rw [hn] at hs; cases hs
    · exact (h.still e).2 j (by omega) s hs⟩, h.some_⟩
theorem K6.begin {p : LProg} {T0 T : Tab} {again : Bool} {at_ : Nat} {s : KSt} (h : A6 p T0 T again at_) (hs : tg T at_ = some s) : K6 p T0 T again at_ s 0 :=
  ⟨h, ⟨s, hs, Sle.refl s⟩, fun _ => hs, fun _ j hj => by omega⟩
theorem K6.beyond {p : LProg} {T0 T : Tab} {again : Bool} {at_ : Nat} {s : KSt} {k : Nat} (h : K6 p T0 T again at_ s k) (hx : p.code.length ≤ ((leads6 p at_ s (insAt p at_)).getD k default).1) : K6 p T0 T again at_ s (k + 1) :=
  ⟨h.a6, h.here, h.same, fun e j hj => by
    by_cases hjk : j = k
    · subst hjk; intro hl; omega
    · exact h.led e j (by omega)⟩
theorem K6.join {p : LProg} {T0 T : Tab} {again : Bool} {at_ : Nat} {s : KSt} {k : Nat} (h : K6 p T0 T again at_ s k) (hs : Sok s) (hk : k < (leads6 p at_ s (insAt p at_)).length) {x : Nat × KSt} (hxe : (leads6 p at_ s (insAt p at_)).getD k default = x) (hx : x.1 < p.code.length) :
    K6 p T0 (joinT T x) (again || decide (joinT T x ≠ T)) at_ s (k + 1) := by
  have hm : x ∈ leadsK p at_ s (insAt p at_) := by
    rw [← leads6_mem, ← hxe]
    simp [hk]
  have hsx := leadsK_ok p at_ hs (insAt p at_) x hm
  have hT := h.a6.tok
  have hup := joinT_above hT hsx hx
  have hph := joinT_phi hT hsx hx
  have hled := joinT_led hT hsx (x := x)
  have hTu := joinT_under hT h.a6.under h.here hs hm hx
  refine ⟨⟨joinT_tok hT hsx hx, hTu, ?_, ?_, fun e => ?_, fun e => ?_⟩, ?_, fun e => ?_, fun e j hj => ?_⟩
  · obtain ⟨t, h1, h2⟩ := h.a6.first
    obtain ⟨u, h3, h4⟩ := hup 0 t h1
    exact ⟨u, h3, h2.trans h4⟩
  · have := h.a6.less
    omega
  · simp only [Bool.or_eq_false_iff, decide_eq_false_iff_not, Decidable.not_not] at e
    rw [e.2]
    exact h.a6.still e.1
  · simp only [Bool.or_eq_true, decide_eq_true_eq] at e
    rcases e with e | e
    · have := h.a6.some_ e
      omega
    · have := h.a6.less
      have := hph.2 e
      omega
  · obtain ⟨t, h1, h2⟩ := h.here
    obtain ⟨u, h3, h4⟩ := hup at_ t h1
    exact ⟨u, h3, h2.trans h4⟩
  · simp only [Bool.or_eq_false_iff, decide_eq_false_iff_not, Decidable.not_not] at e
    rw [e.2]
    exact h.same e.1
  · simp only [Bool.or_eq_false_iff, decide_eq_false_iff_not, Decidable.not_not] at e
    by_cases hjk : j = k
    · subst hjk
      rw [hxe]
      exact hled
    · rw [e.2]
      exact h.led e.1 j (by omega)
theorem K6.end_ {p : LProg} {T0 T : Tab} {again : Bool} {at_ : Nat} {s : KSt} {k : Nat} (h : K6 p T0 T again at_ s k) (hk : (leads6 p at_ s (insAt p at_)).length ≤ k) : A6 p T0 T again (at_ + 1) :=
  ⟨h.a6.tok, h.a6.under, h.a6.first, h.a6.less, fun e => ⟨(h.a6.still e).1, fun j hj t ht x hx => by
    by_cases hja : j = at_
    · subst hja
      rw [h.same e] at ht
      obtain rfl := Option.some.inj ht
      rw [← leads6_mem] at hx
      obtain ⟨n, hn, rfl⟩ := List.getElem_of_mem hx
      have := h.led e n (by omega)
      simpa [hn] using this
    · exact (h.a6.still e).2 j (by omega) t ht x hx⟩, h.a6.some_⟩
theorem A6.least {p : LProg} {T0 T : Tab} {at_ : Nat} (h : A6 p T0 T false at_) (hat : p.code.length ≤ at_) : Least p T :=
  ⟨⟨h.tok, h.first, fun j s hs => (h.still rfl).2 j (by
    have := h.tok.len
    rcases Nat.lt_or_ge j at_ with h1 | h1
    · exact h1
    · exfalso
      unfold tg at hs
      rw [List.getD_eq_getElem?_getD, List.getElem?_eq_none (by omega)] at hs
      cases hs) s hs⟩, h.under⟩
end Go.Proofs.Ytmfgckfflkddcaa

namespace Go.Proofs.Ytmfgckfflkddcaa
open Go.RowKit
set_option linter.unusedSimpArgs false
set_option linter.unusedVariables false
def pubOk (p : LProg) (m n : List (List Int)) : Bool := (List.range p.regs.length).all fun i => (p.regs.getD i default).secret || decide (m.getD i default = n.getD i default)
theorem in_region : ∀ (l : List LReg) (n : Nat), n < (l.map wordsOf).sum → ∃ r x, r < l.length ∧ x < wordsOf (l.getD r default) ∧ n = ((l.take r).map wordsOf).sum + x
  | [], n, h => by simp at h
  | a :: l, n, h => by
    by_cases hn : n < wordsOf a
    · exact ⟨0, n, by simp, by simpa using hn, by simp⟩
    · simp only [List.map_cons, List.sum_cons] at h
      obtain ⟨r, x, h1, h2, h3⟩ := in_region l (n - wordsOf a) (by omega)
      refine ⟨r + 1, x, by simpa using h1, by simpa using h2, ?_⟩
      simp only [List.take_succ_cons, List.map_cons, List.sum_cons]
      omega
theorem pub_split {p : LProg} {a b : List Int} (ha : a.length = total p) (hb : b.length = total p) : pubOk p (splitW p a) (splitW p b) = true ↔ Pub p a b := by
  unfold pubOk
  simp only [List.all_eq_true, List.mem_range, Bool.or_eq_true, decide_eq_true_eq]
  constructor
  · intro h n hn
    by_cases hlt : n < total p
    · obtain ⟨r, x, h1, h2, h3⟩ := in_region p.regs n hlt
      have h3' : n = baseOf p r + x := h3
      have hs : secW p n = (p.regs.getD r default).secret := by
        unfold secW
        rw [h3]
        exact secAt_base p.regs r x h1 h2
      rw [hn] at hs
      rcases h r h1 with h4 | h4
      · rw [← hs] at h4; cases h4
      · have e1 := split_at (p := p) a h1 h2
        have e2 := split_at (p := p) b h1 h2
        rw [h4, e2] at e1
        rw [h3']
        exact e1.symm
    · rw [List.getD_eq_getElem?_getD, List.getD_eq_getElem?_getD, List.getElem?_eq_none (by omega), List.getElem?_eq_none (by omega)]
  · intro h r hr
    cases hsec : (p.regs.getD r default).secret
    · right
      apply List.ext_getElem (by rw [split_row ha hr, split_row hb hr])
      intro x h1 h2
      have hx : x < wordsOf (p.regs.getD r default) := by rw [split_row ha hr] at h1; exact h1
      have e1 := split_at (p := p) a hr hx
      have e2 := split_at (p := p) b hr hx
      have hs : secW p (baseOf p r + x) = false := by
        unfold secW
        have := secAt_base p.regs r x hr hx
        rw [hsec] at this
        exact this
      have := h _ hs
      rw [← e1, ← e2] at this
      rw [List.getD_eq_getElem?_getD (l := (splitW p a).getD r default), List.getD_eq_getElem?_getD (l := (splitW p b).getD r default), List.getElem?_eq_getElem h1, List.getElem?_eq_getElem h2] at this
      exact this
    · left; rfl
theorem pub_flat {p : LProg} {m n : List (List Int)} (hm : fitsOk p m = true) (hn : fitsOk p n = true) : pubOk p m n = true ↔ Pub p m.flatten n.flatten := by
  have := pub_split (p := p) (flat_total hm) (flat_total hn)
  rwa [split_flat hm, split_flat hn] at this
theorem fits_split {p : LProg} {ws : List Int} (hr : regsOk p.regs = true) (hl : ws.length = total p) : fitsOk p (splitW p ws) = true := by
  unfold fitsOk
  rw [hr, split_len]
  simp only [decide_true, Bool.and_self, Bool.true_and, List.all_eq_true, List.mem_range, decide_eq_true_eq]
  exact fun i hi => split_row hl hi
end Go.Proofs.Ytmfgckfflkddcaa
