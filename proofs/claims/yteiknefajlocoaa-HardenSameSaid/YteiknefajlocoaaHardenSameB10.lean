/- Laid together from: App, RunM. -/
import Derived.Test.YteiknefajlocoaaHardenSameB9
import Derived.Maps.AppendAt
import Derived.Test.YteiknefajlocoaaHardenSameB3
import Derived.Test.YteiknefajlocoaaHardenSameB6

/- append onto a slice of the call's own: whatever is appended (nil among it), and where the row lies then. No program in sight. -/
namespace Go.Proofs.Yteiknefajlocoaa
open Go.RowKit
set_option linter.unusedVariables false
set_option linter.unusedSimpArgs false

/-- what is appended: m elements whose cells are news, at ao (if there are any) -/
structure Src (w : World) (size : Nat) (ao : Option Addr) (m : Nat) (news : List Value) : Prop where
  len : news.length = m * size
  none_ : ao = none → m = 0
  cells : ∀ ad, ao = some ad → ∀ j u, news[j]? = some u → w.cell? (ad.add j) = some u
  one : ∀ u ∈ news, u.oneCell' = true
theorem Src.ext {w w' : World} {size : Nat} {ao : Option Addr} {m : Nat} {news : List Value} (h : Src w size ao m news) (hx : Ext w w') : Src w' size ao m news :=
  ⟨h.len, h.none_, fun ad ha j u hu => hx.kept (h.cells ad ha j u hu), h.one⟩
theorem run_append_none (P : Program) (w : World) (base : Nat) (t ty e : TypeId) (i : TypeInfo) (size : Nat) (ht : P.underlying t = some (.slice e)) (hi : P.info? e = some i) (hsize : i.size = size)
    (v : Value) (n : Nat) (xs : List Value) (hown : w.ownsRow base e size v n xs) (c : Nat) : (Builtin.append_ #[t, t] ty #[v, .slice none 0 c]).run P w = .ok v w := by
  rcases hown.2 with ⟨rfl, rfl⟩ | ⟨g, cap, cur, rfl, _, _, hnc, _⟩ <;> simp [Builtin.append_, run_underlying ht, sizeOf, typeInfo, hi, Builtin.lenOf, Builtin.firstCells, storeCells]
  · omega
/-- append, whatever the source: the law on the walk -/
theorem wpList_append_src {P : Program} (w : World) {ops : Array Oper} {rest : List Oper} {o : Oper} {a : Act} {Q : Exit → Act → World → Prop} (hgd : o.guard = none) (s x : Operand) (t : TypeId)
    (ho : o.op = .call { callee := .builtin .append, args := #[s, x], argTypes := #[t, t] })
    (base : Nat) (e : TypeId) (i : TypeInfo) (z : Value) (size bytes : Nat) (ht : P.underlying t = some (.slice e)) (hi : P.info? e = some i) (hz : i.zero = some z)
    (hsize : i.size = size) (hby : i.bytes = bytes) (hzs : z.cells.size = size) (hsz : 0 < size)
    (v : Value) (n : Nat) (xs : List Value) (hs : a.eval s = v) (hown : w.ownsRow base e size v n xs)
    (ao : Option Addr) (m c : Nat) (news : List Value) (hx : a.eval x = .slice ao m c) (hsrc : Src w size ao m news)
    (h63 : n + m ≤ maxLen) (hbytes : (n + m) * bytes ≤ 140737488355328) (hbase : base ≤ w.heap.size)
    (h : ∀ v' w', w'.ownsRow base e size v' (n + m) (xs ++ news) → w.grownBy w' v.ownBlock → (v'.ownBlock = v.ownBlock ∨ v'.ownBlock = some w.heap.size) → wpList P ops Q rest (a.put o.dst v') w') : wpList P ops Q (o :: rest) a w := by
  refine wpList_plain hgd fun K hK => ?_
  cases ao with
  | some ad =>
    obtain ⟨v', w', hrun, h2, h3, -, h5⟩ := run_append_own_at (P := P) w base t o.type e i z size bytes ht hi hz hsize hby hzs hsz v n xs hown ad m c news hsrc.len (hsrc.cells ad rfl) hsrc.one h63 hbytes hbase
    unfold Oper.wp execOp
    simp only [ho, resolve, invoke, builtin, Sem.run_bind, Sem.run_pure, Result.andThen_ok, List.map_toArray, List.map_cons, List.map_nil, hs, hx, hrun]
    exact hK _ _ (h v' w' h2 h3 h5)
  | none =>
    have hm := hsrc.none_ rfl
    subst hm
    have hn : news = [] := List.eq_nil_of_length_eq_zero (by have := hsrc.len; simpa using this)
    subst hn
    have hrun := run_append_none P w base t o.type e i size ht hi hsize v n xs hown c
    unfold Oper.wp execOp
    simp only [ho, resolve, invoke, builtin, Sem.run_bind, Sem.run_pure, Result.andThen_ok, List.map_toArray, List.map_cons, List.map_nil, hs, hx, hrun]
    exact hK _ _ (h v w (by simpa using hown) (World.grownBy.refl _ _) (.inl rfl))
/-- rows as what is appended -/
theorem src_rows {α : Type} [Inhabited α] {w : World} {oa : Option Addr} {b o c : Nat} {l : List α} {f : α → List Value} {g : α → Nat → Value} (hc : 0 < c) (hf : ∀ x, (f x).length = c) (hg : ∀ x j, j < c → (f x)[j]? = some (g x j)) (h1 : ∀ x ∈ l, ∀ u ∈ f x, u.oneCell' = true)
    (h : Rows w oa b o l.length c fun i => g (l.getD i default)) : Src w c oa l.length (l.flatMap f) := by
  refine ⟨flat_len f c hf l, fun hn => ?_, fun ad ha j u hu => ?_, fun u hu => ?_⟩
  · rcases Nat.eq_zero_or_pos l.length with h0 | h0
    · exact h0
    · rw [h.at_ h0] at hn; cases hn
  · have hj : j < l.length * c := by rw [← flat_len f c hf l]; exact (List.getElem?_eq_some_iff.1 hu).1
    have hl : 0 < l.length := by
      rcases Nat.eq_zero_or_pos l.length with h0 | h0
      · rw [h0] at hj; omega
      · exact h0
    rw [h.at_ hl] at ha
    obtain rfl := Option.some.inj ha
    have h2 : j / c < l.length := Nat.div_lt_of_lt_mul (by rw [Nat.mul_comm]; exact hj)
    have h3 : j % c < c := Nat.mod_lt _ hc
    have h4 := Nat.div_add_mod j c
    rw [Nat.mul_comm] at h4
    have h5 := flat_cell f c hf l (j / c) (j % c) h2 h3
    rw [h4, hg _ _ h3] at h5
    rw [h5] at hu
    obtain rfl := Option.some.inj hu
    have := h.cell (j / c) (j % c) h2 h3
    rw [Addr.add_lit, ← this, Nat.add_assoc, h4]
  · simp only [List.mem_flatMap] at hu
    obtain ⟨x, hx, hu⟩ := hu
    exact h1 x hx u hu
theorem src_regs {w : World} {oa : Option Addr} {b o : Nat} {l : List LReg} (h : Rows w oa b o l.length 2 fun i => regCell (l.getD i default)) : Src w 2 oa l.length (l.flatMap regCells) :=
  src_rows (f := regCells) (g := regCell) (by omega) (fun _ => rfl) regCells_get (fun x _ u hu => by
    simp only [regCells, List.mem_cons, List.not_mem_nil, or_false] at hu
    rcases hu with rfl | rfl <;> rfl) h
theorem src_ints {w : World} {oa : Option Addr} {b o : Nat} {l : List Int} (k : IntKind) (h : Rows w oa b o l.length 1 fun i _ => .int k (l.getD i default)) : Src w 1 oa l.length (l.map (Value.int k)) := by
  rw [← flat_one]
  exact src_rows (f := fun x => [Value.int k x]) (g := fun x _ => Value.int k x) (by omega) (fun _ => rfl) (fun x j hj => by
    obtain rfl : j = 0 := by omega
    rfl) (fun x _ u hu => by
    simp only [List.mem_singleton] at hu
    subst hu; rfl) h
/-- one element that was laid just now: m = 1 -/
theorem src_new {w : World} {k size : Nat} {T : TypeId} {cs : Array Value} (h : Blk w k T cs) (hs : cs.size = size) (h1 : cs.all (·.oneCell') = true) : Src w size (some ⟨k, 0, none⟩) 1 cs.toList := by
  refine ⟨by simpa using hs, (fun h => by cases h), fun ad ha j u hu => ?_, fun u hu => ?_⟩
  · obtain rfl := Option.some.inj ha
    rw [Addr.add_lit, h.cell, Nat.zero_add]
    simpa using hu
  · have := Array.all_eq_true'.1 h1 u (by simpa using hu)
    exact this
theorem own_slice {w : World} {base : Nat} {e : TypeId} {size n : Nat} {v : Value} {xs : List Value} (h : w.ownsRow base e size v n xs) : ∃ oa cap, v = .slice oa n cap := by
  rcases h.2 with ⟨rfl, rfl⟩ | ⟨g, cap, cur, rfl, _⟩
  · exact ⟨_, _, rfl⟩
  · exact ⟨_, _, rfl⟩
theorem own_ext {w w' : World} {base : Nat} {e : TypeId} {size n : Nat} {v : Value} {xs : List Value} (h : w.ownsRow base e size v n xs) (hx : Ext w w') : w'.ownsRow base e size v n xs := by
  refine ⟨h.1, ?_⟩
  rcases h.2 with h | ⟨g, cap, cur, rfl, h1, h2, h3⟩
  · exact .inl h
  · exact .inr ⟨g, cap, cur, rfl, h1, (Below.block hx g (Array.getElem?_eq_some_iff.1 h2).1).trans h2, h3⟩
theorem own_alloc {w : World} {base : Nat} {e : TypeId} {size n : Nat} {v : Value} {xs : List Value} {o : Obj} (h : w.ownsRow base e size v n xs) : (w.alloc o).ownsRow base e size v n xs := h.alloc o
theorem own_far {w : World} {base : Nat} {e : TypeId} {size n : Nat} {v : Value} {xs : List Value} {p : Addr} (h : w.ownsRow base e size v n xs) (hne : some p.block ≠ v.ownBlock) (u : Value) : (w.setCell p u).ownsRow base e size v n xs := by
  refine ⟨h.1, ?_⟩
  rcases h.2 with h | ⟨g, cap, cur, rfl, h1, h2, h3⟩
  · exact .inl h
  · exact .inr ⟨g, cap, cur, rfl, h1, (Below.heap_setCell w p u g (by intro e; apply hne; simp [Value.ownBlock, e])).trans h2, h3⟩
/-- two results, both in cells -/
theorem results_cc {P : Program} {w : World} {g k : Nat} {T U p q ty uy : Nat} {cs ds : Array Value} {fn : Func} {d d' : TypeDesc} (h : Blk w g T cs) (h' : Blk w k U ds) (hr : fn.results = #[.cell p ty, .cell q uy]) (tmps : Array Value)
    (hp : tmps.getD p undef = .pointer (some ⟨g, 0, none⟩)) (hq : tmps.getD q undef = .pointer (some ⟨k, 0, none⟩))
    (hu : P.underlying ty = some d) (hd : d.isRow = true) (hi : (P.info? ty).map (·.size) = some cs.size) (hu' : P.underlying uy = some d') (hd' : d'.isRow = true) (hi' : (P.info? uy).map (·.size) = some ds.size) :
    (results fn tmps).run P w = .ok (.tuple #[.agg cs, .agg ds]) w := by
  have hp' : tmps[p]?.getD undef = .pointer (some ⟨g, 0, none⟩) := by simpa using hp
  have hq' : tmps[q]?.getD undef = .pointer (some ⟨k, 0, none⟩) := by simpa using hq
  have h1 := run_loadVar_mid w g 0 ty cs.toList d (h.range 0 cs.toList (fun j v hv => by simpa using hv)) hu hd (by simpa using hi)
  have h2 := run_loadVar_mid w k 0 uy ds.toList d' (h'.range 0 ds.toList (fun j v hv => by simpa using hv)) hu' hd' (by simpa using hi')
  simp only [Array.toArray_toList] at h1 h2
  simp [results, hr, hp', hq', asAddr, h1, h2]
theorem block1 (w : World) (A : Array Value) (S : TypeId) : ∃ W g, w.heap.size = g ∧ w.alloc (.cells A S) = W ∧ Ext w W ∧ Blk W g S A :=
  ⟨_, _, rfl, rfl, (Ext.refl w).alloc _, Blk.new w S A⟩
theorem Blk.grown {w w' : World} {g : Nat} {t : TypeId} {cs : Array Value} {row : Option Nat} (h : Blk w g t cs) (hg : w.grownBy w' row) (hne : some g ≠ row) : Blk w' g t cs := (hg.block g h.lt hne).trans h
/-- blocks of two types are two blocks -/
theorem Blk.ne_ {w : World} {g g' : Nat} {t t' : TypeId} {cs cs' : Array Value} (h : Blk w g t cs) (h' : Blk w g' t' cs') (hne : t ≠ t') : g ≠ g' := by
  intro e
  subst e
  unfold Blk at h h'
  rw [h] at h'
  injection h' with h'
  injection h' with _ ht
  exact hne ht
theorem own_ne {w : World} {base g : Nat} {e t : TypeId} {size n : Nat} {v : Value} {xs : List Value} {cs : Array Value} (h : w.ownsRow base e size v n xs) (hg : Blk w g t cs) (hne : e ≠ t) : some g ≠ v.ownBlock := by
  rcases h.2 with ⟨rfl, _⟩ | ⟨g', cap, cur, rfl, _, hh, _⟩
  · simp [Value.ownBlock]
  · intro he
    have hgg : g = g' := by simpa [Value.ownBlock] using he
    subst hgg
    exact Blk.ne_ (t := e) (cs := cur) hh hg hne rfl
end Go.Proofs.Yteiknefajlocoaa
/- How runs lie in memory: registers, what was shown, the words of regions. No program in sight. -/
namespace Go.Proofs.Yteiknefajlocoaa
open Go.RowKit
set_option linter.unusedVariables false
set_option linter.unusedSimpArgs false

theorem grown_trans {w w1 w2 : World} {row : Option Nat} (h : w.grownBy w1 row) (k : w1.grownBy w2 row) : w.grownBy w2 row :=
  ⟨k.os.trans h.os, k.tape.trans h.tape, k.output.trans h.output, Nat.le_trans h.size k.size, fun j hj hne => (k.block j (Nat.lt_of_lt_of_le hj h.size) hne).trans (h.block j hj hne)⟩
theorem ext_grown {w w' : World} (h : Ext w w') (row : Option Nat) : w.grownBy w' row :=
  ⟨h.os, h.tape, h.output, h.size, fun j hj _ => Below.block h j hj⟩
theorem set_grown (w : World) (p : Addr) (u : Value) : w.grownBy (w.setCell p u) (some p.block) :=
  ⟨rfl, rfl, rfl, by simp [World.setCell], fun j hj hne => Below.heap_setCell w p u j (by intro e; exact hne (by rw [e]))⟩
theorem grown_below {B : Nat} {w0 w w' : World} {row : Option Nat} (h : Below B w0 w) (hg : w.grownBy w' row) (hB : B ≤ w.heap.size) (hr : ∀ k, row = some k → B ≤ k) : Below B w0 w' := Below.grown h hg hB hr
theorem own_grown {w w' : World} {base : Nat} {e : TypeId} {size n : Nat} {v : Value} {xs : List Value} {row : Option Nat} (h : w.ownsRow base e size v n xs) (hg : w.grownBy w' row) (hne : ∀ k, row = some k → v.ownBlock ≠ some k) : w'.ownsRow base e size v n xs := by
  refine h.kept hg ?_
  cases hr : row with
  | none => cases hv : v.ownBlock <;> simp
  | some k => exact .inr (hne k hr)

/-! registers -/
def regV (l : List Int) : Array Value := (l.map (Value.int .i64)).toArray
theorem regV_get {l : List Int} {a : Int} (h : a.toNat < l.length) : (regV l)[a.toNat]? = some (.int .i64 (rg l a)) := by
  simp [regV, rg, h]
theorem regV_set (l : List Int) (a v : Int) : (regV l).setIfInBounds a.toNat (.int .i64 v) = regV (rset l a v) := by
  unfold regV rset
  apply Array.ext_getElem?
  intro j
  simp [Array.getElem?_setIfInBounds, List.getElem?_set]
theorem reg_cell {w : World} {k : Nat} {E : TypeId} {l : List Int} (h : Blk w k E (regV l)) (hl : l.length = 10) {a : Int} (ha : okIn 10 a = true) : w.cell? ⟨k, a.toNat, none⟩ = some (.int .i64 (rg l a)) ∧ w.frozen? ⟨k, a.toNat, none⟩ = false := by
  obtain ⟨h0, h1⟩ := okIn_iff.1 ha
  exact ⟨by rw [h.cell, regV_get (by omega)], h.frozen _⟩
theorem rg64 {l : List Int} (h : All64 l) (a : Int) : R64 (rg l a) := h _

/-! what was shown -/
def seeCell (s : LSee) : Nat → Value
  | 0 => .int .i64 s.kind
  | 1 => .int .i64 s.a
  | _ => .int .i64 s.b
def seeCells (s : LSee) : List Value := [.int .i64 s.kind, .int .i64 s.a, .int .i64 s.b]
theorem seeCells_get (s : LSee) (j : Nat) (hj : j < 3) : (seeCells s)[j]? = some (seeCell s j) := by
  rcases (show j = 0 ∨ j = 1 ∨ j = 2 by omega) with rfl | rfl | rfl <;> rfl
/-- a slice that reads as what was shown -/
def SeenAt (w : World) (v : Value) (l : List LSee) : Prop :=
  ∃ oa cap b o, v = .slice oa l.length cap ∧ l.length ≤ cap ∧ cap ≤ maxLen ∧ Rows w oa b o l.length 3 fun i => seeCell (l.getD i default)
theorem SeenAt.ext {w w' : World} {v : Value} {l : List LSee} (h : SeenAt w v l) (hx : Ext w w') : SeenAt w' v l := by
  obtain ⟨oa, cap, b, o, h1, h2, h3, h4⟩ := h
  exact ⟨oa, cap, b, o, h1, h2, h3, h4.ext hx⟩
theorem seen_own {w : World} {base : Nat} {e : TypeId} {v : Value} {l : List LSee} (h : w.ownsRow base e 3 v l.length (l.flatMap seeCells)) : SeenAt w v l := by
  obtain ⟨oa, cap, b, h1, h2, h3, h4, -⟩ := own_rows (c := 3) (f := seeCells) (g := seeCell) (by omega) (fun _ => rfl) seeCells_get h
  exact ⟨oa, cap, b, 0, h1, h2, h3, h4⟩
theorem src_none (w : World) (size : Nat) : Src w size none 0 [] := ⟨by simp, fun _ => rfl, (fun ad h => by cases h), (fun u hu => by simp at hu)⟩

/-! what a run shows at its end -/
def ShownAt (w : World) (v : Value) (fin value : Int) (steps : Nat) (seen : List LSee) (mem : List (List Int)) : Prop :=
  ∃ vs vm, v = .agg #[.int .i64 fin, .int .i64 value, .int .i64 steps, vs, vm] ∧ SeenAt w vs seen ∧ MemAt w vm mem
theorem ShownAt.ext {w w' : World} {v : Value} {fin value : Int} {steps : Nat} {seen : List LSee} {mem : List (List Int)} (h : ShownAt w v fin value steps seen mem) (hx : Ext w w') : ShownAt w' v fin value steps seen mem := by
  obtain ⟨vs, vm, h1, h2, h3⟩ := h
  exact ⟨vs, vm, h1, h2.ext hx, h3.ext hx⟩

/-! the words of regions, row by row: all rows of the call's own, no two the same, all below U -/
def MemOwn (w : World) (B U : Nat) (T E : TypeId) (v : Value) (m : List (List Int)) : Prop :=
  ∃ vs : List Value, vs.length = m.length ∧ w.ownsRow B T 1 v m.length vs ∧ (∀ b, v.ownBlock = some b → b < U) ∧
    (∀ i, i < m.length → w.ownsRow B E 1 (vs.getD i undef) (m.getD i default).length ((m.getD i default).map (Value.int .i64)) ∧ ∀ b, (vs.getD i undef).ownBlock = some b → b < U) ∧
    (∀ i j, i < j → j < m.length → ∀ b, (vs.getD i undef).ownBlock = some b → (vs.getD j undef).ownBlock ≠ some b)
theorem MemOwn.below {w w' : World} {B U : Nat} {T E : TypeId} {v : Value} {m : List (List Int)} (h : MemOwn w B U T E v m) (hb : Below U w w') : MemOwn w' B U T E v m := by
  obtain ⟨vs, h1, h2, h3, h4, h5⟩ := h
  have key : ∀ {e : TypeId} {s n : Nat} {u : Value} {xs : List Value}, w.ownsRow B e s u n xs → (∀ b, u.ownBlock = some b → b < U) → w'.ownsRow B e s u n xs := by
    intro e s n u xs ho hlt
    refine ⟨ho.1, ?_⟩
    rcases ho.2 with hn | ⟨g, cap, cur, rfl, a1, a2, a3⟩
    · exact .inl hn
    · exact .inr ⟨g, cap, cur, rfl, a1, (hb.block g (hlt g rfl)).trans a2, a3⟩
  exact ⟨vs, h1, key h2 h3, h3, fun i hi => ⟨key (h4 i hi).1 (h4 i hi).2, (h4 i hi).2⟩, h5⟩
/-- where a word lies -/
theorem MemOwn.at_ {w : World} {B U : Nat} {T E : TypeId} {v : Value} {m : List (List Int)} (h : MemOwn w B U T E v m) {c : Nat} (hc : c < m.length) (hn : 0 < (m.getD c default).length) :
    ∃ ko capo k cap, v = .slice (some ⟨ko, 0, none⟩) m.length capo ∧ B ≤ ko ∧ B ≤ k ∧ k < U ∧ w.cell? ⟨ko, c, none⟩ = some (.slice (some ⟨k, 0, none⟩) (m.getD c default).length cap) ∧
      (∀ x, x < (m.getD c default).length → w.cell? ⟨k, x, none⟩ = some (.int .i64 ((m.getD c default).getD x 0)) ∧ w.frozen? ⟨k, x, none⟩ = false) := by
  obtain ⟨vs, h1, h2, h3, h4, h5⟩ := h
  obtain ⟨h6, h7⟩ := h4 c hc
  have h2' := h2
  have h6' := h6
  rcases h2.2 with ⟨-, h0⟩ | ⟨ko, capo, cur, rfl, a1, a2, a3⟩
  · omega
  rcases h6.2 with ⟨-, h0⟩ | ⟨k, cap, cur', hv, b1, b2, b3⟩
  · omega
  rw [hv] at h6' h7
  refine ⟨ko, capo, k, cap, rfl, a1, b1, h7 k rfl, ?_, fun x hx => ⟨?_, ?_⟩⟩
  · rw [h2'.cellAt c (by omega), ← hv]
    have : c < vs.length := by omega
    simp [this]
  · rw [h6'.cellAt x (by omega)]
    generalize m.getD c default = l at *
    simp [hx]
  · exact h6'.frozenAt x
theorem row_lt {w : World} {B : Nat} {e : TypeId} {s n : Nat} {v : Value} {xs : List Value} (h : w.ownsRow B e s v n xs) : ∀ k, v.ownBlock = some k → k < w.heap.size := fun k hk => (h.lt k hk).2
/-- a word put -/
theorem MemOwn.set_ {w : World} {B U : Nat} {T E : TypeId} {v : Value} {m : List (List Int)} (h : MemOwn w B U T E v m) (hTE : T ≠ E) {c : Nat} (hc : c < m.length) {x : Nat} (hx : x < (m.getD c default).length) {ko k cap : Nat} {capo : Nat}
    (hv : v = .slice (some ⟨ko, 0, none⟩) m.length capo) (hk : w.cell? ⟨ko, c, none⟩ = some (.slice (some ⟨k, 0, none⟩) (m.getD c default).length cap)) (z : Int) :
    MemOwn (w.setCell ⟨k, x, none⟩ (.int .i64 z)) B U T E v (m.set c ((m.getD c default).set x z)) := by
  obtain ⟨vs, h1, h2, h3, h4, h5⟩ := h
  subst hv
  have hcell := h2.cellAt c (by omega)
  rw [hk] at hcell
  have hcv : c < vs.length := by omega
  have hvc : vs.getD c undef = .slice (some ⟨k, 0, none⟩) (m.getD c default).length cap := by
    have : vs[c]? = some (vs.getD c undef) := by simp [hcv]
    rw [this] at hcell
    exact (Option.some.inj hcell).symm
  obtain ⟨h6, h7⟩ := h4 c hc
  rw [hvc] at h6 h7
  have hst := (h6.stored x (.int .i64 z))
  have hlenm : (m.set c ((m.getD c default).set x z)).length = m.length := by simp
  have hg : ∀ i, i < m.length → (m.set c ((m.getD c default).set x z)).getD i default = if i = c then (m.getD c default).set x z else m.getD i default := by
    intro i hi
    by_cases e : i = c
    · subst e; simp [hi]
    · rw [if_neg e, List.getD_eq_getElem?_getD, List.getElem?_set, if_neg (by omega), ← List.getD_eq_getElem?_getD]
  have hkU := h7 k rfl
  have hkT : Value.ownBlock (.slice (some ⟨ko, 0, none⟩) m.length capo) ≠ some k := by
    intro e
    have e2 : ko = k := by simpa [Value.ownBlock] using e
    subst e2
    rcases h2.2 with ⟨h0, -⟩ | ⟨g, c1, cur, hh, a1, a2, -⟩
    · cases h0
    · rcases h6.2 with ⟨h0, -⟩ | ⟨g', c2, cur', hh', b1, b2, -⟩
      · cases h0
      · simp only [Value.slice.injEq, Option.some.injEq, Addr.mk.injEq, and_true, true_and] at hh hh'
        obtain ⟨rfl, -⟩ := hh
        obtain ⟨rfl, -⟩ := hh'
        rw [a2] at b2
        simp only [Option.some.injEq, Obj.cells.injEq, and_true] at b2
        exact hTE b2.2
  have hset := set_grown w ⟨k, x, none⟩ (.int .i64 z)
  refine ⟨vs, by rw [hlenm, h1], ?_, h3, fun i hi => ?_, fun i j hij hj => ?_⟩
  · rw [hlenm]
    exact own_grown h2 hset (by intro k' e; simp only [Option.some.injEq] at e; subst e; exact hkT)
  · rw [hlenm] at hi
    rw [hg i hi]
    by_cases e : i = c
    · subst e
      rw [if_pos rfl, hvc]
      refine ⟨?_, h7⟩
      have := hst.1
      rw [List.length_set]
      rw [List.map_set]
      exact this
    · rw [if_neg e]
      obtain ⟨h8, h9⟩ := h4 i hi
      refine ⟨own_grown h8 hset ?_, h9⟩
      intro k' e'
      simp only [Option.some.injEq] at e'
      subst e'
      intro hb
      rcases Nat.lt_or_ge i c with hlt | hge
      · exact h5 i c hlt hc k hb (by rw [hvc]; rfl)
      · exact h5 c i (by omega) hi k (by rw [hvc]; rfl) hb
  · rw [hlenm] at hj
    exact h5 i j hij hj
/-- what it reads as -/
theorem MemOwn.mem {w : World} {B U : Nat} {T E : TypeId} {v : Value} {m : List (List Int)} (h : MemOwn w B U T E v m) (h64 : ∀ l ∈ m, ∀ x ∈ l, R64 x) : MemAt w v m := by
  obtain ⟨vs, h1, h2, h3, h4, h5⟩ := h
  have hs : vs = vs.flatMap fun x => [x] := by
    induction vs with
    | nil => rfl
    | cons x l ih => simp
  rw [← h1, hs] at h2
  obtain ⟨oa, cap, b, e1, e2, e3, e4, -⟩ := own_rows (c := 1) (f := fun x : Value => [x]) (g := fun x _ => x) (by omega) (fun _ => rfl) (fun x j hj => by
    obtain rfl : j = 0 := by omega
    rfl) (by simpa using h2)
  rw [h1] at e1 e2 e4
  refine ⟨oa, cap, b, 0, e1, e2, e3, fun i => vs.getD i default, e4, fun i hi => ?_⟩
  have h6 := (h4 i hi).1
  have e : vs.getD i default = vs.getD i undef := by
    have : i < vs.length := by omega
    simp [this]
  simp only [e]
  exact ints_own h6 (h64 _ (getD_mem hi))
theorem own_ne2 {w : World} {B B' : Nat} {e e' : TypeId} {s s' n n' : Nat} {v v' : Value} {xs xs' : List Value} (h : w.ownsRow B e s v n xs) (h' : w.ownsRow B' e' s' v' n' xs') (hne : e ≠ e') : ∀ k, v.ownBlock = some k → v'.ownBlock ≠ some k := by
  intro k hk hk'
  rcases h.2 with ⟨rfl, _⟩ | ⟨g, c, cur, rfl, _, a2, _⟩
  · cases hk
  rcases h'.2 with ⟨rfl, _⟩ | ⟨g', c', cur', rfl, _, b2, _⟩
  · cases hk'
  have e1 : g = k := by simpa [Value.ownBlock] using hk
  have e2 : g' = k := by simpa [Value.ownBlock] using hk'
  subst e1; subst e2
  rw [a2] at b2
  simp only [Option.some.injEq, Obj.cells.injEq, and_true] at b2
  exact hne b2.2
theorem own_base {w : World} {base : Nat} {e : TypeId} {c n : Nat} {v : Value} {xs : List Value} (h : w.ownsRow base e c v n xs) : ∀ k, v.ownBlock = some k → base ≤ k := fun k hk => (h.lt k hk).1
theorem mem_nil (w : World) (B U : Nat) (T E : TypeId) : MemOwn w B U T E (.slice none 0 0) [] :=
  ⟨[], rfl, World.ownsRow_nil _ _ _ _, fun b h => by simp [Value.ownBlock] at h, fun i hi => by simp at hi, fun i j _ hj => by simp at hj⟩
/-- one row more -/
theorem mem_push {wr w1 w2 w3 : World} {B : Nat} {T E : TypeId} {out out' v1 : Value} {vs : List Value} {ml : List (List Int)} {l : List Int} (hTE : T ≠ E) (h1 : vs.length = ml.length) (h2 : wr.ownsRow B T 1 out ml.length vs)
    (h4 : ∀ i, i < ml.length → wr.ownsRow B E 1 (vs.getD i undef) (ml.getD i default).length ((ml.getD i default).map (Value.int .i64)))
    (h5 : ∀ i j, i < j → j < ml.length → ∀ b, (vs.getD i undef).ownBlock = some b → (vs.getD j undef).ownBlock ≠ some b)
    (hx : Ext wr w2) (hv1 : w2.ownsRow B E 1 v1 l.length (l.map (Value.int .i64))) (hat : ∀ b, v1.ownBlock = some b → wr.heap.size ≤ b)
    (hown : w3.ownsRow B T 1 out' (ml.length + 1) (vs ++ [v1])) (hg : w2.grownBy w3 out.ownBlock) : MemOwn w3 B w3.heap.size T E out' (ml ++ [l]) := by
  have hlen : (ml ++ [l]).length = ml.length + 1 := by simp
  have hold : ∀ i, i < ml.length → w3.ownsRow B E 1 (vs.getD i undef) (ml.getD i default).length ((ml.getD i default).map (Value.int .i64)) := fun i hi =>
    own_grown (own_ext (h4 i hi) hx) hg (fun k hk he => own_ne2 h2 (h4 i hi) hTE k hk he)
  have hnew : w3.ownsRow B E 1 v1 l.length (l.map (Value.int .i64)) := own_grown hv1 hg (fun k hk he => by
    have a := row_lt h2 k hk
    have b := hat k he
    omega)
  have gv : ∀ i, i < ml.length → (vs ++ [v1]).getD i undef = vs.getD i undef := fun i hi => by
    have : i < vs.length := by omega
    simp [List.getD_eq_getElem?_getD, List.getElem?_append_left this]
  have gl : (vs ++ [v1]).getD ml.length undef = v1 := by rw [← h1]; simp
  have mv : ∀ i, i < ml.length → (ml ++ [l]).getD i default = ml.getD i default := fun i hi => by simp [List.getD_eq_getElem?_getD, List.getElem?_append_left hi]
  have mlv : (ml ++ [l]).getD ml.length default = l := by simp
  refine ⟨vs ++ [v1], by simp [h1], by rw [hlen]; exact hown, row_lt hown, fun i hi => ?_, fun i j hij hj => ?_⟩
  · rw [hlen] at hi
    by_cases e : i < ml.length
    · rw [gv i e, mv i e]; exact ⟨hold i e, row_lt (hold i e)⟩
    · obtain rfl : i = ml.length := by omega
      rw [gl, mlv]; exact ⟨hnew, row_lt hnew⟩
  · rw [hlen] at hj
    intro b hb
    by_cases e : j < ml.length
    · rw [gv i (by omega)] at hb
      rw [gv j e]; exact h5 i j hij e b hb
    · obtain rfl : j = ml.length := by omega
      rw [gv i hij] at hb
      rw [gl]
      intro hb'
      have a := row_lt (h4 i hij) b hb
      have b := hat b hb'
      omega
end Go.Proofs.Yteiknefajlocoaa
