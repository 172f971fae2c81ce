/- How programs and memories lie in memory. No program in sight. -/
import Derived.Test.YteiknefajlocoaaBase
import Derived.Test.YteiknefajlocoaaFormP
namespace Go.Proofs.Yteiknefajlocoaa
open Go.RowKit


/-- n rows of c cells lie at block b from o on, if there is one at all -/
structure Rows (w : World) (oa : Option Addr) (b o n c : Nat) (f : Nat → Nat → Value) : Prop where
  at_ : 0 < n → oa = some ⟨b, o, none⟩
  cell : ∀ i j, i < n → j < c → w.cell? ⟨b, o + i * c + j, none⟩ = some (f i j)
theorem Rows.ext {w w' : World} {oa : Option Addr} {b o n c : Nat} {f : Nat → Nat → Value} (h : Rows w oa b o n c f) (hx : Ext w w') : Rows w' oa b o n c f :=
  ⟨h.at_, fun i j hi hj => hx.kept (h.cell i j hi hj)⟩

def regCell (r : LReg) : Nat → Value
  | 0 => .int .i64 r.log
  | _ => .bool r.secret
def insCell (i : LIns) : Nat → Value
  | 0 => .int .i64 i.op
  | 1 => .int .i64 i.a
  | 2 => .int .i64 i.b
  | 3 => .int .i64 i.c
  | _ => .int .i64 i.n
def LIns.fits (i : LIns) : Prop := R64 i.op ∧ R64 i.a ∧ R64 i.b ∧ R64 i.c ∧ R64 i.n

/-- a slice that reads as these regions -/
def RegsAt (w : World) (v : Value) (l : List LReg) : Prop :=
  (∀ r ∈ l, R64 r.log) ∧ ∃ oa cap b o, v = .slice oa l.length cap ∧ l.length ≤ cap ∧ cap ≤ maxLen ∧ Rows w oa b o l.length 2 fun i => regCell (l.getD i default)
def CodeAt (w : World) (v : Value) (l : List LIns) : Prop :=
  (∀ i ∈ l, i.fits) ∧ ∃ oa cap b o, v = .slice oa l.length cap ∧ l.length ≤ cap ∧ cap ≤ maxLen ∧ Rows w oa b o l.length 5 fun i => insCell (l.getD i default)
def ProgAt (w : World) (v : Value) (p : LProg) : Prop := ∃ v1 v2, v = .agg #[v1, v2] ∧ RegsAt w v1 p.regs ∧ CodeAt w v2 p.code
/-- a slice that reads as these numbers -/
def IntsAt (w : World) (v : Value) (l : List Int) : Prop :=
  (∀ x ∈ l, R64 x) ∧ ∃ oa cap b o, v = .slice oa l.length cap ∧ l.length ≤ cap ∧ cap ≤ maxLen ∧ Rows w oa b o l.length 1 fun i _ => .int .i64 (l.getD i default)
def MemAt (w : World) (v : Value) (m : List (List Int)) : Prop :=
  ∃ oa cap b o, v = .slice oa m.length cap ∧ m.length ≤ cap ∧ cap ≤ maxLen ∧ ∃ vs : Nat → Value, Rows w oa b o m.length 1 (fun i _ => vs i) ∧ ∀ i, i < m.length → IntsAt w (vs i) (m.getD i default)
theorem RegsAt.ext {w w' : World} {v : Value} {l : List LReg} (h : RegsAt w v l) (hx : Ext w w') : RegsAt w' v l := by
  obtain ⟨h0, oa, cap, b, o, h1, h2, h3, h4⟩ := h
  exact ⟨h0, oa, cap, b, o, h1, h2, h3, h4.ext hx⟩
theorem CodeAt.ext {w w' : World} {v : Value} {l : List LIns} (h : CodeAt w v l) (hx : Ext w w') : CodeAt w' v l := by
  obtain ⟨h0, oa, cap, b, o, h1, h2, h3, h4⟩ := h
  exact ⟨h0, oa, cap, b, o, h1, h2, h3, h4.ext hx⟩
theorem ProgAt.ext {w w' : World} {v : Value} {p : LProg} (h : ProgAt w v p) (hx : Ext w w') : ProgAt w' v p := by
  obtain ⟨v1, v2, h1, h2, h3⟩ := h
  exact ⟨v1, v2, h1, h2.ext hx, h3.ext hx⟩
theorem IntsAt.ext {w w' : World} {v : Value} {l : List Int} (h : IntsAt w v l) (hx : Ext w w') : IntsAt w' v l := by
  obtain ⟨h0, oa, cap, b, o, h1, h2, h3, h4⟩ := h
  exact ⟨h0, oa, cap, b, o, h1, h2, h3, h4.ext hx⟩
theorem MemAt.ext {w w' : World} {v : Value} {m : List (List Int)} (h : MemAt w v m) (hx : Ext w w') : MemAt w' v m := by
  obtain ⟨oa, cap, b, o, h1, h2, h3, vs, h4, h5⟩ := h
  exact ⟨oa, cap, b, o, h1, h2, h3, vs, h4.ext hx, fun i hi => (h5 i hi).ext hx⟩

theorem Rows.reg {w : World} {oa : Option Addr} {b o : Nat} {l : List LReg} (h : Rows w oa b o l.length 2 fun i => regCell (l.getD i default)) (k : Nat) (hk : k < l.length) :
    w.cell? ⟨b, o + k * 2, none⟩ = some (.int .i64 (l.getD k default).log) ∧ w.cell? ⟨b, o + k * 2 + 1, none⟩ = some (.bool (l.getD k default).secret) :=
  ⟨h.cell k 0 hk (by omega), h.cell k 1 hk (by omega)⟩
theorem Rows.ins {w : World} {oa : Option Addr} {b o : Nat} {l : List LIns} (h : Rows w oa b o l.length 5 fun i => insCell (l.getD i default)) (k : Nat) (hk : k < l.length) :
    w.cell? ⟨b, o + k * 5, none⟩ = some (.int .i64 (l.getD k default).op) ∧ w.cell? ⟨b, o + k * 5 + 1, none⟩ = some (.int .i64 (l.getD k default).a) ∧ w.cell? ⟨b, o + k * 5 + 2, none⟩ = some (.int .i64 (l.getD k default).b) ∧
      w.cell? ⟨b, o + k * 5 + 3, none⟩ = some (.int .i64 (l.getD k default).c) ∧ w.cell? ⟨b, o + k * 5 + 4, none⟩ = some (.int .i64 (l.getD k default).n) :=
  ⟨h.cell k 0 hk (by omega), h.cell k 1 hk (by omega), h.cell k 2 hk (by omega), h.cell k 3 hk (by omega), h.cell k 4 hk (by omega)⟩
theorem Rows.one {w : World} {oa : Option Addr} {b o n : Nat} {f : Nat → Value} (h : Rows w oa b o n 1 fun i _ => f i) (k : Nat) (hk : k < n) :
    w.cell? ⟨b, o + k, none⟩ = some (f k) := by
  have := h.cell k 0 hk (by omega)
  simpa using this
theorem getD_mem {α : Type} [Inhabited α] {l : List α} {k : Nat} (hk : k < l.length) : l.getD k default ∈ l := by
  simp [hk]

theorem len_bd {n cap : Nat} (h : n ≤ cap) (hn : cap ≤ maxLen) : (n : Int) ≤ 9223372036854775807 := by
  unfold maxLen at hn
  omega

end Go.Proofs.Yteiknefajlocoaa
