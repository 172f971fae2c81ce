/- Laid together from: TxQ. -/
import Derived.Test.YtkkekbnhndfhjaaDoorTextAgainB17
import Derived.Test.YtkkekbnhndfhjaaDoorTextAgainB20

namespace Go.Proofs.YtkkekbnhndfhjaaDoor
open Go.ChangeShapes Go.WideShapes Go.ChangeAt Go.RowKit
set_option linter.unusedVariables false
set_option linter.unusedSimpArgs false
theorem infoRegT : (Tryd.prog.info? 43).map (fun i => (i.zero, i.size, i.bytes)) = some (some (.agg #[.int .i64 0, .bool false]), 2, 16) := by kernel_rfl
theorem infoInsT : (Tryd.prog.info? 46).map (fun i => (i.zero, i.size, i.bytes)) = some (some (.agg #[.int .i64 0, .int .i64 0, .int .i64 0, .int .i64 0, .int .i64 0]), 5, 40) := by kernel_rfl
theorem infoProgT : (Tryd.prog.info? 25).map (·.size) = some 2 := by kernel_rfl
theorem infoFaultT : (Tryd.prog.info? 32).map (·.size) = some 2 := by kernel_rfl
structure TSt (w0 wr : World) (B g T : Nat) (vR vC : Value) (regs : List LReg) (code : List LIns) : Prop where
  box : Blk wr g T #[vR, vC]
  rg : wr.ownsRow B 43 2 vR regs.length (regs.flatMap regCells)
  cd : wr.ownsRow B 46 5 vC code.length (code.flatMap insCells)
  ext : Ext w0 wr
  hg : B ≤ g
  hB : w0.heap.size ≤ B
  nr : 43 ≠ T
  ni : 46 ≠ T
  fr : ∀ r ∈ regs, R64 r.log
  fc : ∀ i ∈ code, i.fits
section
variable {w0 wr w' : World} {B g T : Nat} {vR vC : Value} {regs : List LReg} {code : List LIns}
theorem TSt.size (h : TSt w0 wr B g T vR vC regs code) : B ≤ wr.heap.size := by have := h.box.lt; have := h.hg; omega
theorem TSt.extend (h : TSt w0 wr B g T vR vC regs code) (hx : Ext wr w') : TSt w0 w' B g T vR vC regs code :=
  ⟨h.box.ext hx, own_ext h.rg hx, own_ext h.cd hx, h.ext.trans hx, h.hg, h.hB, h.nr, h.ni, h.fr, h.fc⟩
theorem TSt.cells (h : TSt w0 wr B g T vR vC regs code) : (wr.cell? ⟨g, 0, none⟩ = some vR ∧ wr.frozen? ⟨g, 0, none⟩ = false) ∧ (wr.cell? ⟨g, 1, none⟩ = some vC ∧ wr.frozen? ⟨g, 1, none⟩ = false) :=
  ⟨⟨by rw [h.box.cell]; rfl, h.box.frozen _⟩, ⟨by rw [h.box.cell]; rfl, h.box.frozen _⟩⟩
theorem TSt.regs_ (h : TSt w0 wr B g T vR vC regs code) {vR' : Value} {rs : List LReg} (hg : wr.grownBy w' vR.ownBlock) (ho : w'.ownsRow B 43 2 vR' rs.length (rs.flatMap regCells)) (hf : ∀ r ∈ rs, R64 r.log) : TSt w0 (w'.setCell ⟨g, 0, none⟩ vR') B g T vR' vC rs code := by
  have hb := h.box.grown hg (own_ne h.rg h.box h.nr)
  have hc := own_grown h.cd hg (fun k hk he => own_ne2 h.rg h.cd (by decide) k hk he)
  exact ⟨hb.set_ 0 vR', own_far ho (own_ne ho hb h.nr) _, own_far hc (own_ne hc hb h.ni) _,
    (grown_below h.ext hg h.ext.size (fun k hk => Nat.le_trans h.hB (own_base h.rg k hk))).setCell (p := ⟨g, 0, none⟩) (Nat.le_trans h.hB h.hg) _, h.hg, h.hB, h.nr, h.ni, hf, h.fc⟩
theorem TSt.code_ (h : TSt w0 wr B g T vR vC regs code) {vC' : Value} {cs : List LIns} (hg : wr.grownBy w' vC.ownBlock) (ho : w'.ownsRow B 46 5 vC' cs.length (cs.flatMap insCells)) (hf : ∀ i ∈ cs, i.fits) : TSt w0 (w'.setCell ⟨g, 1, none⟩ vC') B g T vR vC' regs cs := by
  have hb := h.box.grown hg (own_ne h.cd h.box h.ni)
  have hr := own_grown h.rg hg (fun k hk he => own_ne2 h.cd h.rg (by decide) k hk he)
  exact ⟨hb.set_ 1 vC', own_far hr (own_ne hr hb h.nr) _, own_far ho (own_ne ho hb h.ni) _,
    (grown_below h.ext hg h.ext.size (fun k hk => Nat.le_trans h.hB (own_base h.cd k hk))).setCell (p := ⟨g, 1, none⟩) (Nat.le_trans h.hB h.hg) _, h.hg, h.hB, h.nr, h.ni, h.fr, hf⟩
theorem TSt.prog (h : TSt w0 wr B g T vR vC regs code) : ProgAt wr (.agg #[vR, vC]) ⟨regs, code⟩ :=
  ⟨_, _, rfl, regs_own h.rg h.fr, code_own h.cd h.fc⟩
end
theorem put4_t {w : World} {g : Nat} {T U : TypeId} {a b c d x y z u : Value} (hA : Blk w g T #[a, b]) (hB : Blk w (g + 1) U #[c, d]) :
    Blk ((((w.setCell ⟨g, 0, none⟩ x).setCell ⟨g, 1, none⟩ y).setCell ⟨g + 1, 0, none⟩ z).setCell ⟨g + 1, 1, none⟩ u) g T #[x, y] ∧ Blk ((((w.setCell ⟨g, 0, none⟩ x).setCell ⟨g, 1, none⟩ y).setCell ⟨g + 1, 0, none⟩ z).setCell ⟨g + 1, 1, none⟩ u) (g + 1) U #[z, u] :=
  ⟨(((hA.set_ 0 x).set_ 1 y).far (p := ⟨g + 1, 0, none⟩) (by simp) z).far (p := ⟨g + 1, 1, none⟩) (by simp) u, (((hB.far (p := ⟨g, 0, none⟩) (by simp) x).far (p := ⟨g, 1, none⟩) (by simp) y).set_ 0 z).set_ 1 u⟩
theorem ext4_t {w w1 : World} {g : Nat} {x y z u : Value} (h : Ext w w1) (hg : w.heap.size ≤ g) : Ext w ((((w1.setCell ⟨g, 0, none⟩ x).setCell ⟨g, 1, none⟩ y).setCell ⟨g + 1, 0, none⟩ z).setCell ⟨g + 1, 1, none⟩ u) :=
  (((h.setCell (p := ⟨g, 0, none⟩) hg _).setCell (p := ⟨g, 1, none⟩) hg _).setCell (p := ⟨g + 1, 0, none⟩) (Nat.le_succ_of_le hg) _).setCell (p := ⟨g + 1, 1, none⟩) (Nat.le_succ_of_le hg) _
theorem own4_t {w : World} {g base : Nat} {T U e : TypeId} {size n : Nat} {v : Value} {xs : List Value} {A B : Array Value} {x y z u : Value} (h : w.ownsRow base e size v n xs) (hA : Blk w g T A) (hB : Blk w (g + 1) U B) (h1 : e ≠ T) (h2 : e ≠ U) :
    ((((w.setCell ⟨g, 0, none⟩ x).setCell ⟨g, 1, none⟩ y).setCell ⟨g + 1, 0, none⟩ z).setCell ⟨g + 1, 1, none⟩ u).ownsRow base e size v n xs := by
  have n1 := own_ne h hA h1
  have n2 := own_ne h hB h2
  exact own_far (own_far (own_far (own_far h n1 _) n1 _) n2 _) n2 _
end Go.Proofs.YtkkekbnhndfhjaaDoor
