/-
  No cell of these rows narrows 'for every input' (looked for: loops, veiled, ifaces, maps, wideKeys, modest, calm, conditions, laid).
  DERIVED. THE GIVEN ROWS OF THIS SEAT. 11 by the template 'for every input the law returns true; each argument reads behind the call as it read before'; 0 by the template 'total and deterministic' (their statements: YtoaapneihcfieaaTotals.lean).
  GIVEN WITH THE SEED: the statements are not yours to turn. If you find one false, say at which input.
  Laid BY PROGRAM, IN A SANDBOX (cutbox-rows.mjs): the forced cells as the released guide's own fill.sh prints them over the translation 47569a78b329aa56… (all of the seat's roots in one cut). By AI agents, Wed Nov 11 2026. No macro, syntax, notation, axiom, sorry.
-/
import Derived.Test.YtoaapneihcfieaaChecked
import GoSem.Claim
import GoSem.ClaimJoined
import GoSem.ClaimMapViews
import Derived.JoinedTies
import Derived.KernelRfl
namespace Go.Proofs.Ytoaapneihcfieaa
/- THE CELL 'sum', in the pinned program and in every row, IS THE sha256 OF THE DUMP (.gsa) THAT YtoaapneihcfieaaProg.lean LOADS. Nothing in Lean hashes anything: it is a label: what it is worth is what the hold of that sum in a sandbox is worth. -/
noncomputable def Try.pinned : Pinned := { name := "ytoaapneihcfieaa", sum := "47569a78b329aa56721b8117c1ef87fa9a8532fe7f55f481840da07ea4d50177", checked := Try.checked }
namespace Rows
def none {H : Type} : Left H := { results := [], args := [] }

/-- 'evenkeelkeep.NumShifts': WHATEVER THE INPUT: true; the input reads as it did. -/
def numShiftsSpec : ChangeSpec := { name := "numShifts", fn := fun _ => fun
  | [d1, d2, d3] => { results := [.lit (.bool true)], args := [d1, d2, d3] }
  | _ => none }
def numShiftsRow : OpenClaim := { program := "ytoaapneihcfieaa", sum := "47569a78b329aa56721b8117c1ef87fa9a8532fe7f55f481840da07ea4d50177", func := "evenkeel/evenkeelkeep.NumShifts", spec := "numShifts", apart := false }
def NumShiftsSaid : Prop := numShiftsRow.holds Try.pinned (OpenSpec.ofChange numShiftsSpec)

/-- ITS FALSE NEIGHBOUR: 'it returns false'. Refute it at one input. -/
def numShiftsWrong : ChangeSpec := { name := "numShifts", fn := fun _ => fun
  | [d1, d2, d3] => { results := [.lit (.bool false)], args := [d1, d2, d3] }
  | _ => none }
def NumShiftsWrongFalsely : Prop := numShiftsRow.holds Try.pinned (OpenSpec.ofChange numShiftsWrong)

/-- 'evenkeelkeep.KnownJoins': WHATEVER THE INPUT: true; the input reads as it did. -/
def knownJoinsSpec : ChangeSpec := { name := "knownJoins", fn := fun _ => fun
  | [d1, d2, d3] => { results := [.lit (.bool true)], args := [d1, d2, d3] }
  | _ => none }
def knownJoinsRow : OpenClaim := { program := "ytoaapneihcfieaa", sum := "47569a78b329aa56721b8117c1ef87fa9a8532fe7f55f481840da07ea4d50177", func := "evenkeel/evenkeelkeep.KnownJoins", spec := "knownJoins", apart := false }
def KnownJoinsSaid : Prop := knownJoinsRow.holds Try.pinned (OpenSpec.ofChange knownJoinsSpec)

/-- ITS FALSE NEIGHBOUR: 'it returns false'. Refute it at one input. -/
def knownJoinsWrong : ChangeSpec := { name := "knownJoins", fn := fun _ => fun
  | [d1, d2, d3] => { results := [.lit (.bool false)], args := [d1, d2, d3] }
  | _ => none }
def KnownJoinsWrongFalsely : Prop := knownJoinsRow.holds Try.pinned (OpenSpec.ofChange knownJoinsWrong)

/-- 'evenkeellaw.NumTells': WHATEVER THE INPUT: true; the input reads as it did. -/
def numTellsSpec : ChangeSpec := { name := "numTells", fn := fun _ => fun
  | [d1, d2, d3] => { results := [.lit (.bool true)], args := [d1, d2, d3] }
  | _ => none }
def numTellsRow : OpenClaim := { program := "ytoaapneihcfieaa", sum := "47569a78b329aa56721b8117c1ef87fa9a8532fe7f55f481840da07ea4d50177", func := "evenkeel/evenkeellaw.NumTells", spec := "numTells", unfollowed := true, recurses := true, apart := false }
def NumTellsSaid : Prop := numTellsRow.holds Try.pinned (OpenSpec.ofChange numTellsSpec)

/-- ITS FALSE NEIGHBOUR: 'it returns false'. Refute it at one input. -/
def numTellsWrong : ChangeSpec := { name := "numTells", fn := fun _ => fun
  | [d1, d2, d3] => { results := [.lit (.bool false)], args := [d1, d2, d3] }
  | _ => none }
def NumTellsWrongFalsely : Prop := numTellsRow.holds Try.pinned (OpenSpec.ofChange numTellsWrong)

/-- 'evenkeelkeep.NumDivides': WHATEVER THE INPUT: true; the input reads as it did. -/
def numDividesSpec : ChangeSpec := { name := "numDivides", fn := fun _ => fun
  | [d1, d2] => { results := [.lit (.bool true)], args := [d1, d2] }
  | _ => none }
def numDividesRow : OpenClaim := { program := "ytoaapneihcfieaa", sum := "47569a78b329aa56721b8117c1ef87fa9a8532fe7f55f481840da07ea4d50177", func := "evenkeel/evenkeelkeep.NumDivides", spec := "numDivides", unfollowed := true, recurses := true, apart := false }
def NumDividesSaid : Prop := numDividesRow.holds Try.pinned (OpenSpec.ofChange numDividesSpec)

/-- ITS FALSE NEIGHBOUR: 'it returns false'. Refute it at one input. -/
def numDividesWrong : ChangeSpec := { name := "numDivides", fn := fun _ => fun
  | [d1, d2] => { results := [.lit (.bool false)], args := [d1, d2] }
  | _ => none }
def NumDividesWrongFalsely : Prop := numDividesRow.holds Try.pinned (OpenSpec.ofChange numDividesWrong)

/-- 'evenkeellaw.KnownHolds': WHATEVER THE INPUT: true; the input reads as it did. -/
def knownHoldsSpec : ChangeSpec := { name := "knownHolds", fn := fun _ => fun
  | [d1, d2, d3, d4, d5] => { results := [.lit (.bool true)], args := [d1, d2, d3, d4, d5] }
  | _ => none }
def knownHoldsRow : OpenClaim := { program := "ytoaapneihcfieaa", sum := "47569a78b329aa56721b8117c1ef87fa9a8532fe7f55f481840da07ea4d50177", func := "evenkeel/evenkeellaw.KnownHolds", spec := "knownHolds", apart := false }
def KnownHoldsSaid : Prop := knownHoldsRow.holds Try.pinned (OpenSpec.ofChange knownHoldsSpec)

/-- ITS FALSE NEIGHBOUR: 'it returns false'. Refute it at one input. -/
def knownHoldsWrong : ChangeSpec := { name := "knownHolds", fn := fun _ => fun
  | [d1, d2, d3, d4, d5] => { results := [.lit (.bool false)], args := [d1, d2, d3, d4, d5] }
  | _ => none }
def KnownHoldsWrongFalsely : Prop := knownHoldsRow.holds Try.pinned (OpenSpec.ofChange knownHoldsWrong)

/-- 'evenkeellaw.KnownTells': WHATEVER THE INPUT: true; the input reads as it did. -/
def knownTellsSpec : ChangeSpec := { name := "knownTells", fn := fun _ => fun
  | [d1, d2, d3, d4] => { results := [.lit (.bool true)], args := [d1, d2, d3, d4] }
  | _ => none }
def knownTellsRow : OpenClaim := { program := "ytoaapneihcfieaa", sum := "47569a78b329aa56721b8117c1ef87fa9a8532fe7f55f481840da07ea4d50177", func := "evenkeel/evenkeellaw.KnownTells", spec := "knownTells", apart := false }
def KnownTellsSaid : Prop := knownTellsRow.holds Try.pinned (OpenSpec.ofChange knownTellsSpec)

/-- ITS FALSE NEIGHBOUR: 'it returns false'. Refute it at one input. -/
def knownTellsWrong : ChangeSpec := { name := "knownTells", fn := fun _ => fun
  | [d1, d2, d3, d4] => { results := [.lit (.bool false)], args := [d1, d2, d3, d4] }
  | _ => none }
def KnownTellsWrongFalsely : Prop := knownTellsRow.holds Try.pinned (OpenSpec.ofChange knownTellsWrong)

/-- 'evenkeelkeep.FormHard': WHATEVER THE INPUT: true; the input reads as it did. -/
def formHardSpec : ChangeSpec := { name := "formHard", fn := fun _ => fun
  | [d] => { results := [.lit (.bool true)], args := [d] }
  | _ => none }
def formHardRow : OpenClaim := { program := "ytoaapneihcfieaa", sum := "47569a78b329aa56721b8117c1ef87fa9a8532fe7f55f481840da07ea4d50177", func := "evenkeel/evenkeelkeep.FormHard", spec := "formHard", apart := false }
def FormHardSaid : Prop := formHardRow.holds Try.pinned (OpenSpec.ofChange formHardSpec)

/-- ITS FALSE NEIGHBOUR: 'it returns false'. Refute it at one input. -/
def formHardWrong : ChangeSpec := { name := "formHard", fn := fun _ => fun
  | [d] => { results := [.lit (.bool false)], args := [d] }
  | _ => none }
def FormHardWrongFalsely : Prop := formHardRow.holds Try.pinned (OpenSpec.ofChange formHardWrong)

/-- 'evenkeellaw.FormTells': WHATEVER THE INPUT: true; the input reads as it did. -/
def formTellsSpec : ChangeSpec := { name := "formTells", fn := fun _ => fun
  | [d1, d2] => { results := [.lit (.bool true)], args := [d1, d2] }
  | _ => none }
def formTellsRow : OpenClaim := { program := "ytoaapneihcfieaa", sum := "47569a78b329aa56721b8117c1ef87fa9a8532fe7f55f481840da07ea4d50177", func := "evenkeel/evenkeellaw.FormTells", spec := "formTells", apart := false }
def FormTellsSaid : Prop := formTellsRow.holds Try.pinned (OpenSpec.ofChange formTellsSpec)

/-- ITS FALSE NEIGHBOUR: 'it returns false'. Refute it at one input. -/
def formTellsWrong : ChangeSpec := { name := "formTells", fn := fun _ => fun
  | [d1, d2] => { results := [.lit (.bool false)], args := [d1, d2] }
  | _ => none }
def FormTellsWrongFalsely : Prop := formTellsRow.holds Try.pinned (OpenSpec.ofChange formTellsWrong)

/-- 'evenkeellaw.WordGets': WHATEVER THE INPUT: true; the input reads as it did. -/
def wordGetsSpec : ChangeSpec := { name := "wordGets", fn := fun _ => fun
  | [d1, d2] => { results := [.lit (.bool true)], args := [d1, d2] }
  | _ => none }
def wordGetsRow : OpenClaim := { program := "ytoaapneihcfieaa", sum := "47569a78b329aa56721b8117c1ef87fa9a8532fe7f55f481840da07ea4d50177", func := "evenkeel/evenkeellaw.WordGets", spec := "wordGets", unfollowed := true, recurses := true, apart := false }
def WordGetsSaid : Prop := wordGetsRow.holds Try.pinned (OpenSpec.ofChange wordGetsSpec)

/-- ITS FALSE NEIGHBOUR: 'it returns false'. Refute it at one input. -/
def wordGetsWrong : ChangeSpec := { name := "wordGets", fn := fun _ => fun
  | [d1, d2] => { results := [.lit (.bool false)], args := [d1, d2] }
  | _ => none }
def WordGetsWrongFalsely : Prop := wordGetsRow.holds Try.pinned (OpenSpec.ofChange wordGetsWrong)

/-- 'evenkeellaw.WordPuts': WHATEVER THE INPUT: true; the input reads as it did. -/
def wordPutsSpec : ChangeSpec := { name := "wordPuts", fn := fun _ => fun
  | [d] => { results := [.lit (.bool true)], args := [d] }
  | _ => none }
def wordPutsRow : OpenClaim := { program := "ytoaapneihcfieaa", sum := "47569a78b329aa56721b8117c1ef87fa9a8532fe7f55f481840da07ea4d50177", func := "evenkeel/evenkeellaw.WordPuts", spec := "wordPuts", apart := false }
def WordPutsSaid : Prop := wordPutsRow.holds Try.pinned (OpenSpec.ofChange wordPutsSpec)

/-- ITS FALSE NEIGHBOUR: 'it returns false'. Refute it at one input. -/
def wordPutsWrong : ChangeSpec := { name := "wordPuts", fn := fun _ => fun
  | [d] => { results := [.lit (.bool false)], args := [d] }
  | _ => none }
def WordPutsWrongFalsely : Prop := wordPutsRow.holds Try.pinned (OpenSpec.ofChange wordPutsWrong)

/-- 'evenkeelkeep.WordBack': WHATEVER THE INPUT: true; the input reads as it did. -/
def wordBackSpec : ChangeSpec := { name := "wordBack", fn := fun _ => fun
  | [d] => { results := [.lit (.bool true)], args := [d] }
  | _ => none }
def wordBackRow : OpenClaim := { program := "ytoaapneihcfieaa", sum := "47569a78b329aa56721b8117c1ef87fa9a8532fe7f55f481840da07ea4d50177", func := "evenkeel/evenkeelkeep.WordBack", spec := "wordBack", unfollowed := true, recurses := true, apart := false }
def WordBackSaid : Prop := wordBackRow.holds Try.pinned (OpenSpec.ofChange wordBackSpec)

/-- ITS FALSE NEIGHBOUR: 'it returns false'. Refute it at one input. -/
def wordBackWrong : ChangeSpec := { name := "wordBack", fn := fun _ => fun
  | [d] => { results := [.lit (.bool false)], args := [d] }
  | _ => none }
def WordBackWrongFalsely : Prop := wordBackRow.holds Try.pinned (OpenSpec.ofChange wordBackWrong)

/- THE SECOND FORM. 'bulk': how many values and letters a reading holds, each counted each time it is reached (what is shared counts as often as it is met; a slice's spare places count too). A statement '..UptoSaid' is the law's where the arguments, and the package variables that the reading takes, are together of bulk at most 1048576: NARROWER than '..Said'. Prove '..Said' where nothing that the law and all that it calls make is longer than what came in: it says more and counts as full. Else prove '..UptoSaid'. A law counts once. -/
mutual
def uptoBulk {H : Type} : DataW H → Nat
  | .lit (.string bytes) => bytes.length + 1
  | .lit _ => 1
  | .nil => 1
  | .ptr d => uptoBulk d + 1
  | .slice elems spare => uptoBulkAll elems + uptoBulkAll spare + 1
  | .agg parts => uptoBulkAll parts + 1
  | .iface _ d => uptoBulk d + 1
  | .map entries => uptoBulkEntries entries + 1
  | .held _ => 1
def uptoBulkAll {H : Type} : List (DataW H) → Nat
  | [] => 0
  | d :: r => uptoBulk d + uptoBulkAll r
def uptoBulkEntries {H : Type} : List (Lit × DataW H) → Nat
  | [] => 0
  | x :: r => uptoBulkEntry x + uptoBulkEntries r
def uptoBulkEntry {H : Type} : Lit × DataW H → Nat
  | (.string bytes, d) => bytes.length + uptoBulk d + 1
  | (_, d) => uptoBulk d + 1
 end
def uptoSmall : (H : Type) → List (DataW H) → Bool := fun _ ds => decide (uptoBulkAll ds ≤ 1048576)
def OpenSpec.upto (s : _root_.Go.ChangeSpec) : _root_.Go.OpenSpec := { _root_.Go.OpenSpec.ofChange s with cond := some uptoSmall }

/-- 'evenkeelkeep.NumShifts', WHERE WHAT IT READS IS OF BULK AT MOST 1048576: true; the input reads as it did. -/
def numShiftsUptoRow : OpenClaim := { program := "ytoaapneihcfieaa", sum := "47569a78b329aa56721b8117c1ef87fa9a8532fe7f55f481840da07ea4d50177", func := "evenkeel/evenkeelkeep.NumShifts", spec := "numShifts", apart := false, narrowed := true }
def NumShiftsUptoSaid : Prop := numShiftsUptoRow.holds Try.pinned (OpenSpec.upto numShiftsSpec)

/-- 'evenkeelkeep.KnownJoins', WHERE WHAT IT READS IS OF BULK AT MOST 1048576: true; the input reads as it did. -/
def knownJoinsUptoRow : OpenClaim := { program := "ytoaapneihcfieaa", sum := "47569a78b329aa56721b8117c1ef87fa9a8532fe7f55f481840da07ea4d50177", func := "evenkeel/evenkeelkeep.KnownJoins", spec := "knownJoins", apart := false, narrowed := true }
def KnownJoinsUptoSaid : Prop := knownJoinsUptoRow.holds Try.pinned (OpenSpec.upto knownJoinsSpec)

/-- 'evenkeellaw.NumTells', WHERE WHAT IT READS IS OF BULK AT MOST 1048576: true; the input reads as it did. -/
def numTellsUptoRow : OpenClaim := { program := "ytoaapneihcfieaa", sum := "47569a78b329aa56721b8117c1ef87fa9a8532fe7f55f481840da07ea4d50177", func := "evenkeel/evenkeellaw.NumTells", spec := "numTells", unfollowed := true, recurses := true, apart := false, narrowed := true }
def NumTellsUptoSaid : Prop := numTellsUptoRow.holds Try.pinned (OpenSpec.upto numTellsSpec)

/-- 'evenkeelkeep.NumDivides', WHERE WHAT IT READS IS OF BULK AT MOST 1048576: true; the input reads as it did. -/
def numDividesUptoRow : OpenClaim := { program := "ytoaapneihcfieaa", sum := "47569a78b329aa56721b8117c1ef87fa9a8532fe7f55f481840da07ea4d50177", func := "evenkeel/evenkeelkeep.NumDivides", spec := "numDivides", unfollowed := true, recurses := true, apart := false, narrowed := true }
def NumDividesUptoSaid : Prop := numDividesUptoRow.holds Try.pinned (OpenSpec.upto numDividesSpec)

/-- 'evenkeellaw.KnownHolds', WHERE WHAT IT READS IS OF BULK AT MOST 1048576: true; the input reads as it did. -/
def knownHoldsUptoRow : OpenClaim := { program := "ytoaapneihcfieaa", sum := "47569a78b329aa56721b8117c1ef87fa9a8532fe7f55f481840da07ea4d50177", func := "evenkeel/evenkeellaw.KnownHolds", spec := "knownHolds", apart := false, narrowed := true }
def KnownHoldsUptoSaid : Prop := knownHoldsUptoRow.holds Try.pinned (OpenSpec.upto knownHoldsSpec)

/-- 'evenkeellaw.KnownTells', WHERE WHAT IT READS IS OF BULK AT MOST 1048576: true; the input reads as it did. -/
def knownTellsUptoRow : OpenClaim := { program := "ytoaapneihcfieaa", sum := "47569a78b329aa56721b8117c1ef87fa9a8532fe7f55f481840da07ea4d50177", func := "evenkeel/evenkeellaw.KnownTells", spec := "knownTells", apart := false, narrowed := true }
def KnownTellsUptoSaid : Prop := knownTellsUptoRow.holds Try.pinned (OpenSpec.upto knownTellsSpec)

/-- 'evenkeelkeep.FormHard', WHERE WHAT IT READS IS OF BULK AT MOST 1048576: true; the input reads as it did. -/
def formHardUptoRow : OpenClaim := { program := "ytoaapneihcfieaa", sum := "47569a78b329aa56721b8117c1ef87fa9a8532fe7f55f481840da07ea4d50177", func := "evenkeel/evenkeelkeep.FormHard", spec := "formHard", apart := false, narrowed := true }
def FormHardUptoSaid : Prop := formHardUptoRow.holds Try.pinned (OpenSpec.upto formHardSpec)

/-- 'evenkeellaw.FormTells', WHERE WHAT IT READS IS OF BULK AT MOST 1048576: true; the input reads as it did. -/
def formTellsUptoRow : OpenClaim := { program := "ytoaapneihcfieaa", sum := "47569a78b329aa56721b8117c1ef87fa9a8532fe7f55f481840da07ea4d50177", func := "evenkeel/evenkeellaw.FormTells", spec := "formTells", apart := false, narrowed := true }
def FormTellsUptoSaid : Prop := formTellsUptoRow.holds Try.pinned (OpenSpec.upto formTellsSpec)

/-- 'evenkeellaw.WordGets', WHERE WHAT IT READS IS OF BULK AT MOST 1048576: true; the input reads as it did. -/
def wordGetsUptoRow : OpenClaim := { program := "ytoaapneihcfieaa", sum := "47569a78b329aa56721b8117c1ef87fa9a8532fe7f55f481840da07ea4d50177", func := "evenkeel/evenkeellaw.WordGets", spec := "wordGets", unfollowed := true, recurses := true, apart := false, narrowed := true }
def WordGetsUptoSaid : Prop := wordGetsUptoRow.holds Try.pinned (OpenSpec.upto wordGetsSpec)

/-- 'evenkeellaw.WordPuts', WHERE WHAT IT READS IS OF BULK AT MOST 1048576: true; the input reads as it did. -/
def wordPutsUptoRow : OpenClaim := { program := "ytoaapneihcfieaa", sum := "47569a78b329aa56721b8117c1ef87fa9a8532fe7f55f481840da07ea4d50177", func := "evenkeel/evenkeellaw.WordPuts", spec := "wordPuts", apart := false, narrowed := true }
def WordPutsUptoSaid : Prop := wordPutsUptoRow.holds Try.pinned (OpenSpec.upto wordPutsSpec)

/-- 'evenkeelkeep.WordBack', WHERE WHAT IT READS IS OF BULK AT MOST 1048576: true; the input reads as it did. -/
def wordBackUptoRow : OpenClaim := { program := "ytoaapneihcfieaa", sum := "47569a78b329aa56721b8117c1ef87fa9a8532fe7f55f481840da07ea4d50177", func := "evenkeel/evenkeelkeep.WordBack", spec := "wordBack", unfollowed := true, recurses := true, apart := false, narrowed := true }
def WordBackUptoSaid : Prop := wordBackUptoRow.holds Try.pinned (OpenSpec.upto wordBackSpec)

end Rows
end Go.Proofs.Ytoaapneihcfieaa
