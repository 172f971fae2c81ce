/-
  No cell of these rows narrows 'for every input' (looked for: loops, veiled, ifaces, maps, wideKeys, modest, calm, conditions, laid).
  DERIVED. THE GIVEN ROWS OF THIS SEAT. 11 by the template 'for every input the law returns true; each argument reads behind the call as it read before'; 0 by the template 'total and deterministic' (their statements: YtoaapneihcfieabTotals.lean).
  GIVEN WITH THE SEED: the statements are not yours to turn. If you find one false, say at which input.
  Laid BY PROGRAM, IN A SANDBOX (cutbox-rows.mjs): the forced cells as the released guide's own fill.sh prints them over the translation e5033e2057a9559a… (all of the seat's roots in one cut). By AI agents, Wed Nov 11 2026. No macro, syntax, notation, axiom, sorry.
-/
import Derived.Test.YtoaapneihcfieabChecked
import GoSem.Claim
import GoSem.ClaimJoined
import GoSem.ClaimMapViews
import Derived.JoinedTies
import Derived.KernelRfl
namespace Go.Proofs.Ytoaapneihcfieab
/- THE CELL 'sum', in the pinned program and in every row, IS THE sha256 OF THE DUMP (.gsa) THAT YtoaapneihcfieabProg.lean LOADS. Nothing in Lean hashes anything: it is a label: what it is worth is what the hold of that sum in a sandbox is worth. -/
noncomputable def Try.pinned : Pinned := { name := "ytoaapneihcfieab", sum := "e5033e2057a9559a2d8996cc6516239b524c9e2cf152ba0e71ab73424995586c", checked := Try.checked }
namespace Rows
def none {H : Type} : Left H := { results := [], args := [] }

/-- 'evenkeelkeep.WordThere': WHATEVER THE INPUT: true; the input reads as it did. -/
def wordThereSpec : ChangeSpec := { name := "wordThere", fn := fun _ => fun
  | [d1, d2] => { results := [.lit (.bool true)], args := [d1, d2] }
  | _ => none }
def wordThereRow : OpenClaim := { program := "ytoaapneihcfieab", sum := "e5033e2057a9559a2d8996cc6516239b524c9e2cf152ba0e71ab73424995586c", func := "evenkeel/evenkeelkeep.WordThere", spec := "wordThere", unfollowed := true, recurses := true, apart := false }
def WordThereSaid : Prop := wordThereRow.holds Try.pinned (OpenSpec.ofChange wordThereSpec)

/-- ITS FALSE NEIGHBOUR: 'it returns false'. Refute it at one input. -/
def wordThereWrong : ChangeSpec := { name := "wordThere", fn := fun _ => fun
  | [d1, d2] => { results := [.lit (.bool false)], args := [d1, d2] }
  | _ => none }
def WordThereWrongFalsely : Prop := wordThereRow.holds Try.pinned (OpenSpec.ofChange wordThereWrong)

/-- 'evenkeellaw.CheckTells': WHATEVER THE INPUT: true; the input reads as it did. -/
def checkTellsSpec : ChangeSpec := { name := "checkTells", fn := fun _ => fun
  | [d] => { results := [.lit (.bool true)], args := [d] }
  | _ => none }
def checkTellsRow : OpenClaim := { program := "ytoaapneihcfieab", sum := "e5033e2057a9559a2d8996cc6516239b524c9e2cf152ba0e71ab73424995586c", func := "evenkeel/evenkeellaw.CheckTells", spec := "checkTells", apart := false }
def CheckTellsSaid : Prop := checkTellsRow.holds Try.pinned (OpenSpec.ofChange checkTellsSpec)

/-- ITS FALSE NEIGHBOUR: 'it returns false'. Refute it at one input. -/
def checkTellsWrong : ChangeSpec := { name := "checkTells", fn := fun _ => fun
  | [d] => { results := [.lit (.bool false)], args := [d] }
  | _ => none }
def CheckTellsWrongFalsely : Prop := checkTellsRow.holds Try.pinned (OpenSpec.ofChange checkTellsWrong)

/-- 'evenkeellaw.CheckSafe': WHATEVER THE INPUT: true; the input reads as it did. -/
def checkSafeSpec : ChangeSpec := { name := "checkSafe", fn := fun _ => fun
  | [d1, d2, d3] => { results := [.lit (.bool true)], args := [d1, d2, d3] }
  | _ => none }
def checkSafeRow : OpenClaim := { program := "ytoaapneihcfieab", sum := "e5033e2057a9559a2d8996cc6516239b524c9e2cf152ba0e71ab73424995586c", func := "evenkeel/evenkeellaw.CheckSafe", spec := "checkSafe", apart := false }
def CheckSafeSaid : Prop := checkSafeRow.holds Try.pinned (OpenSpec.ofChange checkSafeSpec)

/-- ITS FALSE NEIGHBOUR: 'it returns false'. Refute it at one input. -/
def checkSafeWrong : ChangeSpec := { name := "checkSafe", fn := fun _ => fun
  | [d1, d2, d3] => { results := [.lit (.bool false)], args := [d1, d2, d3] }
  | _ => none }
def CheckSafeWrongFalsely : Prop := checkSafeRow.holds Try.pinned (OpenSpec.ofChange checkSafeWrong)

/-- 'evenkeellaw.CheckQuiet': WHATEVER THE INPUT: true; the input reads as it did. -/
def checkQuietSpec : ChangeSpec := { name := "checkQuiet", fn := fun _ => fun
  | [d1, d2, d3, d4] => { results := [.lit (.bool true)], args := [d1, d2, d3, d4] }
  | _ => none }
def checkQuietRow : OpenClaim := { program := "ytoaapneihcfieab", sum := "e5033e2057a9559a2d8996cc6516239b524c9e2cf152ba0e71ab73424995586c", func := "evenkeel/evenkeellaw.CheckQuiet", spec := "checkQuiet", apart := false }
def CheckQuietSaid : Prop := checkQuietRow.holds Try.pinned (OpenSpec.ofChange checkQuietSpec)

/-- ITS FALSE NEIGHBOUR: 'it returns false'. Refute it at one input. -/
def checkQuietWrong : ChangeSpec := { name := "checkQuiet", fn := fun _ => fun
  | [d1, d2, d3, d4] => { results := [.lit (.bool false)], args := [d1, d2, d3, d4] }
  | _ => none }
def CheckQuietWrongFalsely : Prop := checkQuietRow.holds Try.pinned (OpenSpec.ofChange checkQuietWrong)

/-- 'evenkeellaw.SeqRuns': WHATEVER THE INPUT: true; the input reads as it did. -/
def seqRunsSpec : ChangeSpec := { name := "seqRuns", fn := fun _ => fun
  | [d1, d2, d3] => { results := [.lit (.bool true)], args := [d1, d2, d3] }
  | _ => none }
def seqRunsRow : OpenClaim := { program := "ytoaapneihcfieab", sum := "e5033e2057a9559a2d8996cc6516239b524c9e2cf152ba0e71ab73424995586c", func := "evenkeel/evenkeellaw.SeqRuns", spec := "seqRuns", unfollowed := true, recurses := true, apart := false }
def SeqRunsSaid : Prop := seqRunsRow.holds Try.pinned (OpenSpec.ofChange seqRunsSpec)

/-- ITS FALSE NEIGHBOUR: 'it returns false'. Refute it at one input. -/
def seqRunsWrong : ChangeSpec := { name := "seqRuns", fn := fun _ => fun
  | [d1, d2, d3] => { results := [.lit (.bool false)], args := [d1, d2, d3] }
  | _ => none }
def SeqRunsWrongFalsely : Prop := seqRunsRow.holds Try.pinned (OpenSpec.ofChange seqRunsWrong)

/-- 'evenkeelkeep.SeqLonger': WHATEVER THE INPUT: true; the input reads as it did. -/
def seqLongerSpec : ChangeSpec := { name := "seqLonger", fn := fun _ => fun
  | [d1, d2, d3, d4] => { results := [.lit (.bool true)], args := [d1, d2, d3, d4] }
  | _ => none }
def seqLongerRow : OpenClaim := { program := "ytoaapneihcfieab", sum := "e5033e2057a9559a2d8996cc6516239b524c9e2cf152ba0e71ab73424995586c", func := "evenkeel/evenkeelkeep.SeqLonger", spec := "seqLonger", unfollowed := true, recurses := true, apart := false }
def SeqLongerSaid : Prop := seqLongerRow.holds Try.pinned (OpenSpec.ofChange seqLongerSpec)

/-- ITS FALSE NEIGHBOUR: 'it returns false'. Refute it at one input. -/
def seqLongerWrong : ChangeSpec := { name := "seqLonger", fn := fun _ => fun
  | [d1, d2, d3, d4] => { results := [.lit (.bool false)], args := [d1, d2, d3, d4] }
  | _ => none }
def SeqLongerWrongFalsely : Prop := seqLongerRow.holds Try.pinned (OpenSpec.ofChange seqLongerWrong)

/-- 'evenkeellaw.HardenMakes': WHATEVER THE INPUT: true; the input reads as it did. -/
def hardenMakesSpec : ChangeSpec := { name := "hardenMakes", fn := fun _ => fun
  | [d] => { results := [.lit (.bool true)], args := [d] }
  | _ => none }
def hardenMakesRow : OpenClaim := { program := "ytoaapneihcfieab", sum := "e5033e2057a9559a2d8996cc6516239b524c9e2cf152ba0e71ab73424995586c", func := "evenkeel/evenkeellaw.HardenMakes", spec := "hardenMakes", apart := false }
def HardenMakesSaid : Prop := hardenMakesRow.holds Try.pinned (OpenSpec.ofChange hardenMakesSpec)

/-- ITS FALSE NEIGHBOUR: 'it returns false'. Refute it at one input. -/
def hardenMakesWrong : ChangeSpec := { name := "hardenMakes", fn := fun _ => fun
  | [d] => { results := [.lit (.bool false)], args := [d] }
  | _ => none }
def HardenMakesWrongFalsely : Prop := hardenMakesRow.holds Try.pinned (OpenSpec.ofChange hardenMakesWrong)

/-- 'evenkeellaw.HardenSame': WHATEVER THE INPUT: true; the input reads as it did. -/
def hardenSameSpec : ChangeSpec := { name := "hardenSame", fn := fun _ => fun
  | [d1, d2, d3] => { results := [.lit (.bool true)], args := [d1, d2, d3] }
  | _ => none }
def hardenSameRow : OpenClaim := { program := "ytoaapneihcfieab", sum := "e5033e2057a9559a2d8996cc6516239b524c9e2cf152ba0e71ab73424995586c", func := "evenkeel/evenkeellaw.HardenSame", spec := "hardenSame", apart := false }
def HardenSameSaid : Prop := hardenSameRow.holds Try.pinned (OpenSpec.ofChange hardenSameSpec)

/-- ITS FALSE NEIGHBOUR: 'it returns false'. Refute it at one input. -/
def hardenSameWrong : ChangeSpec := { name := "hardenSame", fn := fun _ => fun
  | [d1, d2, d3] => { results := [.lit (.bool false)], args := [d1, d2, d3] }
  | _ => none }
def HardenSameWrongFalsely : Prop := hardenSameRow.holds Try.pinned (OpenSpec.ofChange hardenSameWrong)

/-- 'evenkeellaw.HardenQuiet': WHATEVER THE INPUT: true; the input reads as it did. -/
def hardenQuietSpec : ChangeSpec := { name := "hardenQuiet", fn := fun _ => fun
  | [d1, d2, d3, d4, d5] => { results := [.lit (.bool true)], args := [d1, d2, d3, d4, d5] }
  | _ => none }
def hardenQuietRow : OpenClaim := { program := "ytoaapneihcfieab", sum := "e5033e2057a9559a2d8996cc6516239b524c9e2cf152ba0e71ab73424995586c", func := "evenkeel/evenkeellaw.HardenQuiet", spec := "hardenQuiet", apart := false }
def HardenQuietSaid : Prop := hardenQuietRow.holds Try.pinned (OpenSpec.ofChange hardenQuietSpec)

/-- ITS FALSE NEIGHBOUR: 'it returns false'. Refute it at one input. -/
def hardenQuietWrong : ChangeSpec := { name := "hardenQuiet", fn := fun _ => fun
  | [d1, d2, d3, d4, d5] => { results := [.lit (.bool false)], args := [d1, d2, d3, d4, d5] }
  | _ => none }
def HardenQuietWrongFalsely : Prop := hardenQuietRow.holds Try.pinned (OpenSpec.ofChange hardenQuietWrong)

/-- 'evenkeellaw.FenceMakes': WHATEVER THE INPUT: true; the input reads as it did. -/
def fenceMakesSpec : ChangeSpec := { name := "fenceMakes", fn := fun _ => fun
  | [d] => { results := [.lit (.bool true)], args := [d] }
  | _ => none }
def fenceMakesRow : OpenClaim := { program := "ytoaapneihcfieab", sum := "e5033e2057a9559a2d8996cc6516239b524c9e2cf152ba0e71ab73424995586c", func := "evenkeel/evenkeellaw.FenceMakes", spec := "fenceMakes", unfollowed := true, recurses := true, apart := false }
def FenceMakesSaid : Prop := fenceMakesRow.holds Try.pinned (OpenSpec.ofChange fenceMakesSpec)

/-- ITS FALSE NEIGHBOUR: 'it returns false'. Refute it at one input. -/
def fenceMakesWrong : ChangeSpec := { name := "fenceMakes", fn := fun _ => fun
  | [d] => { results := [.lit (.bool false)], args := [d] }
  | _ => none }
def FenceMakesWrongFalsely : Prop := fenceMakesRow.holds Try.pinned (OpenSpec.ofChange fenceMakesWrong)

/-- 'evenkeellaw.FenceSame': WHATEVER THE INPUT: true; the input reads as it did. -/
def fenceSameSpec : ChangeSpec := { name := "fenceSame", fn := fun _ => fun
  | [d1, d2, d3] => { results := [.lit (.bool true)], args := [d1, d2, d3] }
  | _ => none }
def fenceSameRow : OpenClaim := { program := "ytoaapneihcfieab", sum := "e5033e2057a9559a2d8996cc6516239b524c9e2cf152ba0e71ab73424995586c", func := "evenkeel/evenkeellaw.FenceSame", spec := "fenceSame", unfollowed := true, recurses := true, apart := false }
def FenceSameSaid : Prop := fenceSameRow.holds Try.pinned (OpenSpec.ofChange fenceSameSpec)

/-- ITS FALSE NEIGHBOUR: 'it returns false'. Refute it at one input. -/
def fenceSameWrong : ChangeSpec := { name := "fenceSame", fn := fun _ => fun
  | [d1, d2, d3] => { results := [.lit (.bool false)], args := [d1, d2, d3] }
  | _ => none }
def FenceSameWrongFalsely : Prop := fenceSameRow.holds Try.pinned (OpenSpec.ofChange fenceSameWrong)

/- THE SECOND FORM. 'bulk': how many values and letters a reading holds, each counted each time it is reached (what is shared counts as often as it is met; a slice's spare places count too). A statement '..UptoSaid' is the law's where the arguments, and the package variables that the reading takes, are together of bulk at most 1048576: NARROWER than '..Said'. Prove '..Said' where nothing that the law and all that it calls make is longer than what came in: it says more and counts as full. Else prove '..UptoSaid'. A law counts once. -/
mutual
def uptoBulk {H : Type} : DataW H → Nat
  | .lit (.string bytes) => bytes.length + 1
  | .lit _ => 1
  | .nil => 1
  | .ptr d => uptoBulk d + 1
  | .slice elems spare => uptoBulkAll elems + uptoBulkAll spare + 1
  | .agg parts => uptoBulkAll parts + 1
  | .iface _ d => uptoBulk d + 1
  | .map entries => uptoBulkEntries entries + 1
  | .held _ => 1
def uptoBulkAll {H : Type} : List (DataW H) → Nat
  | [] => 0
  | d :: r => uptoBulk d + uptoBulkAll r
def uptoBulkEntries {H : Type} : List (Lit × DataW H) → Nat
  | [] => 0
  | x :: r => uptoBulkEntry x + uptoBulkEntries r
def uptoBulkEntry {H : Type} : Lit × DataW H → Nat
  | (.string bytes, d) => bytes.length + uptoBulk d + 1
  | (_, d) => uptoBulk d + 1
 end
def uptoSmall : (H : Type) → List (DataW H) → Bool := fun _ ds => decide (uptoBulkAll ds ≤ 1048576)
def OpenSpec.upto (s : _root_.Go.ChangeSpec) : _root_.Go.OpenSpec := { _root_.Go.OpenSpec.ofChange s with cond := some uptoSmall }

/-- 'evenkeelkeep.WordThere', WHERE WHAT IT READS IS OF BULK AT MOST 1048576: true; the input reads as it did. -/
def wordThereUptoRow : OpenClaim := { program := "ytoaapneihcfieab", sum := "e5033e2057a9559a2d8996cc6516239b524c9e2cf152ba0e71ab73424995586c", func := "evenkeel/evenkeelkeep.WordThere", spec := "wordThere", unfollowed := true, recurses := true, apart := false, narrowed := true }
def WordThereUptoSaid : Prop := wordThereUptoRow.holds Try.pinned (OpenSpec.upto wordThereSpec)

/-- 'evenkeellaw.CheckTells', WHERE WHAT IT READS IS OF BULK AT MOST 1048576: true; the input reads as it did. -/
def checkTellsUptoRow : OpenClaim := { program := "ytoaapneihcfieab", sum := "e5033e2057a9559a2d8996cc6516239b524c9e2cf152ba0e71ab73424995586c", func := "evenkeel/evenkeellaw.CheckTells", spec := "checkTells", apart := false, narrowed := true }
def CheckTellsUptoSaid : Prop := checkTellsUptoRow.holds Try.pinned (OpenSpec.upto checkTellsSpec)

/-- 'evenkeellaw.CheckSafe', WHERE WHAT IT READS IS OF BULK AT MOST 1048576: true; the input reads as it did. -/
def checkSafeUptoRow : OpenClaim := { program := "ytoaapneihcfieab", sum := "e5033e2057a9559a2d8996cc6516239b524c9e2cf152ba0e71ab73424995586c", func := "evenkeel/evenkeellaw.CheckSafe", spec := "checkSafe", apart := false, narrowed := true }
def CheckSafeUptoSaid : Prop := checkSafeUptoRow.holds Try.pinned (OpenSpec.upto checkSafeSpec)

/-- 'evenkeellaw.CheckQuiet', WHERE WHAT IT READS IS OF BULK AT MOST 1048576: true; the input reads as it did. -/
def checkQuietUptoRow : OpenClaim := { program := "ytoaapneihcfieab", sum := "e5033e2057a9559a2d8996cc6516239b524c9e2cf152ba0e71ab73424995586c", func := "evenkeel/evenkeellaw.CheckQuiet", spec := "checkQuiet", apart := false, narrowed := true }
def CheckQuietUptoSaid : Prop := checkQuietUptoRow.holds Try.pinned (OpenSpec.upto checkQuietSpec)

/-- 'evenkeellaw.SeqRuns', WHERE WHAT IT READS IS OF BULK AT MOST 1048576: true; the input reads as it did. -/
def seqRunsUptoRow : OpenClaim := { program := "ytoaapneihcfieab", sum := "e5033e2057a9559a2d8996cc6516239b524c9e2cf152ba0e71ab73424995586c", func := "evenkeel/evenkeellaw.SeqRuns", spec := "seqRuns", unfollowed := true, recurses := true, apart := false, narrowed := true }
def SeqRunsUptoSaid : Prop := seqRunsUptoRow.holds Try.pinned (OpenSpec.upto seqRunsSpec)

/-- 'evenkeelkeep.SeqLonger', WHERE WHAT IT READS IS OF BULK AT MOST 1048576: true; the input reads as it did. -/
def seqLongerUptoRow : OpenClaim := { program := "ytoaapneihcfieab", sum := "e5033e2057a9559a2d8996cc6516239b524c9e2cf152ba0e71ab73424995586c", func := "evenkeel/evenkeelkeep.SeqLonger", spec := "seqLonger", unfollowed := true, recurses := true, apart := false, narrowed := true }
def SeqLongerUptoSaid : Prop := seqLongerUptoRow.holds Try.pinned (OpenSpec.upto seqLongerSpec)

/-- 'evenkeellaw.HardenMakes', WHERE WHAT IT READS IS OF BULK AT MOST 1048576: true; the input reads as it did. -/
def hardenMakesUptoRow : OpenClaim := { program := "ytoaapneihcfieab", sum := "e5033e2057a9559a2d8996cc6516239b524c9e2cf152ba0e71ab73424995586c", func := "evenkeel/evenkeellaw.HardenMakes", spec := "hardenMakes", apart := false, narrowed := true }
def HardenMakesUptoSaid : Prop := hardenMakesUptoRow.holds Try.pinned (OpenSpec.upto hardenMakesSpec)

/-- 'evenkeellaw.HardenSame', WHERE WHAT IT READS IS OF BULK AT MOST 1048576: true; the input reads as it did. -/
def hardenSameUptoRow : OpenClaim := { program := "ytoaapneihcfieab", sum := "e5033e2057a9559a2d8996cc6516239b524c9e2cf152ba0e71ab73424995586c", func := "evenkeel/evenkeellaw.HardenSame", spec := "hardenSame", apart := false, narrowed := true }
def HardenSameUptoSaid : Prop := hardenSameUptoRow.holds Try.pinned (OpenSpec.upto hardenSameSpec)

/-- 'evenkeellaw.HardenQuiet', WHERE WHAT IT READS IS OF BULK AT MOST 1048576: true; the input reads as it did. -/
def hardenQuietUptoRow : OpenClaim := { program := "ytoaapneihcfieab", sum := "e5033e2057a9559a2d8996cc6516239b524c9e2cf152ba0e71ab73424995586c", func := "evenkeel/evenkeellaw.HardenQuiet", spec := "hardenQuiet", apart := false, narrowed := true }
def HardenQuietUptoSaid : Prop := hardenQuietUptoRow.holds Try.pinned (OpenSpec.upto hardenQuietSpec)

/-- 'evenkeellaw.FenceMakes', WHERE WHAT IT READS IS OF BULK AT MOST 1048576: true; the input reads as it did. -/
def fenceMakesUptoRow : OpenClaim := { program := "ytoaapneihcfieab", sum := "e5033e2057a9559a2d8996cc6516239b524c9e2cf152ba0e71ab73424995586c", func := "evenkeel/evenkeellaw.FenceMakes", spec := "fenceMakes", unfollowed := true, recurses := true, apart := false, narrowed := true }
def FenceMakesUptoSaid : Prop := fenceMakesUptoRow.holds Try.pinned (OpenSpec.upto fenceMakesSpec)

/-- 'evenkeellaw.FenceSame', WHERE WHAT IT READS IS OF BULK AT MOST 1048576: true; the input reads as it did. -/
def fenceSameUptoRow : OpenClaim := { program := "ytoaapneihcfieab", sum := "e5033e2057a9559a2d8996cc6516239b524c9e2cf152ba0e71ab73424995586c", func := "evenkeel/evenkeellaw.FenceSame", spec := "fenceSame", unfollowed := true, recurses := true, apart := false, narrowed := true }
def FenceSameUptoSaid : Prop := fenceSameUptoRow.holds Try.pinned (OpenSpec.upto fenceSameSpec)

end Rows
end Go.Proofs.Ytoaapneihcfieab
