/-
  No cell of these rows narrows 'for every input' (looked for: loops, veiled, ifaces, maps, wideKeys, modest, calm, conditions, laid).
  DERIVED. THE GIVEN ROWS OF THIS SEAT. 20 by the template 'for every input the law returns true; each argument reads behind the call as it read before'; 0 by the template 'total and deterministic' (their statements: YteiknefajlocoaaTotals.lean).
  GIVEN WITH THE SEED: the statements are not yours to turn. If you find one false, say at which input.
  Laid BY PROGRAM, IN A SANDBOX (cutbox-rows.mjs): the forced cells as the released guide's own fill.sh prints them over the translation aef71b98f476aeab… (all of the seat's roots in one cut). By AI agents, Wed Nov 11 2026. No macro, syntax, notation, axiom, sorry.
-/
import Derived.Test.YteiknefajlocoaaChecked
import GoSem.Claim
import GoSem.ClaimJoined
import GoSem.ClaimMapViews
import Derived.JoinedTies
import Derived.KernelRfl
namespace Go.Proofs.Yteiknefajlocoaa
/- THE CELL 'sum', in the pinned program and in every row, IS THE sha256 OF THE DUMP (.gsa) THAT YteiknefajlocoaaProg.lean LOADS. Nothing in Lean hashes anything: it is a label: what it is worth is what the hold of that sum in a sandbox is worth. -/
noncomputable def Try.pinned : Pinned := { name := "yteiknefajlocoaa", sum := "aef71b98f476aeab138c1cc6d87af5f1dfb2879593ff5a34158b8bf579310755", checked := Try.checked }
namespace Rows
def none {H : Type} : Left H := { results := [], args := [] }

/-- 'evenkeellaw.CheckTells': WHATEVER THE INPUT: true; the input reads as it did. -/
def checkTellsSpec : ChangeSpec := { name := "checkTells", fn := fun _ => fun
  | [d] => { results := [.lit (.bool true)], args := [d] }
  | _ => none }
def checkTellsRow : OpenClaim := { program := "yteiknefajlocoaa", sum := "aef71b98f476aeab138c1cc6d87af5f1dfb2879593ff5a34158b8bf579310755", func := "evenkeel/evenkeellaw.CheckTells", spec := "checkTells", apart := false }
def CheckTellsSaid : Prop := checkTellsRow.holds Try.pinned (OpenSpec.ofChange checkTellsSpec)

/-- ITS FALSE NEIGHBOUR: 'it returns false'. Refute it at one input. -/
def checkTellsWrong : ChangeSpec := { name := "checkTells", fn := fun _ => fun
  | [d] => { results := [.lit (.bool false)], args := [d] }
  | _ => none }
def CheckTellsWrongFalsely : Prop := checkTellsRow.holds Try.pinned (OpenSpec.ofChange checkTellsWrong)

/-- 'evenkeellaw.CheckSafe': WHATEVER THE INPUT: true; the input reads as it did. -/
def checkSafeSpec : ChangeSpec := { name := "checkSafe", fn := fun _ => fun
  | [d1, d2, d3] => { results := [.lit (.bool true)], args := [d1, d2, d3] }
  | _ => none }
def checkSafeRow : OpenClaim := { program := "yteiknefajlocoaa", sum := "aef71b98f476aeab138c1cc6d87af5f1dfb2879593ff5a34158b8bf579310755", func := "evenkeel/evenkeellaw.CheckSafe", spec := "checkSafe", apart := false }
def CheckSafeSaid : Prop := checkSafeRow.holds Try.pinned (OpenSpec.ofChange checkSafeSpec)

/-- ITS FALSE NEIGHBOUR: 'it returns false'. Refute it at one input. -/
def checkSafeWrong : ChangeSpec := { name := "checkSafe", fn := fun _ => fun
  | [d1, d2, d3] => { results := [.lit (.bool false)], args := [d1, d2, d3] }
  | _ => none }
def CheckSafeWrongFalsely : Prop := checkSafeRow.holds Try.pinned (OpenSpec.ofChange checkSafeWrong)

/-- 'evenkeellaw.CheckQuiet': WHATEVER THE INPUT: true; the input reads as it did. -/
def checkQuietSpec : ChangeSpec := { name := "checkQuiet", fn := fun _ => fun
  | [d1, d2, d3, d4] => { results := [.lit (.bool true)], args := [d1, d2, d3, d4] }
  | _ => none }
def checkQuietRow : OpenClaim := { program := "yteiknefajlocoaa", sum := "aef71b98f476aeab138c1cc6d87af5f1dfb2879593ff5a34158b8bf579310755", func := "evenkeel/evenkeellaw.CheckQuiet", spec := "checkQuiet", apart := false }
def CheckQuietSaid : Prop := checkQuietRow.holds Try.pinned (OpenSpec.ofChange checkQuietSpec)

/-- ITS FALSE NEIGHBOUR: 'it returns false'. Refute it at one input. -/
def checkQuietWrong : ChangeSpec := { name := "checkQuiet", fn := fun _ => fun
  | [d1, d2, d3, d4] => { results := [.lit (.bool false)], args := [d1, d2, d3, d4] }
  | _ => none }
def CheckQuietWrongFalsely : Prop := checkQuietRow.holds Try.pinned (OpenSpec.ofChange checkQuietWrong)

/-- 'evenkeellaw.SeqRuns': WHATEVER THE INPUT: true; the input reads as it did. -/
def seqRunsSpec : ChangeSpec := { name := "seqRuns", fn := fun _ => fun
  | [d1, d2, d3] => { results := [.lit (.bool true)], args := [d1, d2, d3] }
  | _ => none }
def seqRunsRow : OpenClaim := { program := "yteiknefajlocoaa", sum := "aef71b98f476aeab138c1cc6d87af5f1dfb2879593ff5a34158b8bf579310755", func := "evenkeel/evenkeellaw.SeqRuns", spec := "seqRuns", unfollowed := true, recurses := true, apart := false }
def SeqRunsSaid : Prop := seqRunsRow.holds Try.pinned (OpenSpec.ofChange seqRunsSpec)

/-- ITS FALSE NEIGHBOUR: 'it returns false'. Refute it at one input. -/
def seqRunsWrong : ChangeSpec := { name := "seqRuns", fn := fun _ => fun
  | [d1, d2, d3] => { results := [.lit (.bool false)], args := [d1, d2, d3] }
  | _ => none }
def SeqRunsWrongFalsely : Prop := seqRunsRow.holds Try.pinned (OpenSpec.ofChange seqRunsWrong)

/-- 'evenkeelkeep.SeqLonger': WHATEVER THE INPUT: true; the input reads as it did. -/
def seqLongerSpec : ChangeSpec := { name := "seqLonger", fn := fun _ => fun
  | [d1, d2, d3, d4] => { results := [.lit (.bool true)], args := [d1, d2, d3, d4] }
  | _ => none }
def seqLongerRow : OpenClaim := { program := "yteiknefajlocoaa", sum := "aef71b98f476aeab138c1cc6d87af5f1dfb2879593ff5a34158b8bf579310755", func := "evenkeel/evenkeelkeep.SeqLonger", spec := "seqLonger", unfollowed := true, recurses := true, apart := false }
def SeqLongerSaid : Prop := seqLongerRow.holds Try.pinned (OpenSpec.ofChange seqLongerSpec)

/-- ITS FALSE NEIGHBOUR: 'it returns false'. Refute it at one input. -/
def seqLongerWrong : ChangeSpec := { name := "seqLonger", fn := fun _ => fun
  | [d1, d2, d3, d4] => { results := [.lit (.bool false)], args := [d1, d2, d3, d4] }
  | _ => none }
def SeqLongerWrongFalsely : Prop := seqLongerRow.holds Try.pinned (OpenSpec.ofChange seqLongerWrong)

/-- 'evenkeellaw.HardenMakes': WHATEVER THE INPUT: true; the input reads as it did. -/
def hardenMakesSpec : ChangeSpec := { name := "hardenMakes", fn := fun _ => fun
  | [d] => { results := [.lit (.bool true)], args := [d] }
  | _ => none }
def hardenMakesRow : OpenClaim := { program := "yteiknefajlocoaa", sum := "aef71b98f476aeab138c1cc6d87af5f1dfb2879593ff5a34158b8bf579310755", func := "evenkeel/evenkeellaw.HardenMakes", spec := "hardenMakes", apart := false }
def HardenMakesSaid : Prop := hardenMakesRow.holds Try.pinned (OpenSpec.ofChange hardenMakesSpec)

/-- ITS FALSE NEIGHBOUR: 'it returns false'. Refute it at one input. -/
def hardenMakesWrong : ChangeSpec := { name := "hardenMakes", fn := fun _ => fun
  | [d] => { results := [.lit (.bool false)], args := [d] }
  | _ => none }
def HardenMakesWrongFalsely : Prop := hardenMakesRow.holds Try.pinned (OpenSpec.ofChange hardenMakesWrong)

/-- 'evenkeellaw.HardenSame': WHATEVER THE INPUT: true; the input reads as it did. -/
def hardenSameSpec : ChangeSpec := { name := "hardenSame", fn := fun _ => fun
  | [d1, d2, d3] => { results := [.lit (.bool true)], args := [d1, d2, d3] }
  | _ => none }
def hardenSameRow : OpenClaim := { program := "yteiknefajlocoaa", sum := "aef71b98f476aeab138c1cc6d87af5f1dfb2879593ff5a34158b8bf579310755", func := "evenkeel/evenkeellaw.HardenSame", spec := "hardenSame", apart := false }
def HardenSameSaid : Prop := hardenSameRow.holds Try.pinned (OpenSpec.ofChange hardenSameSpec)

/-- ITS FALSE NEIGHBOUR: 'it returns false'. Refute it at one input. -/
def hardenSameWrong : ChangeSpec := { name := "hardenSame", fn := fun _ => fun
  | [d1, d2, d3] => { results := [.lit (.bool false)], args := [d1, d2, d3] }
  | _ => none }
def HardenSameWrongFalsely : Prop := hardenSameRow.holds Try.pinned (OpenSpec.ofChange hardenSameWrong)

/-- 'evenkeellaw.HardenQuiet': WHATEVER THE INPUT: true; the input reads as it did. -/
def hardenQuietSpec : ChangeSpec := { name := "hardenQuiet", fn := fun _ => fun
  | [d1, d2, d3, d4, d5] => { results := [.lit (.bool true)], args := [d1, d2, d3, d4, d5] }
  | _ => none }
def hardenQuietRow : OpenClaim := { program := "yteiknefajlocoaa", sum := "aef71b98f476aeab138c1cc6d87af5f1dfb2879593ff5a34158b8bf579310755", func := "evenkeel/evenkeellaw.HardenQuiet", spec := "hardenQuiet", apart := false }
def HardenQuietSaid : Prop := hardenQuietRow.holds Try.pinned (OpenSpec.ofChange hardenQuietSpec)

/-- ITS FALSE NEIGHBOUR: 'it returns false'. Refute it at one input. -/
def hardenQuietWrong : ChangeSpec := { name := "hardenQuiet", fn := fun _ => fun
  | [d1, d2, d3, d4, d5] => { results := [.lit (.bool false)], args := [d1, d2, d3, d4, d5] }
  | _ => none }
def HardenQuietWrongFalsely : Prop := hardenQuietRow.holds Try.pinned (OpenSpec.ofChange hardenQuietWrong)

/-- 'evenkeellaw.FenceMakes': WHATEVER THE INPUT: true; the input reads as it did. -/
def fenceMakesSpec : ChangeSpec := { name := "fenceMakes", fn := fun _ => fun
  | [d] => { results := [.lit (.bool true)], args := [d] }
  | _ => none }
def fenceMakesRow : OpenClaim := { program := "yteiknefajlocoaa", sum := "aef71b98f476aeab138c1cc6d87af5f1dfb2879593ff5a34158b8bf579310755", func := "evenkeel/evenkeellaw.FenceMakes", spec := "fenceMakes", unfollowed := true, recurses := true, apart := false }
def FenceMakesSaid : Prop := fenceMakesRow.holds Try.pinned (OpenSpec.ofChange fenceMakesSpec)

/-- ITS FALSE NEIGHBOUR: 'it returns false'. Refute it at one input. -/
def fenceMakesWrong : ChangeSpec := { name := "fenceMakes", fn := fun _ => fun
  | [d] => { results := [.lit (.bool false)], args := [d] }
  | _ => none }
def FenceMakesWrongFalsely : Prop := fenceMakesRow.holds Try.pinned (OpenSpec.ofChange fenceMakesWrong)

/-- 'evenkeellaw.FenceSame': WHATEVER THE INPUT: true; the input reads as it did. -/
def fenceSameSpec : ChangeSpec := { name := "fenceSame", fn := fun _ => fun
  | [d1, d2, d3] => { results := [.lit (.bool true)], args := [d1, d2, d3] }
  | _ => none }
def fenceSameRow : OpenClaim := { program := "yteiknefajlocoaa", sum := "aef71b98f476aeab138c1cc6d87af5f1dfb2879593ff5a34158b8bf579310755", func := "evenkeel/evenkeellaw.FenceSame", spec := "fenceSame", unfollowed := true, recurses := true, apart := false }
def FenceSameSaid : Prop := fenceSameRow.holds Try.pinned (OpenSpec.ofChange fenceSameSpec)

/-- ITS FALSE NEIGHBOUR: 'it returns false'. Refute it at one input. -/
def fenceSameWrong : ChangeSpec := { name := "fenceSame", fn := fun _ => fun
  | [d1, d2, d3] => { results := [.lit (.bool false)], args := [d1, d2, d3] }
  | _ => none }
def FenceSameWrongFalsely : Prop := fenceSameRow.holds Try.pinned (OpenSpec.ofChange fenceSameWrong)

/-- 'evenkeellaw.FenceQuiet': WHATEVER THE INPUT: true; the input reads as it did. -/
def fenceQuietSpec : ChangeSpec := { name := "fenceQuiet", fn := fun _ => fun
  | [d1, d2, d3, d4, d5] => { results := [.lit (.bool true)], args := [d1, d2, d3, d4, d5] }
  | _ => none }
def fenceQuietRow : OpenClaim := { program := "yteiknefajlocoaa", sum := "aef71b98f476aeab138c1cc6d87af5f1dfb2879593ff5a34158b8bf579310755", func := "evenkeel/evenkeellaw.FenceQuiet", spec := "fenceQuiet", unfollowed := true, recurses := true, apart := false }
def FenceQuietSaid : Prop := fenceQuietRow.holds Try.pinned (OpenSpec.ofChange fenceQuietSpec)

/-- ITS FALSE NEIGHBOUR: 'it returns false'. Refute it at one input. -/
def fenceQuietWrong : ChangeSpec := { name := "fenceQuiet", fn := fun _ => fun
  | [d1, d2, d3, d4, d5] => { results := [.lit (.bool false)], args := [d1, d2, d3, d4, d5] }
  | _ => none }
def FenceQuietWrongFalsely : Prop := fenceQuietRow.holds Try.pinned (OpenSpec.ofChange fenceQuietWrong)

/-- 'evenkeellaw.LoadMakes': WHATEVER THE INPUT: true; the input reads as it did. -/
def loadMakesSpec : ChangeSpec := { name := "loadMakes", fn := fun _ => fun
  | [d] => { results := [.lit (.bool true)], args := [d] }
  | _ => none }
def loadMakesRow : OpenClaim := { program := "yteiknefajlocoaa", sum := "aef71b98f476aeab138c1cc6d87af5f1dfb2879593ff5a34158b8bf579310755", func := "evenkeel/evenkeellaw.LoadMakes", spec := "loadMakes", apart := false }
def LoadMakesSaid : Prop := loadMakesRow.holds Try.pinned (OpenSpec.ofChange loadMakesSpec)

/-- ITS FALSE NEIGHBOUR: 'it returns false'. Refute it at one input. -/
def loadMakesWrong : ChangeSpec := { name := "loadMakes", fn := fun _ => fun
  | [d] => { results := [.lit (.bool false)], args := [d] }
  | _ => none }
def LoadMakesWrongFalsely : Prop := loadMakesRow.holds Try.pinned (OpenSpec.ofChange loadMakesWrong)

/-- 'evenkeellaw.LoadSame': WHATEVER THE INPUT: true; the input reads as it did. -/
def loadSameSpec : ChangeSpec := { name := "loadSame", fn := fun _ => fun
  | [d1, d2, d3] => { results := [.lit (.bool true)], args := [d1, d2, d3] }
  | _ => none }
def loadSameRow : OpenClaim := { program := "yteiknefajlocoaa", sum := "aef71b98f476aeab138c1cc6d87af5f1dfb2879593ff5a34158b8bf579310755", func := "evenkeel/evenkeellaw.LoadSame", spec := "loadSame", apart := false }
def LoadSameSaid : Prop := loadSameRow.holds Try.pinned (OpenSpec.ofChange loadSameSpec)

/-- ITS FALSE NEIGHBOUR: 'it returns false'. Refute it at one input. -/
def loadSameWrong : ChangeSpec := { name := "loadSame", fn := fun _ => fun
  | [d1, d2, d3] => { results := [.lit (.bool false)], args := [d1, d2, d3] }
  | _ => none }
def LoadSameWrongFalsely : Prop := loadSameRow.holds Try.pinned (OpenSpec.ofChange loadSameWrong)

/-- 'evenkeellaw.LoadQuiet': WHATEVER THE INPUT: true; the input reads as it did. -/
def loadQuietSpec : ChangeSpec := { name := "loadQuiet", fn := fun _ => fun
  | [d1, d2, d3, d4, d5] => { results := [.lit (.bool true)], args := [d1, d2, d3, d4, d5] }
  | _ => none }
def loadQuietRow : OpenClaim := { program := "yteiknefajlocoaa", sum := "aef71b98f476aeab138c1cc6d87af5f1dfb2879593ff5a34158b8bf579310755", func := "evenkeel/evenkeellaw.LoadQuiet", spec := "loadQuiet", apart := false }
def LoadQuietSaid : Prop := loadQuietRow.holds Try.pinned (OpenSpec.ofChange loadQuietSpec)

/-- ITS FALSE NEIGHBOUR: 'it returns false'. Refute it at one input. -/
def loadQuietWrong : ChangeSpec := { name := "loadQuiet", fn := fun _ => fun
  | [d1, d2, d3, d4, d5] => { results := [.lit (.bool false)], args := [d1, d2, d3, d4, d5] }
  | _ => none }
def LoadQuietWrongFalsely : Prop := loadQuietRow.holds Try.pinned (OpenSpec.ofChange loadQuietWrong)

/-- 'evenkeellaw.SpecRuns': WHATEVER THE INPUT: true; the input reads as it did. -/
def specRunsSpec : ChangeSpec := { name := "specRuns", fn := fun _ => fun
  | [d1, d2, d3, d4] => { results := [.lit (.bool true)], args := [d1, d2, d3, d4] }
  | _ => none }
def specRunsRow : OpenClaim := { program := "yteiknefajlocoaa", sum := "aef71b98f476aeab138c1cc6d87af5f1dfb2879593ff5a34158b8bf579310755", func := "evenkeel/evenkeellaw.SpecRuns", spec := "specRuns", unfollowed := true, recurses := true, apart := false }
def SpecRunsSaid : Prop := specRunsRow.holds Try.pinned (OpenSpec.ofChange specRunsSpec)

/-- ITS FALSE NEIGHBOUR: 'it returns false'. Refute it at one input. -/
def specRunsWrong : ChangeSpec := { name := "specRuns", fn := fun _ => fun
  | [d1, d2, d3, d4] => { results := [.lit (.bool false)], args := [d1, d2, d3, d4] }
  | _ => none }
def SpecRunsWrongFalsely : Prop := specRunsRow.holds Try.pinned (OpenSpec.ofChange specRunsWrong)

/-- 'evenkeellaw.FindTells': WHATEVER THE INPUT: true; the input reads as it did. -/
def findTellsSpec : ChangeSpec := { name := "findTells", fn := fun _ => fun
  | [d1, d2, d3, d4, d5] => { results := [.lit (.bool true)], args := [d1, d2, d3, d4, d5] }
  | _ => none }
def findTellsRow : OpenClaim := { program := "yteiknefajlocoaa", sum := "aef71b98f476aeab138c1cc6d87af5f1dfb2879593ff5a34158b8bf579310755", func := "evenkeel/evenkeellaw.FindTells", spec := "findTells", unfollowed := true, recurses := true, apart := false }
def FindTellsSaid : Prop := findTellsRow.holds Try.pinned (OpenSpec.ofChange findTellsSpec)

/-- ITS FALSE NEIGHBOUR: 'it returns false'. Refute it at one input. -/
def findTellsWrong : ChangeSpec := { name := "findTells", fn := fun _ => fun
  | [d1, d2, d3, d4, d5] => { results := [.lit (.bool false)], args := [d1, d2, d3, d4, d5] }
  | _ => none }
def FindTellsWrongFalsely : Prop := findTellsRow.holds Try.pinned (OpenSpec.ofChange findTellsWrong)

/-- 'evenkeelkeep.FindSame': WHATEVER THE INPUT: true; the input reads as it did. -/
def findSameSpec : ChangeSpec := { name := "findSame", fn := fun _ => fun
  | [d1, d2, d3, d4] => { results := [.lit (.bool true)], args := [d1, d2, d3, d4] }
  | _ => none }
def findSameRow : OpenClaim := { program := "yteiknefajlocoaa", sum := "aef71b98f476aeab138c1cc6d87af5f1dfb2879593ff5a34158b8bf579310755", func := "evenkeel/evenkeelkeep.FindSame", spec := "findSame", unfollowed := true, recurses := true, apart := false }
def FindSameSaid : Prop := findSameRow.holds Try.pinned (OpenSpec.ofChange findSameSpec)

/-- ITS FALSE NEIGHBOUR: 'it returns false'. Refute it at one input. -/
def findSameWrong : ChangeSpec := { name := "findSame", fn := fun _ => fun
  | [d1, d2, d3, d4] => { results := [.lit (.bool false)], args := [d1, d2, d3, d4] }
  | _ => none }
def FindSameWrongFalsely : Prop := findSameRow.holds Try.pinned (OpenSpec.ofChange findSameWrong)

/-- 'evenkeelkeep.SpecPlain': WHATEVER THE INPUT: true; the input reads as it did. -/
def specPlainSpec : ChangeSpec := { name := "specPlain", fn := fun _ => fun
  | [d1, d2, d3, d4] => { results := [.lit (.bool true)], args := [d1, d2, d3, d4] }
  | _ => none }
def specPlainRow : OpenClaim := { program := "yteiknefajlocoaa", sum := "aef71b98f476aeab138c1cc6d87af5f1dfb2879593ff5a34158b8bf579310755", func := "evenkeel/evenkeelkeep.SpecPlain", spec := "specPlain", unfollowed := true, recurses := true, apart := false }
def SpecPlainSaid : Prop := specPlainRow.holds Try.pinned (OpenSpec.ofChange specPlainSpec)

/-- ITS FALSE NEIGHBOUR: 'it returns false'. Refute it at one input. -/
def specPlainWrong : ChangeSpec := { name := "specPlain", fn := fun _ => fun
  | [d1, d2, d3, d4] => { results := [.lit (.bool false)], args := [d1, d2, d3, d4] }
  | _ => none }
def SpecPlainWrongFalsely : Prop := specPlainRow.holds Try.pinned (OpenSpec.ofChange specPlainWrong)

/-- 'evenkeelkeep.SpecBack': WHATEVER THE INPUT: true; the input reads as it did. -/
def specBackSpec : ChangeSpec := { name := "specBack", fn := fun _ => fun
  | [d1, d2, d3, d4] => { results := [.lit (.bool true)], args := [d1, d2, d3, d4] }
  | _ => none }
def specBackRow : OpenClaim := { program := "yteiknefajlocoaa", sum := "aef71b98f476aeab138c1cc6d87af5f1dfb2879593ff5a34158b8bf579310755", func := "evenkeel/evenkeelkeep.SpecBack", spec := "specBack", unfollowed := true, recurses := true, apart := false }
def SpecBackSaid : Prop := specBackRow.holds Try.pinned (OpenSpec.ofChange specBackSpec)

/-- ITS FALSE NEIGHBOUR: 'it returns false'. Refute it at one input. -/
def specBackWrong : ChangeSpec := { name := "specBack", fn := fun _ => fun
  | [d1, d2, d3, d4] => { results := [.lit (.bool false)], args := [d1, d2, d3, d4] }
  | _ => none }
def SpecBackWrongFalsely : Prop := specBackRow.holds Try.pinned (OpenSpec.ofChange specBackWrong)

/-- 'evenkeellaw.FindNothing': WHATEVER THE INPUT: true; the input reads as it did. -/
def findNothingSpec : ChangeSpec := { name := "findNothing", fn := fun _ => fun
  | [d1, d2, d3, d4, d5] => { results := [.lit (.bool true)], args := [d1, d2, d3, d4, d5] }
  | _ => none }
def findNothingRow : OpenClaim := { program := "yteiknefajlocoaa", sum := "aef71b98f476aeab138c1cc6d87af5f1dfb2879593ff5a34158b8bf579310755", func := "evenkeel/evenkeellaw.FindNothing", spec := "findNothing", unfollowed := true, recurses := true, apart := false }
def FindNothingSaid : Prop := findNothingRow.holds Try.pinned (OpenSpec.ofChange findNothingSpec)

/-- ITS FALSE NEIGHBOUR: 'it returns false'. Refute it at one input. -/
def findNothingWrong : ChangeSpec := { name := "findNothing", fn := fun _ => fun
  | [d1, d2, d3, d4, d5] => { results := [.lit (.bool false)], args := [d1, d2, d3, d4, d5] }
  | _ => none }
def FindNothingWrongFalsely : Prop := findNothingRow.holds Try.pinned (OpenSpec.ofChange findNothingWrong)

/- THE SECOND FORM. 'bulk': how many values and letters a reading holds, each counted each time it is reached (what is shared counts as often as it is met; a slice's spare places count too). A statement '..UptoSaid' is the law's where the arguments, and the package variables that the reading takes, are together of bulk at most 1048576: NARROWER than '..Said'. Prove '..Said' where nothing that the law and all that it calls make is longer than what came in: it says more and counts as full. Else prove '..UptoSaid'. A law counts once. -/
mutual
def uptoBulk {H : Type} : DataW H → Nat
  | .lit (.string bytes) => bytes.length + 1
  | .lit _ => 1
  | .nil => 1
  | .ptr d => uptoBulk d + 1
  | .slice elems spare => uptoBulkAll elems + uptoBulkAll spare + 1
  | .agg parts => uptoBulkAll parts + 1
  | .iface _ d => uptoBulk d + 1
  | .map entries => uptoBulkEntries entries + 1
  | .held _ => 1
def uptoBulkAll {H : Type} : List (DataW H) → Nat
  | [] => 0
  | d :: r => uptoBulk d + uptoBulkAll r
def uptoBulkEntries {H : Type} : List (Lit × DataW H) → Nat
  | [] => 0
  | x :: r => uptoBulkEntry x + uptoBulkEntries r
def uptoBulkEntry {H : Type} : Lit × DataW H → Nat
  | (.string bytes, d) => bytes.length + uptoBulk d + 1
  | (_, d) => uptoBulk d + 1
 end
def uptoSmall : (H : Type) → List (DataW H) → Bool := fun _ ds => decide (uptoBulkAll ds ≤ 1048576)
def OpenSpec.upto (s : _root_.Go.ChangeSpec) : _root_.Go.OpenSpec := { _root_.Go.OpenSpec.ofChange s with cond := some uptoSmall }

/-- 'evenkeellaw.CheckTells', WHERE WHAT IT READS IS OF BULK AT MOST 1048576: true; the input reads as it did. -/
def checkTellsUptoRow : OpenClaim := { program := "yteiknefajlocoaa", sum := "aef71b98f476aeab138c1cc6d87af5f1dfb2879593ff5a34158b8bf579310755", func := "evenkeel/evenkeellaw.CheckTells", spec := "checkTells", apart := false, narrowed := true }
def CheckTellsUptoSaid : Prop := checkTellsUptoRow.holds Try.pinned (OpenSpec.upto checkTellsSpec)

/-- 'evenkeellaw.CheckSafe', WHERE WHAT IT READS IS OF BULK AT MOST 1048576: true; the input reads as it did. -/
def checkSafeUptoRow : OpenClaim := { program := "yteiknefajlocoaa", sum := "aef71b98f476aeab138c1cc6d87af5f1dfb2879593ff5a34158b8bf579310755", func := "evenkeel/evenkeellaw.CheckSafe", spec := "checkSafe", apart := false, narrowed := true }
def CheckSafeUptoSaid : Prop := checkSafeUptoRow.holds Try.pinned (OpenSpec.upto checkSafeSpec)

/-- 'evenkeellaw.CheckQuiet', WHERE WHAT IT READS IS OF BULK AT MOST 1048576: true; the input reads as it did. -/
def checkQuietUptoRow : OpenClaim := { program := "yteiknefajlocoaa", sum := "aef71b98f476aeab138c1cc6d87af5f1dfb2879593ff5a34158b8bf579310755", func := "evenkeel/evenkeellaw.CheckQuiet", spec := "checkQuiet", apart := false, narrowed := true }
def CheckQuietUptoSaid : Prop := checkQuietUptoRow.holds Try.pinned (OpenSpec.upto checkQuietSpec)

/-- 'evenkeellaw.SeqRuns', WHERE WHAT IT READS IS OF BULK AT MOST 1048576: true; the input reads as it did. -/
def seqRunsUptoRow : OpenClaim := { program := "yteiknefajlocoaa", sum := "aef71b98f476aeab138c1cc6d87af5f1dfb2879593ff5a34158b8bf579310755", func := "evenkeel/evenkeellaw.SeqRuns", spec := "seqRuns", unfollowed := true, recurses := true, apart := false, narrowed := true }
def SeqRunsUptoSaid : Prop := seqRunsUptoRow.holds Try.pinned (OpenSpec.upto seqRunsSpec)

/-- 'evenkeelkeep.SeqLonger', WHERE WHAT IT READS IS OF BULK AT MOST 1048576: true; the input reads as it did. -/
def seqLongerUptoRow : OpenClaim := { program := "yteiknefajlocoaa", sum := "aef71b98f476aeab138c1cc6d87af5f1dfb2879593ff5a34158b8bf579310755", func := "evenkeel/evenkeelkeep.SeqLonger", spec := "seqLonger", unfollowed := true, recurses := true, apart := false, narrowed := true }
def SeqLongerUptoSaid : Prop := seqLongerUptoRow.holds Try.pinned (OpenSpec.upto seqLongerSpec)

/-- 'evenkeellaw.HardenMakes', WHERE WHAT IT READS IS OF BULK AT MOST 1048576: true; the input reads as it did. -/
def hardenMakesUptoRow : OpenClaim := { program := "yteiknefajlocoaa", sum := "aef71b98f476aeab138c1cc6d87af5f1dfb2879593ff5a34158b8bf579310755", func := "evenkeel/evenkeellaw.HardenMakes", spec := "hardenMakes", apart := false, narrowed := true }
def HardenMakesUptoSaid : Prop := hardenMakesUptoRow.holds Try.pinned (OpenSpec.upto hardenMakesSpec)

/-- 'evenkeellaw.HardenSame', WHERE WHAT IT READS IS OF BULK AT MOST 1048576: true; the input reads as it did. -/
def hardenSameUptoRow : OpenClaim := { program := "yteiknefajlocoaa", sum := "aef71b98f476aeab138c1cc6d87af5f1dfb2879593ff5a34158b8bf579310755", func := "evenkeel/evenkeellaw.HardenSame", spec := "hardenSame", apart := false, narrowed := true }
def HardenSameUptoSaid : Prop := hardenSameUptoRow.holds Try.pinned (OpenSpec.upto hardenSameSpec)

/-- 'evenkeellaw.HardenQuiet', WHERE WHAT IT READS IS OF BULK AT MOST 1048576: true; the input reads as it did. -/
def hardenQuietUptoRow : OpenClaim := { program := "yteiknefajlocoaa", sum := "aef71b98f476aeab138c1cc6d87af5f1dfb2879593ff5a34158b8bf579310755", func := "evenkeel/evenkeellaw.HardenQuiet", spec := "hardenQuiet", apart := false, narrowed := true }
def HardenQuietUptoSaid : Prop := hardenQuietUptoRow.holds Try.pinned (OpenSpec.upto hardenQuietSpec)

/-- 'evenkeellaw.FenceMakes', WHERE WHAT IT READS IS OF BULK AT MOST 1048576: true; the input reads as it did. -/
def fenceMakesUptoRow : OpenClaim := { program := "yteiknefajlocoaa", sum := "aef71b98f476aeab138c1cc6d87af5f1dfb2879593ff5a34158b8bf579310755", func := "evenkeel/evenkeellaw.FenceMakes", spec := "fenceMakes", unfollowed := true, recurses := true, apart := false, narrowed := true }
def FenceMakesUptoSaid : Prop := fenceMakesUptoRow.holds Try.pinned (OpenSpec.upto fenceMakesSpec)

/-- 'evenkeellaw.FenceSame', WHERE WHAT IT READS IS OF BULK AT MOST 1048576: true; the input reads as it did. -/
def fenceSameUptoRow : OpenClaim := { program := "yteiknefajlocoaa", sum := "aef71b98f476aeab138c1cc6d87af5f1dfb2879593ff5a34158b8bf579310755", func := "evenkeel/evenkeellaw.FenceSame", spec := "fenceSame", unfollowed := true, recurses := true, apart := false, narrowed := true }
def FenceSameUptoSaid : Prop := fenceSameUptoRow.holds Try.pinned (OpenSpec.upto fenceSameSpec)

/-- 'evenkeellaw.FenceQuiet', WHERE WHAT IT READS IS OF BULK AT MOST 1048576: true; the input reads as it did. -/
def fenceQuietUptoRow : OpenClaim := { program := "yteiknefajlocoaa", sum := "aef71b98f476aeab138c1cc6d87af5f1dfb2879593ff5a34158b8bf579310755", func := "evenkeel/evenkeellaw.FenceQuiet", spec := "fenceQuiet", unfollowed := true, recurses := true, apart := false, narrowed := true }
def FenceQuietUptoSaid : Prop := fenceQuietUptoRow.holds Try.pinned (OpenSpec.upto fenceQuietSpec)

/-- 'evenkeellaw.LoadMakes', WHERE WHAT IT READS IS OF BULK AT MOST 1048576: true; the input reads as it did. -/
def loadMakesUptoRow : OpenClaim := { program := "yteiknefajlocoaa", sum := "aef71b98f476aeab138c1cc6d87af5f1dfb2879593ff5a34158b8bf579310755", func := "evenkeel/evenkeellaw.LoadMakes", spec := "loadMakes", apart := false, narrowed := true }
def LoadMakesUptoSaid : Prop := loadMakesUptoRow.holds Try.pinned (OpenSpec.upto loadMakesSpec)

/-- 'evenkeellaw.LoadSame', WHERE WHAT IT READS IS OF BULK AT MOST 1048576: true; the input reads as it did. -/
def loadSameUptoRow : OpenClaim := { program := "yteiknefajlocoaa", sum := "aef71b98f476aeab138c1cc6d87af5f1dfb2879593ff5a34158b8bf579310755", func := "evenkeel/evenkeellaw.LoadSame", spec := "loadSame", apart := false, narrowed := true }
def LoadSameUptoSaid : Prop := loadSameUptoRow.holds Try.pinned (OpenSpec.upto loadSameSpec)

/-- 'evenkeellaw.LoadQuiet', WHERE WHAT IT READS IS OF BULK AT MOST 1048576: true; the input reads as it did. -/
def loadQuietUptoRow : OpenClaim := { program := "yteiknefajlocoaa", sum := "aef71b98f476aeab138c1cc6d87af5f1dfb2879593ff5a34158b8bf579310755", func := "evenkeel/evenkeellaw.LoadQuiet", spec := "loadQuiet", apart := false, narrowed := true }
def LoadQuietUptoSaid : Prop := loadQuietUptoRow.holds Try.pinned (OpenSpec.upto loadQuietSpec)

/-- 'evenkeellaw.SpecRuns', WHERE WHAT IT READS IS OF BULK AT MOST 1048576: true; the input reads as it did. -/
def specRunsUptoRow : OpenClaim := { program := "yteiknefajlocoaa", sum := "aef71b98f476aeab138c1cc6d87af5f1dfb2879593ff5a34158b8bf579310755", func := "evenkeel/evenkeellaw.SpecRuns", spec := "specRuns", unfollowed := true, recurses := true, apart := false, narrowed := true }
def SpecRunsUptoSaid : Prop := specRunsUptoRow.holds Try.pinned (OpenSpec.upto specRunsSpec)

/-- 'evenkeellaw.FindTells', WHERE WHAT IT READS IS OF BULK AT MOST 1048576: true; the input reads as it did. -/
def findTellsUptoRow : OpenClaim := { program := "yteiknefajlocoaa", sum := "aef71b98f476aeab138c1cc6d87af5f1dfb2879593ff5a34158b8bf579310755", func := "evenkeel/evenkeellaw.FindTells", spec := "findTells", unfollowed := true, recurses := true, apart := false, narrowed := true }
def FindTellsUptoSaid : Prop := findTellsUptoRow.holds Try.pinned (OpenSpec.upto findTellsSpec)

/-- 'evenkeelkeep.FindSame', WHERE WHAT IT READS IS OF BULK AT MOST 1048576: true; the input reads as it did. -/
def findSameUptoRow : OpenClaim := { program := "yteiknefajlocoaa", sum := "aef71b98f476aeab138c1cc6d87af5f1dfb2879593ff5a34158b8bf579310755", func := "evenkeel/evenkeelkeep.FindSame", spec := "findSame", unfollowed := true, recurses := true, apart := false, narrowed := true }
def FindSameUptoSaid : Prop := findSameUptoRow.holds Try.pinned (OpenSpec.upto findSameSpec)

/-- 'evenkeelkeep.SpecPlain', WHERE WHAT IT READS IS OF BULK AT MOST 1048576: true; the input reads as it did. -/
def specPlainUptoRow : OpenClaim := { program := "yteiknefajlocoaa", sum := "aef71b98f476aeab138c1cc6d87af5f1dfb2879593ff5a34158b8bf579310755", func := "evenkeel/evenkeelkeep.SpecPlain", spec := "specPlain", unfollowed := true, recurses := true, apart := false, narrowed := true }
def SpecPlainUptoSaid : Prop := specPlainUptoRow.holds Try.pinned (OpenSpec.upto specPlainSpec)

/-- 'evenkeelkeep.SpecBack', WHERE WHAT IT READS IS OF BULK AT MOST 1048576: true; the input reads as it did. -/
def specBackUptoRow : OpenClaim := { program := "yteiknefajlocoaa", sum := "aef71b98f476aeab138c1cc6d87af5f1dfb2879593ff5a34158b8bf579310755", func := "evenkeel/evenkeelkeep.SpecBack", spec := "specBack", unfollowed := true, recurses := true, apart := false, narrowed := true }
def SpecBackUptoSaid : Prop := specBackUptoRow.holds Try.pinned (OpenSpec.upto specBackSpec)

/-- 'evenkeellaw.FindNothing', WHERE WHAT IT READS IS OF BULK AT MOST 1048576: true; the input reads as it did. -/
def findNothingUptoRow : OpenClaim := { program := "yteiknefajlocoaa", sum := "aef71b98f476aeab138c1cc6d87af5f1dfb2879593ff5a34158b8bf579310755", func := "evenkeel/evenkeellaw.FindNothing", spec := "findNothing", unfollowed := true, recurses := true, apart := false, narrowed := true }
def FindNothingUptoSaid : Prop := findNothingUptoRow.holds Try.pinned (OpenSpec.upto findNothingSpec)

end Rows
end Go.Proofs.Yteiknefajlocoaa
