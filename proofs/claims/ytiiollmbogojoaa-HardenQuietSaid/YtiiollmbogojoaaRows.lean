/-
  No cell of these rows narrows 'for every input' (looked for: loops, veiled, ifaces, maps, wideKeys, modest, calm, conditions, laid).
  DERIVED. THE GIVEN ROWS OF THIS SEAT. 7 by the template 'for every input the law returns true; each argument reads behind the call as it read before'; 0 by the template 'total and deterministic' (their statements: YtiiollmbogojoaaTotals.lean).
  GIVEN WITH THE SEED: the statements are not yours to turn. If you find one false, say at which input.
  Laid BY PROGRAM, IN A SANDBOX (cutbox-rows.mjs): the forced cells as the released guide's own fill.sh prints them over the translation 82f43d82f5b46f97… (all of the seat's roots in one cut). By AI agents, Wed Nov 11 2026. No macro, syntax, notation, axiom, sorry.
-/
import Derived.Test.YtiiollmbogojoaaChecked
import GoSem.Claim
import GoSem.ClaimJoined
import GoSem.ClaimMapViews
import Derived.JoinedTies
import Derived.KernelRfl
namespace Go.Proofs.Ytiiollmbogojoaa
/- THE CELL 'sum', in the pinned program and in every row, IS THE sha256 OF THE DUMP (.gsa) THAT YtiiollmbogojoaaProg.lean LOADS. Nothing in Lean hashes anything: it is a label: what it is worth is what the hold of that sum in a sandbox is worth. -/
noncomputable def Try.pinned : Pinned := { name := "ytiiollmbogojoaa", sum := "82f43d82f5b46f972e6fca7984fdea748e3276f5c074e9912818a1981fe3877c", checked := Try.checked }
namespace Rows
def none {H : Type} : Left H := { results := [], args := [] }

/-- 'evenkeelkeep.SeqLonger': WHATEVER THE INPUT: true; the input reads as it did. -/
def seqLongerSpec : ChangeSpec := { name := "seqLonger", fn := fun _ => fun
  | [d1, d2, d3, d4] => { results := [.lit (.bool true)], args := [d1, d2, d3, d4] }
  | _ => none }
def seqLongerRow : OpenClaim := { program := "ytiiollmbogojoaa", sum := "82f43d82f5b46f972e6fca7984fdea748e3276f5c074e9912818a1981fe3877c", func := "evenkeel/evenkeelkeep.SeqLonger", spec := "seqLonger", unfollowed := true, recurses := true, apart := false }
def SeqLongerSaid : Prop := seqLongerRow.holds Try.pinned (OpenSpec.ofChange seqLongerSpec)

/-- ITS FALSE NEIGHBOUR: 'it returns false'. Refute it at one input. -/
def seqLongerWrong : ChangeSpec := { name := "seqLonger", fn := fun _ => fun
  | [d1, d2, d3, d4] => { results := [.lit (.bool false)], args := [d1, d2, d3, d4] }
  | _ => none }
def SeqLongerWrongFalsely : Prop := seqLongerRow.holds Try.pinned (OpenSpec.ofChange seqLongerWrong)

/-- 'evenkeellaw.HardenSame': WHATEVER THE INPUT: true; the input reads as it did. -/
def hardenSameSpec : ChangeSpec := { name := "hardenSame", fn := fun _ => fun
  | [d1, d2, d3] => { results := [.lit (.bool true)], args := [d1, d2, d3] }
  | _ => none }
def hardenSameRow : OpenClaim := { program := "ytiiollmbogojoaa", sum := "82f43d82f5b46f972e6fca7984fdea748e3276f5c074e9912818a1981fe3877c", func := "evenkeel/evenkeellaw.HardenSame", spec := "hardenSame", apart := false }
def HardenSameSaid : Prop := hardenSameRow.holds Try.pinned (OpenSpec.ofChange hardenSameSpec)

/-- ITS FALSE NEIGHBOUR: 'it returns false'. Refute it at one input. -/
def hardenSameWrong : ChangeSpec := { name := "hardenSame", fn := fun _ => fun
  | [d1, d2, d3] => { results := [.lit (.bool false)], args := [d1, d2, d3] }
  | _ => none }
def HardenSameWrongFalsely : Prop := hardenSameRow.holds Try.pinned (OpenSpec.ofChange hardenSameWrong)

/-- 'evenkeellaw.HardenQuiet': WHATEVER THE INPUT: true; the input reads as it did. -/
def hardenQuietSpec : ChangeSpec := { name := "hardenQuiet", fn := fun _ => fun
  | [d1, d2, d3, d4, d5] => { results := [.lit (.bool true)], args := [d1, d2, d3, d4, d5] }
  | _ => none }
def hardenQuietRow : OpenClaim := { program := "ytiiollmbogojoaa", sum := "82f43d82f5b46f972e6fca7984fdea748e3276f5c074e9912818a1981fe3877c", func := "evenkeel/evenkeellaw.HardenQuiet", spec := "hardenQuiet", apart := false }
def HardenQuietSaid : Prop := hardenQuietRow.holds Try.pinned (OpenSpec.ofChange hardenQuietSpec)

/-- ITS FALSE NEIGHBOUR: 'it returns false'. Refute it at one input. -/
def hardenQuietWrong : ChangeSpec := { name := "hardenQuiet", fn := fun _ => fun
  | [d1, d2, d3, d4, d5] => { results := [.lit (.bool false)], args := [d1, d2, d3, d4, d5] }
  | _ => none }
def HardenQuietWrongFalsely : Prop := hardenQuietRow.holds Try.pinned (OpenSpec.ofChange hardenQuietWrong)

/-- 'evenkeellaw.FenceQuiet': WHATEVER THE INPUT: true; the input reads as it did. -/
def fenceQuietSpec : ChangeSpec := { name := "fenceQuiet", fn := fun _ => fun
  | [d1, d2, d3, d4, d5] => { results := [.lit (.bool true)], args := [d1, d2, d3, d4, d5] }
  | _ => none }
def fenceQuietRow : OpenClaim := { program := "ytiiollmbogojoaa", sum := "82f43d82f5b46f972e6fca7984fdea748e3276f5c074e9912818a1981fe3877c", func := "evenkeel/evenkeellaw.FenceQuiet", spec := "fenceQuiet", unfollowed := true, recurses := true, apart := false }
def FenceQuietSaid : Prop := fenceQuietRow.holds Try.pinned (OpenSpec.ofChange fenceQuietSpec)

/-- ITS FALSE NEIGHBOUR: 'it returns false'. Refute it at one input. -/
def fenceQuietWrong : ChangeSpec := { name := "fenceQuiet", fn := fun _ => fun
  | [d1, d2, d3, d4, d5] => { results := [.lit (.bool false)], args := [d1, d2, d3, d4, d5] }
  | _ => none }
def FenceQuietWrongFalsely : Prop := fenceQuietRow.holds Try.pinned (OpenSpec.ofChange fenceQuietWrong)

/-- 'evenkeellaw.LoadMakes': WHATEVER THE INPUT: true; the input reads as it did. -/
def loadMakesSpec : ChangeSpec := { name := "loadMakes", fn := fun _ => fun
  | [d] => { results := [.lit (.bool true)], args := [d] }
  | _ => none }
def loadMakesRow : OpenClaim := { program := "ytiiollmbogojoaa", sum := "82f43d82f5b46f972e6fca7984fdea748e3276f5c074e9912818a1981fe3877c", func := "evenkeel/evenkeellaw.LoadMakes", spec := "loadMakes", apart := false }
def LoadMakesSaid : Prop := loadMakesRow.holds Try.pinned (OpenSpec.ofChange loadMakesSpec)

/-- ITS FALSE NEIGHBOUR: 'it returns false'. Refute it at one input. -/
def loadMakesWrong : ChangeSpec := { name := "loadMakes", fn := fun _ => fun
  | [d] => { results := [.lit (.bool false)], args := [d] }
  | _ => none }
def LoadMakesWrongFalsely : Prop := loadMakesRow.holds Try.pinned (OpenSpec.ofChange loadMakesWrong)

/-- 'evenkeellaw.LoadSame': WHATEVER THE INPUT: true; the input reads as it did. -/
def loadSameSpec : ChangeSpec := { name := "loadSame", fn := fun _ => fun
  | [d1, d2, d3] => { results := [.lit (.bool true)], args := [d1, d2, d3] }
  | _ => none }
def loadSameRow : OpenClaim := { program := "ytiiollmbogojoaa", sum := "82f43d82f5b46f972e6fca7984fdea748e3276f5c074e9912818a1981fe3877c", func := "evenkeel/evenkeellaw.LoadSame", spec := "loadSame", apart := false }
def LoadSameSaid : Prop := loadSameRow.holds Try.pinned (OpenSpec.ofChange loadSameSpec)

/-- ITS FALSE NEIGHBOUR: 'it returns false'. Refute it at one input. -/
def loadSameWrong : ChangeSpec := { name := "loadSame", fn := fun _ => fun
  | [d1, d2, d3] => { results := [.lit (.bool false)], args := [d1, d2, d3] }
  | _ => none }
def LoadSameWrongFalsely : Prop := loadSameRow.holds Try.pinned (OpenSpec.ofChange loadSameWrong)

/-- 'evenkeellaw.LoadQuiet': WHATEVER THE INPUT: true; the input reads as it did. -/
def loadQuietSpec : ChangeSpec := { name := "loadQuiet", fn := fun _ => fun
  | [d1, d2, d3, d4, d5] => { results := [.lit (.bool true)], args := [d1, d2, d3, d4, d5] }
  | _ => none }
def loadQuietRow : OpenClaim := { program := "ytiiollmbogojoaa", sum := "82f43d82f5b46f972e6fca7984fdea748e3276f5c074e9912818a1981fe3877c", func := "evenkeel/evenkeellaw.LoadQuiet", spec := "loadQuiet", apart := false }
def LoadQuietSaid : Prop := loadQuietRow.holds Try.pinned (OpenSpec.ofChange loadQuietSpec)

/-- ITS FALSE NEIGHBOUR: 'it returns false'. Refute it at one input. -/
def loadQuietWrong : ChangeSpec := { name := "loadQuiet", fn := fun _ => fun
  | [d1, d2, d3, d4, d5] => { results := [.lit (.bool false)], args := [d1, d2, d3, d4, d5] }
  | _ => none }
def LoadQuietWrongFalsely : Prop := loadQuietRow.holds Try.pinned (OpenSpec.ofChange loadQuietWrong)

/- THE SECOND FORM. 'bulk': how many values and letters a reading holds, each counted each time it is reached (what is shared counts as often as it is met; a slice's spare places count too). A statement '..UptoSaid' is the law's where the arguments, and the package variables that the reading takes, are together of bulk at most 1048576: NARROWER than '..Said'. Prove '..Said' where nothing that the law and all that it calls make is longer than what came in: it says more and counts as full. Else prove '..UptoSaid'. A law counts once. -/
mutual
def uptoBulk {H : Type} : DataW H → Nat
  | .lit (.string bytes) => bytes.length + 1
  | .lit _ => 1
  | .nil => 1
  | .ptr d => uptoBulk d + 1
  | .slice elems spare => uptoBulkAll elems + uptoBulkAll spare + 1
  | .agg parts => uptoBulkAll parts + 1
  | .iface _ d => uptoBulk d + 1
  | .map entries => uptoBulkEntries entries + 1
  | .held _ => 1
def uptoBulkAll {H : Type} : List (DataW H) → Nat
  | [] => 0
  | d :: r => uptoBulk d + uptoBulkAll r
def uptoBulkEntries {H : Type} : List (Lit × DataW H) → Nat
  | [] => 0
  | x :: r => uptoBulkEntry x + uptoBulkEntries r
def uptoBulkEntry {H : Type} : Lit × DataW H → Nat
  | (.string bytes, d) => bytes.length + uptoBulk d + 1
  | (_, d) => uptoBulk d + 1
 end
def uptoSmall : (H : Type) → List (DataW H) → Bool := fun _ ds => decide (uptoBulkAll ds ≤ 1048576)
def OpenSpec.upto (s : _root_.Go.ChangeSpec) : _root_.Go.OpenSpec := { _root_.Go.OpenSpec.ofChange s with cond := some uptoSmall }

/-- 'evenkeelkeep.SeqLonger', WHERE WHAT IT READS IS OF BULK AT MOST 1048576: true; the input reads as it did. -/
def seqLongerUptoRow : OpenClaim := { program := "ytiiollmbogojoaa", sum := "82f43d82f5b46f972e6fca7984fdea748e3276f5c074e9912818a1981fe3877c", func := "evenkeel/evenkeelkeep.SeqLonger", spec := "seqLonger", unfollowed := true, recurses := true, apart := false, narrowed := true }
def SeqLongerUptoSaid : Prop := seqLongerUptoRow.holds Try.pinned (OpenSpec.upto seqLongerSpec)

/-- 'evenkeellaw.HardenSame', WHERE WHAT IT READS IS OF BULK AT MOST 1048576: true; the input reads as it did. -/
def hardenSameUptoRow : OpenClaim := { program := "ytiiollmbogojoaa", sum := "82f43d82f5b46f972e6fca7984fdea748e3276f5c074e9912818a1981fe3877c", func := "evenkeel/evenkeellaw.HardenSame", spec := "hardenSame", apart := false, narrowed := true }
def HardenSameUptoSaid : Prop := hardenSameUptoRow.holds Try.pinned (OpenSpec.upto hardenSameSpec)

/-- 'evenkeellaw.HardenQuiet', WHERE WHAT IT READS IS OF BULK AT MOST 1048576: true; the input reads as it did. -/
def hardenQuietUptoRow : OpenClaim := { program := "ytiiollmbogojoaa", sum := "82f43d82f5b46f972e6fca7984fdea748e3276f5c074e9912818a1981fe3877c", func := "evenkeel/evenkeellaw.HardenQuiet", spec := "hardenQuiet", apart := false, narrowed := true }
def HardenQuietUptoSaid : Prop := hardenQuietUptoRow.holds Try.pinned (OpenSpec.upto hardenQuietSpec)

/-- 'evenkeellaw.FenceQuiet', WHERE WHAT IT READS IS OF BULK AT MOST 1048576: true; the input reads as it did. -/
def fenceQuietUptoRow : OpenClaim := { program := "ytiiollmbogojoaa", sum := "82f43d82f5b46f972e6fca7984fdea748e3276f5c074e9912818a1981fe3877c", func := "evenkeel/evenkeellaw.FenceQuiet", spec := "fenceQuiet", unfollowed := true, recurses := true, apart := false, narrowed := true }
def FenceQuietUptoSaid : Prop := fenceQuietUptoRow.holds Try.pinned (OpenSpec.upto fenceQuietSpec)

/-- 'evenkeellaw.LoadMakes', WHERE WHAT IT READS IS OF BULK AT MOST 1048576: true; the input reads as it did. -/
def loadMakesUptoRow : OpenClaim := { program := "ytiiollmbogojoaa", sum := "82f43d82f5b46f972e6fca7984fdea748e3276f5c074e9912818a1981fe3877c", func := "evenkeel/evenkeellaw.LoadMakes", spec := "loadMakes", apart := false, narrowed := true }
def LoadMakesUptoSaid : Prop := loadMakesUptoRow.holds Try.pinned (OpenSpec.upto loadMakesSpec)

/-- 'evenkeellaw.LoadSame', WHERE WHAT IT READS IS OF BULK AT MOST 1048576: true; the input reads as it did. -/
def loadSameUptoRow : OpenClaim := { program := "ytiiollmbogojoaa", sum := "82f43d82f5b46f972e6fca7984fdea748e3276f5c074e9912818a1981fe3877c", func := "evenkeel/evenkeellaw.LoadSame", spec := "loadSame", apart := false, narrowed := true }
def LoadSameUptoSaid : Prop := loadSameUptoRow.holds Try.pinned (OpenSpec.upto loadSameSpec)

/-- 'evenkeellaw.LoadQuiet', WHERE WHAT IT READS IS OF BULK AT MOST 1048576: true; the input reads as it did. -/
def loadQuietUptoRow : OpenClaim := { program := "ytiiollmbogojoaa", sum := "82f43d82f5b46f972e6fca7984fdea748e3276f5c074e9912818a1981fe3877c", func := "evenkeel/evenkeellaw.LoadQuiet", spec := "loadQuiet", apart := false, narrowed := true }
def LoadQuietUptoSaid : Prop := loadQuietUptoRow.holds Try.pinned (OpenSpec.upto loadQuietSpec)

end Rows
end Go.Proofs.Ytiiollmbogojoaa
