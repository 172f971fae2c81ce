/-
  No cell of these rows narrows 'for every input' (looked for: loops, veiled, ifaces, maps, wideKeys, modest, calm, conditions, laid).
  DERIVED. THE GIVEN ROWS OF THIS SEAT. 6 by the template 'for every input the law returns true; each argument reads behind the call as it read before'; 0 by the template 'total and deterministic' (their statements: YtccgnegdinakeaaTotals.lean).
  GIVEN WITH THE SEED: the statements are not yours to turn. If you find one false, say at which input.
  Laid BY PROGRAM, IN A SANDBOX (cutbox-rows.mjs): the forced cells as the released guide's own fill.sh prints them over the translation 5975dcf491f3bea1… (all of the seat's roots in one cut). By AI agents, Wed Nov 11 2026. No macro, syntax, notation, axiom, sorry.
-/
import Derived.Test.YtccgnegdinakeaaChecked
import GoSem.Claim
import GoSem.ClaimJoined
import GoSem.ClaimMapViews
import Derived.JoinedTies
import Derived.KernelRfl
namespace Go.Proofs.Ytccgnegdinakeaa
/- THE CELL 'sum', in the pinned program and in every row, IS THE sha256 OF THE DUMP (.gsa) THAT YtccgnegdinakeaaProg.lean LOADS. Nothing in Lean hashes anything: it is a label: what it is worth is what the hold of that sum in a sandbox is worth. -/
noncomputable def Try.pinned : Pinned := { name := "ytccgnegdinakeaa", sum := "5975dcf491f3bea185b6ef1e8aefc61fc6b5d38300b27f0e6deaee124f98504f", checked := Try.checked }
namespace Rows
def none {H : Type} : Left H := { results := [], args := [] }

/-- 'evenkeelkeep.SeqLonger': WHATEVER THE INPUT: true; the input reads as it did. -/
def seqLongerSpec : ChangeSpec := { name := "seqLonger", fn := fun _ => fun
  | [d1, d2, d3, d4] => { results := [.lit (.bool true)], args := [d1, d2, d3, d4] }
  | _ => none }
def seqLongerRow : OpenClaim := { program := "ytccgnegdinakeaa", sum := "5975dcf491f3bea185b6ef1e8aefc61fc6b5d38300b27f0e6deaee124f98504f", func := "evenkeel/evenkeelkeep.SeqLonger", spec := "seqLonger", unfollowed := true, recurses := true, apart := false }
def SeqLongerSaid : Prop := seqLongerRow.holds Try.pinned (OpenSpec.ofChange seqLongerSpec)

/-- ITS FALSE NEIGHBOUR: 'it returns false'. Refute it at one input. -/
def seqLongerWrong : ChangeSpec := { name := "seqLonger", fn := fun _ => fun
  | [d1, d2, d3, d4] => { results := [.lit (.bool false)], args := [d1, d2, d3, d4] }
  | _ => none }
def SeqLongerWrongFalsely : Prop := seqLongerRow.holds Try.pinned (OpenSpec.ofChange seqLongerWrong)

/-- 'evenkeellaw.HardenSame': WHATEVER THE INPUT: true; the input reads as it did. -/
def hardenSameSpec : ChangeSpec := { name := "hardenSame", fn := fun _ => fun
  | [d1, d2, d3] => { results := [.lit (.bool true)], args := [d1, d2, d3] }
  | _ => none }
def hardenSameRow : OpenClaim := { program := "ytccgnegdinakeaa", sum := "5975dcf491f3bea185b6ef1e8aefc61fc6b5d38300b27f0e6deaee124f98504f", func := "evenkeel/evenkeellaw.HardenSame", spec := "hardenSame", apart := false }
def HardenSameSaid : Prop := hardenSameRow.holds Try.pinned (OpenSpec.ofChange hardenSameSpec)

/-- ITS FALSE NEIGHBOUR: 'it returns false'. Refute it at one input. -/
def hardenSameWrong : ChangeSpec := { name := "hardenSame", fn := fun _ => fun
  | [d1, d2, d3] => { results := [.lit (.bool false)], args := [d1, d2, d3] }
  | _ => none }
def HardenSameWrongFalsely : Prop := hardenSameRow.holds Try.pinned (OpenSpec.ofChange hardenSameWrong)

/-- 'evenkeellaw.FenceMakes': WHATEVER THE INPUT: true; the input reads as it did. -/
def fenceMakesSpec : ChangeSpec := { name := "fenceMakes", fn := fun _ => fun
  | [d] => { results := [.lit (.bool true)], args := [d] }
  | _ => none }
def fenceMakesRow : OpenClaim := { program := "ytccgnegdinakeaa", sum := "5975dcf491f3bea185b6ef1e8aefc61fc6b5d38300b27f0e6deaee124f98504f", func := "evenkeel/evenkeellaw.FenceMakes", spec := "fenceMakes", unfollowed := true, recurses := true, apart := false }
def FenceMakesSaid : Prop := fenceMakesRow.holds Try.pinned (OpenSpec.ofChange fenceMakesSpec)

/-- ITS FALSE NEIGHBOUR: 'it returns false'. Refute it at one input. -/
def fenceMakesWrong : ChangeSpec := { name := "fenceMakes", fn := fun _ => fun
  | [d] => { results := [.lit (.bool false)], args := [d] }
  | _ => none }
def FenceMakesWrongFalsely : Prop := fenceMakesRow.holds Try.pinned (OpenSpec.ofChange fenceMakesWrong)

/-- 'evenkeellaw.FenceSame': WHATEVER THE INPUT: true; the input reads as it did. -/
def fenceSameSpec : ChangeSpec := { name := "fenceSame", fn := fun _ => fun
  | [d1, d2, d3] => { results := [.lit (.bool true)], args := [d1, d2, d3] }
  | _ => none }
def fenceSameRow : OpenClaim := { program := "ytccgnegdinakeaa", sum := "5975dcf491f3bea185b6ef1e8aefc61fc6b5d38300b27f0e6deaee124f98504f", func := "evenkeel/evenkeellaw.FenceSame", spec := "fenceSame", unfollowed := true, recurses := true, apart := false }
def FenceSameSaid : Prop := fenceSameRow.holds Try.pinned (OpenSpec.ofChange fenceSameSpec)

/-- ITS FALSE NEIGHBOUR: 'it returns false'. Refute it at one input. -/
def fenceSameWrong : ChangeSpec := { name := "fenceSame", fn := fun _ => fun
  | [d1, d2, d3] => { results := [.lit (.bool false)], args := [d1, d2, d3] }
  | _ => none }
def FenceSameWrongFalsely : Prop := fenceSameRow.holds Try.pinned (OpenSpec.ofChange fenceSameWrong)

/-- 'evenkeellaw.LoadMakes': WHATEVER THE INPUT: true; the input reads as it did. -/
def loadMakesSpec : ChangeSpec := { name := "loadMakes", fn := fun _ => fun
  | [d] => { results := [.lit (.bool true)], args := [d] }
  | _ => none }
def loadMakesRow : OpenClaim := { program := "ytccgnegdinakeaa", sum := "5975dcf491f3bea185b6ef1e8aefc61fc6b5d38300b27f0e6deaee124f98504f", func := "evenkeel/evenkeellaw.LoadMakes", spec := "loadMakes", apart := false }
def LoadMakesSaid : Prop := loadMakesRow.holds Try.pinned (OpenSpec.ofChange loadMakesSpec)

/-- ITS FALSE NEIGHBOUR: 'it returns false'. Refute it at one input. -/
def loadMakesWrong : ChangeSpec := { name := "loadMakes", fn := fun _ => fun
  | [d] => { results := [.lit (.bool false)], args := [d] }
  | _ => none }
def LoadMakesWrongFalsely : Prop := loadMakesRow.holds Try.pinned (OpenSpec.ofChange loadMakesWrong)

/-- 'evenkeellaw.LoadSame': WHATEVER THE INPUT: true; the input reads as it did. -/
def loadSameSpec : ChangeSpec := { name := "loadSame", fn := fun _ => fun
  | [d1, d2, d3] => { results := [.lit (.bool true)], args := [d1, d2, d3] }
  | _ => none }
def loadSameRow : OpenClaim := { program := "ytccgnegdinakeaa", sum := "5975dcf491f3bea185b6ef1e8aefc61fc6b5d38300b27f0e6deaee124f98504f", func := "evenkeel/evenkeellaw.LoadSame", spec := "loadSame", apart := false }
def LoadSameSaid : Prop := loadSameRow.holds Try.pinned (OpenSpec.ofChange loadSameSpec)

/-- ITS FALSE NEIGHBOUR: 'it returns false'. Refute it at one input. -/
def loadSameWrong : ChangeSpec := { name := "loadSame", fn := fun _ => fun
  | [d1, d2, d3] => { results := [.lit (.bool false)], args := [d1, d2, d3] }
  | _ => none }
def LoadSameWrongFalsely : Prop := loadSameRow.holds Try.pinned (OpenSpec.ofChange loadSameWrong)

/- THE SECOND FORM. 'bulk': how many values and letters a reading holds, each counted each time it is reached (what is shared counts as often as it is met; a slice's spare places count too). A statement '..UptoSaid' is the law's where the arguments, and the package variables that the reading takes, are together of bulk at most 1048576: NARROWER than '..Said'. Prove '..Said' where nothing that the law and all that it calls make is longer than what came in: it says more and counts as full. Else prove '..UptoSaid'. A law counts once. -/
mutual
def uptoBulk {H : Type} : DataW H → Nat
  | .lit (.string bytes) => bytes.length + 1
  | .lit _ => 1
  | .nil => 1
  | .ptr d => uptoBulk d + 1
  | .slice elems spare => uptoBulkAll elems + uptoBulkAll spare + 1
  | .agg parts => uptoBulkAll parts + 1
  | .iface _ d => uptoBulk d + 1
  | .map entries => uptoBulkEntries entries + 1
  | .held _ => 1
def uptoBulkAll {H : Type} : List (DataW H) → Nat
  | [] => 0
  | d :: r => uptoBulk d + uptoBulkAll r
def uptoBulkEntries {H : Type} : List (Lit × DataW H) → Nat
  | [] => 0
  | x :: r => uptoBulkEntry x + uptoBulkEntries r
def uptoBulkEntry {H : Type} : Lit × DataW H → Nat
  | (.string bytes, d) => bytes.length + uptoBulk d + 1
  | (_, d) => uptoBulk d + 1
 end
def uptoSmall : (H : Type) → List (DataW H) → Bool := fun _ ds => decide (uptoBulkAll ds ≤ 1048576)
def OpenSpec.upto (s : _root_.Go.ChangeSpec) : _root_.Go.OpenSpec := { _root_.Go.OpenSpec.ofChange s with cond := some uptoSmall }

/-- 'evenkeelkeep.SeqLonger', WHERE WHAT IT READS IS OF BULK AT MOST 1048576: true; the input reads as it did. -/
def seqLongerUptoRow : OpenClaim := { program := "ytccgnegdinakeaa", sum := "5975dcf491f3bea185b6ef1e8aefc61fc6b5d38300b27f0e6deaee124f98504f", func := "evenkeel/evenkeelkeep.SeqLonger", spec := "seqLonger", unfollowed := true, recurses := true, apart := false, narrowed := true }
def SeqLongerUptoSaid : Prop := seqLongerUptoRow.holds Try.pinned (OpenSpec.upto seqLongerSpec)

/-- 'evenkeellaw.HardenSame', WHERE WHAT IT READS IS OF BULK AT MOST 1048576: true; the input reads as it did. -/
def hardenSameUptoRow : OpenClaim := { program := "ytccgnegdinakeaa", sum := "5975dcf491f3bea185b6ef1e8aefc61fc6b5d38300b27f0e6deaee124f98504f", func := "evenkeel/evenkeellaw.HardenSame", spec := "hardenSame", apart := false, narrowed := true }
def HardenSameUptoSaid : Prop := hardenSameUptoRow.holds Try.pinned (OpenSpec.upto hardenSameSpec)

/-- 'evenkeellaw.FenceMakes', WHERE WHAT IT READS IS OF BULK AT MOST 1048576: true; the input reads as it did. -/
def fenceMakesUptoRow : OpenClaim := { program := "ytccgnegdinakeaa", sum := "5975dcf491f3bea185b6ef1e8aefc61fc6b5d38300b27f0e6deaee124f98504f", func := "evenkeel/evenkeellaw.FenceMakes", spec := "fenceMakes", unfollowed := true, recurses := true, apart := false, narrowed := true }
def FenceMakesUptoSaid : Prop := fenceMakesUptoRow.holds Try.pinned (OpenSpec.upto fenceMakesSpec)

/-- 'evenkeellaw.FenceSame', WHERE WHAT IT READS IS OF BULK AT MOST 1048576: true; the input reads as it did. -/
def fenceSameUptoRow : OpenClaim := { program := "ytccgnegdinakeaa", sum := "5975dcf491f3bea185b6ef1e8aefc61fc6b5d38300b27f0e6deaee124f98504f", func := "evenkeel/evenkeellaw.FenceSame", spec := "fenceSame", unfollowed := true, recurses := true, apart := false, narrowed := true }
def FenceSameUptoSaid : Prop := fenceSameUptoRow.holds Try.pinned (OpenSpec.upto fenceSameSpec)

/-- 'evenkeellaw.LoadMakes', WHERE WHAT IT READS IS OF BULK AT MOST 1048576: true; the input reads as it did. -/
def loadMakesUptoRow : OpenClaim := { program := "ytccgnegdinakeaa", sum := "5975dcf491f3bea185b6ef1e8aefc61fc6b5d38300b27f0e6deaee124f98504f", func := "evenkeel/evenkeellaw.LoadMakes", spec := "loadMakes", apart := false, narrowed := true }
def LoadMakesUptoSaid : Prop := loadMakesUptoRow.holds Try.pinned (OpenSpec.upto loadMakesSpec)

/-- 'evenkeellaw.LoadSame', WHERE WHAT IT READS IS OF BULK AT MOST 1048576: true; the input reads as it did. -/
def loadSameUptoRow : OpenClaim := { program := "ytccgnegdinakeaa", sum := "5975dcf491f3bea185b6ef1e8aefc61fc6b5d38300b27f0e6deaee124f98504f", func := "evenkeel/evenkeellaw.LoadSame", spec := "loadSame", apart := false, narrowed := true }
def LoadSameUptoSaid : Prop := loadSameUptoRow.holds Try.pinned (OpenSpec.upto loadSameSpec)

end Rows
end Go.Proofs.Ytccgnegdinakeaa
