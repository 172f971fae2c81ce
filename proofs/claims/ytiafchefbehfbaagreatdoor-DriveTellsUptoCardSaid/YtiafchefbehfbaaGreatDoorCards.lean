/-
  DERIVED. GIVEN WITH THE SEED: THE CARDS: each row of YtiafchefbehfbaaGreatDoorRows.lean that lists a variable, with what it lists TIED to the program's text (the seventh form; the later family's looks); each row that meets fmt, with fmt's text TOLD by the authors' own Lean function (tested against real Go, not proved from fmt's source: count such statements apart). THE CARD IS WHAT COUNTS. Prove the row's statement (the work); the ties are given (YtiafchefbehfbaaGreatDoorTie.lean); close each card by the builder's one call (the guide's Derived/Test/ToyasCard.lean, 'card_holds'). Laid BY PROGRAM, IN A SANDBOX (cutbox-door.mjs). By AI agents, Wed Nov 11 2026. No macro, syntax, notation, axiom, sorry.
-/
import Derived.Test.YtiafchefbehfbaaGreatDoorRows
import GoSem.ClaimSeven
namespace Go.Proofs.YtiafchefbehfbaaGreatDoor
namespace Rows

/-- THE TIED CARD OF 'evenkeelkeep.DriveTells'. -/
def driveTellsCard : Claim7 := { stood := { row := driveTellsRow, standIns := [], harness := (true, "26c6d78b7b507b32db0e0cf4b1c5928035f9f23b620a79d798cd26a18ff5dddc"), looks := true }, kinds := [], alts := [], laidByText := true, laidKinds := [.data, .data, .data, .data, .sentinel, .sentinel, .listed, .data, .pinned], laidTests := true, laidLooks := .later }
def DriveTellsCardSaid : Prop := Claim7.holds Tryz.pinned (.plain (OpenSpec.ofChange driveTellsSpec)) driveTellsCard

/-- THE TIED CARD OF 'evenkeelkeep.DriveOn'. -/
def driveOnCard : Claim7 := { stood := { row := driveOnRow, standIns := [], harness := (true, "26c6d78b7b507b32db0e0cf4b1c5928035f9f23b620a79d798cd26a18ff5dddc"), looks := true }, kinds := [], alts := [], laidByText := true, laidKinds := [.data, .data, .data, .data, .sentinel, .sentinel, .listed, .data, .pinned], laidTests := true, laidLooks := .later }
def DriveOnCardSaid : Prop := Claim7.holds Tryz.pinned (.plain (OpenSpec.ofChange driveOnSpec)) driveOnCard

/-- THE SECOND FORM's CARD OF 'evenkeelkeep.DriveTells'. -/
def driveTellsUptoCard : Claim7 := { stood := { row := driveTellsUptoRow, standIns := [], harness := (true, "26c6d78b7b507b32db0e0cf4b1c5928035f9f23b620a79d798cd26a18ff5dddc"), looks := true }, kinds := [], alts := [], laidByText := true, laidKinds := [.data, .data, .data, .data, .sentinel, .sentinel, .listed, .data, .pinned], laidTests := true, laidLooks := .later }
def DriveTellsUptoCardSaid : Prop := Claim7.holds Tryz.pinned (.plain (OpenSpec.upto driveTellsSpec)) driveTellsUptoCard

/-- THE SECOND FORM's CARD OF 'evenkeelkeep.DriveOn'. -/
def driveOnUptoCard : Claim7 := { stood := { row := driveOnUptoRow, standIns := [], harness := (true, "26c6d78b7b507b32db0e0cf4b1c5928035f9f23b620a79d798cd26a18ff5dddc"), looks := true }, kinds := [], alts := [], laidByText := true, laidKinds := [.data, .data, .data, .data, .sentinel, .sentinel, .listed, .data, .pinned], laidTests := true, laidLooks := .later }
def DriveOnUptoCardSaid : Prop := Claim7.holds Tryz.pinned (.plain (OpenSpec.upto driveOnSpec)) driveOnUptoCard
end Rows
end Go.Proofs.YtiafchefbehfbaaGreatDoor
