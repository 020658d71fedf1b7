/-
  DERIVED. GIVEN WITH THE SEED: THE CARDS: each row of YtllmejkmogepjaaGreatDoorRows.lean that lists a variable, with what it lists TIED to the program's text (the seventh form; the later family's looks); each row that meets fmt, with fmt's text TOLD by the authors' own Lean function (tested against real Go, not proved from fmt's source: count such statements apart). THE CARD IS WHAT COUNTS. Prove the row's statement (the work); the ties are given (YtllmejkmogepjaaGreatDoorTie.lean); close each card by the builder's one call (the guide's Derived/Test/ToyasCard.lean, 'card_holds'). Laid BY PROGRAM, IN A SANDBOX (cutbox-door.mjs). By AI agents, Wed Nov 11 2026. No macro, syntax, notation, axiom, sorry.
-/
import Derived.Test.YtllmejkmogepjaaGreatDoorRows
import GoSem.ClaimSeven
namespace Go.Proofs.YtllmejkmogepjaaGreatDoor
namespace Rows

/-- THE TIED CARD OF 'nacellelaw03.RotorForces'. -/
def rotorForcesCard : Claim7 := { stood := { row := rotorForcesRow, standIns := [], harness := (true, "c476f5a3df914b41bbf5bb10f5ad574fd93982183ea4a66e4f72e1b44a921ffc"), looks := false }, kinds := [], alts := [], laidByText := true, laidKinds := [.data, .data, .data, .data], laidTests := true, laidLooks := .later }
def RotorForcesCardSaid : Prop := Claim7.holds Tryz.pinned (.plain (OpenSpec.ofChange rotorForcesSpec)) rotorForcesCard

/-- THE TIED CARD OF 'nacellelaw03.RotorPitches'. -/
def rotorPitchesCard : Claim7 := { stood := { row := rotorPitchesRow, standIns := [], harness := (true, "c476f5a3df914b41bbf5bb10f5ad574fd93982183ea4a66e4f72e1b44a921ffc"), looks := false }, kinds := [], alts := [], laidByText := true, laidKinds := [.data, .data, .data, .data], laidTests := true, laidLooks := .later }
def RotorPitchesCardSaid : Prop := Claim7.holds Tryz.pinned (.plain (OpenSpec.ofChange rotorPitchesSpec)) rotorPitchesCard

/-- THE TIED CARD OF 'nacellelaw03.RotorBrackets'. -/
def rotorBracketsCard : Claim7 := { stood := { row := rotorBracketsRow, standIns := [], harness := (true, "c476f5a3df914b41bbf5bb10f5ad574fd93982183ea4a66e4f72e1b44a921ffc"), looks := false }, kinds := [], alts := [], laidByText := true, laidKinds := [.data, .data, .data, .data], laidTests := true, laidLooks := .later }
def RotorBracketsCardSaid : Prop := Claim7.holds Tryz.pinned (.plain (OpenSpec.ofChange rotorBracketsSpec)) rotorBracketsCard

/-- THE SECOND FORM's CARD OF 'nacellelaw03.RotorForces'. -/
def rotorForcesUptoCard : Claim7 := { stood := { row := rotorForcesUptoRow, standIns := [], harness := (true, "c476f5a3df914b41bbf5bb10f5ad574fd93982183ea4a66e4f72e1b44a921ffc"), looks := false }, kinds := [], alts := [], laidByText := true, laidKinds := [.data, .data, .data, .data], laidTests := true, laidLooks := .later }
def RotorForcesUptoCardSaid : Prop := Claim7.holds Tryz.pinned (.plain (OpenSpec.upto rotorForcesSpec)) rotorForcesUptoCard

/-- THE SECOND FORM's CARD OF 'nacellelaw03.RotorPitches'. -/
def rotorPitchesUptoCard : Claim7 := { stood := { row := rotorPitchesUptoRow, standIns := [], harness := (true, "c476f5a3df914b41bbf5bb10f5ad574fd93982183ea4a66e4f72e1b44a921ffc"), looks := false }, kinds := [], alts := [], laidByText := true, laidKinds := [.data, .data, .data, .data], laidTests := true, laidLooks := .later }
def RotorPitchesUptoCardSaid : Prop := Claim7.holds Tryz.pinned (.plain (OpenSpec.upto rotorPitchesSpec)) rotorPitchesUptoCard

/-- THE SECOND FORM's CARD OF 'nacellelaw03.RotorBrackets'. -/
def rotorBracketsUptoCard : Claim7 := { stood := { row := rotorBracketsUptoRow, standIns := [], harness := (true, "c476f5a3df914b41bbf5bb10f5ad574fd93982183ea4a66e4f72e1b44a921ffc"), looks := false }, kinds := [], alts := [], laidByText := true, laidKinds := [.data, .data, .data, .data], laidTests := true, laidLooks := .later }
def RotorBracketsUptoCardSaid : Prop := Claim7.holds Tryz.pinned (.plain (OpenSpec.upto rotorBracketsSpec)) rotorBracketsUptoCard
end Rows
end Go.Proofs.YtllmejkmogepjaaGreatDoor
