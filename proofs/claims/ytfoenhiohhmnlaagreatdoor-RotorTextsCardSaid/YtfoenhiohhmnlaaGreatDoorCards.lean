/-
  DERIVED. GIVEN WITH THE SEED: THE CARDS: each row of YtfoenhiohhmnlaaGreatDoorRows.lean that lists a variable, with what it lists TIED to the program's text (the seventh form; the later family's looks); each row that meets fmt, with fmt's text TOLD by the authors' own Lean function (tested against real Go, not proved from fmt's source: count such statements apart). THE CARD IS WHAT COUNTS. Prove the row's statement (the work); the ties are given (YtfoenhiohhmnlaaGreatDoorTie.lean); close each card by the builder's one call (the guide's Derived/Test/ToyasCard.lean, 'card_holds'). Laid BY PROGRAM, IN A SANDBOX (cutbox-door.mjs). By AI agents, Wed Nov 11 2026. No macro, syntax, notation, axiom, sorry.
-/
import Derived.Test.YtfoenhiohhmnlaaGreatDoorRows
import GoSem.ClaimSeven
namespace Go.Proofs.YtfoenhiohhmnlaaGreatDoor
namespace Rows

/-- THE TIED CARD OF 'nacellelaw03.RotorTexts'. -/
def rotorTextsCard : Claim7 := { stood := { row := rotorTextsRow, standIns := [], harness := (true, "28d7797669e79a3a6a624d6dbb8ea80b213b93cb9d0fa89fe47abc9d590a2fbe"), looks := true }, kinds := [], alts := [], laidByText := true, laidKinds := [.data, .data, .data, .data, .sentinel, .sentinel, .data, .pinned], laidTests := true, laidLooks := .later }
def RotorTextsCardSaid : Prop := Claim7.holds Tryz.pinned (.plain (OpenSpec.ofChange rotorTextsSpec)) rotorTextsCard

/-- THE TIED CARD OF 'nacellelaw03.RotorBack'. -/
def rotorBackCard : Claim7 := { stood := { row := rotorBackRow, standIns := [], harness := (true, "28d7797669e79a3a6a624d6dbb8ea80b213b93cb9d0fa89fe47abc9d590a2fbe"), looks := true }, kinds := [], alts := [], laidByText := true, laidKinds := [.data, .data, .data, .data, .sentinel, .sentinel, .data, .pinned], laidTests := true, laidLooks := .later }
def RotorBackCardSaid : Prop := Claim7.holds Tryz.pinned (.plain (OpenSpec.ofChange rotorBackSpec)) rotorBackCard

/-- THE SECOND FORM's CARD OF 'nacellelaw03.RotorTexts'. -/
def rotorTextsUptoCard : Claim7 := { stood := { row := rotorTextsUptoRow, standIns := [], harness := (true, "28d7797669e79a3a6a624d6dbb8ea80b213b93cb9d0fa89fe47abc9d590a2fbe"), looks := true }, kinds := [], alts := [], laidByText := true, laidKinds := [.data, .data, .data, .data, .sentinel, .sentinel, .data, .pinned], laidTests := true, laidLooks := .later }
def RotorTextsUptoCardSaid : Prop := Claim7.holds Tryz.pinned (.plain (OpenSpec.upto rotorTextsSpec)) rotorTextsUptoCard

/-- THE SECOND FORM's CARD OF 'nacellelaw03.RotorBack'. -/
def rotorBackUptoCard : Claim7 := { stood := { row := rotorBackUptoRow, standIns := [], harness := (true, "28d7797669e79a3a6a624d6dbb8ea80b213b93cb9d0fa89fe47abc9d590a2fbe"), looks := true }, kinds := [], alts := [], laidByText := true, laidKinds := [.data, .data, .data, .data, .sentinel, .sentinel, .data, .pinned], laidTests := true, laidLooks := .later }
def RotorBackUptoCardSaid : Prop := Claim7.holds Tryz.pinned (.plain (OpenSpec.upto rotorBackSpec)) rotorBackUptoCard
end Rows
end Go.Proofs.YtfoenhiohhmnlaaGreatDoor
