/-
  DERIVED. GIVEN WITH THE SEED: THE CARDS: each row of YtkdlegfakefjgaaDoorRows.lean that lists a variable, with what it lists TIED to the program's text (the seventh form; the later family's looks); each row that meets fmt, with fmt's text TOLD by the authors' own Lean function (tested against real Go, not proved from fmt's source: count such statements apart). THE CARD IS WHAT COUNTS. Prove the row's statement (the work); the ties are given (YtkdlegfakefjgaaDoorTie.lean); close each card by the builder's one call (the guide's Derived/Test/ToyasCard.lean, 'card_holds'). Laid BY PROGRAM, IN A SANDBOX (cutbox-door.mjs). By AI agents, Wed Nov 11 2026. No macro, syntax, notation, axiom, sorry.
-/
import Derived.Test.YtkdlegfakefjgaaDoorRows
import GoSem.ClaimSeven
namespace Go.Proofs.YtkdlegfakefjgaaDoor
namespace Rows

/-- THE TIED CARD OF 'nacellelaw05.ControlTables'. -/
def controlTablesCard : Claim7 := { stood := { row := controlTablesRow, standIns := [], harness := (true, "64f9b6affdd33777d863f19395e0878827bbb6b8c660547e928b59beefbd39bd"), looks := false }, kinds := [], alts := [], laidByText := true, laidKinds := [.data, .data, .data, .widerDeep], laidTests := true, laidLooks := .later }
def ControlTablesCardSaid : Prop := Claim7.holds Tryd.pinned (.plain (OpenSpec.ofChange controlTablesSpec)) controlTablesCard

/-- THE TIED CARD OF 'nacellelaw05.ControlMonotone'. -/
def controlMonotoneCard : Claim7 := { stood := { row := controlMonotoneRow, standIns := [], harness := (true, "64f9b6affdd33777d863f19395e0878827bbb6b8c660547e928b59beefbd39bd"), looks := false }, kinds := [], alts := [], laidByText := true, laidKinds := [.data, .data, .data, .widerDeep], laidTests := true, laidLooks := .later }
def ControlMonotoneCardSaid : Prop := Claim7.holds Tryd.pinned (.plain (OpenSpec.ofChange controlMonotoneSpec)) controlMonotoneCard

/-- THE TIED CARD OF 'nacellelaw05.ControlTabled'. -/
def controlTabledCard : Claim7 := { stood := { row := controlTabledRow, standIns := [], harness := (true, "64f9b6affdd33777d863f19395e0878827bbb6b8c660547e928b59beefbd39bd"), looks := false }, kinds := [], alts := [], laidByText := true, laidKinds := [.data, .data, .data, .widerDeep], laidTests := true, laidLooks := .later }
def ControlTabledCardSaid : Prop := Claim7.holds Tryd.pinned (.plain (OpenSpec.ofChange controlTabledSpec)) controlTabledCard

/-- THE SECOND FORM's CARD OF 'nacellelaw05.ControlTables'. -/
def controlTablesUptoCard : Claim7 := { stood := { row := controlTablesUptoRow, standIns := [], harness := (true, "64f9b6affdd33777d863f19395e0878827bbb6b8c660547e928b59beefbd39bd"), looks := false }, kinds := [], alts := [], laidByText := true, laidKinds := [.data, .data, .data, .widerDeep], laidTests := true, laidLooks := .later }
def ControlTablesUptoCardSaid : Prop := Claim7.holds Tryd.pinned (.plain (OpenSpec.upto controlTablesSpec)) controlTablesUptoCard

/-- THE SECOND FORM's CARD OF 'nacellelaw05.ControlMonotone'. -/
def controlMonotoneUptoCard : Claim7 := { stood := { row := controlMonotoneUptoRow, standIns := [], harness := (true, "64f9b6affdd33777d863f19395e0878827bbb6b8c660547e928b59beefbd39bd"), looks := false }, kinds := [], alts := [], laidByText := true, laidKinds := [.data, .data, .data, .widerDeep], laidTests := true, laidLooks := .later }
def ControlMonotoneUptoCardSaid : Prop := Claim7.holds Tryd.pinned (.plain (OpenSpec.upto controlMonotoneSpec)) controlMonotoneUptoCard

/-- THE SECOND FORM's CARD OF 'nacellelaw05.ControlTabled'. -/
def controlTabledUptoCard : Claim7 := { stood := { row := controlTabledUptoRow, standIns := [], harness := (true, "64f9b6affdd33777d863f19395e0878827bbb6b8c660547e928b59beefbd39bd"), looks := false }, kinds := [], alts := [], laidByText := true, laidKinds := [.data, .data, .data, .widerDeep], laidTests := true, laidLooks := .later }
def ControlTabledUptoCardSaid : Prop := Claim7.holds Tryd.pinned (.plain (OpenSpec.upto controlTabledSpec)) controlTabledUptoCard
end Rows
end Go.Proofs.YtkdlegfakefjgaaDoor
