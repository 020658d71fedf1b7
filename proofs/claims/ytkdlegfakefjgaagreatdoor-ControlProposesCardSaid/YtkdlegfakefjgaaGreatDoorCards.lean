/-
  DERIVED. GIVEN WITH THE SEED: THE CARDS: each row of YtkdlegfakefjgaaGreatDoorRows.lean that lists a variable, with what it lists TIED to the program's text (the seventh form; the later family's looks); each row that meets fmt, with fmt's text TOLD by the authors' own Lean function (tested against real Go, not proved from fmt's source: count such statements apart). THE CARD IS WHAT COUNTS. Prove the row's statement (the work); the ties are given (YtkdlegfakefjgaaGreatDoorTie.lean); close each card by the builder's one call (the guide's Derived/Test/ToyasCard.lean, 'card_holds'). Laid BY PROGRAM, IN A SANDBOX (cutbox-door.mjs). By AI agents, Wed Nov 11 2026. No macro, syntax, notation, axiom, sorry.
-/
import Derived.Test.YtkdlegfakefjgaaGreatDoorRows
import GoSem.ClaimSeven
namespace Go.Proofs.YtkdlegfakefjgaaGreatDoor
namespace Rows

/-- THE TIED CARD OF 'nacellelaw05.ControlProofs'. -/
def controlProofsCard : Claim7 := { stood := { row := controlProofsRow, standIns := [], harness := (true, "de3cb31e3e51364054f91113dfa8cf7983ef62f0626cb61ef723a00d39ec5f01"), looks := false }, kinds := [], alts := [], laidByText := true, laidKinds := [.data, .data, .data, .widerDeep], laidTests := true, laidLooks := .later }
def ControlProofsCardSaid : Prop := Claim7.holds Tryz.pinned (.plain (OpenSpec.ofChange controlProofsSpec)) controlProofsCard

/-- THE TIED CARD OF 'nacellelaw05.ControlActs'. -/
def controlActsCard : Claim7 := { stood := { row := controlActsRow, standIns := [], harness := (true, "de3cb31e3e51364054f91113dfa8cf7983ef62f0626cb61ef723a00d39ec5f01"), looks := false }, kinds := [], alts := [], laidByText := true, laidKinds := [.data, .data, .data, .widerDeep], laidTests := true, laidLooks := .later }
def ControlActsCardSaid : Prop := Claim7.holds Tryz.pinned (.plain (OpenSpec.ofChange controlActsSpec)) controlActsCard

/-- THE TIED CARD OF 'nacellelaw05.ControlKeeps'. -/
def controlKeepsCard : Claim7 := { stood := { row := controlKeepsRow, standIns := [], harness := (true, "de3cb31e3e51364054f91113dfa8cf7983ef62f0626cb61ef723a00d39ec5f01"), looks := false }, kinds := [], alts := [], laidByText := true, laidKinds := [.data, .data, .data, .widerDeep], laidTests := true, laidLooks := .later }
def ControlKeepsCardSaid : Prop := Claim7.holds Tryz.pinned (.plain (OpenSpec.ofChange controlKeepsSpec)) controlKeepsCard

/-- THE TIED CARD OF 'nacellelaw05.ControlHistories'. -/
def controlHistoriesCard : Claim7 := { stood := { row := controlHistoriesRow, standIns := [], harness := (true, "de3cb31e3e51364054f91113dfa8cf7983ef62f0626cb61ef723a00d39ec5f01"), looks := false }, kinds := [], alts := [], laidByText := true, laidKinds := [.data, .data, .data, .widerDeep], laidTests := true, laidLooks := .later }
def ControlHistoriesCardSaid : Prop := Claim7.holds Tryz.pinned (.plain (OpenSpec.ofChange controlHistoriesSpec)) controlHistoriesCard

/-- THE TIED CARD OF 'nacellelaw05.ControlMachines'. -/
def controlMachinesCard : Claim7 := { stood := { row := controlMachinesRow, standIns := [], harness := (true, "de3cb31e3e51364054f91113dfa8cf7983ef62f0626cb61ef723a00d39ec5f01"), looks := false }, kinds := [], alts := [], laidByText := true, laidKinds := [.data, .data, .data, .widerDeep], laidTests := true, laidLooks := .later }
def ControlMachinesCardSaid : Prop := Claim7.holds Tryz.pinned (.plain (OpenSpec.ofChange controlMachinesSpec)) controlMachinesCard

/-- THE TIED CARD OF 'nacellelaw05.ControlStops'. -/
def controlStopsCard : Claim7 := { stood := { row := controlStopsRow, standIns := [], harness := (true, "de3cb31e3e51364054f91113dfa8cf7983ef62f0626cb61ef723a00d39ec5f01"), looks := false }, kinds := [], alts := [], laidByText := true, laidKinds := [.data, .data, .data, .widerDeep], laidTests := true, laidLooks := .later }
def ControlStopsCardSaid : Prop := Claim7.holds Tryz.pinned (.plain (OpenSpec.ofChange controlStopsSpec)) controlStopsCard

/-- THE TIED CARD OF 'nacellelaw05.ControlRuns'. -/
def controlRunsCard : Claim7 := { stood := { row := controlRunsRow, standIns := [], harness := (true, "de3cb31e3e51364054f91113dfa8cf7983ef62f0626cb61ef723a00d39ec5f01"), looks := false }, kinds := [], alts := [], laidByText := true, laidKinds := [.data, .data, .data, .widerDeep], laidTests := true, laidLooks := .later }
def ControlRunsCardSaid : Prop := Claim7.holds Tryz.pinned (.plain (OpenSpec.ofChange controlRunsSpec)) controlRunsCard

/-- THE TIED CARD OF 'nacellelaw05.ControlTexts'. -/
def controlTextsCard : Claim7 := { stood := { row := controlTextsRow, standIns := [], harness := (true, "de3cb31e3e51364054f91113dfa8cf7983ef62f0626cb61ef723a00d39ec5f01"), looks := false }, kinds := [], alts := [], laidByText := true, laidKinds := [.data, .data, .data, .data, .widerDeep, .pinned], laidTests := true, laidLooks := .later }
def ControlTextsCardSaid : Prop := Claim7.holds Tryz.pinned (.plain (OpenSpec.ofChange controlTextsSpec)) controlTextsCard

/-- THE TIED CARD OF 'nacellelaw05.ControlProposes'. -/
def controlProposesCard : Claim7 := { stood := { row := controlProposesRow, standIns := [], harness := (true, "de3cb31e3e51364054f91113dfa8cf7983ef62f0626cb61ef723a00d39ec5f01"), looks := false }, kinds := [], alts := [], laidByText := true, laidKinds := [.data, .data, .data, .data, .widerDeep, .pinned], laidTests := true, laidLooks := .later }
def ControlProposesCardSaid : Prop := Claim7.holds Tryz.pinned (.plain (OpenSpec.ofChange controlProposesSpec)) controlProposesCard

/-- THE SECOND FORM's CARD OF 'nacellelaw05.ControlProofs'. -/
def controlProofsUptoCard : Claim7 := { stood := { row := controlProofsUptoRow, standIns := [], harness := (true, "de3cb31e3e51364054f91113dfa8cf7983ef62f0626cb61ef723a00d39ec5f01"), looks := false }, kinds := [], alts := [], laidByText := true, laidKinds := [.data, .data, .data, .widerDeep], laidTests := true, laidLooks := .later }
def ControlProofsUptoCardSaid : Prop := Claim7.holds Tryz.pinned (.plain (OpenSpec.upto controlProofsSpec)) controlProofsUptoCard

/-- THE SECOND FORM's CARD OF 'nacellelaw05.ControlActs'. -/
def controlActsUptoCard : Claim7 := { stood := { row := controlActsUptoRow, standIns := [], harness := (true, "de3cb31e3e51364054f91113dfa8cf7983ef62f0626cb61ef723a00d39ec5f01"), looks := false }, kinds := [], alts := [], laidByText := true, laidKinds := [.data, .data, .data, .widerDeep], laidTests := true, laidLooks := .later }
def ControlActsUptoCardSaid : Prop := Claim7.holds Tryz.pinned (.plain (OpenSpec.upto controlActsSpec)) controlActsUptoCard

/-- THE SECOND FORM's CARD OF 'nacellelaw05.ControlKeeps'. -/
def controlKeepsUptoCard : Claim7 := { stood := { row := controlKeepsUptoRow, standIns := [], harness := (true, "de3cb31e3e51364054f91113dfa8cf7983ef62f0626cb61ef723a00d39ec5f01"), looks := false }, kinds := [], alts := [], laidByText := true, laidKinds := [.data, .data, .data, .widerDeep], laidTests := true, laidLooks := .later }
def ControlKeepsUptoCardSaid : Prop := Claim7.holds Tryz.pinned (.plain (OpenSpec.upto controlKeepsSpec)) controlKeepsUptoCard

/-- THE SECOND FORM's CARD OF 'nacellelaw05.ControlHistories'. -/
def controlHistoriesUptoCard : Claim7 := { stood := { row := controlHistoriesUptoRow, standIns := [], harness := (true, "de3cb31e3e51364054f91113dfa8cf7983ef62f0626cb61ef723a00d39ec5f01"), looks := false }, kinds := [], alts := [], laidByText := true, laidKinds := [.data, .data, .data, .widerDeep], laidTests := true, laidLooks := .later }
def ControlHistoriesUptoCardSaid : Prop := Claim7.holds Tryz.pinned (.plain (OpenSpec.upto controlHistoriesSpec)) controlHistoriesUptoCard

/-- THE SECOND FORM's CARD OF 'nacellelaw05.ControlMachines'. -/
def controlMachinesUptoCard : Claim7 := { stood := { row := controlMachinesUptoRow, standIns := [], harness := (true, "de3cb31e3e51364054f91113dfa8cf7983ef62f0626cb61ef723a00d39ec5f01"), looks := false }, kinds := [], alts := [], laidByText := true, laidKinds := [.data, .data, .data, .widerDeep], laidTests := true, laidLooks := .later }
def ControlMachinesUptoCardSaid : Prop := Claim7.holds Tryz.pinned (.plain (OpenSpec.upto controlMachinesSpec)) controlMachinesUptoCard

/-- THE SECOND FORM's CARD OF 'nacellelaw05.ControlStops'. -/
def controlStopsUptoCard : Claim7 := { stood := { row := controlStopsUptoRow, standIns := [], harness := (true, "de3cb31e3e51364054f91113dfa8cf7983ef62f0626cb61ef723a00d39ec5f01"), looks := false }, kinds := [], alts := [], laidByText := true, laidKinds := [.data, .data, .data, .widerDeep], laidTests := true, laidLooks := .later }
def ControlStopsUptoCardSaid : Prop := Claim7.holds Tryz.pinned (.plain (OpenSpec.upto controlStopsSpec)) controlStopsUptoCard

/-- THE SECOND FORM's CARD OF 'nacellelaw05.ControlRuns'. -/
def controlRunsUptoCard : Claim7 := { stood := { row := controlRunsUptoRow, standIns := [], harness := (true, "de3cb31e3e51364054f91113dfa8cf7983ef62f0626cb61ef723a00d39ec5f01"), looks := false }, kinds := [], alts := [], laidByText := true, laidKinds := [.data, .data, .data, .widerDeep], laidTests := true, laidLooks := .later }
def ControlRunsUptoCardSaid : Prop := Claim7.holds Tryz.pinned (.plain (OpenSpec.upto controlRunsSpec)) controlRunsUptoCard

/-- THE SECOND FORM's CARD OF 'nacellelaw05.ControlTexts'. -/
def controlTextsUptoCard : Claim7 := { stood := { row := controlTextsUptoRow, standIns := [], harness := (true, "de3cb31e3e51364054f91113dfa8cf7983ef62f0626cb61ef723a00d39ec5f01"), looks := false }, kinds := [], alts := [], laidByText := true, laidKinds := [.data, .data, .data, .data, .widerDeep, .pinned], laidTests := true, laidLooks := .later }
def ControlTextsUptoCardSaid : Prop := Claim7.holds Tryz.pinned (.plain (OpenSpec.upto controlTextsSpec)) controlTextsUptoCard

/-- THE SECOND FORM's CARD OF 'nacellelaw05.ControlProposes'. -/
def controlProposesUptoCard : Claim7 := { stood := { row := controlProposesUptoRow, standIns := [], harness := (true, "de3cb31e3e51364054f91113dfa8cf7983ef62f0626cb61ef723a00d39ec5f01"), looks := false }, kinds := [], alts := [], laidByText := true, laidKinds := [.data, .data, .data, .data, .widerDeep, .pinned], laidTests := true, laidLooks := .later }
def ControlProposesUptoCardSaid : Prop := Claim7.holds Tryz.pinned (.plain (OpenSpec.upto controlProposesSpec)) controlProposesUptoCard
end Rows
end Go.Proofs.YtkdlegfakefjgaaGreatDoor
