/-
  DERIVED. GIVEN WITH THE SEED: THE CARDS: each row of YtllmejkmogepjaaDoorRows.lean that lists a variable, with what it lists TIED to the program's text (the seventh form; the later family's looks); each row that meets fmt, with fmt's text TOLD by the authors' own Lean function (tested against real Go, not proved from fmt's source: count such statements apart). THE CARD IS WHAT COUNTS. Prove the row's statement (the work); the ties are given (YtllmejkmogepjaaDoorTie.lean); close each card by the builder's one call (the guide's Derived/Test/ToyasCard.lean, 'card_holds'). Laid BY PROGRAM, IN A SANDBOX (cutbox-door.mjs). By AI agents, Wed Nov 11 2026. No macro, syntax, notation, axiom, sorry.
-/
import Derived.Test.YtllmejkmogepjaaDoorRows
import GoSem.ClaimSeven
namespace Go.Proofs.YtllmejkmogepjaaDoor
namespace Rows

/-- THE TIED CARD OF 'nacellelaw03.RotorBlades'. -/
def rotorBladesCard : Claim7 := { stood := { row := rotorBladesRow, standIns := [], harness := (true, "b4f46fe70ec5485fad0dba5342d9b237ba1d6ec7cbff9e02e70ad1166869e312"), looks := false }, kinds := [], alts := [], laidByText := true, laidKinds := [.data, .data, .data, .data], laidTests := true, laidLooks := .later }
def RotorBladesCardSaid : Prop := Claim7.holds Tryd.pinned (.plain (OpenSpec.ofChange rotorBladesSpec)) rotorBladesCard

/-- THE TIED CARD OF 'nacellelaw03.RotorLoads'. -/
def rotorLoadsCard : Claim7 := { stood := { row := rotorLoadsRow, standIns := [], harness := (true, "b4f46fe70ec5485fad0dba5342d9b237ba1d6ec7cbff9e02e70ad1166869e312"), looks := false }, kinds := [], alts := [], laidByText := true, laidKinds := [.data, .data, .data, .data], laidTests := true, laidLooks := .later }
def RotorLoadsCardSaid : Prop := Claim7.holds Tryd.pinned (.plain (OpenSpec.ofChange rotorLoadsSpec)) rotorLoadsCard

/-- THE TIED CARD OF 'nacellelaw03.RotorNested'. -/
def rotorNestedCard : Claim7 := { stood := { row := rotorNestedRow, standIns := [], harness := (true, "b4f46fe70ec5485fad0dba5342d9b237ba1d6ec7cbff9e02e70ad1166869e312"), looks := false }, kinds := [], alts := [], laidByText := true, laidKinds := [.data, .data, .data, .data], laidTests := true, laidLooks := .later }
def RotorNestedCardSaid : Prop := Claim7.holds Tryd.pinned (.plain (OpenSpec.ofChange rotorNestedSpec)) rotorNestedCard

/-- THE TIED CARD OF 'nacellelaw03.RotorChosen'. -/
def rotorChosenCard : Claim7 := { stood := { row := rotorChosenRow, standIns := [], harness := (true, "b4f46fe70ec5485fad0dba5342d9b237ba1d6ec7cbff9e02e70ad1166869e312"), looks := false }, kinds := [], alts := [], laidByText := true, laidKinds := [.data, .data, .data, .data], laidTests := true, laidLooks := .later }
def RotorChosenCardSaid : Prop := Claim7.holds Tryd.pinned (.plain (OpenSpec.ofChange rotorChosenSpec)) rotorChosenCard

/-- THE TIED CARD OF 'nacellelaw03.RotorInflows'. -/
def rotorInflowsCard : Claim7 := { stood := { row := rotorInflowsRow, standIns := [], harness := (true, "b4f46fe70ec5485fad0dba5342d9b237ba1d6ec7cbff9e02e70ad1166869e312"), looks := false }, kinds := [], alts := [], laidByText := true, laidKinds := [.data, .data, .data, .data], laidTests := true, laidLooks := .later }
def RotorInflowsCardSaid : Prop := Claim7.holds Tryd.pinned (.plain (OpenSpec.ofChange rotorInflowsSpec)) rotorInflowsCard

/-- THE TIED CARD OF 'nacellelaw03.RotorPairs'. -/
def rotorPairsCard : Claim7 := { stood := { row := rotorPairsRow, standIns := [], harness := (true, "b4f46fe70ec5485fad0dba5342d9b237ba1d6ec7cbff9e02e70ad1166869e312"), looks := false }, kinds := [], alts := [], laidByText := true, laidKinds := [.data, .data, .data, .data], laidTests := true, laidLooks := .later }
def RotorPairsCardSaid : Prop := Claim7.holds Tryd.pinned (.plain (OpenSpec.ofChange rotorPairsSpec)) rotorPairsCard

/-- THE TIED CARD OF 'nacellelaw03.RotorThirds'. -/
def rotorThirdsCard : Claim7 := { stood := { row := rotorThirdsRow, standIns := [], harness := (true, "b4f46fe70ec5485fad0dba5342d9b237ba1d6ec7cbff9e02e70ad1166869e312"), looks := false }, kinds := [], alts := [], laidByText := true, laidKinds := [.data, .data, .data, .data], laidTests := true, laidLooks := .later }
def RotorThirdsCardSaid : Prop := Claim7.holds Tryd.pinned (.plain (OpenSpec.ofChange rotorThirdsSpec)) rotorThirdsCard

/-- THE TIED CARD OF 'nacellelaw03.RotorMonotone'. -/
def rotorMonotoneCard : Claim7 := { stood := { row := rotorMonotoneRow, standIns := [], harness := (true, "b4f46fe70ec5485fad0dba5342d9b237ba1d6ec7cbff9e02e70ad1166869e312"), looks := false }, kinds := [], alts := [], laidByText := true, laidKinds := [.data, .data, .data, .data], laidTests := true, laidLooks := .later }
def RotorMonotoneCardSaid : Prop := Claim7.holds Tryd.pinned (.plain (OpenSpec.ofChange rotorMonotoneSpec)) rotorMonotoneCard

/-- THE TIED CARD OF 'nacelletop.TopHawseUneven'. -/
def topHawseUnevenCard : Claim7 := { stood := { row := topHawseUnevenRow, standIns := [], harness := (true, "b4f46fe70ec5485fad0dba5342d9b237ba1d6ec7cbff9e02e70ad1166869e312"), looks := false }, kinds := [], alts := [], laidByText := true, laidKinds := [.data], laidTests := true, laidLooks := .later }
def TopHawseUnevenCardSaid : Prop := Claim7.holds Tryd.pinned (.plain (OpenSpec.ofChange topHawseUnevenSpec)) topHawseUnevenCard

/-- THE SECOND FORM's CARD OF 'nacellelaw03.RotorBlades'. -/
def rotorBladesUptoCard : Claim7 := { stood := { row := rotorBladesUptoRow, standIns := [], harness := (true, "b4f46fe70ec5485fad0dba5342d9b237ba1d6ec7cbff9e02e70ad1166869e312"), looks := false }, kinds := [], alts := [], laidByText := true, laidKinds := [.data, .data, .data, .data], laidTests := true, laidLooks := .later }
def RotorBladesUptoCardSaid : Prop := Claim7.holds Tryd.pinned (.plain (OpenSpec.upto rotorBladesSpec)) rotorBladesUptoCard

/-- THE SECOND FORM's CARD OF 'nacellelaw03.RotorLoads'. -/
def rotorLoadsUptoCard : Claim7 := { stood := { row := rotorLoadsUptoRow, standIns := [], harness := (true, "b4f46fe70ec5485fad0dba5342d9b237ba1d6ec7cbff9e02e70ad1166869e312"), looks := false }, kinds := [], alts := [], laidByText := true, laidKinds := [.data, .data, .data, .data], laidTests := true, laidLooks := .later }
def RotorLoadsUptoCardSaid : Prop := Claim7.holds Tryd.pinned (.plain (OpenSpec.upto rotorLoadsSpec)) rotorLoadsUptoCard

/-- THE SECOND FORM's CARD OF 'nacellelaw03.RotorNested'. -/
def rotorNestedUptoCard : Claim7 := { stood := { row := rotorNestedUptoRow, standIns := [], harness := (true, "b4f46fe70ec5485fad0dba5342d9b237ba1d6ec7cbff9e02e70ad1166869e312"), looks := false }, kinds := [], alts := [], laidByText := true, laidKinds := [.data, .data, .data, .data], laidTests := true, laidLooks := .later }
def RotorNestedUptoCardSaid : Prop := Claim7.holds Tryd.pinned (.plain (OpenSpec.upto rotorNestedSpec)) rotorNestedUptoCard

/-- THE SECOND FORM's CARD OF 'nacellelaw03.RotorChosen'. -/
def rotorChosenUptoCard : Claim7 := { stood := { row := rotorChosenUptoRow, standIns := [], harness := (true, "b4f46fe70ec5485fad0dba5342d9b237ba1d6ec7cbff9e02e70ad1166869e312"), looks := false }, kinds := [], alts := [], laidByText := true, laidKinds := [.data, .data, .data, .data], laidTests := true, laidLooks := .later }
def RotorChosenUptoCardSaid : Prop := Claim7.holds Tryd.pinned (.plain (OpenSpec.upto rotorChosenSpec)) rotorChosenUptoCard

/-- THE SECOND FORM's CARD OF 'nacellelaw03.RotorInflows'. -/
def rotorInflowsUptoCard : Claim7 := { stood := { row := rotorInflowsUptoRow, standIns := [], harness := (true, "b4f46fe70ec5485fad0dba5342d9b237ba1d6ec7cbff9e02e70ad1166869e312"), looks := false }, kinds := [], alts := [], laidByText := true, laidKinds := [.data, .data, .data, .data], laidTests := true, laidLooks := .later }
def RotorInflowsUptoCardSaid : Prop := Claim7.holds Tryd.pinned (.plain (OpenSpec.upto rotorInflowsSpec)) rotorInflowsUptoCard

/-- THE SECOND FORM's CARD OF 'nacellelaw03.RotorPairs'. -/
def rotorPairsUptoCard : Claim7 := { stood := { row := rotorPairsUptoRow, standIns := [], harness := (true, "b4f46fe70ec5485fad0dba5342d9b237ba1d6ec7cbff9e02e70ad1166869e312"), looks := false }, kinds := [], alts := [], laidByText := true, laidKinds := [.data, .data, .data, .data], laidTests := true, laidLooks := .later }
def RotorPairsUptoCardSaid : Prop := Claim7.holds Tryd.pinned (.plain (OpenSpec.upto rotorPairsSpec)) rotorPairsUptoCard

/-- THE SECOND FORM's CARD OF 'nacellelaw03.RotorThirds'. -/
def rotorThirdsUptoCard : Claim7 := { stood := { row := rotorThirdsUptoRow, standIns := [], harness := (true, "b4f46fe70ec5485fad0dba5342d9b237ba1d6ec7cbff9e02e70ad1166869e312"), looks := false }, kinds := [], alts := [], laidByText := true, laidKinds := [.data, .data, .data, .data], laidTests := true, laidLooks := .later }
def RotorThirdsUptoCardSaid : Prop := Claim7.holds Tryd.pinned (.plain (OpenSpec.upto rotorThirdsSpec)) rotorThirdsUptoCard

/-- THE SECOND FORM's CARD OF 'nacellelaw03.RotorMonotone'. -/
def rotorMonotoneUptoCard : Claim7 := { stood := { row := rotorMonotoneUptoRow, standIns := [], harness := (true, "b4f46fe70ec5485fad0dba5342d9b237ba1d6ec7cbff9e02e70ad1166869e312"), looks := false }, kinds := [], alts := [], laidByText := true, laidKinds := [.data, .data, .data, .data], laidTests := true, laidLooks := .later }
def RotorMonotoneUptoCardSaid : Prop := Claim7.holds Tryd.pinned (.plain (OpenSpec.upto rotorMonotoneSpec)) rotorMonotoneUptoCard

/-- THE SECOND FORM's CARD OF 'nacelletop.TopHawseUneven'. -/
def topHawseUnevenUptoCard : Claim7 := { stood := { row := topHawseUnevenUptoRow, standIns := [], harness := (true, "b4f46fe70ec5485fad0dba5342d9b237ba1d6ec7cbff9e02e70ad1166869e312"), looks := false }, kinds := [], alts := [], laidByText := true, laidKinds := [.data], laidTests := true, laidLooks := .later }
def TopHawseUnevenUptoCardSaid : Prop := Claim7.holds Tryd.pinned (.plain (OpenSpec.upto topHawseUnevenSpec)) topHawseUnevenUptoCard
end Rows
end Go.Proofs.YtllmejkmogepjaaDoor
