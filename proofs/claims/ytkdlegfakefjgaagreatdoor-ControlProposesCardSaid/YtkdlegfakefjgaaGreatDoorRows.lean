/-
  NARROWER THAN 'FOR EVERY INPUT', by the rows' own cells (each row's printed sentence says how): ControlProofs: laid · ControlActs: laid · ControlKeeps: laid · ControlHistories: laid · ControlMachines: laid · ControlStops: laid · ControlRuns: laid · ControlTexts: laid · ControlProposes: laid.
  DERIVED. THE GIVEN ROWS OF THIS SEAT. 9 by the template 'for every input the law returns true; each argument reads behind the call as it read before'; 0 by the template 'total and deterministic' (their statements: YtkdlegfakefjgaaGreatDoorTotals.lean).
  GIVEN WITH THE SEED: the statements are not yours to turn. If you find one false, say at which input.
  Laid BY PROGRAM, IN A SANDBOX (cutbox-rows.mjs): the forced cells as the released guide's own fill.sh prints them over the translation 73fe21976d49c8aa… (all of the seat's roots in one cut). By AI agents, Wed Nov 11 2026. No macro, syntax, notation, axiom, sorry.
-/
import Derived.Test.YtkdlegfakefjgaaGreatDoorChecked
import GoSem.PinnedTables
import GoSem.Claim
import GoSem.ClaimJoined
import GoSem.ClaimMapViews
import Derived.JoinedTies
import Derived.KernelRfl
namespace Go.Proofs.YtkdlegfakefjgaaGreatDoor
/- THE CELL 'sum', in the pinned program and in every row, IS THE sha256 OF THE DUMP (.gsa) THAT YtkdlegfakefjgaaGreatDoorProg.lean LOADS. Nothing in Lean hashes anything: it is a label: what it is worth is what the hold of that sum in a sandbox is worth. -/
noncomputable def Tryz.pinned : Pinned := { name := "ytkdlegfakefjgaagreatdoor", sum := "73fe21976d49c8aad29fbfe86caab2161e2de8eb785a067acf1c2003a31cda5a", checked := Tryz.checked }
namespace Rows
def none {H : Type} : Left H := { results := [], args := [] }

/- WHAT THE LISTED PACKAGE-LEVEL VARIABLES READ AS WHEN THE CALL BEGINS. Each datum BY PROGRAM (the guide's laid-datum.mjs) off the statement by which the dump's own 'gosem.cut.vars' lays the variable. In a bare row this is a premise. The card (YtkdlegfakefjgaaGreatDoorCards.lean) ties it to the program's text. -/
def laid_math_bits_deBruijn32tab {H : Type} : DataW H := .agg [.lit (.int .u8 0), .lit (.int .u8 1), .lit (.int .u8 28), .lit (.int .u8 2), .lit (.int .u8 29), .lit (.int .u8 14), .lit (.int .u8 24), .lit (.int .u8 3), .lit (.int .u8 30), .lit (.int .u8 22), .lit (.int .u8 20), .lit (.int .u8 15), .lit (.int .u8 25), .lit (.int .u8 17), .lit (.int .u8 4), .lit (.int .u8 8), .lit (.int .u8 31), .lit (.int .u8 27), .lit (.int .u8 13), .lit (.int .u8 23), .lit (.int .u8 21), .lit (.int .u8 19), .lit (.int .u8 16), .lit (.int .u8 7), .lit (.int .u8 26), .lit (.int .u8 12), .lit (.int .u8 18), .lit (.int .u8 6), .lit (.int .u8 11), .lit (.int .u8 5), .lit (.int .u8 10), .lit (.int .u8 9)]
def laid_math_bits_deBruijn64tab {H : Type} : DataW H := .agg [.lit (.int .u8 0), .lit (.int .u8 1), .lit (.int .u8 56), .lit (.int .u8 2), .lit (.int .u8 57), .lit (.int .u8 49), .lit (.int .u8 28), .lit (.int .u8 3), .lit (.int .u8 61), .lit (.int .u8 58), .lit (.int .u8 42), .lit (.int .u8 50), .lit (.int .u8 38), .lit (.int .u8 29), .lit (.int .u8 17), .lit (.int .u8 4), .lit (.int .u8 62), .lit (.int .u8 47), .lit (.int .u8 59), .lit (.int .u8 36), .lit (.int .u8 45), .lit (.int .u8 43), .lit (.int .u8 51), .lit (.int .u8 22), .lit (.int .u8 53), .lit (.int .u8 39), .lit (.int .u8 33), .lit (.int .u8 30), .lit (.int .u8 24), .lit (.int .u8 18), .lit (.int .u8 12), .lit (.int .u8 5), .lit (.int .u8 63), .lit (.int .u8 55), .lit (.int .u8 48), .lit (.int .u8 27), .lit (.int .u8 60), .lit (.int .u8 41), .lit (.int .u8 37), .lit (.int .u8 16), .lit (.int .u8 46), .lit (.int .u8 35), .lit (.int .u8 44), .lit (.int .u8 21), .lit (.int .u8 52), .lit (.int .u8 32), .lit (.int .u8 23), .lit (.int .u8 11), .lit (.int .u8 54), .lit (.int .u8 26), .lit (.int .u8 40), .lit (.int .u8 15), .lit (.int .u8 34), .lit (.int .u8 20), .lit (.int .u8 31), .lit (.int .u8 10), .lit (.int .u8 25), .lit (.int .u8 14), .lit (.int .u8 19), .lit (.int .u8 9), .lit (.int .u8 13), .lit (.int .u8 8), .lit (.int .u8 7), .lit (.int .u8 6)]
def laid_internal_strconv_uint64pow10 {H : Type} : DataW H := .agg [.lit (.int .u64 1), .lit (.int .u64 10), .lit (.int .u64 100), .lit (.int .u64 1000), .lit (.int .u64 10000), .lit (.int .u64 100000), .lit (.int .u64 1000000), .lit (.int .u64 10000000), .lit (.int .u64 100000000), .lit (.int .u64 1000000000), .lit (.int .u64 10000000000), .lit (.int .u64 100000000000), .lit (.int .u64 1000000000000), .lit (.int .u64 10000000000000), .lit (.int .u64 100000000000000), .lit (.int .u64 1000000000000000), .lit (.int .u64 10000000000000000), .lit (.int .u64 100000000000000000), .lit (.int .u64 1000000000000000000), .lit (.int .u64 10000000000000000000)]
def laid_nacelle_control_kinds {H : Type} : DataW H := .agg [.lit (.string [98, 114, 97, 107, 101]), .lit (.string [114, 101, 112, 97, 105, 114]), .lit (.string [114, 101, 115, 116]), .lit (.string [115, 116, 97, 114, 116]), .lit (.string [115, 116, 111, 112]), .lit (.string [116, 105, 99, 107])]
def laid_unicode_utf8_acceptRanges {H : Type} : DataW H := .agg [.agg [.lit (.int .u8 128), .lit (.int .u8 191)], .agg [.lit (.int .u8 160), .lit (.int .u8 191)], .agg [.lit (.int .u8 128), .lit (.int .u8 159)], .agg [.lit (.int .u8 144), .lit (.int .u8 191)], .agg [.lit (.int .u8 128), .lit (.int .u8 143)], .agg [.lit (.int .u8 0), .lit (.int .u8 0)], .agg [.lit (.int .u8 0), .lit (.int .u8 0)], .agg [.lit (.int .u8 0), .lit (.int .u8 0)], .agg [.lit (.int .u8 0), .lit (.int .u8 0)], .agg [.lit (.int .u8 0), .lit (.int .u8 0)], .agg [.lit (.int .u8 0), .lit (.int .u8 0)], .agg [.lit (.int .u8 0), .lit (.int .u8 0)], .agg [.lit (.int .u8 0), .lit (.int .u8 0)], .agg [.lit (.int .u8 0), .lit (.int .u8 0)], .agg [.lit (.int .u8 0), .lit (.int .u8 0)], .agg [.lit (.int .u8 0), .lit (.int .u8 0)]]
/-- One of Go's own tables, pinned by name: the form's constant. -/
def laid_unicode_utf8_first : DataW Unit := Go.Pinned.utf8First

/-- 'nacellelaw05.ControlProofs': WHATEVER THE INPUT: true; the input reads as it did. -/
def controlProofsSpec : ChangeSpec := { name := "controlProofs", fn := fun _ => fun
  | [d1, d2, d3] => { results := [.lit (.bool true)], args := [d1, d2, d3] }
  | _ => none }
def controlProofsRow : OpenClaim := { program := "ytkdlegfakefjgaagreatdoor", sum := "73fe21976d49c8aad29fbfe86caab2161e2de8eb785a067acf1c2003a31cda5a", func := "nacelle/nacellelaw05.ControlProofs", spec := "controlProofs", inPlace := ["internal/abi.NoEscape", "internal/bytealg.MakeNoZero"], unfollowed := true, recurses := true, named := ["nacelle/control.kinds", "internal/strconv.uint64pow10", "math/bits.deBruijn32tab", "math/bits.deBruijn64tab"], apart := false, laid := [("math/bits.deBruijn32tab", laid_math_bits_deBruijn32tab), ("math/bits.deBruijn64tab", laid_math_bits_deBruijn64tab), ("internal/strconv.uint64pow10", laid_internal_strconv_uint64pow10), ("nacelle/control.kinds", laid_nacelle_control_kinds)] }
def ControlProofsSaid : Prop := controlProofsRow.holds Tryz.pinned (OpenSpec.ofChange controlProofsSpec)

/-- ITS FALSE NEIGHBOUR: 'it returns false'. Refute it at one input. -/
def controlProofsWrong : ChangeSpec := { name := "controlProofs", fn := fun _ => fun
  | [d1, d2, d3] => { results := [.lit (.bool false)], args := [d1, d2, d3] }
  | _ => none }
def ControlProofsWrongFalsely : Prop := controlProofsRow.holds Tryz.pinned (OpenSpec.ofChange controlProofsWrong)

/-- 'nacellelaw05.ControlActs': WHATEVER THE INPUT: true; the input reads as it did. -/
def controlActsSpec : ChangeSpec := { name := "controlActs", fn := fun _ => fun
  | [d1, d2, d3] => { results := [.lit (.bool true)], args := [d1, d2, d3] }
  | _ => none }
def controlActsRow : OpenClaim := { program := "ytkdlegfakefjgaagreatdoor", sum := "73fe21976d49c8aad29fbfe86caab2161e2de8eb785a067acf1c2003a31cda5a", func := "nacelle/nacellelaw05.ControlActs", spec := "controlActs", inPlace := ["internal/abi.NoEscape", "internal/bytealg.MakeNoZero"], unfollowed := true, recurses := true, named := ["nacelle/control.kinds", "internal/strconv.uint64pow10", "math/bits.deBruijn32tab", "math/bits.deBruijn64tab"], apart := false, laid := [("math/bits.deBruijn32tab", laid_math_bits_deBruijn32tab), ("math/bits.deBruijn64tab", laid_math_bits_deBruijn64tab), ("internal/strconv.uint64pow10", laid_internal_strconv_uint64pow10), ("nacelle/control.kinds", laid_nacelle_control_kinds)] }
def ControlActsSaid : Prop := controlActsRow.holds Tryz.pinned (OpenSpec.ofChange controlActsSpec)

/-- ITS FALSE NEIGHBOUR: 'it returns false'. Refute it at one input. -/
def controlActsWrong : ChangeSpec := { name := "controlActs", fn := fun _ => fun
  | [d1, d2, d3] => { results := [.lit (.bool false)], args := [d1, d2, d3] }
  | _ => none }
def ControlActsWrongFalsely : Prop := controlActsRow.holds Tryz.pinned (OpenSpec.ofChange controlActsWrong)

/-- 'nacellelaw05.ControlKeeps': WHATEVER THE INPUT: true; the input reads as it did. -/
def controlKeepsSpec : ChangeSpec := { name := "controlKeeps", fn := fun _ => fun
  | [d1, d2, d3] => { results := [.lit (.bool true)], args := [d1, d2, d3] }
  | _ => none }
def controlKeepsRow : OpenClaim := { program := "ytkdlegfakefjgaagreatdoor", sum := "73fe21976d49c8aad29fbfe86caab2161e2de8eb785a067acf1c2003a31cda5a", func := "nacelle/nacellelaw05.ControlKeeps", spec := "controlKeeps", inPlace := ["internal/abi.NoEscape", "internal/bytealg.MakeNoZero"], unfollowed := true, recurses := true, named := ["nacelle/control.kinds", "internal/strconv.uint64pow10", "math/bits.deBruijn32tab", "math/bits.deBruijn64tab"], apart := false, laid := [("math/bits.deBruijn32tab", laid_math_bits_deBruijn32tab), ("math/bits.deBruijn64tab", laid_math_bits_deBruijn64tab), ("internal/strconv.uint64pow10", laid_internal_strconv_uint64pow10), ("nacelle/control.kinds", laid_nacelle_control_kinds)] }
def ControlKeepsSaid : Prop := controlKeepsRow.holds Tryz.pinned (OpenSpec.ofChange controlKeepsSpec)

/-- ITS FALSE NEIGHBOUR: 'it returns false'. Refute it at one input. -/
def controlKeepsWrong : ChangeSpec := { name := "controlKeeps", fn := fun _ => fun
  | [d1, d2, d3] => { results := [.lit (.bool false)], args := [d1, d2, d3] }
  | _ => none }
def ControlKeepsWrongFalsely : Prop := controlKeepsRow.holds Tryz.pinned (OpenSpec.ofChange controlKeepsWrong)

/-- 'nacellelaw05.ControlHistories': WHATEVER THE INPUT: true; the input reads as it did. -/
def controlHistoriesSpec : ChangeSpec := { name := "controlHistories", fn := fun _ => fun
  | [d1, d2] => { results := [.lit (.bool true)], args := [d1, d2] }
  | _ => none }
def controlHistoriesRow : OpenClaim := { program := "ytkdlegfakefjgaagreatdoor", sum := "73fe21976d49c8aad29fbfe86caab2161e2de8eb785a067acf1c2003a31cda5a", func := "nacelle/nacellelaw05.ControlHistories", spec := "controlHistories", inPlace := ["internal/abi.NoEscape", "internal/bytealg.MakeNoZero"], unfollowed := true, recurses := true, named := ["nacelle/control.kinds", "internal/strconv.uint64pow10", "math/bits.deBruijn32tab", "math/bits.deBruijn64tab"], apart := false, laid := [("math/bits.deBruijn32tab", laid_math_bits_deBruijn32tab), ("math/bits.deBruijn64tab", laid_math_bits_deBruijn64tab), ("internal/strconv.uint64pow10", laid_internal_strconv_uint64pow10), ("nacelle/control.kinds", laid_nacelle_control_kinds)] }
def ControlHistoriesSaid : Prop := controlHistoriesRow.holds Tryz.pinned (OpenSpec.ofChange controlHistoriesSpec)

/-- ITS FALSE NEIGHBOUR: 'it returns false'. Refute it at one input. -/
def controlHistoriesWrong : ChangeSpec := { name := "controlHistories", fn := fun _ => fun
  | [d1, d2] => { results := [.lit (.bool false)], args := [d1, d2] }
  | _ => none }
def ControlHistoriesWrongFalsely : Prop := controlHistoriesRow.holds Tryz.pinned (OpenSpec.ofChange controlHistoriesWrong)

/-- 'nacellelaw05.ControlMachines': WHATEVER THE INPUT: true; the input reads as it did. -/
def controlMachinesSpec : ChangeSpec := { name := "controlMachines", fn := fun _ => fun
  | [d1, d2, d3] => { results := [.lit (.bool true)], args := [d1, d2, d3] }
  | _ => none }
def controlMachinesRow : OpenClaim := { program := "ytkdlegfakefjgaagreatdoor", sum := "73fe21976d49c8aad29fbfe86caab2161e2de8eb785a067acf1c2003a31cda5a", func := "nacelle/nacellelaw05.ControlMachines", spec := "controlMachines", inPlace := ["internal/abi.NoEscape", "internal/bytealg.MakeNoZero"], unfollowed := true, recurses := true, named := ["nacelle/control.kinds", "internal/strconv.uint64pow10", "math/bits.deBruijn32tab", "math/bits.deBruijn64tab"], apart := false, laid := [("math/bits.deBruijn32tab", laid_math_bits_deBruijn32tab), ("math/bits.deBruijn64tab", laid_math_bits_deBruijn64tab), ("internal/strconv.uint64pow10", laid_internal_strconv_uint64pow10), ("nacelle/control.kinds", laid_nacelle_control_kinds)] }
def ControlMachinesSaid : Prop := controlMachinesRow.holds Tryz.pinned (OpenSpec.ofChange controlMachinesSpec)

/-- ITS FALSE NEIGHBOUR: 'it returns false'. Refute it at one input. -/
def controlMachinesWrong : ChangeSpec := { name := "controlMachines", fn := fun _ => fun
  | [d1, d2, d3] => { results := [.lit (.bool false)], args := [d1, d2, d3] }
  | _ => none }
def ControlMachinesWrongFalsely : Prop := controlMachinesRow.holds Tryz.pinned (OpenSpec.ofChange controlMachinesWrong)

/-- 'nacellelaw05.ControlStops': WHATEVER THE INPUT: true; the input reads as it did. -/
def controlStopsSpec : ChangeSpec := { name := "controlStops", fn := fun _ => fun
  | [d1, d2, d3] => { results := [.lit (.bool true)], args := [d1, d2, d3] }
  | _ => none }
def controlStopsRow : OpenClaim := { program := "ytkdlegfakefjgaagreatdoor", sum := "73fe21976d49c8aad29fbfe86caab2161e2de8eb785a067acf1c2003a31cda5a", func := "nacelle/nacellelaw05.ControlStops", spec := "controlStops", inPlace := ["internal/abi.NoEscape", "internal/bytealg.MakeNoZero"], unfollowed := true, recurses := true, named := ["nacelle/control.kinds", "internal/strconv.uint64pow10", "math/bits.deBruijn32tab", "math/bits.deBruijn64tab"], apart := false, laid := [("math/bits.deBruijn32tab", laid_math_bits_deBruijn32tab), ("math/bits.deBruijn64tab", laid_math_bits_deBruijn64tab), ("internal/strconv.uint64pow10", laid_internal_strconv_uint64pow10), ("nacelle/control.kinds", laid_nacelle_control_kinds)] }
def ControlStopsSaid : Prop := controlStopsRow.holds Tryz.pinned (OpenSpec.ofChange controlStopsSpec)

/-- ITS FALSE NEIGHBOUR: 'it returns false'. Refute it at one input. -/
def controlStopsWrong : ChangeSpec := { name := "controlStops", fn := fun _ => fun
  | [d1, d2, d3] => { results := [.lit (.bool false)], args := [d1, d2, d3] }
  | _ => none }
def ControlStopsWrongFalsely : Prop := controlStopsRow.holds Tryz.pinned (OpenSpec.ofChange controlStopsWrong)

/-- 'nacellelaw05.ControlRuns': WHATEVER THE INPUT: true; the input reads as it did. -/
def controlRunsSpec : ChangeSpec := { name := "controlRuns", fn := fun _ => fun
  | [d1, d2, d3] => { results := [.lit (.bool true)], args := [d1, d2, d3] }
  | _ => none }
def controlRunsRow : OpenClaim := { program := "ytkdlegfakefjgaagreatdoor", sum := "73fe21976d49c8aad29fbfe86caab2161e2de8eb785a067acf1c2003a31cda5a", func := "nacelle/nacellelaw05.ControlRuns", spec := "controlRuns", inPlace := ["internal/abi.NoEscape", "internal/bytealg.MakeNoZero"], unfollowed := true, recurses := true, named := ["nacelle/control.kinds", "internal/strconv.uint64pow10", "math/bits.deBruijn32tab", "math/bits.deBruijn64tab"], apart := false, laid := [("math/bits.deBruijn32tab", laid_math_bits_deBruijn32tab), ("math/bits.deBruijn64tab", laid_math_bits_deBruijn64tab), ("internal/strconv.uint64pow10", laid_internal_strconv_uint64pow10), ("nacelle/control.kinds", laid_nacelle_control_kinds)] }
def ControlRunsSaid : Prop := controlRunsRow.holds Tryz.pinned (OpenSpec.ofChange controlRunsSpec)

/-- ITS FALSE NEIGHBOUR: 'it returns false'. Refute it at one input. -/
def controlRunsWrong : ChangeSpec := { name := "controlRuns", fn := fun _ => fun
  | [d1, d2, d3] => { results := [.lit (.bool false)], args := [d1, d2, d3] }
  | _ => none }
def ControlRunsWrongFalsely : Prop := controlRunsRow.holds Tryz.pinned (OpenSpec.ofChange controlRunsWrong)

/-- 'nacellelaw05.ControlTexts': WHATEVER THE INPUT: true; the input reads as it did. -/
def controlTextsSpec : ChangeSpec := { name := "controlTexts", fn := fun _ => fun
  | [d1, d2] => { results := [.lit (.bool true)], args := [d1, d2] }
  | _ => none }
def controlTextsRow : OpenClaim := { program := "ytkdlegfakefjgaagreatdoor", sum := "73fe21976d49c8aad29fbfe86caab2161e2de8eb785a067acf1c2003a31cda5a", func := "nacelle/nacellelaw05.ControlTexts", spec := "controlTexts", inPlace := ["internal/abi.NoEscape", "internal/bytealg.MakeNoZero", "internal/bytealg.IndexByteString", "internal/bytealg.CountString", "internal/bytealg.IndexString"], unfollowed := true, recurses := true, named := ["nacelle/control.kinds", "internal/strconv.uint64pow10", "math/bits.deBruijn32tab", "math/bits.deBruijn64tab", "unicode/utf8.first", "unicode/utf8.acceptRanges", "internal/bytealg.MaxLen"], apart := false, laid := [("math/bits.deBruijn32tab", laid_math_bits_deBruijn32tab), ("math/bits.deBruijn64tab", laid_math_bits_deBruijn64tab), ("internal/strconv.uint64pow10", laid_internal_strconv_uint64pow10), ("unicode/utf8.acceptRanges", laid_unicode_utf8_acceptRanges), ("nacelle/control.kinds", laid_nacelle_control_kinds), ("unicode/utf8.first", laid_unicode_utf8_first)] }
def ControlTextsSaid : Prop := controlTextsRow.holds Tryz.pinned (OpenSpec.ofChange controlTextsSpec)

/-- ITS FALSE NEIGHBOUR: 'it returns false'. Refute it at one input. -/
def controlTextsWrong : ChangeSpec := { name := "controlTexts", fn := fun _ => fun
  | [d1, d2] => { results := [.lit (.bool false)], args := [d1, d2] }
  | _ => none }
def ControlTextsWrongFalsely : Prop := controlTextsRow.holds Tryz.pinned (OpenSpec.ofChange controlTextsWrong)

/-- 'nacellelaw05.ControlProposes': WHATEVER THE INPUT: true; the input reads as it did. -/
def controlProposesSpec : ChangeSpec := { name := "controlProposes", fn := fun _ => fun
  | [d1, d2, d3] => { results := [.lit (.bool true)], args := [d1, d2, d3] }
  | _ => none }
def controlProposesRow : OpenClaim := { program := "ytkdlegfakefjgaagreatdoor", sum := "73fe21976d49c8aad29fbfe86caab2161e2de8eb785a067acf1c2003a31cda5a", func := "nacelle/nacellelaw05.ControlProposes", spec := "controlProposes", inPlace := ["internal/abi.NoEscape", "internal/bytealg.MakeNoZero", "internal/bytealg.IndexByteString", "internal/bytealg.CountString", "internal/bytealg.IndexString"], unfollowed := true, recurses := true, named := ["nacelle/control.kinds", "internal/strconv.uint64pow10", "math/bits.deBruijn32tab", "math/bits.deBruijn64tab", "unicode/utf8.first", "unicode/utf8.acceptRanges", "internal/bytealg.MaxLen"], apart := false, laid := [("math/bits.deBruijn32tab", laid_math_bits_deBruijn32tab), ("math/bits.deBruijn64tab", laid_math_bits_deBruijn64tab), ("internal/strconv.uint64pow10", laid_internal_strconv_uint64pow10), ("unicode/utf8.acceptRanges", laid_unicode_utf8_acceptRanges), ("nacelle/control.kinds", laid_nacelle_control_kinds), ("unicode/utf8.first", laid_unicode_utf8_first)] }
def ControlProposesSaid : Prop := controlProposesRow.holds Tryz.pinned (OpenSpec.ofChange controlProposesSpec)

/-- ITS FALSE NEIGHBOUR: 'it returns false'. Refute it at one input. -/
def controlProposesWrong : ChangeSpec := { name := "controlProposes", fn := fun _ => fun
  | [d1, d2, d3] => { results := [.lit (.bool false)], args := [d1, d2, d3] }
  | _ => none }
def ControlProposesWrongFalsely : Prop := controlProposesRow.holds Tryz.pinned (OpenSpec.ofChange controlProposesWrong)

/- THE SECOND FORM. 'bulk': how many values and letters a reading holds, each counted each time it is reached (what is shared counts as often as it is met; a slice's spare places count too). A statement '..UptoSaid' is the law's where the arguments, and the package variables that the reading takes, are together of bulk at most 1048576: NARROWER than '..Said'. Prove '..Said' where nothing that the law and all that it calls make is longer than what came in: it says more and counts as full. Else prove '..UptoSaid'. A law counts once. -/
mutual
def uptoBulk {H : Type} : DataW H → Nat
  | .lit (.string bytes) => bytes.length + 1
  | .lit _ => 1
  | .nil => 1
  | .ptr d => uptoBulk d + 1
  | .slice elems spare => uptoBulkAll elems + uptoBulkAll spare + 1
  | .agg parts => uptoBulkAll parts + 1
  | .iface _ d => uptoBulk d + 1
  | .map entries => uptoBulkEntries entries + 1
  | .held _ => 1
def uptoBulkAll {H : Type} : List (DataW H) → Nat
  | [] => 0
  | d :: r => uptoBulk d + uptoBulkAll r
def uptoBulkEntries {H : Type} : List (Lit × DataW H) → Nat
  | [] => 0
  | x :: r => uptoBulkEntry x + uptoBulkEntries r
def uptoBulkEntry {H : Type} : Lit × DataW H → Nat
  | (.string bytes, d) => bytes.length + uptoBulk d + 1
  | (_, d) => uptoBulk d + 1
 end
def uptoSmall : (H : Type) → List (DataW H) → Bool := fun _ ds => decide (uptoBulkAll ds ≤ 1048576)
def OpenSpec.upto (s : _root_.Go.ChangeSpec) : _root_.Go.OpenSpec := { _root_.Go.OpenSpec.ofChange s with cond := some uptoSmall }

/-- 'nacellelaw05.ControlProofs', WHERE WHAT IT READS IS OF BULK AT MOST 1048576: true; the input reads as it did. -/
def controlProofsUptoRow : OpenClaim := { program := "ytkdlegfakefjgaagreatdoor", sum := "73fe21976d49c8aad29fbfe86caab2161e2de8eb785a067acf1c2003a31cda5a", func := "nacelle/nacellelaw05.ControlProofs", spec := "controlProofs", inPlace := ["internal/abi.NoEscape", "internal/bytealg.MakeNoZero"], unfollowed := true, recurses := true, named := ["nacelle/control.kinds", "internal/strconv.uint64pow10", "math/bits.deBruijn32tab", "math/bits.deBruijn64tab"], apart := false, laid := [("math/bits.deBruijn32tab", laid_math_bits_deBruijn32tab), ("math/bits.deBruijn64tab", laid_math_bits_deBruijn64tab), ("internal/strconv.uint64pow10", laid_internal_strconv_uint64pow10), ("nacelle/control.kinds", laid_nacelle_control_kinds)], narrowed := true }
def ControlProofsUptoSaid : Prop := controlProofsUptoRow.holds Tryz.pinned (OpenSpec.upto controlProofsSpec)

/-- 'nacellelaw05.ControlActs', WHERE WHAT IT READS IS OF BULK AT MOST 1048576: true; the input reads as it did. -/
def controlActsUptoRow : OpenClaim := { program := "ytkdlegfakefjgaagreatdoor", sum := "73fe21976d49c8aad29fbfe86caab2161e2de8eb785a067acf1c2003a31cda5a", func := "nacelle/nacellelaw05.ControlActs", spec := "controlActs", inPlace := ["internal/abi.NoEscape", "internal/bytealg.MakeNoZero"], unfollowed := true, recurses := true, named := ["nacelle/control.kinds", "internal/strconv.uint64pow10", "math/bits.deBruijn32tab", "math/bits.deBruijn64tab"], apart := false, laid := [("math/bits.deBruijn32tab", laid_math_bits_deBruijn32tab), ("math/bits.deBruijn64tab", laid_math_bits_deBruijn64tab), ("internal/strconv.uint64pow10", laid_internal_strconv_uint64pow10), ("nacelle/control.kinds", laid_nacelle_control_kinds)], narrowed := true }
def ControlActsUptoSaid : Prop := controlActsUptoRow.holds Tryz.pinned (OpenSpec.upto controlActsSpec)

/-- 'nacellelaw05.ControlKeeps', WHERE WHAT IT READS IS OF BULK AT MOST 1048576: true; the input reads as it did. -/
def controlKeepsUptoRow : OpenClaim := { program := "ytkdlegfakefjgaagreatdoor", sum := "73fe21976d49c8aad29fbfe86caab2161e2de8eb785a067acf1c2003a31cda5a", func := "nacelle/nacellelaw05.ControlKeeps", spec := "controlKeeps", inPlace := ["internal/abi.NoEscape", "internal/bytealg.MakeNoZero"], unfollowed := true, recurses := true, named := ["nacelle/control.kinds", "internal/strconv.uint64pow10", "math/bits.deBruijn32tab", "math/bits.deBruijn64tab"], apart := false, laid := [("math/bits.deBruijn32tab", laid_math_bits_deBruijn32tab), ("math/bits.deBruijn64tab", laid_math_bits_deBruijn64tab), ("internal/strconv.uint64pow10", laid_internal_strconv_uint64pow10), ("nacelle/control.kinds", laid_nacelle_control_kinds)], narrowed := true }
def ControlKeepsUptoSaid : Prop := controlKeepsUptoRow.holds Tryz.pinned (OpenSpec.upto controlKeepsSpec)

/-- 'nacellelaw05.ControlHistories', WHERE WHAT IT READS IS OF BULK AT MOST 1048576: true; the input reads as it did. -/
def controlHistoriesUptoRow : OpenClaim := { program := "ytkdlegfakefjgaagreatdoor", sum := "73fe21976d49c8aad29fbfe86caab2161e2de8eb785a067acf1c2003a31cda5a", func := "nacelle/nacellelaw05.ControlHistories", spec := "controlHistories", inPlace := ["internal/abi.NoEscape", "internal/bytealg.MakeNoZero"], unfollowed := true, recurses := true, named := ["nacelle/control.kinds", "internal/strconv.uint64pow10", "math/bits.deBruijn32tab", "math/bits.deBruijn64tab"], apart := false, laid := [("math/bits.deBruijn32tab", laid_math_bits_deBruijn32tab), ("math/bits.deBruijn64tab", laid_math_bits_deBruijn64tab), ("internal/strconv.uint64pow10", laid_internal_strconv_uint64pow10), ("nacelle/control.kinds", laid_nacelle_control_kinds)], narrowed := true }
def ControlHistoriesUptoSaid : Prop := controlHistoriesUptoRow.holds Tryz.pinned (OpenSpec.upto controlHistoriesSpec)

/-- 'nacellelaw05.ControlMachines', WHERE WHAT IT READS IS OF BULK AT MOST 1048576: true; the input reads as it did. -/
def controlMachinesUptoRow : OpenClaim := { program := "ytkdlegfakefjgaagreatdoor", sum := "73fe21976d49c8aad29fbfe86caab2161e2de8eb785a067acf1c2003a31cda5a", func := "nacelle/nacellelaw05.ControlMachines", spec := "controlMachines", inPlace := ["internal/abi.NoEscape", "internal/bytealg.MakeNoZero"], unfollowed := true, recurses := true, named := ["nacelle/control.kinds", "internal/strconv.uint64pow10", "math/bits.deBruijn32tab", "math/bits.deBruijn64tab"], apart := false, laid := [("math/bits.deBruijn32tab", laid_math_bits_deBruijn32tab), ("math/bits.deBruijn64tab", laid_math_bits_deBruijn64tab), ("internal/strconv.uint64pow10", laid_internal_strconv_uint64pow10), ("nacelle/control.kinds", laid_nacelle_control_kinds)], narrowed := true }
def ControlMachinesUptoSaid : Prop := controlMachinesUptoRow.holds Tryz.pinned (OpenSpec.upto controlMachinesSpec)

/-- 'nacellelaw05.ControlStops', WHERE WHAT IT READS IS OF BULK AT MOST 1048576: true; the input reads as it did. -/
def controlStopsUptoRow : OpenClaim := { program := "ytkdlegfakefjgaagreatdoor", sum := "73fe21976d49c8aad29fbfe86caab2161e2de8eb785a067acf1c2003a31cda5a", func := "nacelle/nacellelaw05.ControlStops", spec := "controlStops", inPlace := ["internal/abi.NoEscape", "internal/bytealg.MakeNoZero"], unfollowed := true, recurses := true, named := ["nacelle/control.kinds", "internal/strconv.uint64pow10", "math/bits.deBruijn32tab", "math/bits.deBruijn64tab"], apart := false, laid := [("math/bits.deBruijn32tab", laid_math_bits_deBruijn32tab), ("math/bits.deBruijn64tab", laid_math_bits_deBruijn64tab), ("internal/strconv.uint64pow10", laid_internal_strconv_uint64pow10), ("nacelle/control.kinds", laid_nacelle_control_kinds)], narrowed := true }
def ControlStopsUptoSaid : Prop := controlStopsUptoRow.holds Tryz.pinned (OpenSpec.upto controlStopsSpec)

/-- 'nacellelaw05.ControlRuns', WHERE WHAT IT READS IS OF BULK AT MOST 1048576: true; the input reads as it did. -/
def controlRunsUptoRow : OpenClaim := { program := "ytkdlegfakefjgaagreatdoor", sum := "73fe21976d49c8aad29fbfe86caab2161e2de8eb785a067acf1c2003a31cda5a", func := "nacelle/nacellelaw05.ControlRuns", spec := "controlRuns", inPlace := ["internal/abi.NoEscape", "internal/bytealg.MakeNoZero"], unfollowed := true, recurses := true, named := ["nacelle/control.kinds", "internal/strconv.uint64pow10", "math/bits.deBruijn32tab", "math/bits.deBruijn64tab"], apart := false, laid := [("math/bits.deBruijn32tab", laid_math_bits_deBruijn32tab), ("math/bits.deBruijn64tab", laid_math_bits_deBruijn64tab), ("internal/strconv.uint64pow10", laid_internal_strconv_uint64pow10), ("nacelle/control.kinds", laid_nacelle_control_kinds)], narrowed := true }
def ControlRunsUptoSaid : Prop := controlRunsUptoRow.holds Tryz.pinned (OpenSpec.upto controlRunsSpec)

/-- 'nacellelaw05.ControlTexts', WHERE WHAT IT READS IS OF BULK AT MOST 1048576: true; the input reads as it did. -/
def controlTextsUptoRow : OpenClaim := { program := "ytkdlegfakefjgaagreatdoor", sum := "73fe21976d49c8aad29fbfe86caab2161e2de8eb785a067acf1c2003a31cda5a", func := "nacelle/nacellelaw05.ControlTexts", spec := "controlTexts", inPlace := ["internal/abi.NoEscape", "internal/bytealg.MakeNoZero", "internal/bytealg.IndexByteString", "internal/bytealg.CountString", "internal/bytealg.IndexString"], unfollowed := true, recurses := true, named := ["nacelle/control.kinds", "internal/strconv.uint64pow10", "math/bits.deBruijn32tab", "math/bits.deBruijn64tab", "unicode/utf8.first", "unicode/utf8.acceptRanges", "internal/bytealg.MaxLen"], apart := false, laid := [("math/bits.deBruijn32tab", laid_math_bits_deBruijn32tab), ("math/bits.deBruijn64tab", laid_math_bits_deBruijn64tab), ("internal/strconv.uint64pow10", laid_internal_strconv_uint64pow10), ("unicode/utf8.acceptRanges", laid_unicode_utf8_acceptRanges), ("nacelle/control.kinds", laid_nacelle_control_kinds), ("unicode/utf8.first", laid_unicode_utf8_first)], narrowed := true }
def ControlTextsUptoSaid : Prop := controlTextsUptoRow.holds Tryz.pinned (OpenSpec.upto controlTextsSpec)

/-- 'nacellelaw05.ControlProposes', WHERE WHAT IT READS IS OF BULK AT MOST 1048576: true; the input reads as it did. -/
def controlProposesUptoRow : OpenClaim := { program := "ytkdlegfakefjgaagreatdoor", sum := "73fe21976d49c8aad29fbfe86caab2161e2de8eb785a067acf1c2003a31cda5a", func := "nacelle/nacellelaw05.ControlProposes", spec := "controlProposes", inPlace := ["internal/abi.NoEscape", "internal/bytealg.MakeNoZero", "internal/bytealg.IndexByteString", "internal/bytealg.CountString", "internal/bytealg.IndexString"], unfollowed := true, recurses := true, named := ["nacelle/control.kinds", "internal/strconv.uint64pow10", "math/bits.deBruijn32tab", "math/bits.deBruijn64tab", "unicode/utf8.first", "unicode/utf8.acceptRanges", "internal/bytealg.MaxLen"], apart := false, laid := [("math/bits.deBruijn32tab", laid_math_bits_deBruijn32tab), ("math/bits.deBruijn64tab", laid_math_bits_deBruijn64tab), ("internal/strconv.uint64pow10", laid_internal_strconv_uint64pow10), ("unicode/utf8.acceptRanges", laid_unicode_utf8_acceptRanges), ("nacelle/control.kinds", laid_nacelle_control_kinds), ("unicode/utf8.first", laid_unicode_utf8_first)], narrowed := true }
def ControlProposesUptoSaid : Prop := controlProposesUptoRow.holds Tryz.pinned (OpenSpec.upto controlProposesSpec)

end Rows
end Go.Proofs.YtkdlegfakefjgaaGreatDoor
