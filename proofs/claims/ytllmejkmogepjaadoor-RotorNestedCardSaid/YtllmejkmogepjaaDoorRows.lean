/-
  NARROWER THAN 'FOR EVERY INPUT', by the rows' own cells (each row's printed sentence says how): RotorBlades: laid · RotorLoads: laid · RotorNested: laid · RotorChosen: laid · RotorInflows: laid · RotorPairs: laid · RotorThirds: laid · RotorMonotone: laid · TopHawseUneven: laid.
  DERIVED. THE GIVEN ROWS OF THIS SEAT. 9 by the template 'for every input the law returns true; each argument reads behind the call as it read before'; 0 by the template 'total and deterministic' (their statements: YtllmejkmogepjaaDoorTotals.lean).
  GIVEN WITH THE SEED: the statements are not yours to turn. If you find one false, say at which input.
  Laid BY PROGRAM, IN A SANDBOX (cutbox-rows.mjs): the forced cells as the released guide's own fill.sh prints them over the translation 9c4c038338e3ea76… (all of the seat's roots in one cut). By AI agents, Wed Nov 11 2026. No macro, syntax, notation, axiom, sorry.
-/
import Derived.Test.YtllmejkmogepjaaDoorChecked
import GoSem.Claim
import GoSem.ClaimJoined
import GoSem.ClaimMapViews
import Derived.JoinedTies
import Derived.KernelRfl
namespace Go.Proofs.YtllmejkmogepjaaDoor
/- THE CELL 'sum', in the pinned program and in every row, IS THE sha256 OF THE DUMP (.gsa) THAT YtllmejkmogepjaaDoorProg.lean LOADS. Nothing in Lean hashes anything: it is a label: what it is worth is what the hold of that sum in a sandbox is worth. -/
noncomputable def Tryd.pinned : Pinned := { name := "ytllmejkmogepjaadoor", sum := "9c4c038338e3ea766591e43f086a3fef180844b3947ca506f71fe118f11c331a", checked := Tryd.checked }
namespace Rows
def none {H : Type} : Left H := { results := [], args := [] }

/- WHAT THE LISTED PACKAGE-LEVEL VARIABLES READ AS WHEN THE CALL BEGINS. Each datum BY PROGRAM (the guide's laid-datum.mjs) off the statement by which the dump's own 'gosem.cut.vars' lays the variable. In a bare row this is a premise. The card (YtllmejkmogepjaaDoorCards.lean) ties it to the program's text. -/
def laid_math_bits_deBruijn32tab {H : Type} : DataW H := .agg [.lit (.int .u8 0), .lit (.int .u8 1), .lit (.int .u8 28), .lit (.int .u8 2), .lit (.int .u8 29), .lit (.int .u8 14), .lit (.int .u8 24), .lit (.int .u8 3), .lit (.int .u8 30), .lit (.int .u8 22), .lit (.int .u8 20), .lit (.int .u8 15), .lit (.int .u8 25), .lit (.int .u8 17), .lit (.int .u8 4), .lit (.int .u8 8), .lit (.int .u8 31), .lit (.int .u8 27), .lit (.int .u8 13), .lit (.int .u8 23), .lit (.int .u8 21), .lit (.int .u8 19), .lit (.int .u8 16), .lit (.int .u8 7), .lit (.int .u8 26), .lit (.int .u8 12), .lit (.int .u8 18), .lit (.int .u8 6), .lit (.int .u8 11), .lit (.int .u8 5), .lit (.int .u8 10), .lit (.int .u8 9)]
def laid_math_bits_deBruijn64tab {H : Type} : DataW H := .agg [.lit (.int .u8 0), .lit (.int .u8 1), .lit (.int .u8 56), .lit (.int .u8 2), .lit (.int .u8 57), .lit (.int .u8 49), .lit (.int .u8 28), .lit (.int .u8 3), .lit (.int .u8 61), .lit (.int .u8 58), .lit (.int .u8 42), .lit (.int .u8 50), .lit (.int .u8 38), .lit (.int .u8 29), .lit (.int .u8 17), .lit (.int .u8 4), .lit (.int .u8 62), .lit (.int .u8 47), .lit (.int .u8 59), .lit (.int .u8 36), .lit (.int .u8 45), .lit (.int .u8 43), .lit (.int .u8 51), .lit (.int .u8 22), .lit (.int .u8 53), .lit (.int .u8 39), .lit (.int .u8 33), .lit (.int .u8 30), .lit (.int .u8 24), .lit (.int .u8 18), .lit (.int .u8 12), .lit (.int .u8 5), .lit (.int .u8 63), .lit (.int .u8 55), .lit (.int .u8 48), .lit (.int .u8 27), .lit (.int .u8 60), .lit (.int .u8 41), .lit (.int .u8 37), .lit (.int .u8 16), .lit (.int .u8 46), .lit (.int .u8 35), .lit (.int .u8 44), .lit (.int .u8 21), .lit (.int .u8 52), .lit (.int .u8 32), .lit (.int .u8 23), .lit (.int .u8 11), .lit (.int .u8 54), .lit (.int .u8 26), .lit (.int .u8 40), .lit (.int .u8 15), .lit (.int .u8 34), .lit (.int .u8 20), .lit (.int .u8 31), .lit (.int .u8 10), .lit (.int .u8 25), .lit (.int .u8 14), .lit (.int .u8 19), .lit (.int .u8 9), .lit (.int .u8 13), .lit (.int .u8 8), .lit (.int .u8 7), .lit (.int .u8 6)]
def laid_internal_strconv_uint64pow10 {H : Type} : DataW H := .agg [.lit (.int .u64 1), .lit (.int .u64 10), .lit (.int .u64 100), .lit (.int .u64 1000), .lit (.int .u64 10000), .lit (.int .u64 100000), .lit (.int .u64 1000000), .lit (.int .u64 10000000), .lit (.int .u64 100000000), .lit (.int .u64 1000000000), .lit (.int .u64 10000000000), .lit (.int .u64 100000000000), .lit (.int .u64 1000000000000), .lit (.int .u64 10000000000000), .lit (.int .u64 100000000000000), .lit (.int .u64 1000000000000000), .lit (.int .u64 10000000000000000), .lit (.int .u64 100000000000000000), .lit (.int .u64 1000000000000000000), .lit (.int .u64 10000000000000000000)]
def laid_nacelle_rotor_roots {H : Type} : DataW H := .agg [.agg [.lit (.int .i64 1), .lit (.int .i64 0)], .agg [.lit (.int .i64 0), .lit (.int .i64 1)], .agg [.lit (.int .i64 (-1)), .lit (.int .i64 (-1))]]

/-- 'nacellelaw03.RotorBlades': WHATEVER THE INPUT: true; the input reads as it did. -/
def rotorBladesSpec : ChangeSpec := { name := "rotorBlades", fn := fun _ => fun
  | [d1, d2] => { results := [.lit (.bool true)], args := [d1, d2] }
  | _ => none }
def rotorBladesRow : OpenClaim := { program := "ytllmejkmogepjaadoor", sum := "9c4c038338e3ea766591e43f086a3fef180844b3947ca506f71fe118f11c331a", func := "nacelle/nacellelaw03.RotorBlades", spec := "rotorBlades", inPlace := ["internal/abi.NoEscape", "internal/bytealg.MakeNoZero"], unfollowed := true, recurses := true, named := ["nacelle/rotor.roots", "internal/strconv.uint64pow10", "math/bits.deBruijn32tab", "math/bits.deBruijn64tab"], apart := false, laid := [("math/bits.deBruijn32tab", laid_math_bits_deBruijn32tab), ("math/bits.deBruijn64tab", laid_math_bits_deBruijn64tab), ("internal/strconv.uint64pow10", laid_internal_strconv_uint64pow10), ("nacelle/rotor.roots", laid_nacelle_rotor_roots)] }
def RotorBladesSaid : Prop := rotorBladesRow.holds Tryd.pinned (OpenSpec.ofChange rotorBladesSpec)

/-- ITS FALSE NEIGHBOUR: 'it returns false'. Refute it at one input. -/
def rotorBladesWrong : ChangeSpec := { name := "rotorBlades", fn := fun _ => fun
  | [d1, d2] => { results := [.lit (.bool false)], args := [d1, d2] }
  | _ => none }
def RotorBladesWrongFalsely : Prop := rotorBladesRow.holds Tryd.pinned (OpenSpec.ofChange rotorBladesWrong)

/-- 'nacellelaw03.RotorLoads': WHATEVER THE INPUT: true; the input reads as it did. -/
def rotorLoadsSpec : ChangeSpec := { name := "rotorLoads", fn := fun _ => fun
  | [d1, d2] => { results := [.lit (.bool true)], args := [d1, d2] }
  | _ => none }
def rotorLoadsRow : OpenClaim := { program := "ytllmejkmogepjaadoor", sum := "9c4c038338e3ea766591e43f086a3fef180844b3947ca506f71fe118f11c331a", func := "nacelle/nacellelaw03.RotorLoads", spec := "rotorLoads", inPlace := ["internal/abi.NoEscape", "internal/bytealg.MakeNoZero"], unfollowed := true, recurses := true, named := ["nacelle/rotor.roots", "internal/strconv.uint64pow10", "math/bits.deBruijn32tab", "math/bits.deBruijn64tab"], apart := false, laid := [("math/bits.deBruijn32tab", laid_math_bits_deBruijn32tab), ("math/bits.deBruijn64tab", laid_math_bits_deBruijn64tab), ("internal/strconv.uint64pow10", laid_internal_strconv_uint64pow10), ("nacelle/rotor.roots", laid_nacelle_rotor_roots)] }
def RotorLoadsSaid : Prop := rotorLoadsRow.holds Tryd.pinned (OpenSpec.ofChange rotorLoadsSpec)

/-- ITS FALSE NEIGHBOUR: 'it returns false'. Refute it at one input. -/
def rotorLoadsWrong : ChangeSpec := { name := "rotorLoads", fn := fun _ => fun
  | [d1, d2] => { results := [.lit (.bool false)], args := [d1, d2] }
  | _ => none }
def RotorLoadsWrongFalsely : Prop := rotorLoadsRow.holds Tryd.pinned (OpenSpec.ofChange rotorLoadsWrong)

/-- 'nacellelaw03.RotorNested': WHATEVER THE INPUT: true; the input reads as it did. -/
def rotorNestedSpec : ChangeSpec := { name := "rotorNested", fn := fun _ => fun
  | [d1, d2, d3] => { results := [.lit (.bool true)], args := [d1, d2, d3] }
  | _ => none }
def rotorNestedRow : OpenClaim := { program := "ytllmejkmogepjaadoor", sum := "9c4c038338e3ea766591e43f086a3fef180844b3947ca506f71fe118f11c331a", func := "nacelle/nacellelaw03.RotorNested", spec := "rotorNested", inPlace := ["internal/abi.NoEscape", "internal/bytealg.MakeNoZero"], unfollowed := true, recurses := true, named := ["nacelle/rotor.roots", "internal/strconv.uint64pow10", "math/bits.deBruijn32tab", "math/bits.deBruijn64tab"], apart := false, laid := [("math/bits.deBruijn32tab", laid_math_bits_deBruijn32tab), ("math/bits.deBruijn64tab", laid_math_bits_deBruijn64tab), ("internal/strconv.uint64pow10", laid_internal_strconv_uint64pow10), ("nacelle/rotor.roots", laid_nacelle_rotor_roots)] }
def RotorNestedSaid : Prop := rotorNestedRow.holds Tryd.pinned (OpenSpec.ofChange rotorNestedSpec)

/-- ITS FALSE NEIGHBOUR: 'it returns false'. Refute it at one input. -/
def rotorNestedWrong : ChangeSpec := { name := "rotorNested", fn := fun _ => fun
  | [d1, d2, d3] => { results := [.lit (.bool false)], args := [d1, d2, d3] }
  | _ => none }
def RotorNestedWrongFalsely : Prop := rotorNestedRow.holds Tryd.pinned (OpenSpec.ofChange rotorNestedWrong)

/-- 'nacellelaw03.RotorChosen': WHATEVER THE INPUT: true; the input reads as it did. -/
def rotorChosenSpec : ChangeSpec := { name := "rotorChosen", fn := fun _ => fun
  | [d1, d2, d3] => { results := [.lit (.bool true)], args := [d1, d2, d3] }
  | _ => none }
def rotorChosenRow : OpenClaim := { program := "ytllmejkmogepjaadoor", sum := "9c4c038338e3ea766591e43f086a3fef180844b3947ca506f71fe118f11c331a", func := "nacelle/nacellelaw03.RotorChosen", spec := "rotorChosen", inPlace := ["internal/abi.NoEscape", "internal/bytealg.MakeNoZero"], unfollowed := true, recurses := true, named := ["nacelle/rotor.roots", "internal/strconv.uint64pow10", "math/bits.deBruijn32tab", "math/bits.deBruijn64tab"], apart := false, laid := [("math/bits.deBruijn32tab", laid_math_bits_deBruijn32tab), ("math/bits.deBruijn64tab", laid_math_bits_deBruijn64tab), ("internal/strconv.uint64pow10", laid_internal_strconv_uint64pow10), ("nacelle/rotor.roots", laid_nacelle_rotor_roots)] }
def RotorChosenSaid : Prop := rotorChosenRow.holds Tryd.pinned (OpenSpec.ofChange rotorChosenSpec)

/-- ITS FALSE NEIGHBOUR: 'it returns false'. Refute it at one input. -/
def rotorChosenWrong : ChangeSpec := { name := "rotorChosen", fn := fun _ => fun
  | [d1, d2, d3] => { results := [.lit (.bool false)], args := [d1, d2, d3] }
  | _ => none }
def RotorChosenWrongFalsely : Prop := rotorChosenRow.holds Tryd.pinned (OpenSpec.ofChange rotorChosenWrong)

/-- 'nacellelaw03.RotorInflows': WHATEVER THE INPUT: true; the input reads as it did. -/
def rotorInflowsSpec : ChangeSpec := { name := "rotorInflows", fn := fun _ => fun
  | [d1, d2, d3] => { results := [.lit (.bool true)], args := [d1, d2, d3] }
  | _ => none }
def rotorInflowsRow : OpenClaim := { program := "ytllmejkmogepjaadoor", sum := "9c4c038338e3ea766591e43f086a3fef180844b3947ca506f71fe118f11c331a", func := "nacelle/nacellelaw03.RotorInflows", spec := "rotorInflows", inPlace := ["internal/abi.NoEscape", "internal/bytealg.MakeNoZero"], unfollowed := true, recurses := true, named := ["nacelle/rotor.roots", "internal/strconv.uint64pow10", "math/bits.deBruijn32tab", "math/bits.deBruijn64tab"], apart := false, laid := [("math/bits.deBruijn32tab", laid_math_bits_deBruijn32tab), ("math/bits.deBruijn64tab", laid_math_bits_deBruijn64tab), ("internal/strconv.uint64pow10", laid_internal_strconv_uint64pow10), ("nacelle/rotor.roots", laid_nacelle_rotor_roots)] }
def RotorInflowsSaid : Prop := rotorInflowsRow.holds Tryd.pinned (OpenSpec.ofChange rotorInflowsSpec)

/-- ITS FALSE NEIGHBOUR: 'it returns false'. Refute it at one input. -/
def rotorInflowsWrong : ChangeSpec := { name := "rotorInflows", fn := fun _ => fun
  | [d1, d2, d3] => { results := [.lit (.bool false)], args := [d1, d2, d3] }
  | _ => none }
def RotorInflowsWrongFalsely : Prop := rotorInflowsRow.holds Tryd.pinned (OpenSpec.ofChange rotorInflowsWrong)

/-- 'nacellelaw03.RotorPairs': WHATEVER THE INPUT: true; the input reads as it did. -/
def rotorPairsSpec : ChangeSpec := { name := "rotorPairs", fn := fun _ => fun
  | [d1, d2, d3] => { results := [.lit (.bool true)], args := [d1, d2, d3] }
  | _ => none }
def rotorPairsRow : OpenClaim := { program := "ytllmejkmogepjaadoor", sum := "9c4c038338e3ea766591e43f086a3fef180844b3947ca506f71fe118f11c331a", func := "nacelle/nacellelaw03.RotorPairs", spec := "rotorPairs", inPlace := ["internal/abi.NoEscape", "internal/bytealg.MakeNoZero"], unfollowed := true, recurses := true, named := ["nacelle/rotor.roots", "internal/strconv.uint64pow10", "math/bits.deBruijn32tab", "math/bits.deBruijn64tab"], apart := false, laid := [("math/bits.deBruijn32tab", laid_math_bits_deBruijn32tab), ("math/bits.deBruijn64tab", laid_math_bits_deBruijn64tab), ("internal/strconv.uint64pow10", laid_internal_strconv_uint64pow10), ("nacelle/rotor.roots", laid_nacelle_rotor_roots)] }
def RotorPairsSaid : Prop := rotorPairsRow.holds Tryd.pinned (OpenSpec.ofChange rotorPairsSpec)

/-- ITS FALSE NEIGHBOUR: 'it returns false'. Refute it at one input. -/
def rotorPairsWrong : ChangeSpec := { name := "rotorPairs", fn := fun _ => fun
  | [d1, d2, d3] => { results := [.lit (.bool false)], args := [d1, d2, d3] }
  | _ => none }
def RotorPairsWrongFalsely : Prop := rotorPairsRow.holds Tryd.pinned (OpenSpec.ofChange rotorPairsWrong)

/-- 'nacellelaw03.RotorThirds': WHATEVER THE INPUT: true; the input reads as it did. -/
def rotorThirdsSpec : ChangeSpec := { name := "rotorThirds", fn := fun _ => fun
  | [d1, d2, d3] => { results := [.lit (.bool true)], args := [d1, d2, d3] }
  | _ => none }
def rotorThirdsRow : OpenClaim := { program := "ytllmejkmogepjaadoor", sum := "9c4c038338e3ea766591e43f086a3fef180844b3947ca506f71fe118f11c331a", func := "nacelle/nacellelaw03.RotorThirds", spec := "rotorThirds", inPlace := ["internal/abi.NoEscape", "internal/bytealg.MakeNoZero"], unfollowed := true, recurses := true, named := ["nacelle/rotor.roots", "internal/strconv.uint64pow10", "math/bits.deBruijn32tab", "math/bits.deBruijn64tab"], apart := false, laid := [("math/bits.deBruijn32tab", laid_math_bits_deBruijn32tab), ("math/bits.deBruijn64tab", laid_math_bits_deBruijn64tab), ("internal/strconv.uint64pow10", laid_internal_strconv_uint64pow10), ("nacelle/rotor.roots", laid_nacelle_rotor_roots)] }
def RotorThirdsSaid : Prop := rotorThirdsRow.holds Tryd.pinned (OpenSpec.ofChange rotorThirdsSpec)

/-- ITS FALSE NEIGHBOUR: 'it returns false'. Refute it at one input. -/
def rotorThirdsWrong : ChangeSpec := { name := "rotorThirds", fn := fun _ => fun
  | [d1, d2, d3] => { results := [.lit (.bool false)], args := [d1, d2, d3] }
  | _ => none }
def RotorThirdsWrongFalsely : Prop := rotorThirdsRow.holds Tryd.pinned (OpenSpec.ofChange rotorThirdsWrong)

/-- 'nacellelaw03.RotorMonotone': WHATEVER THE INPUT: true; the input reads as it did. -/
def rotorMonotoneSpec : ChangeSpec := { name := "rotorMonotone", fn := fun _ => fun
  | [d1, d2, d3] => { results := [.lit (.bool true)], args := [d1, d2, d3] }
  | _ => none }
def rotorMonotoneRow : OpenClaim := { program := "ytllmejkmogepjaadoor", sum := "9c4c038338e3ea766591e43f086a3fef180844b3947ca506f71fe118f11c331a", func := "nacelle/nacellelaw03.RotorMonotone", spec := "rotorMonotone", inPlace := ["internal/abi.NoEscape", "internal/bytealg.MakeNoZero"], unfollowed := true, recurses := true, named := ["nacelle/rotor.roots", "internal/strconv.uint64pow10", "math/bits.deBruijn32tab", "math/bits.deBruijn64tab"], apart := false, laid := [("math/bits.deBruijn32tab", laid_math_bits_deBruijn32tab), ("math/bits.deBruijn64tab", laid_math_bits_deBruijn64tab), ("internal/strconv.uint64pow10", laid_internal_strconv_uint64pow10), ("nacelle/rotor.roots", laid_nacelle_rotor_roots)] }
def RotorMonotoneSaid : Prop := rotorMonotoneRow.holds Tryd.pinned (OpenSpec.ofChange rotorMonotoneSpec)

/-- ITS FALSE NEIGHBOUR: 'it returns false'. Refute it at one input. -/
def rotorMonotoneWrong : ChangeSpec := { name := "rotorMonotone", fn := fun _ => fun
  | [d1, d2, d3] => { results := [.lit (.bool false)], args := [d1, d2, d3] }
  | _ => none }
def RotorMonotoneWrongFalsely : Prop := rotorMonotoneRow.holds Tryd.pinned (OpenSpec.ofChange rotorMonotoneWrong)

/-- 'nacelletop.TopHawseUneven': WHATEVER THE INPUT: true; the input reads as it did. -/
def topHawseUnevenSpec : ChangeSpec := { name := "topHawseUneven", fn := fun _ => fun
  | [d1, d2, d3] => { results := [.lit (.bool true)], args := [d1, d2, d3] }
  | _ => none }
def topHawseUnevenRow : OpenClaim := { program := "ytllmejkmogepjaadoor", sum := "9c4c038338e3ea766591e43f086a3fef180844b3947ca506f71fe118f11c331a", func := "nacelle/nacelletop.TopHawseUneven", spec := "topHawseUneven", unfollowed := true, recurses := true, named := ["nacelle/rotor.roots"], apart := false, laid := [("nacelle/rotor.roots", laid_nacelle_rotor_roots)] }
def TopHawseUnevenSaid : Prop := topHawseUnevenRow.holds Tryd.pinned (OpenSpec.ofChange topHawseUnevenSpec)

/-- ITS FALSE NEIGHBOUR: 'it returns false'. Refute it at one input. -/
def topHawseUnevenWrong : ChangeSpec := { name := "topHawseUneven", fn := fun _ => fun
  | [d1, d2, d3] => { results := [.lit (.bool false)], args := [d1, d2, d3] }
  | _ => none }
def TopHawseUnevenWrongFalsely : Prop := topHawseUnevenRow.holds Tryd.pinned (OpenSpec.ofChange topHawseUnevenWrong)

/- THE SECOND FORM. 'bulk': how many values and letters a reading holds, each counted each time it is reached (what is shared counts as often as it is met; a slice's spare places count too). A statement '..UptoSaid' is the law's where the arguments, and the package variables that the reading takes, are together of bulk at most 1048576: NARROWER than '..Said'. Prove '..Said' where nothing that the law and all that it calls make is longer than what came in: it says more and counts as full. Else prove '..UptoSaid'. A law counts once. -/
mutual
def uptoBulk {H : Type} : DataW H → Nat
  | .lit (.string bytes) => bytes.length + 1
  | .lit _ => 1
  | .nil => 1
  | .ptr d => uptoBulk d + 1
  | .slice elems spare => uptoBulkAll elems + uptoBulkAll spare + 1
  | .agg parts => uptoBulkAll parts + 1
  | .iface _ d => uptoBulk d + 1
  | .map entries => uptoBulkEntries entries + 1
  | .held _ => 1
def uptoBulkAll {H : Type} : List (DataW H) → Nat
  | [] => 0
  | d :: r => uptoBulk d + uptoBulkAll r
def uptoBulkEntries {H : Type} : List (Lit × DataW H) → Nat
  | [] => 0
  | x :: r => uptoBulkEntry x + uptoBulkEntries r
def uptoBulkEntry {H : Type} : Lit × DataW H → Nat
  | (.string bytes, d) => bytes.length + uptoBulk d + 1
  | (_, d) => uptoBulk d + 1
 end
def uptoSmall : (H : Type) → List (DataW H) → Bool := fun _ ds => decide (uptoBulkAll ds ≤ 1048576)
def OpenSpec.upto (s : _root_.Go.ChangeSpec) : _root_.Go.OpenSpec := { _root_.Go.OpenSpec.ofChange s with cond := some uptoSmall }

/-- 'nacellelaw03.RotorBlades', WHERE WHAT IT READS IS OF BULK AT MOST 1048576: true; the input reads as it did. -/
def rotorBladesUptoRow : OpenClaim := { program := "ytllmejkmogepjaadoor", sum := "9c4c038338e3ea766591e43f086a3fef180844b3947ca506f71fe118f11c331a", func := "nacelle/nacellelaw03.RotorBlades", spec := "rotorBlades", inPlace := ["internal/abi.NoEscape", "internal/bytealg.MakeNoZero"], unfollowed := true, recurses := true, named := ["nacelle/rotor.roots", "internal/strconv.uint64pow10", "math/bits.deBruijn32tab", "math/bits.deBruijn64tab"], apart := false, laid := [("math/bits.deBruijn32tab", laid_math_bits_deBruijn32tab), ("math/bits.deBruijn64tab", laid_math_bits_deBruijn64tab), ("internal/strconv.uint64pow10", laid_internal_strconv_uint64pow10), ("nacelle/rotor.roots", laid_nacelle_rotor_roots)], narrowed := true }
def RotorBladesUptoSaid : Prop := rotorBladesUptoRow.holds Tryd.pinned (OpenSpec.upto rotorBladesSpec)

/-- 'nacellelaw03.RotorLoads', WHERE WHAT IT READS IS OF BULK AT MOST 1048576: true; the input reads as it did. -/
def rotorLoadsUptoRow : OpenClaim := { program := "ytllmejkmogepjaadoor", sum := "9c4c038338e3ea766591e43f086a3fef180844b3947ca506f71fe118f11c331a", func := "nacelle/nacellelaw03.RotorLoads", spec := "rotorLoads", inPlace := ["internal/abi.NoEscape", "internal/bytealg.MakeNoZero"], unfollowed := true, recurses := true, named := ["nacelle/rotor.roots", "internal/strconv.uint64pow10", "math/bits.deBruijn32tab", "math/bits.deBruijn64tab"], apart := false, laid := [("math/bits.deBruijn32tab", laid_math_bits_deBruijn32tab), ("math/bits.deBruijn64tab", laid_math_bits_deBruijn64tab), ("internal/strconv.uint64pow10", laid_internal_strconv_uint64pow10), ("nacelle/rotor.roots", laid_nacelle_rotor_roots)], narrowed := true }
def RotorLoadsUptoSaid : Prop := rotorLoadsUptoRow.holds Tryd.pinned (OpenSpec.upto rotorLoadsSpec)

/-- 'nacellelaw03.RotorNested', WHERE WHAT IT READS IS OF BULK AT MOST 1048576: true; the input reads as it did. -/
def rotorNestedUptoRow : OpenClaim := { program := "ytllmejkmogepjaadoor", sum := "9c4c038338e3ea766591e43f086a3fef180844b3947ca506f71fe118f11c331a", func := "nacelle/nacellelaw03.RotorNested", spec := "rotorNested", inPlace := ["internal/abi.NoEscape", "internal/bytealg.MakeNoZero"], unfollowed := true, recurses := true, named := ["nacelle/rotor.roots", "internal/strconv.uint64pow10", "math/bits.deBruijn32tab", "math/bits.deBruijn64tab"], apart := false, laid := [("math/bits.deBruijn32tab", laid_math_bits_deBruijn32tab), ("math/bits.deBruijn64tab", laid_math_bits_deBruijn64tab), ("internal/strconv.uint64pow10", laid_internal_strconv_uint64pow10), ("nacelle/rotor.roots", laid_nacelle_rotor_roots)], narrowed := true }
def RotorNestedUptoSaid : Prop := rotorNestedUptoRow.holds Tryd.pinned (OpenSpec.upto rotorNestedSpec)

/-- 'nacellelaw03.RotorChosen', WHERE WHAT IT READS IS OF BULK AT MOST 1048576: true; the input reads as it did. -/
def rotorChosenUptoRow : OpenClaim := { program := "ytllmejkmogepjaadoor", sum := "9c4c038338e3ea766591e43f086a3fef180844b3947ca506f71fe118f11c331a", func := "nacelle/nacellelaw03.RotorChosen", spec := "rotorChosen", inPlace := ["internal/abi.NoEscape", "internal/bytealg.MakeNoZero"], unfollowed := true, recurses := true, named := ["nacelle/rotor.roots", "internal/strconv.uint64pow10", "math/bits.deBruijn32tab", "math/bits.deBruijn64tab"], apart := false, laid := [("math/bits.deBruijn32tab", laid_math_bits_deBruijn32tab), ("math/bits.deBruijn64tab", laid_math_bits_deBruijn64tab), ("internal/strconv.uint64pow10", laid_internal_strconv_uint64pow10), ("nacelle/rotor.roots", laid_nacelle_rotor_roots)], narrowed := true }
def RotorChosenUptoSaid : Prop := rotorChosenUptoRow.holds Tryd.pinned (OpenSpec.upto rotorChosenSpec)

/-- 'nacellelaw03.RotorInflows', WHERE WHAT IT READS IS OF BULK AT MOST 1048576: true; the input reads as it did. -/
def rotorInflowsUptoRow : OpenClaim := { program := "ytllmejkmogepjaadoor", sum := "9c4c038338e3ea766591e43f086a3fef180844b3947ca506f71fe118f11c331a", func := "nacelle/nacellelaw03.RotorInflows", spec := "rotorInflows", inPlace := ["internal/abi.NoEscape", "internal/bytealg.MakeNoZero"], unfollowed := true, recurses := true, named := ["nacelle/rotor.roots", "internal/strconv.uint64pow10", "math/bits.deBruijn32tab", "math/bits.deBruijn64tab"], apart := false, laid := [("math/bits.deBruijn32tab", laid_math_bits_deBruijn32tab), ("math/bits.deBruijn64tab", laid_math_bits_deBruijn64tab), ("internal/strconv.uint64pow10", laid_internal_strconv_uint64pow10), ("nacelle/rotor.roots", laid_nacelle_rotor_roots)], narrowed := true }
def RotorInflowsUptoSaid : Prop := rotorInflowsUptoRow.holds Tryd.pinned (OpenSpec.upto rotorInflowsSpec)

/-- 'nacellelaw03.RotorPairs', WHERE WHAT IT READS IS OF BULK AT MOST 1048576: true; the input reads as it did. -/
def rotorPairsUptoRow : OpenClaim := { program := "ytllmejkmogepjaadoor", sum := "9c4c038338e3ea766591e43f086a3fef180844b3947ca506f71fe118f11c331a", func := "nacelle/nacellelaw03.RotorPairs", spec := "rotorPairs", inPlace := ["internal/abi.NoEscape", "internal/bytealg.MakeNoZero"], unfollowed := true, recurses := true, named := ["nacelle/rotor.roots", "internal/strconv.uint64pow10", "math/bits.deBruijn32tab", "math/bits.deBruijn64tab"], apart := false, laid := [("math/bits.deBruijn32tab", laid_math_bits_deBruijn32tab), ("math/bits.deBruijn64tab", laid_math_bits_deBruijn64tab), ("internal/strconv.uint64pow10", laid_internal_strconv_uint64pow10), ("nacelle/rotor.roots", laid_nacelle_rotor_roots)], narrowed := true }
def RotorPairsUptoSaid : Prop := rotorPairsUptoRow.holds Tryd.pinned (OpenSpec.upto rotorPairsSpec)

/-- 'nacellelaw03.RotorThirds', WHERE WHAT IT READS IS OF BULK AT MOST 1048576: true; the input reads as it did. -/
def rotorThirdsUptoRow : OpenClaim := { program := "ytllmejkmogepjaadoor", sum := "9c4c038338e3ea766591e43f086a3fef180844b3947ca506f71fe118f11c331a", func := "nacelle/nacellelaw03.RotorThirds", spec := "rotorThirds", inPlace := ["internal/abi.NoEscape", "internal/bytealg.MakeNoZero"], unfollowed := true, recurses := true, named := ["nacelle/rotor.roots", "internal/strconv.uint64pow10", "math/bits.deBruijn32tab", "math/bits.deBruijn64tab"], apart := false, laid := [("math/bits.deBruijn32tab", laid_math_bits_deBruijn32tab), ("math/bits.deBruijn64tab", laid_math_bits_deBruijn64tab), ("internal/strconv.uint64pow10", laid_internal_strconv_uint64pow10), ("nacelle/rotor.roots", laid_nacelle_rotor_roots)], narrowed := true }
def RotorThirdsUptoSaid : Prop := rotorThirdsUptoRow.holds Tryd.pinned (OpenSpec.upto rotorThirdsSpec)

/-- 'nacellelaw03.RotorMonotone', WHERE WHAT IT READS IS OF BULK AT MOST 1048576: true; the input reads as it did. -/
def rotorMonotoneUptoRow : OpenClaim := { program := "ytllmejkmogepjaadoor", sum := "9c4c038338e3ea766591e43f086a3fef180844b3947ca506f71fe118f11c331a", func := "nacelle/nacellelaw03.RotorMonotone", spec := "rotorMonotone", inPlace := ["internal/abi.NoEscape", "internal/bytealg.MakeNoZero"], unfollowed := true, recurses := true, named := ["nacelle/rotor.roots", "internal/strconv.uint64pow10", "math/bits.deBruijn32tab", "math/bits.deBruijn64tab"], apart := false, laid := [("math/bits.deBruijn32tab", laid_math_bits_deBruijn32tab), ("math/bits.deBruijn64tab", laid_math_bits_deBruijn64tab), ("internal/strconv.uint64pow10", laid_internal_strconv_uint64pow10), ("nacelle/rotor.roots", laid_nacelle_rotor_roots)], narrowed := true }
def RotorMonotoneUptoSaid : Prop := rotorMonotoneUptoRow.holds Tryd.pinned (OpenSpec.upto rotorMonotoneSpec)

/-- 'nacelletop.TopHawseUneven', WHERE WHAT IT READS IS OF BULK AT MOST 1048576: true; the input reads as it did. -/
def topHawseUnevenUptoRow : OpenClaim := { program := "ytllmejkmogepjaadoor", sum := "9c4c038338e3ea766591e43f086a3fef180844b3947ca506f71fe118f11c331a", func := "nacelle/nacelletop.TopHawseUneven", spec := "topHawseUneven", unfollowed := true, recurses := true, named := ["nacelle/rotor.roots"], apart := false, laid := [("nacelle/rotor.roots", laid_nacelle_rotor_roots)], narrowed := true }
def TopHawseUnevenUptoSaid : Prop := topHawseUnevenUptoRow.holds Tryd.pinned (OpenSpec.upto topHawseUnevenSpec)

end Rows
end Go.Proofs.YtllmejkmogepjaaDoor
