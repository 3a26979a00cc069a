/-
  NARROWER THAN 'FOR EVERY INPUT', by the rows' own cells (each row's printed sentence says how): DiagramSteps: laid · DiagramOwn: laid · DiagramApplyErrs: laid · DiagramTells: laid · DiagramLoads: laid · DiagramRestricts: laid · DiagramApplies: laid · DiagramBack: laid.
  DERIVED. THE GIVEN ROWS OF THIS SEAT. 8 by the template 'for every input the law returns true; each argument reads behind the call as it read before'; 0 by the template 'total and deterministic' (their statements: YtpkhogofbdlfeaaDoorTotals.lean).
  GIVEN WITH THE SEED: the statements are not yours to turn. If you find one false, say at which input.
  Laid BY PROGRAM, IN A SANDBOX (cutbox-rows.mjs): the forced cells as the released guide's own fill.sh prints them over the translation 28dbf94b66cd733b… (all of the seat's roots in one cut). By AI agents, Wed Nov 11 2026. No macro, syntax, notation, axiom, sorry.
-/
import Derived.Test.YtpkhogofbdlfeaaDoorChecked
import GoSem.Claim
import GoSem.ClaimJoined
import GoSem.ClaimMapViews
import Derived.JoinedTies
import Derived.KernelRfl
namespace Go.Proofs.YtpkhogofbdlfeaaDoor
/- THE CELL 'sum', in the pinned program and in every row, IS THE sha256 OF THE DUMP (.gsa) THAT YtpkhogofbdlfeaaDoorProg.lean LOADS. Nothing in Lean hashes anything: it is a label: what it is worth is what the hold of that sum in a sandbox is worth. -/
noncomputable def Tryd.pinned : Pinned := { name := "ytpkhogofbdlfeaadoor", sum := "28dbf94b66cd733b30e048eaefbbcedae7de43449ae4847cd11996dad35a5575", checked := Tryd.checked }
namespace Rows
def none {H : Type} : Left H := { results := [], args := [] }

/- WHAT THE LISTED PACKAGE-LEVEL VARIABLES READ AS WHEN THE CALL BEGINS. Each datum BY PROGRAM (the guide's laid-datum.mjs) off the statement by which the dump's own 'gosem.cut.vars' lays the variable. In a bare row this is a premise. The card (YtpkhogofbdlfeaaDoorCards.lean) ties it to the program's text. -/
def laid_math_bits_deBruijn32tab {H : Type} : DataW H := .agg [.lit (.int .u8 0), .lit (.int .u8 1), .lit (.int .u8 28), .lit (.int .u8 2), .lit (.int .u8 29), .lit (.int .u8 14), .lit (.int .u8 24), .lit (.int .u8 3), .lit (.int .u8 30), .lit (.int .u8 22), .lit (.int .u8 20), .lit (.int .u8 15), .lit (.int .u8 25), .lit (.int .u8 17), .lit (.int .u8 4), .lit (.int .u8 8), .lit (.int .u8 31), .lit (.int .u8 27), .lit (.int .u8 13), .lit (.int .u8 23), .lit (.int .u8 21), .lit (.int .u8 19), .lit (.int .u8 16), .lit (.int .u8 7), .lit (.int .u8 26), .lit (.int .u8 12), .lit (.int .u8 18), .lit (.int .u8 6), .lit (.int .u8 11), .lit (.int .u8 5), .lit (.int .u8 10), .lit (.int .u8 9)]
def laid_math_bits_deBruijn64tab {H : Type} : DataW H := .agg [.lit (.int .u8 0), .lit (.int .u8 1), .lit (.int .u8 56), .lit (.int .u8 2), .lit (.int .u8 57), .lit (.int .u8 49), .lit (.int .u8 28), .lit (.int .u8 3), .lit (.int .u8 61), .lit (.int .u8 58), .lit (.int .u8 42), .lit (.int .u8 50), .lit (.int .u8 38), .lit (.int .u8 29), .lit (.int .u8 17), .lit (.int .u8 4), .lit (.int .u8 62), .lit (.int .u8 47), .lit (.int .u8 59), .lit (.int .u8 36), .lit (.int .u8 45), .lit (.int .u8 43), .lit (.int .u8 51), .lit (.int .u8 22), .lit (.int .u8 53), .lit (.int .u8 39), .lit (.int .u8 33), .lit (.int .u8 30), .lit (.int .u8 24), .lit (.int .u8 18), .lit (.int .u8 12), .lit (.int .u8 5), .lit (.int .u8 63), .lit (.int .u8 55), .lit (.int .u8 48), .lit (.int .u8 27), .lit (.int .u8 60), .lit (.int .u8 41), .lit (.int .u8 37), .lit (.int .u8 16), .lit (.int .u8 46), .lit (.int .u8 35), .lit (.int .u8 44), .lit (.int .u8 21), .lit (.int .u8 52), .lit (.int .u8 32), .lit (.int .u8 23), .lit (.int .u8 11), .lit (.int .u8 54), .lit (.int .u8 26), .lit (.int .u8 40), .lit (.int .u8 15), .lit (.int .u8 34), .lit (.int .u8 20), .lit (.int .u8 31), .lit (.int .u8 10), .lit (.int .u8 25), .lit (.int .u8 14), .lit (.int .u8 19), .lit (.int .u8 9), .lit (.int .u8 13), .lit (.int .u8 8), .lit (.int .u8 7), .lit (.int .u8 6)]
def laid_internal_strconv_uint64pow10 {H : Type} : DataW H := .agg [.lit (.int .u64 1), .lit (.int .u64 10), .lit (.int .u64 100), .lit (.int .u64 1000), .lit (.int .u64 10000), .lit (.int .u64 100000), .lit (.int .u64 1000000), .lit (.int .u64 10000000), .lit (.int .u64 100000000), .lit (.int .u64 1000000000), .lit (.int .u64 10000000000), .lit (.int .u64 100000000000), .lit (.int .u64 1000000000000), .lit (.int .u64 10000000000000), .lit (.int .u64 100000000000000), .lit (.int .u64 1000000000000000), .lit (.int .u64 10000000000000000), .lit (.int .u64 100000000000000000), .lit (.int .u64 1000000000000000000), .lit (.int .u64 10000000000000000000)]

/-- 'sortilegelaw23.DiagramSteps': WHATEVER THE INPUT: true; the input reads as it did. -/
def diagramStepsSpec : ChangeSpec := { name := "diagramSteps", fn := fun _ => fun
  | [d1, d2] => { results := [.lit (.bool true)], args := [d1, d2] }
  | _ => none }
def diagramStepsRow : OpenClaim := { program := "ytpkhogofbdlfeaadoor", sum := "28dbf94b66cd733b30e048eaefbbcedae7de43449ae4847cd11996dad35a5575", func := "sortilege/sortilegelaw23.DiagramSteps", spec := "diagramSteps", inPlace := ["internal/abi.NoEscape"], unfollowed := true, recurses := true, named := ["internal/strconv.uint64pow10", "math/bits.deBruijn32tab", "math/bits.deBruijn64tab"], plainKeys := false, apart := false, laid := [("math/bits.deBruijn32tab", laid_math_bits_deBruijn32tab), ("math/bits.deBruijn64tab", laid_math_bits_deBruijn64tab), ("internal/strconv.uint64pow10", laid_internal_strconv_uint64pow10)] }
def DiagramStepsSaid : Prop := diagramStepsRow.holds Tryd.pinned (OpenSpec.ofChange diagramStepsSpec)

/-- ITS FALSE NEIGHBOUR: 'it returns false'. Refute it at one input. -/
def diagramStepsWrong : ChangeSpec := { name := "diagramSteps", fn := fun _ => fun
  | [d1, d2] => { results := [.lit (.bool false)], args := [d1, d2] }
  | _ => none }
def DiagramStepsWrongFalsely : Prop := diagramStepsRow.holds Tryd.pinned (OpenSpec.ofChange diagramStepsWrong)

/-- 'sortilegelaw23.DiagramOwn': WHATEVER THE INPUT: true; the input reads as it did. -/
def diagramOwnSpec : ChangeSpec := { name := "diagramOwn", fn := fun _ => fun
  | [d1, d2] => { results := [.lit (.bool true)], args := [d1, d2] }
  | _ => none }
def diagramOwnRow : OpenClaim := { program := "ytpkhogofbdlfeaadoor", sum := "28dbf94b66cd733b30e048eaefbbcedae7de43449ae4847cd11996dad35a5575", func := "sortilege/sortilegelaw23.DiagramOwn", spec := "diagramOwn", inPlace := ["internal/abi.NoEscape"], unfollowed := true, recurses := true, named := ["internal/strconv.uint64pow10", "math/bits.deBruijn32tab", "math/bits.deBruijn64tab"], plainKeys := false, apart := false, laid := [("math/bits.deBruijn32tab", laid_math_bits_deBruijn32tab), ("math/bits.deBruijn64tab", laid_math_bits_deBruijn64tab), ("internal/strconv.uint64pow10", laid_internal_strconv_uint64pow10)] }
def DiagramOwnSaid : Prop := diagramOwnRow.holds Tryd.pinned (OpenSpec.ofChange diagramOwnSpec)

/-- ITS FALSE NEIGHBOUR: 'it returns false'. Refute it at one input. -/
def diagramOwnWrong : ChangeSpec := { name := "diagramOwn", fn := fun _ => fun
  | [d1, d2] => { results := [.lit (.bool false)], args := [d1, d2] }
  | _ => none }
def DiagramOwnWrongFalsely : Prop := diagramOwnRow.holds Tryd.pinned (OpenSpec.ofChange diagramOwnWrong)

/-- 'sortilegelaw23.DiagramApplyErrs': WHATEVER THE INPUT: true; the input reads as it did. -/
def diagramApplyErrsSpec : ChangeSpec := { name := "diagramApplyErrs", fn := fun _ => fun
  | [d1, d2, d3, d4, d5] => { results := [.lit (.bool true)], args := [d1, d2, d3, d4, d5] }
  | _ => none }
def diagramApplyErrsRow : OpenClaim := { program := "ytpkhogofbdlfeaadoor", sum := "28dbf94b66cd733b30e048eaefbbcedae7de43449ae4847cd11996dad35a5575", func := "sortilege/sortilegelaw23.DiagramApplyErrs", spec := "diagramApplyErrs", inPlace := ["internal/abi.NoEscape"], unfollowed := true, recurses := true, named := ["internal/strconv.uint64pow10", "math/bits.deBruijn32tab", "math/bits.deBruijn64tab"], plainKeys := false, apart := false, laid := [("math/bits.deBruijn32tab", laid_math_bits_deBruijn32tab), ("math/bits.deBruijn64tab", laid_math_bits_deBruijn64tab), ("internal/strconv.uint64pow10", laid_internal_strconv_uint64pow10)] }
def DiagramApplyErrsSaid : Prop := diagramApplyErrsRow.holds Tryd.pinned (OpenSpec.ofChange diagramApplyErrsSpec)

/-- ITS FALSE NEIGHBOUR: 'it returns false'. Refute it at one input. -/
def diagramApplyErrsWrong : ChangeSpec := { name := "diagramApplyErrs", fn := fun _ => fun
  | [d1, d2, d3, d4, d5] => { results := [.lit (.bool false)], args := [d1, d2, d3, d4, d5] }
  | _ => none }
def DiagramApplyErrsWrongFalsely : Prop := diagramApplyErrsRow.holds Tryd.pinned (OpenSpec.ofChange diagramApplyErrsWrong)

/-- 'sortilegelaw23.DiagramTells': WHATEVER THE INPUT: true; the input reads as it did. -/
def diagramTellsSpec : ChangeSpec := { name := "diagramTells", fn := fun _ => fun
  | [d1, d2, d3] => { results := [.lit (.bool true)], args := [d1, d2, d3] }
  | _ => none }
def diagramTellsRow : OpenClaim := { program := "ytpkhogofbdlfeaadoor", sum := "28dbf94b66cd733b30e048eaefbbcedae7de43449ae4847cd11996dad35a5575", func := "sortilege/sortilegelaw23.DiagramTells", spec := "diagramTells", inPlace := ["internal/abi.NoEscape"], unfollowed := true, recurses := true, named := ["internal/strconv.uint64pow10", "math/bits.deBruijn32tab", "math/bits.deBruijn64tab"], plainKeys := false, apart := false, laid := [("math/bits.deBruijn32tab", laid_math_bits_deBruijn32tab), ("math/bits.deBruijn64tab", laid_math_bits_deBruijn64tab), ("internal/strconv.uint64pow10", laid_internal_strconv_uint64pow10)] }
def DiagramTellsSaid : Prop := diagramTellsRow.holds Tryd.pinned (OpenSpec.ofChange diagramTellsSpec)

/-- ITS FALSE NEIGHBOUR: 'it returns false'. Refute it at one input. -/
def diagramTellsWrong : ChangeSpec := { name := "diagramTells", fn := fun _ => fun
  | [d1, d2, d3] => { results := [.lit (.bool false)], args := [d1, d2, d3] }
  | _ => none }
def DiagramTellsWrongFalsely : Prop := diagramTellsRow.holds Tryd.pinned (OpenSpec.ofChange diagramTellsWrong)

/-- 'sortilegelaw23.DiagramLoads': WHATEVER THE INPUT: true; the input reads as it did. -/
def diagramLoadsSpec : ChangeSpec := { name := "diagramLoads", fn := fun _ => fun
  | [d1, d2] => { results := [.lit (.bool true)], args := [d1, d2] }
  | _ => none }
def diagramLoadsRow : OpenClaim := { program := "ytpkhogofbdlfeaadoor", sum := "28dbf94b66cd733b30e048eaefbbcedae7de43449ae4847cd11996dad35a5575", func := "sortilege/sortilegelaw23.DiagramLoads", spec := "diagramLoads", inPlace := ["internal/abi.NoEscape"], unfollowed := true, recurses := true, named := ["internal/strconv.uint64pow10", "math/bits.deBruijn32tab", "math/bits.deBruijn64tab"], plainKeys := false, apart := false, laid := [("math/bits.deBruijn32tab", laid_math_bits_deBruijn32tab), ("math/bits.deBruijn64tab", laid_math_bits_deBruijn64tab), ("internal/strconv.uint64pow10", laid_internal_strconv_uint64pow10)] }
def DiagramLoadsSaid : Prop := diagramLoadsRow.holds Tryd.pinned (OpenSpec.ofChange diagramLoadsSpec)

/-- ITS FALSE NEIGHBOUR: 'it returns false'. Refute it at one input. -/
def diagramLoadsWrong : ChangeSpec := { name := "diagramLoads", fn := fun _ => fun
  | [d1, d2] => { results := [.lit (.bool false)], args := [d1, d2] }
  | _ => none }
def DiagramLoadsWrongFalsely : Prop := diagramLoadsRow.holds Tryd.pinned (OpenSpec.ofChange diagramLoadsWrong)

/-- 'sortilegelaw23.DiagramRestricts': WHATEVER THE INPUT: true; the input reads as it did. -/
def diagramRestrictsSpec : ChangeSpec := { name := "diagramRestricts", fn := fun _ => fun
  | [d1, d2, d3, d4] => { results := [.lit (.bool true)], args := [d1, d2, d3, d4] }
  | _ => none }
def diagramRestrictsRow : OpenClaim := { program := "ytpkhogofbdlfeaadoor", sum := "28dbf94b66cd733b30e048eaefbbcedae7de43449ae4847cd11996dad35a5575", func := "sortilege/sortilegelaw23.DiagramRestricts", spec := "diagramRestricts", inPlace := ["internal/abi.NoEscape"], unfollowed := true, recurses := true, named := ["internal/strconv.uint64pow10", "math/bits.deBruijn32tab", "math/bits.deBruijn64tab"], plainKeys := false, apart := false, laid := [("math/bits.deBruijn32tab", laid_math_bits_deBruijn32tab), ("math/bits.deBruijn64tab", laid_math_bits_deBruijn64tab), ("internal/strconv.uint64pow10", laid_internal_strconv_uint64pow10)] }
def DiagramRestrictsSaid : Prop := diagramRestrictsRow.holds Tryd.pinned (OpenSpec.ofChange diagramRestrictsSpec)

/-- ITS FALSE NEIGHBOUR: 'it returns false'. Refute it at one input. -/
def diagramRestrictsWrong : ChangeSpec := { name := "diagramRestricts", fn := fun _ => fun
  | [d1, d2, d3, d4] => { results := [.lit (.bool false)], args := [d1, d2, d3, d4] }
  | _ => none }
def DiagramRestrictsWrongFalsely : Prop := diagramRestrictsRow.holds Tryd.pinned (OpenSpec.ofChange diagramRestrictsWrong)

/-- 'sortilegelaw23.DiagramApplies': WHATEVER THE INPUT: true; the input reads as it did. -/
def diagramAppliesSpec : ChangeSpec := { name := "diagramApplies", fn := fun _ => fun
  | [d1, d2, d3, d4] => { results := [.lit (.bool true)], args := [d1, d2, d3, d4] }
  | _ => none }
def diagramAppliesRow : OpenClaim := { program := "ytpkhogofbdlfeaadoor", sum := "28dbf94b66cd733b30e048eaefbbcedae7de43449ae4847cd11996dad35a5575", func := "sortilege/sortilegelaw23.DiagramApplies", spec := "diagramApplies", inPlace := ["internal/abi.NoEscape"], unfollowed := true, recurses := true, named := ["internal/strconv.uint64pow10", "math/bits.deBruijn32tab", "math/bits.deBruijn64tab"], plainKeys := false, apart := false, laid := [("math/bits.deBruijn32tab", laid_math_bits_deBruijn32tab), ("math/bits.deBruijn64tab", laid_math_bits_deBruijn64tab), ("internal/strconv.uint64pow10", laid_internal_strconv_uint64pow10)] }
def DiagramAppliesSaid : Prop := diagramAppliesRow.holds Tryd.pinned (OpenSpec.ofChange diagramAppliesSpec)

/-- ITS FALSE NEIGHBOUR: 'it returns false'. Refute it at one input. -/
def diagramAppliesWrong : ChangeSpec := { name := "diagramApplies", fn := fun _ => fun
  | [d1, d2, d3, d4] => { results := [.lit (.bool false)], args := [d1, d2, d3, d4] }
  | _ => none }
def DiagramAppliesWrongFalsely : Prop := diagramAppliesRow.holds Tryd.pinned (OpenSpec.ofChange diagramAppliesWrong)

/-- 'sortilegelaw23.DiagramBack': WHATEVER THE INPUT: true; the input reads as it did. -/
def diagramBackSpec : ChangeSpec := { name := "diagramBack", fn := fun _ => fun
  | [d1, d2] => { results := [.lit (.bool true)], args := [d1, d2] }
  | _ => none }
def diagramBackRow : OpenClaim := { program := "ytpkhogofbdlfeaadoor", sum := "28dbf94b66cd733b30e048eaefbbcedae7de43449ae4847cd11996dad35a5575", func := "sortilege/sortilegelaw23.DiagramBack", spec := "diagramBack", inPlace := ["internal/abi.NoEscape"], unfollowed := true, recurses := true, named := ["internal/strconv.uint64pow10", "math/bits.deBruijn32tab", "math/bits.deBruijn64tab"], plainKeys := false, apart := false, laid := [("math/bits.deBruijn32tab", laid_math_bits_deBruijn32tab), ("math/bits.deBruijn64tab", laid_math_bits_deBruijn64tab), ("internal/strconv.uint64pow10", laid_internal_strconv_uint64pow10)] }
def DiagramBackSaid : Prop := diagramBackRow.holds Tryd.pinned (OpenSpec.ofChange diagramBackSpec)

/-- ITS FALSE NEIGHBOUR: 'it returns false'. Refute it at one input. -/
def diagramBackWrong : ChangeSpec := { name := "diagramBack", fn := fun _ => fun
  | [d1, d2] => { results := [.lit (.bool false)], args := [d1, d2] }
  | _ => none }
def DiagramBackWrongFalsely : Prop := diagramBackRow.holds Tryd.pinned (OpenSpec.ofChange diagramBackWrong)

/- THE SECOND FORM. 'bulk': how many values and letters a reading holds, each counted each time it is reached (what is shared counts as often as it is met; a slice's spare places count too). A statement '..UptoSaid' is the law's where the arguments, and the package variables that the reading takes, are together of bulk at most 1048576: NARROWER than '..Said'. Prove '..Said' where nothing that the law and all that it calls make is longer than what came in: it says more and counts as full. Else prove '..UptoSaid'. A law counts once. -/
mutual
def uptoBulk {H : Type} : DataW H → Nat
  | .lit (.string bytes) => bytes.length + 1
  | .lit _ => 1
  | .nil => 1
  | .ptr d => uptoBulk d + 1
  | .slice elems spare => uptoBulkAll elems + uptoBulkAll spare + 1
  | .agg parts => uptoBulkAll parts + 1
  | .iface _ d => uptoBulk d + 1
  | .map entries => uptoBulkEntries entries + 1
  | .held _ => 1
def uptoBulkAll {H : Type} : List (DataW H) → Nat
  | [] => 0
  | d :: r => uptoBulk d + uptoBulkAll r
def uptoBulkEntries {H : Type} : List (Lit × DataW H) → Nat
  | [] => 0
  | x :: r => uptoBulkEntry x + uptoBulkEntries r
def uptoBulkEntry {H : Type} : Lit × DataW H → Nat
  | (.string bytes, d) => bytes.length + uptoBulk d + 1
  | (_, d) => uptoBulk d + 1
 end
def uptoSmall : (H : Type) → List (DataW H) → Bool := fun _ ds => decide (uptoBulkAll ds ≤ 1048576)
def OpenSpec.upto (s : _root_.Go.ChangeSpec) : _root_.Go.OpenSpec := { _root_.Go.OpenSpec.ofChange s with cond := some uptoSmall }

/-- 'sortilegelaw23.DiagramSteps', WHERE WHAT IT READS IS OF BULK AT MOST 1048576: true; the input reads as it did. -/
def diagramStepsUptoRow : OpenClaim := { program := "ytpkhogofbdlfeaadoor", sum := "28dbf94b66cd733b30e048eaefbbcedae7de43449ae4847cd11996dad35a5575", func := "sortilege/sortilegelaw23.DiagramSteps", spec := "diagramSteps", inPlace := ["internal/abi.NoEscape"], unfollowed := true, recurses := true, named := ["internal/strconv.uint64pow10", "math/bits.deBruijn32tab", "math/bits.deBruijn64tab"], plainKeys := false, apart := false, laid := [("math/bits.deBruijn32tab", laid_math_bits_deBruijn32tab), ("math/bits.deBruijn64tab", laid_math_bits_deBruijn64tab), ("internal/strconv.uint64pow10", laid_internal_strconv_uint64pow10)], narrowed := true }
def DiagramStepsUptoSaid : Prop := diagramStepsUptoRow.holds Tryd.pinned (OpenSpec.upto diagramStepsSpec)

/-- 'sortilegelaw23.DiagramOwn', WHERE WHAT IT READS IS OF BULK AT MOST 1048576: true; the input reads as it did. -/
def diagramOwnUptoRow : OpenClaim := { program := "ytpkhogofbdlfeaadoor", sum := "28dbf94b66cd733b30e048eaefbbcedae7de43449ae4847cd11996dad35a5575", func := "sortilege/sortilegelaw23.DiagramOwn", spec := "diagramOwn", inPlace := ["internal/abi.NoEscape"], unfollowed := true, recurses := true, named := ["internal/strconv.uint64pow10", "math/bits.deBruijn32tab", "math/bits.deBruijn64tab"], plainKeys := false, apart := false, laid := [("math/bits.deBruijn32tab", laid_math_bits_deBruijn32tab), ("math/bits.deBruijn64tab", laid_math_bits_deBruijn64tab), ("internal/strconv.uint64pow10", laid_internal_strconv_uint64pow10)], narrowed := true }
def DiagramOwnUptoSaid : Prop := diagramOwnUptoRow.holds Tryd.pinned (OpenSpec.upto diagramOwnSpec)

/-- 'sortilegelaw23.DiagramApplyErrs', WHERE WHAT IT READS IS OF BULK AT MOST 1048576: true; the input reads as it did. -/
def diagramApplyErrsUptoRow : OpenClaim := { program := "ytpkhogofbdlfeaadoor", sum := "28dbf94b66cd733b30e048eaefbbcedae7de43449ae4847cd11996dad35a5575", func := "sortilege/sortilegelaw23.DiagramApplyErrs", spec := "diagramApplyErrs", inPlace := ["internal/abi.NoEscape"], unfollowed := true, recurses := true, named := ["internal/strconv.uint64pow10", "math/bits.deBruijn32tab", "math/bits.deBruijn64tab"], plainKeys := false, apart := false, laid := [("math/bits.deBruijn32tab", laid_math_bits_deBruijn32tab), ("math/bits.deBruijn64tab", laid_math_bits_deBruijn64tab), ("internal/strconv.uint64pow10", laid_internal_strconv_uint64pow10)], narrowed := true }
def DiagramApplyErrsUptoSaid : Prop := diagramApplyErrsUptoRow.holds Tryd.pinned (OpenSpec.upto diagramApplyErrsSpec)

/-- 'sortilegelaw23.DiagramTells', WHERE WHAT IT READS IS OF BULK AT MOST 1048576: true; the input reads as it did. -/
def diagramTellsUptoRow : OpenClaim := { program := "ytpkhogofbdlfeaadoor", sum := "28dbf94b66cd733b30e048eaefbbcedae7de43449ae4847cd11996dad35a5575", func := "sortilege/sortilegelaw23.DiagramTells", spec := "diagramTells", inPlace := ["internal/abi.NoEscape"], unfollowed := true, recurses := true, named := ["internal/strconv.uint64pow10", "math/bits.deBruijn32tab", "math/bits.deBruijn64tab"], plainKeys := false, apart := false, laid := [("math/bits.deBruijn32tab", laid_math_bits_deBruijn32tab), ("math/bits.deBruijn64tab", laid_math_bits_deBruijn64tab), ("internal/strconv.uint64pow10", laid_internal_strconv_uint64pow10)], narrowed := true }
def DiagramTellsUptoSaid : Prop := diagramTellsUptoRow.holds Tryd.pinned (OpenSpec.upto diagramTellsSpec)

/-- 'sortilegelaw23.DiagramLoads', WHERE WHAT IT READS IS OF BULK AT MOST 1048576: true; the input reads as it did. -/
def diagramLoadsUptoRow : OpenClaim := { program := "ytpkhogofbdlfeaadoor", sum := "28dbf94b66cd733b30e048eaefbbcedae7de43449ae4847cd11996dad35a5575", func := "sortilege/sortilegelaw23.DiagramLoads", spec := "diagramLoads", inPlace := ["internal/abi.NoEscape"], unfollowed := true, recurses := true, named := ["internal/strconv.uint64pow10", "math/bits.deBruijn32tab", "math/bits.deBruijn64tab"], plainKeys := false, apart := false, laid := [("math/bits.deBruijn32tab", laid_math_bits_deBruijn32tab), ("math/bits.deBruijn64tab", laid_math_bits_deBruijn64tab), ("internal/strconv.uint64pow10", laid_internal_strconv_uint64pow10)], narrowed := true }
def DiagramLoadsUptoSaid : Prop := diagramLoadsUptoRow.holds Tryd.pinned (OpenSpec.upto diagramLoadsSpec)

/-- 'sortilegelaw23.DiagramRestricts', WHERE WHAT IT READS IS OF BULK AT MOST 1048576: true; the input reads as it did. -/
def diagramRestrictsUptoRow : OpenClaim := { program := "ytpkhogofbdlfeaadoor", sum := "28dbf94b66cd733b30e048eaefbbcedae7de43449ae4847cd11996dad35a5575", func := "sortilege/sortilegelaw23.DiagramRestricts", spec := "diagramRestricts", inPlace := ["internal/abi.NoEscape"], unfollowed := true, recurses := true, named := ["internal/strconv.uint64pow10", "math/bits.deBruijn32tab", "math/bits.deBruijn64tab"], plainKeys := false, apart := false, laid := [("math/bits.deBruijn32tab", laid_math_bits_deBruijn32tab), ("math/bits.deBruijn64tab", laid_math_bits_deBruijn64tab), ("internal/strconv.uint64pow10", laid_internal_strconv_uint64pow10)], narrowed := true }
def DiagramRestrictsUptoSaid : Prop := diagramRestrictsUptoRow.holds Tryd.pinned (OpenSpec.upto diagramRestrictsSpec)

/-- 'sortilegelaw23.DiagramApplies', WHERE WHAT IT READS IS OF BULK AT MOST 1048576: true; the input reads as it did. -/
def diagramAppliesUptoRow : OpenClaim := { program := "ytpkhogofbdlfeaadoor", sum := "28dbf94b66cd733b30e048eaefbbcedae7de43449ae4847cd11996dad35a5575", func := "sortilege/sortilegelaw23.DiagramApplies", spec := "diagramApplies", inPlace := ["internal/abi.NoEscape"], unfollowed := true, recurses := true, named := ["internal/strconv.uint64pow10", "math/bits.deBruijn32tab", "math/bits.deBruijn64tab"], plainKeys := false, apart := false, laid := [("math/bits.deBruijn32tab", laid_math_bits_deBruijn32tab), ("math/bits.deBruijn64tab", laid_math_bits_deBruijn64tab), ("internal/strconv.uint64pow10", laid_internal_strconv_uint64pow10)], narrowed := true }
def DiagramAppliesUptoSaid : Prop := diagramAppliesUptoRow.holds Tryd.pinned (OpenSpec.upto diagramAppliesSpec)

/-- 'sortilegelaw23.DiagramBack', WHERE WHAT IT READS IS OF BULK AT MOST 1048576: true; the input reads as it did. -/
def diagramBackUptoRow : OpenClaim := { program := "ytpkhogofbdlfeaadoor", sum := "28dbf94b66cd733b30e048eaefbbcedae7de43449ae4847cd11996dad35a5575", func := "sortilege/sortilegelaw23.DiagramBack", spec := "diagramBack", inPlace := ["internal/abi.NoEscape"], unfollowed := true, recurses := true, named := ["internal/strconv.uint64pow10", "math/bits.deBruijn32tab", "math/bits.deBruijn64tab"], plainKeys := false, apart := false, laid := [("math/bits.deBruijn32tab", laid_math_bits_deBruijn32tab), ("math/bits.deBruijn64tab", laid_math_bits_deBruijn64tab), ("internal/strconv.uint64pow10", laid_internal_strconv_uint64pow10)], narrowed := true }
def DiagramBackUptoSaid : Prop := diagramBackUptoRow.holds Tryd.pinned (OpenSpec.upto diagramBackSpec)

end Rows
end Go.Proofs.YtpkhogofbdlfeaaDoor
