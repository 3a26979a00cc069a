/-
  No cell of these rows narrows 'for every input' (looked for: loops, veiled, ifaces, maps, wideKeys, modest, calm, conditions, laid).
  DERIVED. THE GIVEN ROWS OF THIS SEAT. 10 by the template 'for every input the law returns true; each argument reads behind the call as it read before'; 0 by the template 'total and deterministic' (their statements: YtlapgjmmlbnehaaTotals.lean).
  GIVEN WITH THE SEED: the statements are not yours to turn. If you find one false, say at which input.
  Laid BY PROGRAM, IN A SANDBOX (cutbox-rows.mjs): the forced cells as the released guide's own fill.sh prints them over the translation 33c63826317d487d… (all of the seat's roots in one cut). By AI agents, Wed Nov 11 2026. No macro, syntax, notation, axiom, sorry.
-/
import Derived.Test.YtlapgjmmlbnehaaChecked
import GoSem.Claim
import GoSem.ClaimJoined
import GoSem.ClaimMapViews
import Derived.JoinedTies
import Derived.KernelRfl
namespace Go.Proofs.Ytlapgjmmlbnehaa
/- THE CELL 'sum', in the pinned program and in every row, IS THE sha256 OF THE DUMP (.gsa) THAT YtlapgjmmlbnehaaProg.lean LOADS. Nothing in Lean hashes anything: it is a label: what it is worth is what the hold of that sum in a sandbox is worth. -/
noncomputable def Try.pinned : Pinned := { name := "ytlapgjmmlbnehaa", sum := "33c63826317d487d0b4d5b6f6aa0285c110b53c536276c6e46bfdd5b509309c9", checked := Try.checked }
namespace Rows
def none {H : Type} : Left H := { results := [], args := [] }

/-- 'sortilegelaw19.MatrixMakes': WHATEVER THE INPUT: true; the input reads as it did. -/
def matrixMakesSpec : ChangeSpec := { name := "matrixMakes", fn := fun _ => fun
  | [d1, d2, d3, d4] => { results := [.lit (.bool true)], args := [d1, d2, d3, d4] }
  | _ => none }
def matrixMakesRow : OpenClaim := { program := "ytlapgjmmlbnehaa", sum := "33c63826317d487d0b4d5b6f6aa0285c110b53c536276c6e46bfdd5b509309c9", func := "sortilege/sortilegelaw19.MatrixMakes", spec := "matrixMakes", unfollowed := true, recurses := true, apart := false }
def MatrixMakesSaid : Prop := matrixMakesRow.holds Try.pinned (OpenSpec.ofChange matrixMakesSpec)

/-- ITS FALSE NEIGHBOUR: 'it returns false'. Refute it at one input. -/
def matrixMakesWrong : ChangeSpec := { name := "matrixMakes", fn := fun _ => fun
  | [d1, d2, d3, d4] => { results := [.lit (.bool false)], args := [d1, d2, d3, d4] }
  | _ => none }
def MatrixMakesWrongFalsely : Prop := matrixMakesRow.holds Try.pinned (OpenSpec.ofChange matrixMakesWrong)

/-- 'sortilegelaw19.MatrixLong': WHATEVER THE INPUT: true; the input reads as it did. -/
def matrixLongSpec : ChangeSpec := { name := "matrixLong", fn := fun _ => fun
  | [d] => { results := [.lit (.bool true)], args := [d] }
  | _ => none }
def matrixLongRow : OpenClaim := { program := "ytlapgjmmlbnehaa", sum := "33c63826317d487d0b4d5b6f6aa0285c110b53c536276c6e46bfdd5b509309c9", func := "sortilege/sortilegelaw19.MatrixLong", spec := "matrixLong", unfollowed := true, recurses := true, apart := false }
def MatrixLongSaid : Prop := matrixLongRow.holds Try.pinned (OpenSpec.ofChange matrixLongSpec)

/-- ITS FALSE NEIGHBOUR: 'it returns false'. Refute it at one input. -/
def matrixLongWrong : ChangeSpec := { name := "matrixLong", fn := fun _ => fun
  | [d] => { results := [.lit (.bool false)], args := [d] }
  | _ => none }
def MatrixLongWrongFalsely : Prop := matrixLongRow.holds Try.pinned (OpenSpec.ofChange matrixLongWrong)

/-- 'sortilegelaw19.MatrixAdds': WHATEVER THE INPUT: true; the input reads as it did. -/
def matrixAddsSpec : ChangeSpec := { name := "matrixAdds", fn := fun _ => fun
  | [d1, d2, d3] => { results := [.lit (.bool true)], args := [d1, d2, d3] }
  | _ => none }
def matrixAddsRow : OpenClaim := { program := "ytlapgjmmlbnehaa", sum := "33c63826317d487d0b4d5b6f6aa0285c110b53c536276c6e46bfdd5b509309c9", func := "sortilege/sortilegelaw19.MatrixAdds", spec := "matrixAdds", unfollowed := true, recurses := true, apart := false }
def MatrixAddsSaid : Prop := matrixAddsRow.holds Try.pinned (OpenSpec.ofChange matrixAddsSpec)

/-- ITS FALSE NEIGHBOUR: 'it returns false'. Refute it at one input. -/
def matrixAddsWrong : ChangeSpec := { name := "matrixAdds", fn := fun _ => fun
  | [d1, d2, d3] => { results := [.lit (.bool false)], args := [d1, d2, d3] }
  | _ => none }
def MatrixAddsWrongFalsely : Prop := matrixAddsRow.holds Try.pinned (OpenSpec.ofChange matrixAddsWrong)

/-- 'sortilegelaw19.MatrixMuls': WHATEVER THE INPUT: true; the input reads as it did. -/
def matrixMulsSpec : ChangeSpec := { name := "matrixMuls", fn := fun _ => fun
  | [d1, d2, d3] => { results := [.lit (.bool true)], args := [d1, d2, d3] }
  | _ => none }
def matrixMulsRow : OpenClaim := { program := "ytlapgjmmlbnehaa", sum := "33c63826317d487d0b4d5b6f6aa0285c110b53c536276c6e46bfdd5b509309c9", func := "sortilege/sortilegelaw19.MatrixMuls", spec := "matrixMuls", unfollowed := true, recurses := true, apart := false }
def MatrixMulsSaid : Prop := matrixMulsRow.holds Try.pinned (OpenSpec.ofChange matrixMulsSpec)

/-- ITS FALSE NEIGHBOUR: 'it returns false'. Refute it at one input. -/
def matrixMulsWrong : ChangeSpec := { name := "matrixMuls", fn := fun _ => fun
  | [d1, d2, d3] => { results := [.lit (.bool false)], args := [d1, d2, d3] }
  | _ => none }
def MatrixMulsWrongFalsely : Prop := matrixMulsRow.holds Try.pinned (OpenSpec.ofChange matrixMulsWrong)

/-- 'sortilegelaw19.MatrixPowers': WHATEVER THE INPUT: true; the input reads as it did. -/
def matrixPowersSpec : ChangeSpec := { name := "matrixPowers", fn := fun _ => fun
  | [d1, d2, d3] => { results := [.lit (.bool true)], args := [d1, d2, d3] }
  | _ => none }
def matrixPowersRow : OpenClaim := { program := "ytlapgjmmlbnehaa", sum := "33c63826317d487d0b4d5b6f6aa0285c110b53c536276c6e46bfdd5b509309c9", func := "sortilege/sortilegelaw19.MatrixPowers", spec := "matrixPowers", unfollowed := true, recurses := true, apart := false }
def MatrixPowersSaid : Prop := matrixPowersRow.holds Try.pinned (OpenSpec.ofChange matrixPowersSpec)

/-- ITS FALSE NEIGHBOUR: 'it returns false'. Refute it at one input. -/
def matrixPowersWrong : ChangeSpec := { name := "matrixPowers", fn := fun _ => fun
  | [d1, d2, d3] => { results := [.lit (.bool false)], args := [d1, d2, d3] }
  | _ => none }
def MatrixPowersWrongFalsely : Prop := matrixPowersRow.holds Try.pinned (OpenSpec.ofChange matrixPowersWrong)

/-- 'sortilegelaw19.MatrixWalks': WHATEVER THE INPUT: true; the input reads as it did. -/
def matrixWalksSpec : ChangeSpec := { name := "matrixWalks", fn := fun _ => fun
  | [d1, d2, d3] => { results := [.lit (.bool true)], args := [d1, d2, d3] }
  | _ => none }
def matrixWalksRow : OpenClaim := { program := "ytlapgjmmlbnehaa", sum := "33c63826317d487d0b4d5b6f6aa0285c110b53c536276c6e46bfdd5b509309c9", func := "sortilege/sortilegelaw19.MatrixWalks", spec := "matrixWalks", unfollowed := true, recurses := true, apart := false }
def MatrixWalksSaid : Prop := matrixWalksRow.holds Try.pinned (OpenSpec.ofChange matrixWalksSpec)

/-- ITS FALSE NEIGHBOUR: 'it returns false'. Refute it at one input. -/
def matrixWalksWrong : ChangeSpec := { name := "matrixWalks", fn := fun _ => fun
  | [d1, d2, d3] => { results := [.lit (.bool false)], args := [d1, d2, d3] }
  | _ => none }
def MatrixWalksWrongFalsely : Prop := matrixWalksRow.holds Try.pinned (OpenSpec.ofChange matrixWalksWrong)

/-- 'sortilegelaw19.MatrixExpands': WHATEVER THE INPUT: true; the input reads as it did. -/
def matrixExpandsSpec : ChangeSpec := { name := "matrixExpands", fn := fun _ => fun
  | [d] => { results := [.lit (.bool true)], args := [d] }
  | _ => none }
def matrixExpandsRow : OpenClaim := { program := "ytlapgjmmlbnehaa", sum := "33c63826317d487d0b4d5b6f6aa0285c110b53c536276c6e46bfdd5b509309c9", func := "sortilege/sortilegelaw19.MatrixExpands", spec := "matrixExpands", unfollowed := true, recurses := true, apart := false }
def MatrixExpandsSaid : Prop := matrixExpandsRow.holds Try.pinned (OpenSpec.ofChange matrixExpandsSpec)

/-- ITS FALSE NEIGHBOUR: 'it returns false'. Refute it at one input. -/
def matrixExpandsWrong : ChangeSpec := { name := "matrixExpands", fn := fun _ => fun
  | [d] => { results := [.lit (.bool false)], args := [d] }
  | _ => none }
def MatrixExpandsWrongFalsely : Prop := matrixExpandsRow.holds Try.pinned (OpenSpec.ofChange matrixExpandsWrong)

/-- 'sortilegelaw19.MatrixDets': WHATEVER THE INPUT: true; the input reads as it did. -/
def matrixDetsSpec : ChangeSpec := { name := "matrixDets", fn := fun _ => fun
  | [d1, d2] => { results := [.lit (.bool true)], args := [d1, d2] }
  | _ => none }
def matrixDetsRow : OpenClaim := { program := "ytlapgjmmlbnehaa", sum := "33c63826317d487d0b4d5b6f6aa0285c110b53c536276c6e46bfdd5b509309c9", func := "sortilege/sortilegelaw19.MatrixDets", spec := "matrixDets", unfollowed := true, recurses := true, apart := false }
def MatrixDetsSaid : Prop := matrixDetsRow.holds Try.pinned (OpenSpec.ofChange matrixDetsSpec)

/-- ITS FALSE NEIGHBOUR: 'it returns false'. Refute it at one input. -/
def matrixDetsWrong : ChangeSpec := { name := "matrixDets", fn := fun _ => fun
  | [d1, d2] => { results := [.lit (.bool false)], args := [d1, d2] }
  | _ => none }
def MatrixDetsWrongFalsely : Prop := matrixDetsRow.holds Try.pinned (OpenSpec.ofChange matrixDetsWrong)

/-- 'sortilegelaw19.MatrixSolves': WHATEVER THE INPUT: true; the input reads as it did. -/
def matrixSolvesSpec : ChangeSpec := { name := "matrixSolves", fn := fun _ => fun
  | [d1, d2] => { results := [.lit (.bool true)], args := [d1, d2] }
  | _ => none }
def matrixSolvesRow : OpenClaim := { program := "ytlapgjmmlbnehaa", sum := "33c63826317d487d0b4d5b6f6aa0285c110b53c536276c6e46bfdd5b509309c9", func := "sortilege/sortilegelaw19.MatrixSolves", spec := "matrixSolves", unfollowed := true, recurses := true, apart := false }
def MatrixSolvesSaid : Prop := matrixSolvesRow.holds Try.pinned (OpenSpec.ofChange matrixSolvesSpec)

/-- ITS FALSE NEIGHBOUR: 'it returns false'. Refute it at one input. -/
def matrixSolvesWrong : ChangeSpec := { name := "matrixSolves", fn := fun _ => fun
  | [d1, d2] => { results := [.lit (.bool false)], args := [d1, d2] }
  | _ => none }
def MatrixSolvesWrongFalsely : Prop := matrixSolvesRow.holds Try.pinned (OpenSpec.ofChange matrixSolvesWrong)

/-- 'sortilegelaw19.MatrixBack': WHATEVER THE INPUT: true; the input reads as it did. -/
def matrixBackSpec : ChangeSpec := { name := "matrixBack", fn := fun _ => fun
  | [d1, d2] => { results := [.lit (.bool true)], args := [d1, d2] }
  | _ => none }
def matrixBackRow : OpenClaim := { program := "ytlapgjmmlbnehaa", sum := "33c63826317d487d0b4d5b6f6aa0285c110b53c536276c6e46bfdd5b509309c9", func := "sortilege/sortilegelaw19.MatrixBack", spec := "matrixBack", unfollowed := true, recurses := true, apart := false }
def MatrixBackSaid : Prop := matrixBackRow.holds Try.pinned (OpenSpec.ofChange matrixBackSpec)

/-- ITS FALSE NEIGHBOUR: 'it returns false'. Refute it at one input. -/
def matrixBackWrong : ChangeSpec := { name := "matrixBack", fn := fun _ => fun
  | [d1, d2] => { results := [.lit (.bool false)], args := [d1, d2] }
  | _ => none }
def MatrixBackWrongFalsely : Prop := matrixBackRow.holds Try.pinned (OpenSpec.ofChange matrixBackWrong)

/- THE SECOND FORM. 'bulk': how many values and letters a reading holds, each counted each time it is reached (what is shared counts as often as it is met; a slice's spare places count too). A statement '..UptoSaid' is the law's where the arguments, and the package variables that the reading takes, are together of bulk at most 1048576: NARROWER than '..Said'. Prove '..Said' where nothing that the law and all that it calls make is longer than what came in: it says more and counts as full. Else prove '..UptoSaid'. A law counts once. -/
mutual
def uptoBulk {H : Type} : DataW H → Nat
  | .lit (.string bytes) => bytes.length + 1
  | .lit _ => 1
  | .nil => 1
  | .ptr d => uptoBulk d + 1
  | .slice elems spare => uptoBulkAll elems + uptoBulkAll spare + 1
  | .agg parts => uptoBulkAll parts + 1
  | .iface _ d => uptoBulk d + 1
  | .map entries => uptoBulkEntries entries + 1
  | .held _ => 1
def uptoBulkAll {H : Type} : List (DataW H) → Nat
  | [] => 0
  | d :: r => uptoBulk d + uptoBulkAll r
def uptoBulkEntries {H : Type} : List (Lit × DataW H) → Nat
  | [] => 0
  | x :: r => uptoBulkEntry x + uptoBulkEntries r
def uptoBulkEntry {H : Type} : Lit × DataW H → Nat
  | (.string bytes, d) => bytes.length + uptoBulk d + 1
  | (_, d) => uptoBulk d + 1
 end
def uptoSmall : (H : Type) → List (DataW H) → Bool := fun _ ds => decide (uptoBulkAll ds ≤ 1048576)
def OpenSpec.upto (s : _root_.Go.ChangeSpec) : _root_.Go.OpenSpec := { _root_.Go.OpenSpec.ofChange s with cond := some uptoSmall }

/-- 'sortilegelaw19.MatrixMakes', WHERE WHAT IT READS IS OF BULK AT MOST 1048576: true; the input reads as it did. -/
def matrixMakesUptoRow : OpenClaim := { program := "ytlapgjmmlbnehaa", sum := "33c63826317d487d0b4d5b6f6aa0285c110b53c536276c6e46bfdd5b509309c9", func := "sortilege/sortilegelaw19.MatrixMakes", spec := "matrixMakes", unfollowed := true, recurses := true, apart := false, narrowed := true }
def MatrixMakesUptoSaid : Prop := matrixMakesUptoRow.holds Try.pinned (OpenSpec.upto matrixMakesSpec)

/-- 'sortilegelaw19.MatrixLong', WHERE WHAT IT READS IS OF BULK AT MOST 1048576: true; the input reads as it did. -/
def matrixLongUptoRow : OpenClaim := { program := "ytlapgjmmlbnehaa", sum := "33c63826317d487d0b4d5b6f6aa0285c110b53c536276c6e46bfdd5b509309c9", func := "sortilege/sortilegelaw19.MatrixLong", spec := "matrixLong", unfollowed := true, recurses := true, apart := false, narrowed := true }
def MatrixLongUptoSaid : Prop := matrixLongUptoRow.holds Try.pinned (OpenSpec.upto matrixLongSpec)

/-- 'sortilegelaw19.MatrixAdds', WHERE WHAT IT READS IS OF BULK AT MOST 1048576: true; the input reads as it did. -/
def matrixAddsUptoRow : OpenClaim := { program := "ytlapgjmmlbnehaa", sum := "33c63826317d487d0b4d5b6f6aa0285c110b53c536276c6e46bfdd5b509309c9", func := "sortilege/sortilegelaw19.MatrixAdds", spec := "matrixAdds", unfollowed := true, recurses := true, apart := false, narrowed := true }
def MatrixAddsUptoSaid : Prop := matrixAddsUptoRow.holds Try.pinned (OpenSpec.upto matrixAddsSpec)

/-- 'sortilegelaw19.MatrixMuls', WHERE WHAT IT READS IS OF BULK AT MOST 1048576: true; the input reads as it did. -/
def matrixMulsUptoRow : OpenClaim := { program := "ytlapgjmmlbnehaa", sum := "33c63826317d487d0b4d5b6f6aa0285c110b53c536276c6e46bfdd5b509309c9", func := "sortilege/sortilegelaw19.MatrixMuls", spec := "matrixMuls", unfollowed := true, recurses := true, apart := false, narrowed := true }
def MatrixMulsUptoSaid : Prop := matrixMulsUptoRow.holds Try.pinned (OpenSpec.upto matrixMulsSpec)

/-- 'sortilegelaw19.MatrixPowers', WHERE WHAT IT READS IS OF BULK AT MOST 1048576: true; the input reads as it did. -/
def matrixPowersUptoRow : OpenClaim := { program := "ytlapgjmmlbnehaa", sum := "33c63826317d487d0b4d5b6f6aa0285c110b53c536276c6e46bfdd5b509309c9", func := "sortilege/sortilegelaw19.MatrixPowers", spec := "matrixPowers", unfollowed := true, recurses := true, apart := false, narrowed := true }
def MatrixPowersUptoSaid : Prop := matrixPowersUptoRow.holds Try.pinned (OpenSpec.upto matrixPowersSpec)

/-- 'sortilegelaw19.MatrixWalks', WHERE WHAT IT READS IS OF BULK AT MOST 1048576: true; the input reads as it did. -/
def matrixWalksUptoRow : OpenClaim := { program := "ytlapgjmmlbnehaa", sum := "33c63826317d487d0b4d5b6f6aa0285c110b53c536276c6e46bfdd5b509309c9", func := "sortilege/sortilegelaw19.MatrixWalks", spec := "matrixWalks", unfollowed := true, recurses := true, apart := false, narrowed := true }
def MatrixWalksUptoSaid : Prop := matrixWalksUptoRow.holds Try.pinned (OpenSpec.upto matrixWalksSpec)

/-- 'sortilegelaw19.MatrixExpands', WHERE WHAT IT READS IS OF BULK AT MOST 1048576: true; the input reads as it did. -/
def matrixExpandsUptoRow : OpenClaim := { program := "ytlapgjmmlbnehaa", sum := "33c63826317d487d0b4d5b6f6aa0285c110b53c536276c6e46bfdd5b509309c9", func := "sortilege/sortilegelaw19.MatrixExpands", spec := "matrixExpands", unfollowed := true, recurses := true, apart := false, narrowed := true }
def MatrixExpandsUptoSaid : Prop := matrixExpandsUptoRow.holds Try.pinned (OpenSpec.upto matrixExpandsSpec)

/-- 'sortilegelaw19.MatrixDets', WHERE WHAT IT READS IS OF BULK AT MOST 1048576: true; the input reads as it did. -/
def matrixDetsUptoRow : OpenClaim := { program := "ytlapgjmmlbnehaa", sum := "33c63826317d487d0b4d5b6f6aa0285c110b53c536276c6e46bfdd5b509309c9", func := "sortilege/sortilegelaw19.MatrixDets", spec := "matrixDets", unfollowed := true, recurses := true, apart := false, narrowed := true }
def MatrixDetsUptoSaid : Prop := matrixDetsUptoRow.holds Try.pinned (OpenSpec.upto matrixDetsSpec)

/-- 'sortilegelaw19.MatrixSolves', WHERE WHAT IT READS IS OF BULK AT MOST 1048576: true; the input reads as it did. -/
def matrixSolvesUptoRow : OpenClaim := { program := "ytlapgjmmlbnehaa", sum := "33c63826317d487d0b4d5b6f6aa0285c110b53c536276c6e46bfdd5b509309c9", func := "sortilege/sortilegelaw19.MatrixSolves", spec := "matrixSolves", unfollowed := true, recurses := true, apart := false, narrowed := true }
def MatrixSolvesUptoSaid : Prop := matrixSolvesUptoRow.holds Try.pinned (OpenSpec.upto matrixSolvesSpec)

/-- 'sortilegelaw19.MatrixBack', WHERE WHAT IT READS IS OF BULK AT MOST 1048576: true; the input reads as it did. -/
def matrixBackUptoRow : OpenClaim := { program := "ytlapgjmmlbnehaa", sum := "33c63826317d487d0b4d5b6f6aa0285c110b53c536276c6e46bfdd5b509309c9", func := "sortilege/sortilegelaw19.MatrixBack", spec := "matrixBack", unfollowed := true, recurses := true, apart := false, narrowed := true }
def MatrixBackUptoSaid : Prop := matrixBackUptoRow.holds Try.pinned (OpenSpec.upto matrixBackSpec)

end Rows
end Go.Proofs.Ytlapgjmmlbnehaa
