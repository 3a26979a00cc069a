/- What the interpreter does, function by function. -/
import Derived.Test.YtlapgjmmlbnehaaAYtCfg
set_option maxRecDepth 100000
set_option linter.unusedVariables false
namespace Go.Ab
open Go.Proofs.Try
/-! ### sortilege/matrix.Add -/
/-! ### sortilege/matrix.Scale -/
/-! ### sortilege/matrix.Transpose -/
/-! ### sortilege/matrix.Same -/
/-! ### sortilege/matrix.Mul -/
/-! ### sortilege/matrix.Zero$1 -/
theorem T59 (a0 a1 : AV) (m : Mem) : AC cfg 59 [a0, a1] m =
  (pcall (AP cfg) none (newAt none m (.obj true [(.bool false), (.lst none true .full []), (.lst none true .full [])])).2 60 []).bind fun r1 =>
  (storeA (some 3) r1.2 (.ptr (newAt none m .resv).1 0) r1.1).bind fun m2 =>
  (loadA (some 3) m2 (.ptr (newAt none m .resv).1 0)).bind fun v3 =>
  some (v3, m2) :=
(AC_eq cfg 59 [a0, a1] m (fn := f59) (c := bodyOf f59) at59 rfl).trans (by kernel_rfl)
/-! ### sortilege/matrix.Add$1 -/
/-! ### sortilege/matrix.Scale$1 -/
/-! ### sortilege/matrix.Transpose$1 -/
end Go.Ab
