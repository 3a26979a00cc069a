/- What the interpreter does, function by function. -/
import Derived.Test.YtlapgjmmlbnehaaAYtCfg
set_option maxRecDepth 100000
set_option linter.unusedVariables false
namespace Go.Ab
open Go.Proofs.Try
/-! ### sortilege/ratio.Zero -/
theorem T60 (m : Mem) : AC cfg 60 [] m =
  (pcall (AP cfg) none (newAt none m (.obj true [(.bool false), (.lst none true .full []), (.lst none true .full [])])).2 93 [(.int .u64 1)]).bind fun r1 =>
  (buildA (.agg [(.bool false), (.lst none true .full []), (.lst none true .full [])]) [(2, none, r1.1)]).bind fun v2 =>
  (storeA (some 3) r1.2 (.ptr (newAt none m .resv).1 0) v2).bind fun m3 =>
  (loadA (some 3) m3 (.ptr (newAt none m .resv).1 0)).bind fun v4 =>
  some (v4, m3) :=
(AC_eq cfg 60 [] m (fn := f60) (c := bodyOf f60) at60 rfl).trans (by kernel_rfl)
/-! ### sortilege/ratio.Right -/
theorem T64 (a0 : AV) (m : Mem) : AC cfg 64 [a0] m =
  (boxA none (some 3) m a0).bind fun r1 =>
  (fieldAddrA 1 r1.1).bind fun v2 =>
  (loadA none r1.2 v2).bind fun v3 =>
  (pcall (AP cfg) none r1.2 94 [v3]).bind fun r4 =>
  (unA .not r4.1).bind fun v5 =>
  ifA v5 (
  some ((.bool false), r4.2)) (
  (fieldAddrA 2 r1.1).bind fun v6 =>
  (loadA none r4.2 v6).bind fun v7 =>
  (pcall (AP cfg) none r4.2 94 [v7]).bind fun r8 =>
  (unA .not r8.1).bind fun v9 =>
  ifA v9 (
  some ((.bool false), r8.2)) (
  (fieldAddrA 2 r1.1).bind fun v10 =>
  (loadA none r8.2 v10).bind fun v11 =>
  (lenA false v11).bind fun v12 =>
  (binA .other .eql v12 (.int .i64 0)).bind fun v13 =>
  ifA v13 (
  some ((.bool false), r8.2)) (
  (fieldAddrA 1 r1.1).bind fun v14 =>
  (loadA none r8.2 v14).bind fun v15 =>
  (lenA false v15).bind fun v16 =>
  (binA .other .eql v16 (.int .i64 0)).bind fun v17 =>
  ifA v17 (
  (fieldAddrA 0 r1.1).bind fun v18 =>
  (loadA none r8.2 v18).bind fun v19 =>
  ifA v19 (
  some ((.bool false), r8.2)) (
  (fieldAddrA 1 r1.1).bind fun v20 =>
  (loadA none r8.2 v20).bind fun v21 =>
  (fieldAddrA 2 r1.1).bind fun v22 =>
  (loadA none r8.2 v22).bind fun v23 =>
  (pcall (AP cfg) none r8.2 96 [v21, v23]).bind fun r24 =>
  (pcall (AP cfg) none r24.2 95 [r24.1]).bind fun r25 =>
  (extractA r25.1 0).bind fun v26 =>
  (extractA r25.1 1).bind fun v27 =>
  ifA v27 (
  (binA .other .eql v26 (.int .u64 1)).bind fun v28 =>
  some (v28, r25.2)) (
  some ((.bool false), r25.2)))) (
  (fieldAddrA 1 r1.1).bind fun v29 =>
  (loadA none r8.2 v29).bind fun v30 =>
  (fieldAddrA 2 r1.1).bind fun v31 =>
  (loadA none r8.2 v31).bind fun v32 =>
  (pcall (AP cfg) none r8.2 96 [v30, v32]).bind fun r33 =>
  (pcall (AP cfg) none r33.2 95 [r33.1]).bind fun r34 =>
  (extractA r34.1 0).bind fun v35 =>
  (extractA r34.1 1).bind fun v36 =>
  ifA v36 (
  (binA .other .eql v35 (.int .u64 1)).bind fun v37 =>
  some (v37, r34.2)) (
  some ((.bool false), r34.2)))))) :=
(AC_eq cfg 64 [a0] m (fn := f64) (c := bodyOf f64) at64 rfl).trans (by kernel_rfl)
/-! ### sortilege/ratio.Add -/
/-! ### sortilege/ratio.Mul -/
/-! ### sortilege/ratio.Same -/
/-! ### sortilege/ratio.One -/
theorem T84 (m : Mem) : AC cfg 84 [] m =
  (pcall (AP cfg) none (newAt none m (.obj true [(.bool false), (.lst none true .full []), (.lst none true .full [])])).2 93 [(.int .u64 1)]).bind fun r1 =>
  (pcall (AP cfg) none r1.2 93 [(.int .u64 1)]).bind fun r2 =>
  (buildA (.agg [(.bool false), (.lst none true .full []), (.lst none true .full [])]) [(1, none, r1.1), (2, none, r2.1)]).bind fun v3 =>
  (storeA (some 3) r2.2 (.ptr (newAt none m .resv).1 0) v3).bind fun m4 =>
  (loadA (some 3) m4 (.ptr (newAt none m .resv).1 0)).bind fun v5 =>
  some (v5, m4) :=
(AC_eq cfg 84 [] m (fn := f84) (c := bodyOf f84) at84 rfl).trans (by kernel_rfl)
/-! ### sortilege/ratio.Neg -/
/-! ### sortilege/ratio.Sign -/
/-! ### sortilege/ratio.made -/
/-! ### sortilege/ratio.Compare -/
/-! ### sortilege/ratio.Div -/
/-! ### sortilege/ratio.Of -/
/-! ### sortilege/ratio.Sub -/
end Go.Ab
