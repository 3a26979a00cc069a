/- What the interpreter does, function by function. -/
import Derived.Test.YtinhoifldmfdhaaCP1
import Derived.Test.YtinhoifldmfdhaaCP2
import Derived.Test.YtinhoifldmfdhaaCP4
import Derived.Test.YtinhoifldmfdhaaCP0
import Derived.ProofKit
import Derived.OpenShut
import Derived.ChangeArms
import Derived.KernelRfl
set_option maxRecDepth 100000
set_option linter.unusedVariables false
namespace Go.Ab
open Go.Proofs.Try
/-! ### sortilege/sortilegelaw25.of -/
def O6_3 (x1 x2 x3 x4 : AV) (m : Mem) : St := ⟨[.any, x1, x2, x3, x4, .any, .any, .any, .any, .any, .any, .any, .any, .any, .any, .any, .any, .any, .any, .any, .any, .any, .any, .any, .any, .any, .any, .any, .any, .any, .any, .any, .any, .any, .any, .any, .any, .any, .any, .any, .any, .any, .any, .any, .any, .any, .any, .any, .any, .any, .any, .any, .any, .any, .any, .any, .any, .any, .any, .any, .any, .any, .any, .any, .any, .any, .any, .any, .any, .any, .any, .any, .any, .any, .any, .any, .any, .any, .any, .any, .any, .any, .any, .any, .any, .any, .any, .any], m⟩
noncomputable def L6_3 (x1 x2 x3 x4 x25 x26 x27 : AV) (m : Mem) (K : Ex → St → Option (AV × Mem)) : Option (AV × Mem) := loopW (execW cfg 6 (AP cfg) (AC cfg) (c1 (c1 (c2 (c1 (c2 (c2 (bodyOf f6)))))))) (cfg.mask 6 (some 3)) ⟨[.any, x1, x2, x3, x4, .any, .any, .any, .any, .any, .any, .any, .any, .any, .any, .any, .any, .any, .any, .any, .any, .any, .any, .any, .any, x25, x26, x27, .any, .any, .any, .any, .any, .any, .any, .any, .any, .any, .any, .any, .any, .any, .any, .any, .any, .any, .any, .any, .any, .any, .any, .any, .any, .any, .any, .any, .any, .any, .any, .any, .any, .any, .any, .any, .any, .any, .any, .any, .any, .any, .any, .any, .any, .any, .any, .any, .any, .any, .any, .any, .any, .any, .any, .any, .any, .any, .any, .any], m⟩ K
def O6_8 (x1 x2 x3 x4 : AV) (m : Mem) : St := ⟨[.any, x1, x2, x3, x4, .any, .any, .any, .any, .any, .any, .any, .any, .any, .any, .any, .any, .any, .any, .any, .any, .any, .any, .any, .any, .any, .any, .any, .any, .any, .any, .any, .any, .any, .any, .any, .any, .any, .any, .any, .any, .any, .any, .any, .any, .any, .any, .any, .any, .any, .any, .any, .any, .any, .any, .any, .any, .any, .any, .any, .any, .any, .any, .any, .any, .any, .any, .any, .any, .any, .any, .any, .any, .any, .any, .any, .any, .any, .any, .any, .any, .any, .any, .any, .any, .any, .any, .any], m⟩
noncomputable def L6_8 (x1 x2 x3 x4 x44 x45 x46 : AV) (m : Mem) (K : Ex → St → Option (AV × Mem)) : Option (AV × Mem) := loopW (execW cfg 6 (AP cfg) (AC cfg) (c1 (c1 (c2 (c1 (c2 (c2 (c2 (bodyOf f6))))))))) (cfg.mask 6 (some 8)) ⟨[.any, x1, x2, x3, x4, .any, .any, .any, .any, .any, .any, .any, .any, .any, .any, .any, .any, .any, .any, .any, .any, .any, .any, .any, .any, .any, .any, .any, .any, .any, .any, .any, .any, .any, .any, .any, .any, .any, .any, .any, .any, .any, .any, .any, x44, x45, x46, .any, .any, .any, .any, .any, .any, .any, .any, .any, .any, .any, .any, .any, .any, .any, .any, .any, .any, .any, .any, .any, .any, .any, .any, .any, .any, .any, .any, .any, .any, .any, .any, .any, .any, .any, .any, .any, .any, .any, .any, .any], m⟩ K
noncomputable abbrev K6_3_0 (K : Ex → St → Option (AV × Mem)) : Ex → St → Option (AV × Mem) := seqK (fun st => execW cfg 6 (AP cfg) (AC cfg) (c2 (c2 (c2 (bodyOf f6)))) st K) K
noncomputable abbrev K6_3_1 (K : Ex → St → Option (AV × Mem)) : Ex → St → Option (AV × Mem) := blockK 0 (K6_3_0 K)
noncomputable abbrev K6_3 (K : Ex → St → Option (AV × Mem)) : Ex → St → Option (AV × Mem) := (K6_3_1 K)
noncomputable abbrev K6_8_0 (K : Ex → St → Option (AV × Mem)) : Ex → St → Option (AV × Mem) := seqK (fun st => execW cfg 6 (AP cfg) (AC cfg) (c2 (c2 (c2 (c2 (bodyOf f6))))) st K) K
noncomputable abbrev K6_8_1 (K : Ex → St → Option (AV × Mem)) : Ex → St → Option (AV × Mem) := blockK 2 (K6_8_0 K)
noncomputable abbrev K6_8 (K : Ex → St → Option (AV × Mem)) : Ex → St → Option (AV × Mem) := (K6_8_1 K)
theorem T6 (a0 : AV) (m : Mem) : AC cfg 6 [a0] m =
  (boxA none (some 4) m a0).bind fun r1 =>
  (fieldAddrA 0 r1.1).bind fun v2 =>
  (loadA none (reserve (newAt none (newAt none r1.2 (.obj true [(.lst none true .full []), (.lst none true .full []), (.lst none true .full []), (.int .i64 0)])).2 (.obj true [(.lst none true .full []), (.lst none true .full []), (.lst none true .full []), (.int .i64 0)])).2 1) v2).bind fun v3 =>
  (fieldAddrA 0 r1.1).bind fun v4 =>
  (loadA none (reserve (newAt none (newAt none r1.2 (.obj true [(.lst none true .full []), (.lst none true .full []), (.lst none true .full []), (.int .i64 0)])).2 (.obj true [(.lst none true .full []), (.lst none true .full []), (.lst none true .full []), (.int .i64 0)])).2 1) v4).bind fun v5 =>
  (lenA false v5).bind fun v6 =>
  (maxA false v6 (.int .i64 40)).bind fun v7 =>
  (sliceT none v3 none (some v7) none).bind fun v8 =>
  (fieldAddrA 3 r1.1).bind fun v9 =>
  (loadA none (reserve (newAt none (newAt none r1.2 (.obj true [(.lst none true .full []), (.lst none true .full []), (.lst none true .full []), (.int .i64 0)])).2 (.obj true [(.lst none true .full []), (.lst none true .full []), (.lst none true .full []), (.int .i64 0)])).2 1) v9).bind fun v10 =>
  (buildA (.agg [(.lst none true .full []), (.lst none true .full []), (.lst none true .full []), (.int .i64 0)]) [(0, none, v8), (3, none, v10)]).bind fun v11 =>
  (storeA (some 4) (newAt (some (newAt none (newAt none r1.2 (.obj true [(.lst none true .full []), (.lst none true .full []), (.lst none true .full []), (.int .i64 0)])).2 (.obj true [(.lst none true .full []), (.lst none true .full []), (.lst none true .full []), (.int .i64 0)])).2.length) (reserve (newAt none (newAt none r1.2 (.obj true [(.lst none true .full []), (.lst none true .full []), (.lst none true .full []), (.int .i64 0)])).2 (.obj true [(.lst none true .full []), (.lst none true .full []), (.lst none true .full []), (.int .i64 0)])).2 1) (.obj true [(.lst none true .full []), (.lst none true .full []), (.lst none true .full []), (.int .i64 0)])).2 (.ptr (newAt (some (newAt none (newAt none r1.2 (.obj true [(.lst none true .full []), (.lst none true .full []), (.lst none true .full []), (.int .i64 0)])).2 (.obj true [(.lst none true .full []), (.lst none true .full []), (.lst none true .full []), (.int .i64 0)])).2.length) (reserve (newAt none (newAt none r1.2 (.obj true [(.lst none true .full []), (.lst none true .full []), (.lst none true .full []), (.int .i64 0)])).2 (.obj true [(.lst none true .full []), (.lst none true .full []), (.lst none true .full []), (.int .i64 0)])).2 1) .resv).1 0) v11).bind fun m12 =>
  (fieldAddrA 1 r1.1).bind fun v13 =>
  (loadA none m12 v13).bind fun v14 =>
  (fieldAddrA 1 r1.1).bind fun v15 =>
  (loadA none m12 v15).bind fun v16 =>
  (lenA false v16).bind fun v17 =>
  (maxA false v17 (.int .i64 120)).bind fun v18 =>
  (sliceT (some 3) v14 none (some v18) none).bind fun v19 =>
  (lenA false v19).bind fun v20 =>
  L6_3 r1.1 (.ptr (newAt none r1.2 .resv).1 0) (.ptr (newAt none (newAt none r1.2 (.obj true [(.lst none true .full []), (.lst none true .full []), (.lst none true .full []), (.int .i64 0)])).2 .resv).1 0) (.ptr (newAt (some (newAt none (newAt none r1.2 (.obj true [(.lst none true .full []), (.lst none true .full []), (.lst none true .full []), (.int .i64 0)])).2 (.obj true [(.lst none true .full []), (.lst none true .full []), (.lst none true .full []), (.int .i64 0)])).2.length) (reserve (newAt none (newAt none r1.2 (.obj true [(.lst none true .full []), (.lst none true .full []), (.lst none true .full []), (.int .i64 0)])).2 (.obj true [(.lst none true .full []), (.lst none true .full []), (.lst none true .full []), (.int .i64 0)])).2 1) .resv).1 0) v19 v20 (.int .i64 0) m12 (K6_3 (finK cfg.P f6.results.toList)) :=
(AC_eq cfg 6 [a0] m (fn := f6) (c := bodyOf f6) at6 rfl).trans (by kernel_rfl)
theorem L6_3_eq (x1 x2 x3 x4 x25 x26 x27 : AV) (m : Mem) (K : Ex → St → Option (AV × Mem)) : L6_3 x1 x2 x3 x4 x25 x26 x27 m K =
  (binA .other .lss x27 x26).bind fun v1 =>
  ifA v1 (
  (indexAddrA (some 3) x25 x27).bind fun v2 =>
  (loadA (some 3) m v2).bind fun v3 =>
  (storeA (some 3) (newAt none m (.obj true [(.int .i64 0), (.lst none true .full []), (.int .i64 0)])).2 (.ptr (newAt none m .resv).1 0) v3).bind fun m4 =>
  (fieldAddrA 1 x4).bind fun v5 =>
  (loadA none m4 v5).bind fun v6 =>
  (loadA (some 3) m4 (.ptr (newAt none m .resv).1 0)).bind fun v7 =>
  (buildSliceA (some 3) [v7]).bind fun v8 =>
  (appA none false 51 (some 3) 40 m4 v6 v8).bind fun r9 =>
  (fieldAddrA 1 x4).bind fun v10 =>
  (storeA none r9.2 v10 r9.1).bind fun m11 =>
  (binA .other .add x27 (.int .i64 1)).bind fun v12 =>
  L6_3 x1 x2 x3 x4 x25 x26 v12 m11 K) (
  K (.exit 0) (O6_3 x1 x2 x3 x4 m)) :=
(loopW_eq (execW_lin _) _ _ _).trans (by kernel_rfl)
theorem L6_8_eq (x1 x2 x3 x4 x44 x45 x46 : AV) (m : Mem) (K : Ex → St → Option (AV × Mem)) : L6_8 x1 x2 x3 x4 x44 x45 x46 m K =
  (binA .other .lss x46 x45).bind fun v1 =>
  ifA v1 (
  (indexAddrA (some 3) x44 x46).bind fun v2 =>
  (loadA (some 3) m v2).bind fun v3 =>
  (storeA (some 3) (newAt none m (.obj true [(.bool false), (.lst none true .full []), (.lst none true .full [])])).2 (.ptr (newAt none m .resv).1 0) v3).bind fun m4 =>
  (fieldAddrA 2 x4).bind fun v5 =>
  (loadA none (reserve m4 1) v5).bind fun v6 =>
  (fieldAddrA 0 (.ptr (newAt none m .resv).1 0)).bind fun v7 =>
  (loadA none (reserve m4 1) v7).bind fun v8 =>
  (fieldAddrA 1 (.ptr (newAt none m .resv).1 0)).bind fun v9 =>
  (loadA none (reserve m4 1) v9).bind fun v10 =>
  (fieldAddrA 1 (.ptr (newAt none m .resv).1 0)).bind fun v11 =>
  (loadA none (reserve m4 1) v11).bind fun v12 =>
  (lenA false v12).bind fun v13 =>
  (maxA false v13 (.int .i64 30)).bind fun v14 =>
  (sliceT none v10 none (some v14) none).bind fun v15 =>
  (fieldAddrA 2 (.ptr (newAt none m .resv).1 0)).bind fun v16 =>
  (loadA none (reserve m4 1) v16).bind fun v17 =>
  (fieldAddrA 2 (.ptr (newAt none m .resv).1 0)).bind fun v18 =>
  (loadA none (reserve m4 1) v18).bind fun v19 =>
  (lenA false v19).bind fun v20 =>
  (maxA false v20 (.int .i64 30)).bind fun v21 =>
  (sliceT none v17 none (some v21) none).bind fun v22 =>
  (buildA (.agg [(.bool false), (.lst none true .full []), (.lst none true .full [])]) [(0, none, v8), (1, none, v15), (2, none, v22)]).bind fun v23 =>
  (buildSliceA (some 3) [v23]).bind fun v24 =>
  (appA (some m4.length) false 35 (some 3) 56 (reserve m4 1) v6 v24).bind fun r25 =>
  (fieldAddrA 2 x4).bind fun v26 =>
  (storeA none r25.2 v26 r25.1).bind fun m27 =>
  (binA .other .add x46 (.int .i64 1)).bind fun v28 =>
  L6_8 x1 x2 x3 x4 x44 x45 v28 m27 K) (
  K (.exit 2) (O6_8 x1 x2 x3 x4 m)) :=
(loopW_eq (execW_lin _) _ _ _).trans (by kernel_rfl)
theorem K6_3_x0 (x1 x2 x3 x4 : AV) (m : Mem) : K6_3 (finK cfg.P f6.results.toList) (.exit 0) (O6_3 x1 x2 x3 x4 m) =
  (fieldAddrA 2 x1).bind fun v1 =>
  (loadA none m v1).bind fun v2 =>
  (fieldAddrA 2 x1).bind fun v3 =>
  (loadA none m v3).bind fun v4 =>
  (lenA false v4).bind fun v5 =>
  (maxA false v5 (.int .i64 120)).bind fun v6 =>
  (sliceT (some 3) v2 none (some v6) none).bind fun v7 =>
  (lenA false v7).bind fun v8 =>
  L6_8 x1 x2 x3 x4 v7 v8 (.int .i64 0) m (K6_8 (finK cfg.P f6.results.toList)) := by kernel_rfl
theorem K6_8_x2 (x1 x2 x3 x4 : AV) (m : Mem) : K6_8 (finK cfg.P f6.results.toList) (.exit 2) (O6_8 x1 x2 x3 x4 m) =
  (fieldAddrA 0 x4).bind fun v1 =>
  (loadA none m v1).bind fun v2 =>
  (fieldAddrA 1 x1).bind fun v3 =>
  (loadA none m v3).bind fun v4 =>
  (fieldAddrA 1 x1).bind fun v5 =>
  (loadA none m v5).bind fun v6 =>
  (lenA false v6).bind fun v7 =>
  (maxA false v7 (.int .i64 120)).bind fun v8 =>
  (sliceT (some 3) v4 none (some v8) none).bind fun v9 =>
  (fieldAddrA 2 x4).bind fun v10 =>
  (loadA none m v10).bind fun v11 =>
  (fieldAddrA 3 x1).bind fun v12 =>
  (loadA none m v12).bind fun v13 =>
  (buildA (.agg [(.lst none true .full []), (.lst none true .full []), (.lst none true .full []), (.int .i64 0)]) [(0, none, v2), (1, none, v9), (2, none, v11), (3, none, v13)]).bind fun v14 =>
  (loadA (some 4) m x4).bind fun v15 =>
  (storeA (some 4) m x2 v14).bind fun m16 =>
  (storeA (some 4) m16 x3 v15).bind fun m17 =>
  ifB (namesV x4 x2) (
  (loadA (some 4) m17 x2).bind fun v18 =>
  (loadA (some 4) m17 x3).bind fun v19 =>
  some ((.tup [v18, v19]), m17)) := by kernel_rfl
/-! ### sortilege/sortilegelaw25.alive -/
theorem T10 (m : Mem) : AC cfg 10 [] m =
  (buildA (.agg [(.int .i64 0), (.lst none true .full []), (.int .i64 0)]) [(0, none, (.int .i64 (-1))), (2, none, (.int .i64 4))]).bind fun v1 =>
  (buildSliceA (some 3) [v1]).bind fun v2 =>
  (pcall (AP cfg) none m 21 []).bind fun r3 =>
  (buildSliceA (some 3) [r3.1]).bind fun v4 =>
  (buildA (.agg [(.lst none true .full []), (.lst none true .full []), (.lst none true .full []), (.int .i64 0)]) [(1, none, v2), (2, none, v4), (3, none, (.int .i64 4))]).bind fun v5 =>
  (storeA (some 4) (newAt none r3.2 (.obj true [(.lst none true .full []), (.lst none true .full []), (.lst none true .full []), (.int .i64 0)])).2 (.ptr (newAt none r3.2 .resv).1 0) v5).bind fun m6 =>
  (loadA (some 4) m6 (.ptr (newAt none r3.2 .resv).1 0)).bind fun v7 =>
  (pcall (AP cfg) none m6 7 [v7]).bind fun r8 =>
  (extractA r8.1 0).bind fun v9 =>
  (extractA r8.1 1).bind fun v10 =>
  (extractA r8.1 2).bind fun v11 =>
  (storeA (some 3) (newAt none r8.2 (.obj true [(.bool false), (.lst none true .full []), (.lst none true .full [])])).2 (.ptr (newAt none r8.2 .resv).1 0) v9).bind fun m12 =>
  (binA .other .eql v11 (.int .i64 0)).bind fun v13 =>
  ifA v13 (
  (loadA (some 3) m12 (.ptr (newAt none r8.2 .resv).1 0)).bind fun v14 =>
  (pcall (AP cfg) (some m12.length) m12 21 []).bind fun r15 =>
  (pcall (AP cfg) (some m12.length) r15.2 9 [v14, r15.1]).bind fun r16 =>
  some (r16.1, r16.2)) (
  some ((.bool false), m12)) :=
(AC_eq cfg 10 [] m (fn := f10) (c := bodyOf f10) at10 rfl).trans (by kernel_rfl)
/-! ### sortilege/sortilegelaw25.ProofChecks -/
/-! ### sortilege/sortilegelaw25.ProofOnly -/
/-! ### sortilege/sortilegelaw25.ProofAll -/
def O5_4 (x3 x4 : AV) (m : Mem) : St := ⟨[.any, .any, .any, x3, x4, .any, .any, .any, .any, .any, .any, .any, .any, .any, .any, .any, .any, .any, .any, .any, .any, .any, .any, .any, .any, .any, .any, .any, .any, .any, .any, .any, .any, .any, .any, .any, .any, .any, .any, .any, .any], m⟩
noncomputable def L5_4 (x3 x4 x13 x14 x15 : AV) (m : Mem) (K : Ex → St → Option (AV × Mem)) : Option (AV × Mem) := loopW (execW cfg 5 (AP cfg) (AC cfg) (c1 (c1 (c2 (c1 (c2 (c2 (c2 (bodyOf f5))))))))) (cfg.mask 5 (some 4)) ⟨[.any, .any, .any, x3, x4, .any, .any, .any, .any, .any, .any, .any, .any, x13, x14, x15, .any, .any, .any, .any, .any, .any, .any, .any, .any, .any, .any, .any, .any, .any, .any, .any, .any, .any, .any, .any, .any, .any, .any, .any, .any], m⟩ K
noncomputable abbrev K5_4_0 (K : Ex → St → Option (AV × Mem)) : Ex → St → Option (AV × Mem) := seqK (fun st => execW cfg 5 (AP cfg) (AC cfg) (c2 (c2 (c2 (c2 (bodyOf f5))))) st K) K
noncomputable abbrev K5_4_1 (K : Ex → St → Option (AV × Mem)) : Ex → St → Option (AV × Mem) := blockK 0 (K5_4_0 K)
noncomputable abbrev K5_4 (K : Ex → St → Option (AV × Mem)) : Ex → St → Option (AV × Mem) := (K5_4_1 K)
theorem T5 (a0 : AV) (m : Mem) : AC cfg 5 [a0] m =
  (lenA false a0).bind fun v1 =>
  (maxA false v1 (.int .i64 6)).bind fun v2 =>
  (sliceT (some 4) a0 none (some v2) none).bind fun v3 =>
  (lenA false v3).bind fun v4 =>
  L5_4 (.lst none true .full []) (.lst none true .full []) v3 v4 (.int .i64 0) m (K5_4 (finK cfg.P f5.results.toList)) :=
(AC_eq cfg 5 [a0] m (fn := f5) (c := bodyOf f5) at5 rfl).trans (by kernel_rfl)
theorem L5_4_eq (x3 x4 x13 x14 x15 : AV) (m : Mem) (K : Ex → St → Option (AV × Mem)) : L5_4 x3 x4 x13 x14 x15 m K =
  (binA .other .lss x15 x14).bind fun v1 =>
  ifA v1 (
  (indexAddrA (some 4) x13 x15).bind fun v2 =>
  (loadA (some 4) m v2).bind fun v3 =>
  (storeA (some 4) (newAt none m (.obj true [(.lst none true .full []), (.lst none true .full []), (.lst none true .full []), (.int .i64 0)])).2 (.ptr (newAt none m .resv).1 0) v3).bind fun m4 =>
  (loadA (some 4) m4 (.ptr (newAt none m .resv).1 0)).bind fun v5 =>
  (pcall (AP cfg) none m4 6 [v5]).bind fun r6 =>
  (extractA r6.1 0).bind fun v7 =>
  (extractA r6.1 1).bind fun v8 =>
  (storeA (some 4) (newAt none (newAt none r6.2 (.obj true [(.lst none true .full []), (.lst none true .full []), (.lst none true .full []), (.int .i64 0)])).2 (.obj true [(.lst none true .full []), (.lst none true .full []), (.lst none true .full []), (.int .i64 0)])).2 (.ptr (newAt none r6.2 .resv).1 0) v7).bind fun m9 =>
  (storeA (some 4) m9 (.ptr (newAt none (newAt none r6.2 (.obj true [(.lst none true .full []), (.lst none true .full []), (.lst none true .full []), (.int .i64 0)])).2 .resv).1 0) v8).bind fun m10 =>
  (loadA (some 4) (reserve m10 2) (.ptr (newAt none r6.2 .resv).1 0)).bind fun v11 =>
  (buildSliceA (some 4) [v11]).bind fun v12 =>
  (loadA (some 4) (reserve m10 2) (.ptr (newAt none (newAt none r6.2 (.obj true [(.lst none true .full []), (.lst none true .full []), (.lst none true .full []), (.int .i64 0)])).2 .resv).1 0)).bind fun v13 =>
  (buildSliceA (some 4) [v13]).bind fun v14 =>
  (appA (some m10.length) false 26 (some 4) 80 (reserve m10 2) x3 v12).bind fun r15 =>
  (appA (some (m10.length + 1)) false 29 (some 4) 80 r15.2 x4 v14).bind fun r16 =>
  (binA .other .add x15 (.int .i64 1)).bind fun v17 =>
  L5_4 r15.1 r16.1 x13 x14 v17 r16.2 K) (
  K (.exit 0) (O5_4 x3 x4 m)) :=
(loopW_eq (execW_lin _) _ _ _).trans (by kernel_rfl)
theorem K5_4_x0 (x3 x4 : AV) (m : Mem) : K5_4 (finK cfg.P f5.results.toList) (.exit 0) (O5_4 x3 x4 m) =
  (pcall (AP cfg) none m 11 [x3]).bind fun r1 =>
  (pcall (AP cfg) none r1.2 12 [x4]).bind fun r2 =>
  (binA .bl .eql r1.1 r2.1).bind fun v3 =>
  ifA v3 (
  (pcall (AP cfg) none r2.2 10 []).bind fun r4 =>
  some (r4.1, r4.2)) (
  some ((.bool false), r2.2)) := by kernel_rfl
end Go.Ab

/- Rows that grow by appending, for any type; parts of rows; lists of values. -/
set_option linter.unusedVariables false
set_option linter.unusedSimpArgs false
set_option maxRecDepth 100000
namespace Go.Ab

theorem gr_lt {m : Mem} {k : Nat} {e : Option Ent} (h : m[k]? = some e) : k < m.length := (List.getElem?_eq_some_iff.1 h).1
/-- A row that grows, where it is kept, and what stands in it. -/
def GrowAt (e : Nat) (sh : Sh) (m : Mem) (v : AV) (es : List AV) : Prop := (v = .lst none true .full [] ∧ es = []) ∨ (∃ nm, v = .lst sh false (.tok nm e) es ∧ es ≠ [] ∧ m[nm]? = some (some (.tok es.length sh.size)))
def PlaceOk (d : Option Nat) (m : Mem) : Prop := match d with
  | none => True
  | some k => m[k]? = some (some .resv)
/-- What is an object stays. -/
def KpO (m m' : Mem) : Prop := m.length ≤ m'.length ∧ ∀ (n : Nat) (bx : Bool) (cs : List AV), m[n]? = some (some (Ent.obj bx cs)) → m'[n]? = some (some (Ent.obj bx cs))
theorem GrowAt.nil (e : Nat) (sh : Sh) (m : Mem) : GrowAt e sh m (.lst none true .full []) [] := .inl ⟨rfl, rfl⟩
theorem GrowAt.app {e : Nat} {sh : Sh} {m : Mem} {v : AV} {es : List AV} (h : GrowAt e sh m v es) (x : Mem) : GrowAt e sh (m ++ x) v es := by
  rcases h with h | ⟨nm, h1, h2, h3⟩
  · exact .inl h
  · exact .inr ⟨nm, h1, h2, by rw [List.getElem?_append_left (gr_lt h3)]; exact h3⟩
theorem GrowAt.set {e : Nat} {sh : Sh} {m : Mem} {v : AV} {es : List AV} (h : GrowAt e sh m v es) {n : Nat} {bx : Bool} {cs : List AV} (hn : m[n]? = some (some (.obj bx cs))) (x : Option Ent) : GrowAt e sh (m.set n x) v es := by
  rcases h with h | ⟨nm, h1, h2, h3⟩
  · exact .inl h
  · refine .inr ⟨nm, h1, h2, ?_⟩
    have hne : n ≠ nm := fun e => by rw [e, h3] at hn; cases hn
    rw [List.getElem?_set_ne hne]; exact h3
theorem grow {e : Nat} {sh sh' : Sh} {d : Option Nat} {b : Nat} {m : Mem} {v y : AV} {es : List AV} {z : Bool} {o : Own} (h : GrowAt e sh m v es) (hd : PlaceOk d m) (hlen : (es.length + 1) * b ≤ roomA) :
    ∃ v' m', appA d false e sh b m v (.lst sh z o [y]) = some (v', m') ∧ GrowAt e sh m' v' (es ++ [y]) ∧ KpO m m' := by
  rcases h with ⟨rfl, rfl⟩ | ⟨nm, rfl, h2, h3⟩
  · have hl : 1 * b ≤ roomA := by simpa using hlen
    cases d with
    | none =>
      refine ⟨.lst sh false (.tok m.length e) [y], m ++ [some (.tok 1 sh.size)], ?_, .inr ⟨m.length, rfl, by simp, by simp⟩, by simp, ?_⟩
      · simp only [appA, List.length_nil, List.length_cons, Nat.zero_add, hl, if_true, List.nil_append, newAt, or_true]
        rfl
      · intro n bx cs hn
        rw [List.getElem?_append_left (gr_lt hn)]; exact hn
    | some k =>
      have hk : m[k]? = some (some .resv) := hd
      refine ⟨.lst sh false (.tok k e) [y], m.set k (some (.tok 1 sh.size)), ?_, .inr ⟨k, rfl, by simp, by rw [List.getElem?_set_self (gr_lt hk)]; rfl⟩, by simp, ?_⟩
      · simp only [appA, List.length_nil, List.length_cons, Nat.zero_add, hl, if_true, List.nil_append, newAt, or_true]
        rfl
      · intro n bx cs hn
        have hne : k ≠ n := fun e => by rw [← e, hk] at hn; cases hn
        rw [List.getElem?_set_ne hne]; exact hn
  · have hg : m.get nm = some (.tok es.length sh.size) := by simp [Mem.get, h3]
    refine ⟨.lst sh false (.tok nm e) (es ++ [y]), m.set nm (some (.tok (es.length + 1) sh.size)), ?_, .inr ⟨nm, rfl, by simp, by rw [List.getElem?_set_self (gr_lt h3)]; simp⟩, by simp, ?_⟩
    · simp [appA, hg, hlen]
    · intro n bx cs hn
      have hne : nm ≠ n := fun e => by rw [← e, h3] at hn; cases hn
      rw [List.getElem?_set_ne hne]; exact hn
theorem KpO.refl (m : Mem) : KpO m m := ⟨Nat.le_refl _, fun _ _ _ h => h⟩
theorem KpO.trans {a b c : Mem} (h : KpO a b) (k : KpO b c) : KpO a c := ⟨Nat.le_trans h.1 k.1, fun n bx cs hh => k.2 n bx cs (h.2 n bx cs hh)⟩
theorem KpO.app (m e : Mem) : KpO m (m ++ e) := ⟨by simp, fun n bx cs h => by rw [List.getElem?_append_left (gr_lt h)]; exact h⟩
/-! ### Parts -/
theorem min_len (a b : Nat) : maxA false (.int .i64 a) (.int .i64 b) = some (.int .i64 (min a b : Nat)) := by
  unfold maxA
  simp only [if_true]
  by_cases h : (b : Int) < a
  · simp only [h, if_true, Bool.false_eq_true, if_false]; congr 2; omega
  · simp only [h, if_false, Bool.false_eq_true]; congr 2; omega
theorem slice_cut {sh : Sh} {z : Bool} {o : Own} {es : List AV} {n : Nat} (h : n ≤ es.length) : sliceT sh (.lst sh z o es) none (some (.int .i64 n)) none = some (.lst sh z .no (es.take n)) := by
  have e1 : (0 : Int) ≤ (n : Nat) := by omega
  have e2 : ((n : Nat) : Int) ≤ es.length := by omega
  have e3 : ((n : Nat) : Int) ≤ (n : Nat) := by omega
  simp [sliceT, sliceA, boundA, e1, e2, e3]
/-! ### Lists of values -/
theorem list_map {α : Type} {f : α → AV} {Q : α → Prop} : ∀ {es : List AV}, (∀ x ∈ es, ∃ a, x = f a ∧ Q a) → ∃ l : List α, es = l.map f ∧ ∀ a ∈ l, Q a
  | [], _ => ⟨[], rfl, by simp⟩
  | x :: es, h => by
    obtain ⟨a, rfl, ha⟩ := h x List.mem_cons_self
    obtain ⟨l, rfl, hl⟩ := list_map (fun y hy => h y (List.mem_cons_of_mem _ hy))
    refine ⟨a :: l, rfl, fun b hb => ?_⟩
    rcases List.mem_cons.1 hb with rfl | hb
    · exact ha
    · exact hl b hb
end Go.Ab

/- A certificate cut to size, for the program and for the reference. -/
set_option linter.unusedVariables false
set_option linter.unusedSimpArgs false
set_option maxRecDepth 100000
namespace Go.Ab
open Go.Proofs.Try

theorem ob_ld {m : Mem} {k j : Nat} {bx : Bool} {cs : List AV} {v : AV} (h : m[k]? = some (some (.obj bx cs))) (hj : cs[j]? = some v) : loadA none m (.ptr k j) = some v := by
  simp [loadA, mobj h, cutSh, hj]
theorem ob_st {m : Mem} {k j : Nat} {bx : Bool} {cs : List AV} {v : AV} (h : m[k]? = some (some (.obj bx cs))) (hj : j < cs.length) (ha : atomOk v = true) : storeA none m (.ptr k j) v = some (m.set k (some (.obj bx (putAt cs j v.cells)))) := by
  simp only [storeA, mobj h, Option.bind_some]
  rw [if_pos (by show j + 1 ≤ cs.length; omega), if_pos (show shOk none v = true from ha)]
/-- Numbers as they come in. -/
def XN (x : NV) : Prop := (∀ i, x.ds.getD i 0 < 4294967296) ∧ (x.z = true → x.ds = [])
def XR (r : RV) : Prop := XN r.num ∧ XN r.den
structure XC (c : CV) : Prop where
  nsh : c.nodes.sh = some 3 ∨ c.nodes.es = []
  kids : ∀ n ∈ c.nodes.es, n.kids.o = .no
  rows : ∀ l ∈ c.odds.es, l.o = .no
  wsh : c.ws.sh = some 3 ∨ c.ws.es = []
  ws : ∀ r ∈ c.ws.es, XR r
def cutN (x : NV) : NV := ⟨x.z, .no, x.ds.take 30⟩
def cutW (r : RV) : RV := ⟨r.neg, cutN r.num, cutN r.den⟩
theorem cutW_fr (r : RV) : (cutW r).fr = cutW r := rfl
theorem cutN_ok {x : NV} (h : XN x) : NOk (cutN x) ∧ (cutN x).ds.length ≤ 30 := by
  refine ⟨⟨fun i => ?_, ?_, fun hz => ?_⟩, ?_⟩
  · show (x.ds.take 30).getD i 0 < _
    rw [List.getD_eq_getElem?_getD]
    by_cases hi : i < 30
    · rw [List.getElem?_take_of_lt hi, ← List.getD_eq_getElem?_getD]; exact h.1 i
    · rw [List.getElem?_eq_none (by rw [List.length_take]; omega)]; exact (by omega : 0 < 4294967296)
  · show (x.ds.take 30).length < _
    rw [List.length_take]; omega
  · show x.ds.take 30 = []
    rw [h.2 hz]; rfl
  · show (x.ds.take 30).length ≤ 30
    rw [List.length_take]; omega
theorem cutW_ok {r : RV} (h : XR r) : ROk 30 (cutW r) := ⟨(cutN_ok h.1).1, (cutN_ok h.2).1, (cutN_ok h.1).2, (cutN_ok h.2).2⟩
theorem slice_nv (x : NV) : sliceT none x.av none (some (.int .i64 ((min x.ds.length 30 : Nat) : Int))) none = some (cutN x).av := by
  have : sliceT none (.lst none x.z x.o (x.ds.map dg)) none (some (.int .i64 ((min x.ds.length 30 : Nat) : Int))) none = some (.lst none x.z .no ((x.ds.map dg).take (min x.ds.length 30))) := slice_cut (by rw [List.length_map]; omega)
  refine this.trans ?_
  have e : (x.ds.map dg).take (min x.ds.length 30) = (x.ds.take 30).map dg := by
    rw [List.map_take, ← List.map_take, ← List.map_take]
    congr 1
    by_cases h : x.ds.length ≤ 30
    · rw [Nat.min_eq_left h, List.take_of_length_le (Nat.le_refl _), List.take_of_length_le h]
    · rw [Nat.min_eq_right (by omega)]
  rw [e]; rfl
theorem take_min {α : Type} (l : List α) (n : Nat) : l.take (min l.length n) = l.take n := by
  by_cases h : l.length ≤ n
  · rw [Nat.min_eq_left h, List.take_of_length_le (Nat.le_refl _), List.take_of_length_le h]
  · rw [Nat.min_eq_right (by omega)]
theorem bldR (b : Bool) (x y : NV) : buildA (.agg [.bool false, .lst none true .full [], .lst none true .full []]) [(0, none, .bool b), (1, none, x.av), (2, none, y.av)] = some (RV.av ⟨b, x, y⟩) := rfl
def cB (a b c : AV) (leaf : Int) : Option Ent := some (.obj true [a, b, c, .int .i64 leaf])
structure SI (c : CV) (od v w : AV) (m : Mem) : Prop where
  g0 : m[0]? = some (cC c)
  g1 : m[1]? = some (cC zC)
  g2 : m[2]? = some (cC zC)
  g3 : m[3]? = some (cB od v w c.leaf)
theorem SI.kp {c : CV} {od v w : AV} {m m' : Mem} (h : SI c od v w m) (k : KpO m m') : SI c od v w m' := ⟨k.2 _ _ _ h.g0, k.2 _ _ _ h.g1, k.2 _ _ _ h.g2, k.2 _ _ _ h.g3⟩
theorem SI.put {c : CV} {od v w v' w' : AV} {m : Mem} (h : SI c od v w m) : SI c od v' w' (m.set 3 (cB od v' w' c.leaf)) := by
  have hl : 3 < m.length := gr_lt h.g3
  refine ⟨?_, ?_, ?_, ?_⟩
  · rw [List.getElem?_set_ne (by omega)]; exact h.g0
  · rw [List.getElem?_set_ne (by omega)]; exact h.g1
  · rw [List.getElem?_set_ne (by omega)]; exact h.g2
  · rw [List.getElem?_set_self hl]
theorem grow_atom {e : Nat} {sh : Sh} {m : Mem} {v : AV} {es : List AV} (h : GrowAt e sh m v es) : atomOk v = true ∧ v.cells = [v] := by
  rcases h with ⟨rfl, _⟩ | ⟨nm, rfl, _⟩ <;> exact ⟨rfl, rfl⟩
theorem build_node {n : ND} (h : n.kids.o = .no) : buildSliceA (some 3) [n.av] = some (.lst (some 3) false .full [n.av]) := by
  obtain ⟨a, ⟨z, o, ns⟩, b⟩ := n
  simp only at h
  subst h
  rfl
theorem W6a {c : CV} (hc : XC c) (od w : AV) (N : NL) (hN : N.sh = some 3 ∨ N.es = []) (hk : ∀ n ∈ N.es, n.kids.o = .no) (hlen : N.es.length ≤ 120) (K : Ex → St → Option (AV × Mem)) : ∀ (j i : Nat) (m : Mem) (v : AV), i + j = N.es.length → SI c od v w m → GrowAt 51 (some 3) m v ((N.es.take i).map ND.av) →
    ∃ m' v', SI c od v' w m' ∧ GrowAt 51 (some 3) m' v' (N.es.map ND.av) ∧ L6_3 (.ptr 0 0) (.ptr 1 0) (.ptr 2 0) (.ptr 3 0) N.av (.int .i64 N.es.length) (.int .i64 i) m K = K (.exit 0) (O6_3 (.ptr 0 0) (.ptr 1 0) (.ptr 2 0) (.ptr 3 0) m')
  | 0, i, m, v, hij, hs, hg => ⟨m, v, hs, by rw [List.take_of_length_le (by omega)] at hg; exact hg, by rw [L6_3_eq, n_lss, Option.bind_some, ifA_dec, if_neg (by omega)]⟩
  | j + 1, i, m, v, hij, hs, hg => by
    have hi : i < N.es.length := by omega
    have hb := build_node (hk _ (List.getElem_mem hi))
    have hs1 := hs.kp (KpO.app m [cN N.es[i]])
    obtain ⟨v', m1, a1, a2, a3⟩ := grow (d := none) (b := 40) (y := N.es[i].av) (z := false) (o := .full) (sh' := some 3) (hg.app [cN N.es[i]]) trivial (by rw [List.length_map, List.length_take]; simp only [roomA]; omega)
    have hs2 := hs1.kp a3
    have et : (N.es.take i).map ND.av ++ [N.es[i].av] = (N.es.take (i + 1)).map ND.av := by
      rw [List.take_succ_eq_append_getElem hi, List.map_append]; rfl
    rw [et] at a2
    have hat := grow_atom a2
    obtain ⟨m', v'', b1, b2, b3⟩ := W6a hc od w N hN hk hlen K j (i + 1) (m1.set 3 (cB od v' w c.leaf)) v' (by omega) (hs2.put) (a2.set hs2.g3 _)
    refine ⟨m', v'', b1, b2, ?_⟩
    have hp : putAt [od, v, w, .int .i64 c.leaf] 1 v'.cells = [od, v', w, .int .i64 c.leaf] := by rw [hat.2]; rfl
    have est := ob_st hs2.g3 (j := 1) (v := v') (by simp) hat.1
    rw [hp] at est
    rw [L6_3_eq, n_lss, Option.bind_some, ifA_dec, if_pos hi, index_nl hN hi, Option.bind_some, load_nd, Option.bind_some]
    simp only [new_n, new_r]
    rw [nst_last, Option.bind_some, fld1, Option.bind_some, ob_ld hs1.g3 (j := 1) (v := v) rfl, Option.bind_some, nldA (x := N.es[i]) get_last, Option.bind_some, hb, Option.bind_some, a1, Option.bind_some, Option.bind_some, est, Option.bind_some, i_add1 (by omega), Option.bind_some]
    exact b3
theorem W6b {c : CV} (hc : XC c) (od v : AV) (N : LV) (hN : N.sh = some 3 ∨ N.es = []) (hx : ∀ r ∈ N.es, XR r) (hlen : N.es.length ≤ 120) (ns : List AV) (K : Ex → St → Option (AV × Mem)) : ∀ (j i : Nat) (m : Mem) (w : AV), i + j = N.es.length → SI c od v w m → GrowAt 35 (some 3) m w ((N.es.take i).map fun r => (cutW r).av) →
    ∃ m' w', SI c od v w' m' ∧ GrowAt 35 (some 3) m' w' (N.es.map fun r => (cutW r).av) ∧ L6_8 (.ptr 0 0) (.ptr 1 0) (.ptr 2 0) (.ptr 3 0) N.av (.int .i64 N.es.length) (.int .i64 i) m K = K (.exit 2) (O6_8 (.ptr 0 0) (.ptr 1 0) (.ptr 2 0) (.ptr 3 0) m')
  | 0, i, m, w, hij, hs, hg => ⟨m, w, hs, by rw [List.take_of_length_le (by omega)] at hg; exact hg, by rw [L6_8_eq, n_lss, Option.bind_some, ifA_dec, if_neg (by omega)]⟩
  | j + 1, i, m, w, hij, hs, hg => by
    have hi : i < N.es.length := by omega
    have hb := build_row (cutW_fr N.es[i])
    have hs0 := hs.kp (KpO.app m [cR N.es[i]])
    have hs1 := hs0.kp (KpO.app (m ++ [cR N.es[i]]) [some .resv])
    have gr : ((m ++ [cR N.es[i]]) ++ [some .resv])[m.length]? = some (cR N.es[i]) := get_app get_last _
    obtain ⟨w', m1, a1, a2, a3⟩ := grow (d := some (m ++ [cR N.es[i]]).length) (b := 56) (y := (cutW N.es[i]).av) (z := false) (o := .full) (sh' := some 3) ((hg.app [cR N.es[i]]).app [some .resv]) (by show _ = _; exact get_last) (by rw [List.length_map, List.length_take]; simp only [roomA]; omega)
    have hs2 := hs1.kp a3
    have et : (N.es.take i).map (fun r => (cutW r).av) ++ [(cutW N.es[i]).av] = (N.es.take (i + 1)).map (fun r => (cutW r).av) := by
      rw [List.take_succ_eq_append_getElem hi, List.map_append]; rfl
    rw [et] at a2
    have hat := grow_atom a2
    obtain ⟨m', w'', b1, b2, b3⟩ := W6b hc od v N hN hx hlen ns K j (i + 1) (m1.set 3 (cB od v w' c.leaf)) w' (by omega) (hs2.put) (a2.set hs2.g3 _)
    refine ⟨m', w'', b1, b2, ?_⟩
    have hp : putAt [od, v, w, .int .i64 c.leaf] 2 w'.cells = [od, v, w', .int .i64 c.leaf] := by rw [hat.2]; rfl
    have est := ob_st hs2.g3 (j := 2) (v := w') (by simp) hat.1
    rw [hp] at est
    have idx : indexAddrA (some 3) N.av (.int .i64 i) = some (.vptr (N.es[i].av).cells) := by
      have hN : N.sh = some 3 := hN.resolve_right (fun e => by rw [e] at hi; simp at hi)
      simp [LV.av, indexAddrA, hN, hi]
    have m1' : ∀ n : Nat, maxA false (.int .i64 (n : Nat)) (.int .i64 30) = some (.int .i64 (min n 30 : Nat)) := fun n => min_len n 30
    rw [L6_8_eq, n_lss, Option.bind_some, ifA_dec, if_pos hi, idx, Option.bind_some, load_row, Option.bind_some]
    simp only [new_z', new_r]
    rw [st_last, Option.bind_some, fld2, Option.bind_some]
    simp only [res1]
    rw [ob_ld hs1.g3 (j := 2) (v := w) rfl, Option.bind_some, fld0, Option.bind_some, rld0 gr, Option.bind_some, fld1, Option.bind_some, rld1 gr, Option.bind_some, Option.bind_some, rld1 gr, Option.bind_some, len_nv, Option.bind_some, m1', Option.bind_some, slice_nv, Option.bind_some, fld2, Option.bind_some, rld2 gr, Option.bind_some, Option.bind_some, rld2 gr, Option.bind_some, len_nv, Option.bind_some, m1', Option.bind_some, slice_nv, Option.bind_some, bldR, Option.bind_some]
    rw [show (⟨N.es[i].neg, cutN N.es[i].num, cutN N.es[i].den⟩ : RV) = cutW N.es[i] from rfl, hb, Option.bind_some, a1, Option.bind_some, Option.bind_some, est, Option.bind_some, i_add1 (by omega), Option.bind_some]
    exact b3
structure CutOf (c p : CV) : Prop where
  fr : p.fr = p
  ok : COk 30 p
  odds : p.odds.es = c.odds.es.take 40
  nodes : p.nodes.es = c.nodes.es.take 120
  ws : p.ws.es = (c.ws.es.take 120).map cutW
  leaf : p.leaf = c.leaf
  kids : ∀ n ∈ p.nodes.es, n.kids.o = .no
  rows : ∀ l ∈ p.odds.es, l.o = .no
theorem grow_nl {m : Mem} {v : AV} {l : List ND} (h : GrowAt 51 (some 3) m v (l.map ND.av)) : ∃ N : NL, v = N.av ∧ N.es = l ∧ (N.sh = some 3 ∨ N.es = []) ∧ N.fr.fr = N.fr := by
  rcases h with ⟨rfl, h⟩ | ⟨nm, rfl, _⟩
  · have : l = [] := List.map_eq_nil_iff.1 h
    subst this
    exact ⟨⟨none, true, .full, []⟩, rfl, rfl, .inr rfl, rfl⟩
  · exact ⟨⟨some 3, false, .tok nm 51, l⟩, rfl, rfl, .inl rfl, rfl⟩
theorem grow_lv {m : Mem} {v : AV} {l : List RV} (h : GrowAt 35 (some 3) m v (l.map RV.av)) : ∃ N : LV, v = N.av ∧ N.es = l ∧ (N.sh = some 3 ∨ N.es = []) ∧ (N.z = true → N.es = []) ∧ N.fr.fr = N.fr := by
  rcases h with ⟨rfl, h⟩ | ⟨nm, rfl, _⟩
  · have : l = [] := List.map_eq_nil_iff.1 h
    subst this
    exact ⟨⟨none, true, .full, []⟩, rfl, rfl, .inr rfl, fun _ => rfl, rfl⟩
  · exact ⟨⟨some 3, false, .tok nm 35, l⟩, rfl, rfl, .inl rfl, (fun h => by cases h), rfl⟩
theorem fz_tupC2 (a b : CV) : Fz (.tup [a.av, b.av]) (.tup [a.fr.av, b.fr.av]) := by
  intro m
  have e : frz m fuelF (.tup [a.av, b.av]) = (mapF (frz m 8) [a.av, b.av]).map fun r => (.tup r.1, r.2) := rfl
  rw [e]
  simp [mapF, fza_cv a m 6, fza_cv b m 6]
theorem newS (m : Mem) (n : Nat) : newAt (some n) m (.obj true [.lst none true .full [], .lst none true .full [], .lst none true .full [], .int .i64 0]) = (n, m.set n (cC zC)) := rfl
theorem newSr (m : Mem) (n : Nat) : newAt (some n) m .resv = (n, m.set n (some .resv)) := rfl
theorem slice_ol (L : OL) : sliceT none L.av none (some (.int .i64 ((min L.es.length 40 : Nat) : Int))) none = some (OL.av ⟨L.z, .no, L.es.take 40⟩) := by
  have : sliceT none (.lst none L.z L.o (L.es.map IL.av)) none (some (.int .i64 ((min L.es.length 40 : Nat) : Int))) none = some (.lst none L.z .no ((L.es.map IL.av).take (min L.es.length 40))) := slice_cut (by rw [List.length_map]; omega)
  refine this.trans ?_
  rw [← List.map_take, take_min]; rfl
theorem slice_nl (L : NL) (hs : L.sh = some 3 ∨ L.es = []) : ∃ sh, (sh = some 3 ∨ L.es.take 120 = []) ∧ sliceT (some 3) L.av none (some (.int .i64 ((min L.es.length 120 : Nat) : Int))) none = some (NL.av ⟨sh, L.z, .no, L.es.take 120⟩) := by
  rcases hs with hs | hs
  · refine ⟨some 3, .inl rfl, ?_⟩
    have : sliceT (some 3) (.lst (some 3) L.z L.o (L.es.map ND.av)) none (some (.int .i64 ((min L.es.length 120 : Nat) : Int))) none = some (.lst (some 3) L.z .no ((L.es.map ND.av).take (min L.es.length 120))) := slice_cut (by rw [List.length_map]; omega)
    rw [← List.map_take, take_min] at this
    obtain ⟨sh, z, o, es⟩ := L
    simp only at hs
    subst hs
    exact this
  · obtain ⟨sh, z, o, es⟩ := L
    simp only at hs
    subst hs
    refine ⟨sh, .inr rfl, ?_⟩
    simp [NL.av, sliceT, sliceA, boundA]
theorem slice_lw (L : LV) (hs : L.sh = some 3 ∨ L.es = []) : ∃ sh, (sh = some 3 ∨ L.es.take 120 = []) ∧ sliceT (some 3) L.av none (some (.int .i64 ((min L.es.length 120 : Nat) : Int))) none = some (LV.av ⟨sh, L.z, .no, L.es.take 120⟩) := by
  rcases hs with hs | hs
  · refine ⟨some 3, .inl rfl, ?_⟩
    have : sliceT (some 3) (.lst (some 3) L.z L.o (L.es.map RV.av)) none (some (.int .i64 ((min L.es.length 120 : Nat) : Int))) none = some (.lst (some 3) L.z .no ((L.es.map RV.av).take (min L.es.length 120))) := slice_cut (by rw [List.length_map]; omega)
    rw [← List.map_take, take_min] at this
    obtain ⟨sh, z, o, es⟩ := L
    simp only at hs
    subst hs
    exact this
  · obtain ⟨sh, z, o, es⟩ := L
    simp only at hs
    subst hs
    refine ⟨sh, .inr rfl, ?_⟩
    simp [LV.av, sliceT, sliceA, boundA]
theorem bldC03 (a : AV) (n : Int) (ha : atomOk a = true) : buildA (.agg [.lst none true .full [], .lst none true .full [], .lst none true .full [], .int .i64 0]) [(0, none, a), (3, none, .int .i64 n)] = some (.agg (a.cells ++ [.lst none true .full [], .lst none true .full [], .int .i64 n])) := by
  cases a <;> first | rfl | (simp [atomOk] at ha)
theorem V6 {c : CV} (hc : XC c) : ∃ p r : CV, AP cfg 6 [c.av] = some (.tup [p.av, r.av]) ∧ CutOf c p ∧ CutOf c r := by
  have start : AC cfg 6 [c.av] [] = AC cfg 6 [c.av] [] := rfl
  obtain ⟨sh1, hsh1, en⟩ := slice_nl c.nodes hc.nsh
  obtain ⟨sh2, hsh2, ew⟩ := slice_lw c.ws hc.wsh
  have m40 : maxA false (.int .i64 (c.odds.es.length : Nat)) (.int .i64 40) = some (.int .i64 (min c.odds.es.length 40 : Nat)) := min_len _ 40
  have m120 : ∀ n : Nat, maxA false (.int .i64 (n : Nat)) (.int .i64 120) = some (.int .i64 (min n 120 : Nat)) := fun n => min_len n 120
  have g0 : ∀ M : Mem, (cC c :: M)[0]? = some (cC c) := fun _ => rfl
  conv at start => rhs; rw [T6, box_cv, Option.bind_some]
  simp only [new_cv, new_r, res1, newS, newSr, List.length_nil, List.nil_append, List.length_cons, List.cons_append, Nat.zero_add, Nat.reduceAdd, List.set_cons_succ, List.set_cons_zero, fld0, fld1, fld2, fld3] at start
  rw [Option.bind_some, cld0 (g0 _), Option.bind_some, Option.bind_some, cld0 (g0 _), Option.bind_some, len_ol, Option.bind_some, m40, Option.bind_some, slice_ol, Option.bind_some, Option.bind_some, cld3 (g0 _), Option.bind_some, bldC03 _ _ rfl, Option.bind_some] at start
  have st : storeA (some 4) [cC c, cC zC, cC zC, cC zC] (.ptr 3 0) (.agg ((OL.av ⟨c.odds.z, .no, c.odds.es.take 40⟩).cells ++ [.lst none true .full [], .lst none true .full [], .int .i64 c.leaf])) = some [cC c, cC zC, cC zC, cB (OL.av ⟨c.odds.z, .no, c.odds.es.take 40⟩) (.lst none true .full []) (.lst none true .full []) c.leaf] := rfl
  rw [st, Option.bind_some, Option.bind_some, cld1 (g0 _), Option.bind_some, Option.bind_some, cld1 (g0 _), Option.bind_some, len_nl, Option.bind_some, m120, Option.bind_some, en, Option.bind_some, len_nl, Option.bind_some] at start
  obtain ⟨m1, v1, s1, g1, e1⟩ := W6a hc (OL.av ⟨c.odds.z, .no, c.odds.es.take 40⟩) (.lst none true .full []) ⟨sh1, c.nodes.z, .no, c.nodes.es.take 120⟩ hsh1 (fun n hn => hc.kids n (List.mem_of_mem_take hn)) (by show (c.nodes.es.take 120).length ≤ 120; rw [List.length_take]; omega) (K6_3 (finK cfg.P f6.results.toList)) (c.nodes.es.take 120).length 0 [cC c, cC zC, cC zC, cB (OL.av ⟨c.odds.z, .no, c.odds.es.take 40⟩) (.lst none true .full []) (.lst none true .full []) c.leaf] (.lst none true .full []) (by simp) ⟨rfl, rfl, rfl, rfl⟩ (GrowAt.nil _ _ _)
  rw [show (((0 : Nat) : Int)) = (0 : Int) from rfl] at e1
  rw [e1, K6_3_x0, fld2, Option.bind_some, cld2 s1.g0, Option.bind_some, Option.bind_some, cld2 s1.g0, Option.bind_some, len_lv, Option.bind_some, m120, Option.bind_some, ew, Option.bind_some, len_lv, Option.bind_some] at start
  obtain ⟨m2, w2, s2, g2, e2⟩ := W6b hc (OL.av ⟨c.odds.z, .no, c.odds.es.take 40⟩) v1 ⟨sh2, c.ws.z, .no, c.ws.es.take 120⟩ hsh2 (fun r hr => hc.ws r (List.mem_of_mem_take hr)) (by show (c.ws.es.take 120).length ≤ 120; rw [List.length_take]; omega) [] (K6_8 (finK cfg.P f6.results.toList)) (c.ws.es.take 120).length 0 m1 (.lst none true .full []) (by simp) s1 (GrowAt.nil _ _ _)
  have e2 : _ = _ := e2
  rw [show (((0 : Nat) : Int)) = (0 : Int) from rfl] at e2
  obtain ⟨N, rfl, hN1, hN2, hN3⟩ := grow_nl g1
  have g2' : GrowAt 35 (some 3) m2 w2 (((c.ws.es.take 120).map cutW).map RV.av) := by rw [List.map_map]; exact g2
  obtain ⟨W, rfl, hW1, hW2, hW4, hW3⟩ := grow_lv g2'
  have q3 : m2[3]? = some (cC ⟨⟨c.odds.z, .no, c.odds.es.take 40⟩, N, W, c.leaf⟩) := s2.g3
  have l1 : 1 < m2.length := gr_lt s2.g1
  have l2 : 2 < m2.length := gr_lt s2.g2
  let p : CV := ⟨⟨c.odds.z, .no, c.odds.es.take 40⟩, ⟨sh1, c.nodes.z, .no, c.nodes.es.take 120⟩, W, c.leaf⟩
  let r : CV := ⟨⟨c.odds.z, .no, c.odds.es.take 40⟩, N, W, c.leaf⟩
  have k2 : (m2.set 1 (cC p))[2]? = some (cC zC) := by rw [List.getElem?_set_ne (by omega)]; exact s2.g2
  have k3 : ((m2.set 1 (cC p)).set 2 (cC r))[1]? = some (cC p) := by rw [List.getElem?_set_ne (by omega), List.getElem?_set_self l1]
  have k4 : ((m2.set 1 (cC p)).set 2 (cC r))[2]? = some (cC r) := by rw [List.getElem?_set_self (by rw [List.length_set]; exact l2)]
  have bp : buildA (.agg [.lst none true .full [], .lst none true .full [], .lst none true .full [], .int .i64 0]) [(0, none, OL.av ⟨c.odds.z, .no, c.odds.es.take 40⟩), (1, none, NL.av ⟨sh1, c.nodes.z, .no, c.nodes.es.take 120⟩), (2, none, W.av), (3, none, .int .i64 c.leaf)] = some p.av := rfl
  have nm : namesV (.ptr 3 0) (.ptr 1 0) = true := rfl
  rw [e2, K6_8_x2, fld0, Option.bind_some, cld0 q3, Option.bind_some, fld1, Option.bind_some, cld1 s2.g0, Option.bind_some, Option.bind_some, cld1 s2.g0, Option.bind_some, len_nl, Option.bind_some, m120, Option.bind_some, en, Option.bind_some, fld2, Option.bind_some, cld2 q3, Option.bind_some, fld3, Option.bind_some, cld3 s2.g0, Option.bind_some, bp, Option.bind_some, cldA q3, Option.bind_some, cstA (y := p) s2.g1, Option.bind_some, cstA (y := r) k2, Option.bind_some, nm, ifB, cldA k3, Option.bind_some, cldA k4, Option.bind_some] at start
  have okW : LOk 30 W.fr := ⟨hW2, hW4, fun t ht => by
    have ht : t ∈ W.es := ht
    rw [hW1] at ht
    obtain ⟨a, _, rfl⟩ := List.mem_map.1 ht
    rfl, fun t ht => by
    have ht : t ∈ W.es := ht
    rw [hW1] at ht
    obtain ⟨a, ha, rfl⟩ := List.mem_map.1 ht
    exact cutW_ok (hc.ws a (List.mem_of_mem_take ha))⟩
  have lW : W.es.length ≤ 120 := by rw [hW1, List.length_map, List.length_take]; omega
  have lO : (c.odds.es.take 40).length ≤ 40 := by rw [List.length_take]; omega
  have lN : (c.nodes.es.take 120).length ≤ 120 := by rw [List.length_take]; omega
  have hkid : ∀ n ∈ c.nodes.es.take 120, n.kids.o = .no := fun n hn => hc.kids n (List.mem_of_mem_take hn)
  have hrow : ∀ l ∈ c.odds.es.take 40, l.o = .no := fun n hn => hc.rows n (List.mem_of_mem_take hn)
  refine ⟨p.fr, r.fr, AP_ofz _ _ (fz_tupC2 p r) rfl start, ⟨?_, ⟨lO, hsh1, lN, okW, lW⟩, rfl, rfl, hW1, rfl, hkid, hrow⟩, ⟨?_, ⟨lO, hN2, by show N.es.length ≤ 120; rw [hN1]; exact lN, okW, lW⟩, rfl, hN1, hW1, rfl, by intro n hn; have hn : n ∈ N.es := hn; rw [hN1] at hn; exact hkid n hn, hrow⟩⟩
  · show (⟨_, _, W.fr.fr, _⟩ : CV) = ⟨_, _, W.fr, _⟩
    rw [hW3]; rfl
  · show (⟨_, N.fr.fr, W.fr.fr, _⟩ : CV) = ⟨_, N.fr, W.fr, _⟩
    rw [hW3, hN3]; rfl
end Go.Ab

/- ProofChecks in values. -/
set_option linter.unusedVariables false
set_option linter.unusedSimpArgs false
set_option maxRecDepth 100000
namespace Go.Ab
open Go.Proofs.Try

def aliveC : CV := ⟨⟨true, .full, []⟩, ⟨some 3, false, .full, [⟨-1, nilI, 4⟩]⟩, ⟨some 3, false, .full, [oneF]⟩, 4⟩
theorem alive_ok : COk 30 aliveC.fr := ⟨by simp [aliveC, CV.fr, OL.fr], .inl rfl, by simp [aliveC, CV.fr, NL.fr], ⟨.inl rfl, (fun h => by cases h), by simp [aliveC, CV.fr, LV.fr, oneF_fr], by
  intro r hr
  have : r = oneF := by simpa [aliveC, CV.fr, LV.fr] using hr
  rw [this]
  exact (canF_one.ok (Bd_one (by omega)) (by omega))⟩, by simp [aliveC, CV.fr, LV.fr]⟩
theorem alive_shaped : shapedB aliveC.fr = true := by
  have h1 : rightR oneF = true := can_rightR canF_one
  simp [shapedB, aliveC, CV.fr, OL.fr, NL.fr, LV.fr, oddsB, nodesB, allF, nodeB, armsI, lens, h1, nilI]
theorem alive_okAt : okAt aliveC.fr 0 = true := by
  unfold okAt
  refine decide_eq_true ?_
  have e1 : wQ aliveC.fr.ws 0 = 1 := canF_one.q
  rw [e1]
  rfl
theorem alive_E : checkE aliveC.fr = 0 ∧ checkQ aliveC.fr = 1 := by
  have e : checkE aliveC.fr = 0 := by
    unfold checkE
    rw [if_pos alive_shaped]
    show (match firstF (okAt aliveC.fr) 1 0 with | none => (0 : Int) | some _ => 32) = 0
    rw [firstF, if_pos alive_okAt]; rfl
  refine ⟨e, ?_⟩
  unfold checkQ
  rw [if_pos e]
  exact canF_one.q
theorem pcall10 {m : Mem} {d : Option Nat} : pcall (AP cfg) d m 10 [] = some (.bool true, m) := by
  have h10 : AP cfg 10 [] = some (.bool true) := by
    obtain ⟨e1, e2⟩ := alive_E
    obtain ⟨r, r1, r2, r3, r4⟩ := V7 alive_ok
    rw [e1] at r1
    rw [e2] at r2
    have e9 := V9 r4 (canF_one.ok (Bd_one (by omega : 1 ≤ 4000)) (by omega)) (by omega) (by omega)
    rw [r2, canF_one.q] at e9
    refine AP_ofz _ _ (fz_bool _) rfl (m := [cC aliveC, cR r]) ?_
    have b1 : buildA (.agg [.int .i64 0, .lst none true .full [], .int .i64 0]) [(0, none, .int .i64 (-1)), (2, none, .int .i64 4)] = some (ND.av ⟨-1, nilI, 4⟩) := rfl
    have b2 : buildSliceA (some 3) [ND.av ⟨-1, nilI, 4⟩] = some (.lst (some 3) false .full [ND.av ⟨-1, nilI, 4⟩]) := rfl
    have b3 : buildA (.agg [.lst none true .full [], .lst none true .full [], .lst none true .full [], .int .i64 0]) [(1, none, .lst (some 3) false .full [ND.av ⟨-1, nilI, 4⟩]), (2, none, .lst (some 3) false .full [oneF.av]), (3, none, .int .i64 4)] = some aliveC.av := rfl
    have start : AC cfg 10 [] [] = AC cfg 10 [] [] := rfl
    conv at start => rhs; rw [T10, b1, Option.bind_some, b2, Option.bind_some, pc0, V21, Option.map_some, Option.bind_some, build_row oneF_fr, Option.bind_some, b3, Option.bind_some]
    simp only [new_cv, new_r, List.length_nil, List.nil_append] at start
    rw [cstA (x := zC) rfl, Option.bind_some] at start
    simp only [List.set_cons_zero] at start
    rw [cldA (x := aliveC) rfl, Option.bind_some, pcall1 (fz_cv _), r1, Option.map_some, Option.bind_some, ex0, Option.bind_some, ex1, Option.bind_some, ex2, Option.bind_some] at start
    simp only [new_z', new_r, List.length_nil, List.nil_append, List.length_cons, List.cons_append, Nat.zero_add] at start
    rw [st1all, Option.bind_some, binA_eql, Option.bind_some, decide_eq_true rfl, ifA_true, ld1all, Option.bind_some, pc0, V21, Option.map_some, Option.bind_some, pcRR, r3, oneF_fr, e9, Option.map_some, Option.bind_some] at start
    rw [start]
    rfl
  rw [pcall0, h10]; rfl
/-! ### Two certificates of the same content -/
theorem check_congr {c p r : CV} (hp : CutOf c p) (hr : CutOf c r) : checkE p = checkE r ∧ checkI p = checkI r ∧ checkQ p = checkQ r ∧ shapedB p = shapedB r := by
  have h1 := hp.odds.trans hr.odds.symm
  have h2 := hp.nodes.trans hr.nodes.symm
  have h3 := hp.ws.trans hr.ws.symm
  have h4 := hp.leaf.trans hr.leaf.symm
  obtain ⟨⟨z1, o1, e1⟩, ⟨s2, z2, o2, e2⟩, ⟨s3, z3, o3, e3⟩, l⟩ := p
  obtain ⟨⟨z1', o1', e1'⟩, ⟨s2', z2', o2', e2'⟩, ⟨s3', z3', o3', e3'⟩, l'⟩ := r
  simp only at h1 h2 h3 h4
  subst h1; subst h2; subst h3; subst h4
  exact ⟨rfl, rfl, rfl, rfl⟩
end Go.Ab

/- ProofOnly in values: the weights follow from all else. -/
set_option linter.unusedVariables false
set_option linter.unusedSimpArgs false
set_option maxRecDepth 100000
namespace Go.Ab
open Go.Proofs.Try

/-! ### Accepted weights are the only ones -/
theorem firstF_none {f : Nat → Bool} : ∀ {j i : Nat}, firstF f j i = none → ∀ k, i ≤ k → k < i + j → f k = true
  | 0, i, _ => fun k h1 h2 => by omega
  | j + 1, i, h => fun k h1 h2 => by
    rw [firstF] at h
    by_cases c : f i = true
    · rw [if_pos c] at h
      by_cases hk : k = i
      · rw [hk]; exact c
      · exact firstF_none h k (by omega) (by omega)
    · rw [if_neg c] at h; cases h
theorem check_ok {c : CV} (h : checkE c = 0) : shapedB c = true ∧ ∀ i (hi : i < c.nodes.es.length), wQ c.ws i = hasQ c.odds c.ws c.leaf c.nodes.es[i] := by
  unfold checkE at h
  by_cases hs : shapedB c = true
  · rw [if_pos hs] at h
    refine ⟨hs, fun i hi => ?_⟩
    cases hf : firstF (okAt c) c.nodes.es.length 0 with
    | some p => rw [hf] at h; cases h
    | none =>
      have := firstF_none hf i (by omega) (by omega)
      unfold okAt at this
      rw [decide_eq_true_iff, getD_nd hi] at this
      exact this
  · rw [if_neg hs] at h; cases h
/-! ### The other weights -/
structure OI (p : CV) (v : AV) (m : Mem) : Prop where
  g0 : m[0]? = some (cC p)
  g1 : m[1]? = some (cB p.odds.av p.nodes.av v p.leaf)
theorem OI.kp {p : CV} {v : AV} {m m' : Mem} (h : OI p v m) (k : KpO m m') : OI p v m' := ⟨k.2 _ _ _ h.g0, k.2 _ _ _ h.g1⟩
theorem OI.put {p : CV} {v v' : AV} {m : Mem} (h : OI p v m) : OI p v' (m.set 1 (cB p.odds.av p.nodes.av v' p.leaf)) :=
  ⟨by rw [List.getElem?_set_ne (by omega)]; exact h.g0, by rw [List.getElem?_set_self (gr_lt h.g1)]⟩
end Go.Ab

/- What the interpreter does, function by function. -/
set_option maxRecDepth 100000
set_option linter.unusedVariables false
namespace Go.Ab
open Go.Proofs.Try
/-! ### sortilege/proof.alike -/
theorem T22 (a0 a1 : AV) (m : Mem) : AC cfg 22 [a0, a1] m =
  (boxA none (some 4) m a0).bind fun r1 =>
  (boxA none (some 4) r1.2 a1).bind fun r2 =>
  (fieldAddrA 0 r1.1).bind fun v3 =>
  (loadA none r2.2 v3).bind fun v4 =>
  (fieldAddrA 0 r2.1).bind fun v5 =>
  (loadA none r2.2 v5).bind fun v6 =>
  (pcall (AP cfg) none r2.2 53 [v4, v6, (.fn 54 [])]).bind fun r7 =>
  ifA r7.1 (
  (fieldAddrA 1 r1.1).bind fun v8 =>
  (loadA none r7.2 v8).bind fun v9 =>
  (fieldAddrA 1 r2.1).bind fun v10 =>
  (loadA none r7.2 v10).bind fun v11 =>
  (pcall (AP cfg) none r7.2 55 [v9, v11, (.fn 56 [])]).bind fun r12 =>
  some (r12.1, r12.2)) (
  some ((.bool false), r7.2)) :=
(AC_eq cfg 22 [a0, a1] m (fn := f22) (c := bodyOf f22) at22 rfl).trans (by kernel_rfl)
/-! ### slices.EqualFunc[[][]int,[][]int,[]int,[]int] -/
def O53_4 (m : Mem) : St := ⟨[.any, .any, .any, .any, .any, .any, .any, .any, .any, .any, .any, .any, .any, .any, .any, .any, .any, .any, .any, .any, .any, .any, .any, .any, .any, .any, .any, .any, .any, .any, .any, .any], m⟩
def R53_4 (x6 : AV) (m : Mem) : St := ⟨[.any, .any, .any, .any, .any, .any, x6, .any, .any, .any, .any, .any, .any, .any, .any, .any, .any, .any, .any, .any, .any, .any, .any, .any, .any, .any, .any, .any, .any, .any, .any, .any], m⟩
noncomputable def L53_4 (x1 x2 x15 x16 x17 : AV) (m : Mem) (K : Ex → St → Option (AV × Mem)) : Option (AV × Mem) := loopW (execW cfg 53 (AP cfg) (AC cfg) (c1 (c1 (c2 (c1 (c2 (c2 (bodyOf f53)))))))) (cfg.mask 53 (some 4)) ⟨[.any, x1, x2, .any, .any, .any, .any, .any, .any, .any, .any, .any, .any, .any, .any, x15, x16, x17, .any, .any, .any, .any, .any, .any, .any, .any, .any, .any, .any, .any, .any, .any], m⟩ K
noncomputable abbrev K53_4_0 (K : Ex → St → Option (AV × Mem)) : Ex → St → Option (AV × Mem) := seqK (fun st => execW cfg 53 (AP cfg) (AC cfg) (c2 (c2 (c2 (bodyOf f53)))) st K) K
noncomputable abbrev K53_4_1 (K : Ex → St → Option (AV × Mem)) : Ex → St → Option (AV × Mem) := blockK 0 (K53_4_0 K)
noncomputable abbrev K53_4 (K : Ex → St → Option (AV × Mem)) : Ex → St → Option (AV × Mem) := (K53_4_1 K)
theorem T53 (a0 a1 a2 : AV) (m : Mem) : AC cfg 53 [a0, a1, a2] m =
  (lenA false a0).bind fun v1 =>
  (lenA false a1).bind fun v2 =>
  (binA .other .neq v1 v2).bind fun v3 =>
  ifA v3 (
  some ((.bool false), m)) (
  (lenA false a0).bind fun v4 =>
  L53_4 a1 a2 a0 v4 (.int .i64 0) m (K53_4 (finK cfg.P f53.results.toList))) :=
(AC_eq cfg 53 [a0, a1, a2] m (fn := f53) (c := bodyOf f53) at53 rfl).trans (by kernel_rfl)
theorem L53_4_eq (x1 x2 x15 x16 x17 : AV) (m : Mem) (K : Ex → St → Option (AV × Mem)) : L53_4 x1 x2 x15 x16 x17 m K =
  (binA .other .lss x17 x16).bind fun v1 =>
  ifA v1 (
  (indexAddrA none x15 x17).bind fun v2 =>
  (loadA none m v2).bind fun v3 =>
  (indexAddrA none x1 x17).bind fun v4 =>
  (loadA none m v4).bind fun v5 =>
  (fnOf x2).bind fun g6 =>
  callK cfg 53 (AP cfg) (AC cfg) none g6.1 ([v3, v5] ++ g6.2) m fun v7 m8 =>
  (unA .not v7).bind fun v9 =>
  ifA v9 (
  K .ret (R53_4 (.bool false) m8)) (
  (binA .other .add x17 (.int .i64 1)).bind fun v10 =>
  L53_4 x1 x2 x15 x16 v10 m8 K)) (
  K (.exit 0) (O53_4 m)) :=
(loopW_eq (execW_lin _) _ _ _).trans (by kernel_rfl)
theorem K53_4_x0 (m : Mem) : K53_4 (finK cfg.P f53.results.toList) (.exit 0) (O53_4  m) =
  some ((.bool true), m) := by kernel_rfl
theorem K53_4_ret (x6 : AV) (m : Mem) : K53_4 (finK cfg.P f53.results.toList) .ret (R53_4 x6 m) =
  some (x6, m) := by kernel_rfl
/-! ### slices.Equal[[]int,int] -/
def O54_4 (m : Mem) : St := ⟨[.any, .any, .any, .any, .any, .any, .any, .any, .any, .any, .any, .any, .any, .any, .any, .any, .any, .any, .any, .any, .any, .any, .any, .any, .any, .any], m⟩
def R54_4 (x4 : AV) (m : Mem) : St := ⟨[.any, .any, .any, .any, x4, .any, .any, .any, .any, .any, .any, .any, .any, .any, .any, .any, .any, .any, .any, .any, .any, .any, .any, .any, .any, .any], m⟩
noncomputable def L54_4 (x0 x1 x12 x13 : AV) (m : Mem) (K : Ex → St → Option (AV × Mem)) : Option (AV × Mem) := loopW (execW cfg 54 (AP cfg) (AC cfg) (c1 (c1 (c2 (c1 (c2 (c2 (bodyOf f54)))))))) (cfg.mask 54 (some 4)) ⟨[x0, x1, .any, .any, .any, .any, .any, .any, .any, .any, .any, .any, x12, x13, .any, .any, .any, .any, .any, .any, .any, .any, .any, .any, .any, .any], m⟩ K
noncomputable abbrev K54_4_0 (K : Ex → St → Option (AV × Mem)) : Ex → St → Option (AV × Mem) := seqK (fun st => execW cfg 54 (AP cfg) (AC cfg) (c2 (c2 (c2 (bodyOf f54)))) st K) K
noncomputable abbrev K54_4_1 (K : Ex → St → Option (AV × Mem)) : Ex → St → Option (AV × Mem) := blockK 0 (K54_4_0 K)
noncomputable abbrev K54_4 (K : Ex → St → Option (AV × Mem)) : Ex → St → Option (AV × Mem) := (K54_4_1 K)
theorem T54 (a0 a1 : AV) (m : Mem) : AC cfg 54 [a0, a1] m =
  (lenA false a0).bind fun v1 =>
  (lenA false a1).bind fun v2 =>
  (binA .other .neq v1 v2).bind fun v3 =>
  ifA v3 (
  some ((.bool false), m)) (
  (lenA false a0).bind fun v4 =>
  L54_4 a0 a1 v4 (.int .i64 0) m (K54_4 (finK cfg.P f54.results.toList))) :=
(AC_eq cfg 54 [a0, a1] m (fn := f54) (c := bodyOf f54) at54 rfl).trans (by kernel_rfl)
theorem L54_4_eq (x0 x1 x12 x13 : AV) (m : Mem) (K : Ex → St → Option (AV × Mem)) : L54_4 x0 x1 x12 x13 m K =
  (binA .other .lss x13 x12).bind fun v1 =>
  ifA v1 (
  (indexAddrA none x0 x13).bind fun v2 =>
  (loadA none m v2).bind fun v3 =>
  (indexAddrA none x1 x13).bind fun v4 =>
  (loadA none m v4).bind fun v5 =>
  (binA .other .neq v3 v5).bind fun v6 =>
  ifA v6 (
  K .ret (R54_4 (.bool false) m)) (
  (binA .other .add x13 (.int .i64 1)).bind fun v7 =>
  L54_4 x0 x1 x12 v7 m K)) (
  K (.exit 0) (O54_4 m)) :=
(loopW_eq (execW_lin _) _ _ _).trans (by kernel_rfl)
theorem K54_4_x0 (m : Mem) : K54_4 (finK cfg.P f54.results.toList) (.exit 0) (O54_4  m) =
  some ((.bool true), m) := by kernel_rfl
theorem K54_4_ret (x4 : AV) (m : Mem) : K54_4 (finK cfg.P f54.results.toList) .ret (R54_4 x4 m) =
  some (x4, m) := by kernel_rfl
/-! ### slices.EqualFunc[[]sortilege/diagram.Node,[]sortilege/diagram.Node,sortilege/diagram.Node,sortilege/diagram.Node] -/
def O55_4 (m : Mem) : St := ⟨[.any, .any, .any, .any, .any, .any, .any, .any, .any, .any, .any, .any, .any, .any, .any, .any, .any, .any, .any, .any, .any, .any, .any, .any, .any, .any, .any, .any, .any, .any, .any, .any], m⟩
def R55_4 (x6 : AV) (m : Mem) : St := ⟨[.any, .any, .any, .any, .any, .any, x6, .any, .any, .any, .any, .any, .any, .any, .any, .any, .any, .any, .any, .any, .any, .any, .any, .any, .any, .any, .any, .any, .any, .any, .any, .any], m⟩
noncomputable def L55_4 (x1 x2 x15 x16 x17 : AV) (m : Mem) (K : Ex → St → Option (AV × Mem)) : Option (AV × Mem) := loopW (execW cfg 55 (AP cfg) (AC cfg) (c1 (c1 (c2 (c1 (c2 (c2 (bodyOf f55)))))))) (cfg.mask 55 (some 4)) ⟨[.any, x1, x2, .any, .any, .any, .any, .any, .any, .any, .any, .any, .any, .any, .any, x15, x16, x17, .any, .any, .any, .any, .any, .any, .any, .any, .any, .any, .any, .any, .any, .any], m⟩ K
noncomputable abbrev K55_4_0 (K : Ex → St → Option (AV × Mem)) : Ex → St → Option (AV × Mem) := seqK (fun st => execW cfg 55 (AP cfg) (AC cfg) (c2 (c2 (c2 (bodyOf f55)))) st K) K
noncomputable abbrev K55_4_1 (K : Ex → St → Option (AV × Mem)) : Ex → St → Option (AV × Mem) := blockK 0 (K55_4_0 K)
noncomputable abbrev K55_4 (K : Ex → St → Option (AV × Mem)) : Ex → St → Option (AV × Mem) := (K55_4_1 K)
theorem T55 (a0 a1 a2 : AV) (m : Mem) : AC cfg 55 [a0, a1, a2] m =
  (lenA false a0).bind fun v1 =>
  (lenA false a1).bind fun v2 =>
  (binA .other .neq v1 v2).bind fun v3 =>
  ifA v3 (
  some ((.bool false), m)) (
  (lenA false a0).bind fun v4 =>
  L55_4 a1 a2 a0 v4 (.int .i64 0) m (K55_4 (finK cfg.P f55.results.toList))) :=
(AC_eq cfg 55 [a0, a1, a2] m (fn := f55) (c := bodyOf f55) at55 rfl).trans (by kernel_rfl)
theorem L55_4_eq (x1 x2 x15 x16 x17 : AV) (m : Mem) (K : Ex → St → Option (AV × Mem)) : L55_4 x1 x2 x15 x16 x17 m K =
  (binA .other .lss x17 x16).bind fun v1 =>
  ifA v1 (
  (indexAddrA (some 3) x15 x17).bind fun v2 =>
  (loadA (some 3) m v2).bind fun v3 =>
  (storeA (some 3) (newAt none m (.obj true [(.int .i64 0), (.lst none true .full []), (.int .i64 0)])).2 (.ptr (newAt none m .resv).1 0) v3).bind fun m4 =>
  (indexAddrA (some 3) x1 x17).bind fun v5 =>
  (loadA (some 3) m4 v5).bind fun v6 =>
  (storeA (some 3) (newAt none m4 (.obj true [(.int .i64 0), (.lst none true .full []), (.int .i64 0)])).2 (.ptr (newAt none m4 .resv).1 0) v6).bind fun m7 =>
  (loadA (some 3) m7 (.ptr (newAt none m .resv).1 0)).bind fun v8 =>
  (loadA (some 3) m7 (.ptr (newAt none m4 .resv).1 0)).bind fun v9 =>
  (fnOf x2).bind fun g10 =>
  callK cfg 55 (AP cfg) (AC cfg) none g10.1 ([v8, v9] ++ g10.2) m7 fun v11 m12 =>
  (unA .not v11).bind fun v13 =>
  ifA v13 (
  K .ret (R55_4 (.bool false) m12)) (
  (binA .other .add x17 (.int .i64 1)).bind fun v14 =>
  L55_4 x1 x2 x15 x16 v14 m12 K)) (
  K (.exit 0) (O55_4 m)) :=
(loopW_eq (execW_lin _) _ _ _).trans (by kernel_rfl)
theorem K55_4_x0 (m : Mem) : K55_4 (finK cfg.P f55.results.toList) (.exit 0) (O55_4  m) =
  some ((.bool true), m) := by kernel_rfl
theorem K55_4_ret (x6 : AV) (m : Mem) : K55_4 (finK cfg.P f55.results.toList) .ret (R55_4 x6 m) =
  some (x6, m) := by kernel_rfl
/-! ### sortilege/proof.alike$1 -/
theorem T56 (a0 a1 : AV) (m : Mem) : AC cfg 56 [a0, a1] m =
  (boxA none (some 3) m a0).bind fun r1 =>
  (boxA none (some 3) r1.2 a1).bind fun r2 =>
  (fieldAddrA 0 r1.1).bind fun v3 =>
  (loadA none r2.2 v3).bind fun v4 =>
  (fieldAddrA 0 r2.1).bind fun v5 =>
  (loadA none r2.2 v5).bind fun v6 =>
  (binA .other .eql v4 v6).bind fun v7 =>
  ifA v7 (
  (fieldAddrA 2 r1.1).bind fun v8 =>
  (loadA none r2.2 v8).bind fun v9 =>
  (fieldAddrA 2 r2.1).bind fun v10 =>
  (loadA none r2.2 v10).bind fun v11 =>
  (binA .other .eql v9 v11).bind fun v12 =>
  ifA v12 (
  (fieldAddrA 1 r1.1).bind fun v13 =>
  (loadA none r2.2 v13).bind fun v14 =>
  (fieldAddrA 1 r2.1).bind fun v15 =>
  (loadA none r2.2 v15).bind fun v16 =>
  (pcall (AP cfg) none r2.2 54 [v14, v16]).bind fun r17 =>
  some (r17.1, r17.2)) (
  some ((.bool false), r2.2))) (
  some ((.bool false), r2.2)) :=
(AC_eq cfg 56 [a0, a1] m (fn := f56) (c := bodyOf f56) at56 rfl).trans (by kernel_rfl)
/-! ### sortilege/proof.Whole -/
def O11_3 (x3 : AV) (m : Mem) : St := ⟨[.any, .any, .any, x3, .any, .any, .any, .any, .any, .any, .any, .any, .any, .any, .any, .any, .any, .any, .any, .any, .any, .any, .any, .any, .any, .any, .any, .any, .any, .any, .any, .any, .any, .any, .any, .any, .any, .any, .any, .any, .any, .any, .any, .any, .any, .any, .any, .any, .any, .any, .any, .any, .any, .any, .any, .any, .any], m⟩
def R11_3 (x2 : AV) (m : Mem) : St := ⟨[.any, .any, x2, .any, .any, .any, .any, .any, .any, .any, .any, .any, .any, .any, .any, .any, .any, .any, .any, .any, .any, .any, .any, .any, .any, .any, .any, .any, .any, .any, .any, .any, .any, .any, .any, .any, .any, .any, .any, .any, .any, .any, .any, .any, .any, .any, .any, .any, .any, .any, .any, .any, .any, .any, .any, .any, .any], m⟩
noncomputable def L11_3 (x0 x3 x10 x11 x12 : AV) (m : Mem) (K : Ex → St → Option (AV × Mem)) : Option (AV × Mem) := loopW (execW cfg 11 (AP cfg) (AC cfg) (c1 (c1 (c2 (c1 (c2 (c2 (bodyOf f11)))))))) (cfg.mask 11 (some 3)) ⟨[x0, .any, .any, x3, .any, .any, .any, .any, .any, .any, x10, x11, x12, .any, .any, .any, .any, .any, .any, .any, .any, .any, .any, .any, .any, .any, .any, .any, .any, .any, .any, .any, .any, .any, .any, .any, .any, .any, .any, .any, .any, .any, .any, .any, .any, .any, .any, .any, .any, .any, .any, .any, .any, .any, .any, .any, .any], m⟩ K
noncomputable abbrev K11_3_0 (K : Ex → St → Option (AV × Mem)) : Ex → St → Option (AV × Mem) := seqK (fun st => execW cfg 11 (AP cfg) (AC cfg) (c2 (c2 (c2 (bodyOf f11)))) st K) K
noncomputable abbrev K11_3_1 (K : Ex → St → Option (AV × Mem)) : Ex → St → Option (AV × Mem) := blockK 0 (K11_3_0 K)
noncomputable abbrev K11_3 (K : Ex → St → Option (AV × Mem)) : Ex → St → Option (AV × Mem) := (K11_3_1 K)
theorem T11 (a0 : AV) (m : Mem) : AC cfg 11 [a0] m =
  (pcall (AP cfg) none m 17 []).bind fun r1 =>
  (storeA (some 3) (newAt none r1.2 (.obj true [(.bool false), (.lst none true .full []), (.lst none true .full [])])).2 (.ptr (newAt none r1.2 .resv).1 0) r1.1).bind fun m2 =>
  (lenA false a0).bind fun v3 =>
  L11_3 a0 (.ptr (newAt none r1.2 .resv).1 0) a0 v3 (.int .i64 0) m2 (K11_3 (finK cfg.P f11.results.toList)) :=
(AC_eq cfg 11 [a0] m (fn := f11) (c := bodyOf f11) at11 rfl).trans (by kernel_rfl)
theorem L11_3_eq (x0 x3 x10 x11 x12 : AV) (m : Mem) (K : Ex → St → Option (AV × Mem)) : L11_3 x0 x3 x10 x11 x12 m K =
  (binA .other .lss x12 x11).bind fun v1 =>
  ifA v1 (
  (indexAddrA (some 4) x10 x12).bind fun v2 =>
  (loadA (some 4) m v2).bind fun v3 =>
  (storeA (some 4) (newAt none m (.obj true [(.lst none true .full []), (.lst none true .full []), (.lst none true .full []), (.int .i64 0)])).2 (.ptr (newAt none m .resv).1 0) v3).bind fun m4 =>
  (loadA (some 4) m4 (.ptr (newAt none m .resv).1 0)).bind fun v5 =>
  (pcall (AP cfg) none m4 7 [v5]).bind fun r6 =>
  (extractA r6.1 0).bind fun v7 =>
  (extractA r6.1 1).bind fun v8 =>
  (extractA r6.1 2).bind fun v9 =>
  (storeA (some 3) (newAt none r6.2 (.obj true [(.bool false), (.lst none true .full []), (.lst none true .full [])])).2 (.ptr (newAt none r6.2 .resv).1 0) v7).bind fun m10 =>
  (binA .other .neq v9 (.int .i64 0)).bind fun v11 =>
  ifA v11 (
  K .ret (R11_3 (.bool false) m10)) (
  (binA .other .gtr x12 (.int .i64 0)).bind fun v12 =>
  ifA v12 (
  (binA .other .sub x12 (.int .i64 1)).bind fun v13 =>
  (indexAddrA (some 4) x0 v13).bind fun v14 =>
  (loadA (some 4) m10 v14).bind fun v15 =>
  (loadA (some 4) m10 (.ptr (newAt none m .resv).1 0)).bind fun v16 =>
  (pcall (AP cfg) (some m10.length) m10 22 [v15, v16]).bind fun r17 =>
  (unA .not r17.1).bind fun v18 =>
  ifA v18 (
  K .ret (R11_3 (.bool false) r17.2)) (
  (binA .other .sub x12 (.int .i64 1)).bind fun v19 =>
  (indexAddrA (some 4) x0 v19).bind fun v20 =>
  (fieldAddrA 3 v20).bind fun v21 =>
  (loadA none r17.2 v21).bind fun v22 =>
  (fieldAddrA 3 (.ptr (newAt none m .resv).1 0)).bind fun v23 =>
  (loadA none r17.2 v23).bind fun v24 =>
  (binA .other .geq v22 v24).bind fun v25 =>
  ifA v25 (
  K .ret (R11_3 (.bool false) r17.2)) (
  (loadA (some 3) r17.2 x3).bind fun v26 =>
  (loadA (some 3) r17.2 (.ptr (newAt none r6.2 .resv).1 0)).bind fun v27 =>
  (pcall (AP cfg) none r17.2 16 [v26, v27]).bind fun r28 =>
  (storeA (some 3) r28.2 x3 r28.1).bind fun m29 =>
  (binA .other .add x12 (.int .i64 1)).bind fun v30 =>
  L11_3 x0 x3 x10 x11 v30 m29 K))) (
  (loadA (some 3) m10 x3).bind fun v31 =>
  (loadA (some 3) m10 (.ptr (newAt none r6.2 .resv).1 0)).bind fun v32 =>
  (pcall (AP cfg) none m10 16 [v31, v32]).bind fun r33 =>
  (storeA (some 3) r33.2 x3 r33.1).bind fun m34 =>
  (binA .other .add x12 (.int .i64 1)).bind fun v35 =>
  L11_3 x0 x3 x10 x11 v35 m34 K))) (
  K (.exit 0) (O11_3 x3 m)) :=
(loopW_eq (execW_lin _) _ _ _).trans (by kernel_rfl)
theorem K11_3_x0 (x3 : AV) (m : Mem) : K11_3 (finK cfg.P f11.results.toList) (.exit 0) (O11_3 x3 m) =
  (loadA (some 3) m x3).bind fun v1 =>
  (pcall (AP cfg) (some m.length) m 23 []).bind fun r2 =>
  (pcall (AP cfg) (some m.length) r2.2 14 [v1, r2.1]).bind fun r3 =>
  some (r3.1, r3.2) := by kernel_rfl
theorem K11_3_ret (x2 : AV) (m : Mem) : K11_3 (finK cfg.P f11.results.toList) .ret (R11_3 x2 m) =
  some (x2, m) := by kernel_rfl
/-! ### sortilege/sortilegeref25.sameOdds -/
def O25_4 (m : Mem) : St := ⟨[.any, .any, .any, .any, .any, .any, .any, .any, .any, .any, .any, .any, .any, .any, .any, .any, .any, .any, .any, .any, .any, .any, .any, .any, .any, .any, .any, .any, .any, .any, .any, .any, .any, .any, .any, .any, .any, .any, .any, .any, .any, .any, .any, .any, .any, .any, .any, .any, .any, .any, .any, .any, .any], m⟩
def R25_4 (x4 : AV) (m : Mem) : St := ⟨[.any, .any, .any, .any, x4, .any, .any, .any, .any, .any, .any, .any, .any, .any, .any, .any, .any, .any, .any, .any, .any, .any, .any, .any, .any, .any, .any, .any, .any, .any, .any, .any, .any, .any, .any, .any, .any, .any, .any, .any, .any, .any, .any, .any, .any, .any, .any, .any, .any, .any, .any, .any, .any], m⟩
noncomputable def L25_4 (x0 x1 x13 x14 : AV) (m : Mem) (K : Ex → St → Option (AV × Mem)) : Option (AV × Mem) := loopW (execW cfg 25 (AP cfg) (AC cfg) (c1 (c1 (c2 (c1 (c2 (c2 (bodyOf f25)))))))) (cfg.mask 25 (some 4)) ⟨[x0, x1, .any, .any, .any, .any, .any, .any, .any, .any, .any, .any, .any, x13, x14, .any, .any, .any, .any, .any, .any, .any, .any, .any, .any, .any, .any, .any, .any, .any, .any, .any, .any, .any, .any, .any, .any, .any, .any, .any, .any, .any, .any, .any, .any, .any, .any, .any, .any, .any, .any, .any, .any], m⟩ K
def O25_9 (x0 x1 x13 x14 : AV) (m : Mem) : St := ⟨[x0, x1, .any, .any, .any, .any, .any, .any, .any, .any, .any, .any, .any, x13, x14, .any, .any, .any, .any, .any, .any, .any, .any, .any, .any, .any, .any, .any, .any, .any, .any, .any, .any, .any, .any, .any, .any, .any, .any, .any, .any, .any, .any, .any, .any, .any, .any, .any, .any, .any, .any, .any, .any], m⟩
def R25_9 (x4 : AV) (m : Mem) : St := ⟨[.any, .any, .any, .any, x4, .any, .any, .any, .any, .any, .any, .any, .any, .any, .any, .any, .any, .any, .any, .any, .any, .any, .any, .any, .any, .any, .any, .any, .any, .any, .any, .any, .any, .any, .any, .any, .any, .any, .any, .any, .any, .any, .any, .any, .any, .any, .any, .any, .any, .any, .any, .any, .any], m⟩
noncomputable def L25_9 (x0 x1 x5 x13 x14 x32 x33 : AV) (m : Mem) (K : Ex → St → Option (AV × Mem)) : Option (AV × Mem) := loopW (execW cfg 25 (AP cfg) (AC cfg) (c1 (c1 (c2 (c2 (c2 (c1 (c1 (c2 (c2 (c1 (c1 (c2 (c1 (c2 (c2 (bodyOf f25))))))))))))))))) (cfg.mask 25 (some 9)) ⟨[x0, x1, .any, .any, .any, x5, .any, .any, .any, .any, .any, .any, .any, x13, x14, .any, .any, .any, .any, .any, .any, .any, .any, .any, .any, .any, .any, .any, .any, .any, .any, .any, x32, x33, .any, .any, .any, .any, .any, .any, .any, .any, .any, .any, .any, .any, .any, .any, .any, .any, .any, .any, .any], m⟩ K
noncomputable abbrev K25_4_0 (K : Ex → St → Option (AV × Mem)) : Ex → St → Option (AV × Mem) := seqK (fun st => execW cfg 25 (AP cfg) (AC cfg) (c2 (c2 (c2 (bodyOf f25)))) st K) K
noncomputable abbrev K25_4_1 (K : Ex → St → Option (AV × Mem)) : Ex → St → Option (AV × Mem) := blockK 0 (K25_4_0 K)
noncomputable abbrev K25_4 (K : Ex → St → Option (AV × Mem)) : Ex → St → Option (AV × Mem) := (K25_4_1 K)
noncomputable abbrev K25_9_0 (K : Ex → St → Option (AV × Mem)) : Ex → St → Option (AV × Mem) := seqK (fun st => execW cfg 25 (AP cfg) (AC cfg) (c2 (c2 (c2 (c1 (c1 (c2 (c1 (c2 (c2 (bodyOf f25)))))))))) st (roundG (fun st => loopW (execW cfg 25 (AP cfg) (AC cfg) (c1 (c1 (c2 (c1 (c2 (c2 (bodyOf f25)))))))) (cfg.mask 25 (some 4)) st K) (cfg.mask 25 (some 4)) K)) (roundG (fun st => loopW (execW cfg 25 (AP cfg) (AC cfg) (c1 (c1 (c2 (c1 (c2 (c2 (bodyOf f25)))))))) (cfg.mask 25 (some 4)) st K) (cfg.mask 25 (some 4)) K)
noncomputable abbrev K25_9_1 (K : Ex → St → Option (AV × Mem)) : Ex → St → Option (AV × Mem) := blockK 1 (K25_9_0 K)
noncomputable abbrev K25_9_2 (K : Ex → St → Option (AV × Mem)) : Ex → St → Option (AV × Mem) := blockK 2 (K25_9_1 K)
noncomputable abbrev K25_9 (K : Ex → St → Option (AV × Mem)) : Ex → St → Option (AV × Mem) := (K25_9_2 K)
theorem T25 (a0 a1 : AV) (m : Mem) : AC cfg 25 [a0, a1] m =
  (lenA false a0).bind fun v1 =>
  (lenA false a1).bind fun v2 =>
  (binA .other .neq v1 v2).bind fun v3 =>
  ifA v3 (
  some ((.bool false), m)) (
  (lenA false a0).bind fun v4 =>
  L25_4 a0 a1 v4 (.int .i64 0) m (K25_4 (finK cfg.P f25.results.toList))) :=
(AC_eq cfg 25 [a0, a1] m (fn := f25) (c := bodyOf f25) at25 rfl).trans (by kernel_rfl)
theorem L25_4_eq (x0 x1 x13 x14 : AV) (m : Mem) (K : Ex → St → Option (AV × Mem)) : L25_4 x0 x1 x13 x14 m K =
  (binA .other .lss x14 x13).bind fun v1 =>
  ifA v1 (
  (indexAddrA none x0 x14).bind fun v2 =>
  (loadA none m v2).bind fun v3 =>
  (lenA false v3).bind fun v4 =>
  (indexAddrA none x1 x14).bind fun v5 =>
  (loadA none m v5).bind fun v6 =>
  (lenA false v6).bind fun v7 =>
  (binA .other .neq v4 v7).bind fun v8 =>
  ifA v8 (
  K .ret (R25_4 (.bool false) m)) (
  (indexAddrA none x0 x14).bind fun v9 =>
  (loadA none m v9).bind fun v10 =>
  (lenA false v10).bind fun v11 =>
  L25_9 x0 x1 x14 x13 x14 v11 (.int .i64 0) m (K25_9 K))) (
  K (.exit 0) (O25_4 m)) :=
(loopW_eq (execW_lin _) _ _ _).trans (by kernel_rfl)
theorem L25_9_eq (x0 x1 x5 x13 x14 x32 x33 : AV) (m : Mem) (K : Ex → St → Option (AV × Mem)) : L25_9 x0 x1 x5 x13 x14 x32 x33 m K =
  (binA .other .lss x33 x32).bind fun v1 =>
  ifA v1 (
  (indexAddrA none x0 x5).bind fun v2 =>
  (loadA none m v2).bind fun v3 =>
  (indexAddrA none v3 x33).bind fun v4 =>
  (loadA none m v4).bind fun v5 =>
  (indexAddrA none x1 x5).bind fun v6 =>
  (loadA none m v6).bind fun v7 =>
  (indexAddrA none v7 x33).bind fun v8 =>
  (loadA none m v8).bind fun v9 =>
  (binA .other .neq v5 v9).bind fun v10 =>
  ifA v10 (
  K .ret (R25_9 (.bool false) m)) (
  (binA .other .add x33 (.int .i64 1)).bind fun v11 =>
  L25_9 x0 x1 x5 x13 x14 x32 v11 m K)) (
  K (.exit 2) (O25_9 x0 x1 x13 x14 m)) :=
(loopW_eq (execW_lin _) _ _ _).trans (by kernel_rfl)
theorem K25_4_x0 (m : Mem) : K25_4 (finK cfg.P f25.results.toList) (.exit 0) (O25_4  m) =
  some ((.bool true), m) := by kernel_rfl
theorem K25_4_ret (x4 : AV) (m : Mem) : K25_4 (finK cfg.P f25.results.toList) .ret (R25_4 x4 m) =
  some (x4, m) := by kernel_rfl
theorem K25_9_x2 (x0 x1 x13 x14 : AV) (m : Mem) (K : Ex → St → Option (AV × Mem)) : K25_9 K (.exit 2) (O25_9 x0 x1 x13 x14 m) =
  (binA .other .add x14 (.int .i64 1)).bind fun v1 =>
  L25_4 x0 x1 x13 v1 m K := by kernel_rfl
theorem K25_9_ret (x4 : AV) (m : Mem) (K : Ex → St → Option (AV × Mem)) : K25_9 K .ret (R25_9 x4 m) =
  K .ret (R25_4 x4 m) := by kernel_rfl
/-! ### sortilege/sortilegeref23.SameList -/
def O26_4 (m : Mem) : St := ⟨[.any, .any, .any, .any, .any, .any, .any, .any, .any, .any, .any, .any, .any, .any, .any, .any, .any, .any, .any, .any, .any, .any, .any, .any, .any, .any, .any], m⟩
def R26_4 (x4 : AV) (m : Mem) : St := ⟨[.any, .any, .any, .any, x4, .any, .any, .any, .any, .any, .any, .any, .any, .any, .any, .any, .any, .any, .any, .any, .any, .any, .any, .any, .any, .any, .any], m⟩
noncomputable def L26_4 (x0 x1 x12 x13 : AV) (m : Mem) (K : Ex → St → Option (AV × Mem)) : Option (AV × Mem) := loopW (execW cfg 26 (AP cfg) (AC cfg) (c1 (c1 (c2 (c1 (c2 (c2 (bodyOf f26)))))))) (cfg.mask 26 (some 4)) ⟨[x0, x1, .any, .any, .any, .any, .any, .any, .any, .any, .any, .any, x12, x13, .any, .any, .any, .any, .any, .any, .any, .any, .any, .any, .any, .any, .any], m⟩ K
noncomputable abbrev K26_4_0 (K : Ex → St → Option (AV × Mem)) : Ex → St → Option (AV × Mem) := seqK (fun st => execW cfg 26 (AP cfg) (AC cfg) (c2 (c2 (c2 (bodyOf f26)))) st K) K
noncomputable abbrev K26_4_1 (K : Ex → St → Option (AV × Mem)) : Ex → St → Option (AV × Mem) := blockK 0 (K26_4_0 K)
noncomputable abbrev K26_4 (K : Ex → St → Option (AV × Mem)) : Ex → St → Option (AV × Mem) := (K26_4_1 K)
theorem T26 (a0 a1 : AV) (m : Mem) : AC cfg 26 [a0, a1] m =
  (lenA false a0).bind fun v1 =>
  (lenA false a1).bind fun v2 =>
  (binA .other .neq v1 v2).bind fun v3 =>
  ifA v3 (
  some ((.bool false), m)) (
  (lenA false a0).bind fun v4 =>
  L26_4 a0 a1 v4 (.int .i64 0) m (K26_4 (finK cfg.P f26.results.toList))) :=
(AC_eq cfg 26 [a0, a1] m (fn := f26) (c := bodyOf f26) at26 rfl).trans (by kernel_rfl)
theorem L26_4_eq (x0 x1 x12 x13 : AV) (m : Mem) (K : Ex → St → Option (AV × Mem)) : L26_4 x0 x1 x12 x13 m K =
  (binA .other .lss x13 x12).bind fun v1 =>
  ifA v1 (
  (indexAddrA (some 3) x0 x13).bind fun v2 =>
  (loadA (some 3) m v2).bind fun v3 =>
  (indexAddrA (some 3) x1 x13).bind fun v4 =>
  (loadA (some 3) m v4).bind fun v5 =>
  (pcall (AP cfg) (some m.length) m 57 [v3, v5]).bind fun r6 =>
  (unA .not r6.1).bind fun v7 =>
  ifA v7 (
  K .ret (R26_4 (.bool false) r6.2)) (
  (binA .other .add x13 (.int .i64 1)).bind fun v8 =>
  L26_4 x0 x1 x12 v8 r6.2 K)) (
  K (.exit 0) (O26_4 m)) :=
(loopW_eq (execW_lin _) _ _ _).trans (by kernel_rfl)
theorem K26_4_x0 (m : Mem) : K26_4 (finK cfg.P f26.results.toList) (.exit 0) (O26_4  m) =
  some ((.bool true), m) := by kernel_rfl
theorem K26_4_ret (x4 : AV) (m : Mem) : K26_4 (finK cfg.P f26.results.toList) .ret (R26_4 x4 m) =
  some (x4, m) := by kernel_rfl
/-! ### sortilege/sortilegeref23.sameNode -/
def O57_4 (m : Mem) : St := ⟨[.any, .any, .any, .any, .any, .any, .any, .any, .any, .any, .any, .any, .any, .any, .any, .any, .any, .any, .any, .any, .any, .any, .any, .any, .any, .any, .any, .any, .any, .any, .any, .any, .any, .any, .any, .any, .any, .any, .any, .any, .any, .any, .any, .any, .any], m⟩
def R57_4 (x4 : AV) (m : Mem) : St := ⟨[.any, .any, .any, .any, x4, .any, .any, .any, .any, .any, .any, .any, .any, .any, .any, .any, .any, .any, .any, .any, .any, .any, .any, .any, .any, .any, .any, .any, .any, .any, .any, .any, .any, .any, .any, .any, .any, .any, .any, .any, .any, .any, .any, .any, .any], m⟩
noncomputable def L57_4 (x2 x3 x29 x30 : AV) (m : Mem) (K : Ex → St → Option (AV × Mem)) : Option (AV × Mem) := loopW (execW cfg 57 (AP cfg) (AC cfg) (c1 (c1 (c2 (c1 (c2 (c2 (bodyOf f57)))))))) (cfg.mask 57 (some 4)) ⟨[.any, .any, x2, x3, .any, .any, .any, .any, .any, .any, .any, .any, .any, .any, .any, .any, .any, .any, .any, .any, .any, .any, .any, .any, .any, .any, .any, .any, .any, x29, x30, .any, .any, .any, .any, .any, .any, .any, .any, .any, .any, .any, .any, .any, .any], m⟩ K
noncomputable abbrev K57_4_0 (K : Ex → St → Option (AV × Mem)) : Ex → St → Option (AV × Mem) := seqK (fun st => execW cfg 57 (AP cfg) (AC cfg) (c2 (c2 (c2 (bodyOf f57)))) st K) K
noncomputable abbrev K57_4_1 (K : Ex → St → Option (AV × Mem)) : Ex → St → Option (AV × Mem) := blockK 0 (K57_4_0 K)
noncomputable abbrev K57_4 (K : Ex → St → Option (AV × Mem)) : Ex → St → Option (AV × Mem) := (K57_4_1 K)
theorem T57 (a0 a1 : AV) (m : Mem) : AC cfg 57 [a0, a1] m =
  (boxA none (some 3) m a0).bind fun r1 =>
  (boxA none (some 3) r1.2 a1).bind fun r2 =>
  (fieldAddrA 0 r1.1).bind fun v3 =>
  (loadA none r2.2 v3).bind fun v4 =>
  (fieldAddrA 0 r2.1).bind fun v5 =>
  (loadA none r2.2 v5).bind fun v6 =>
  (binA .other .neq v4 v6).bind fun v7 =>
  ifA v7 (
  some ((.bool false), r2.2)) (
  (fieldAddrA 2 r1.1).bind fun v8 =>
  (loadA none r2.2 v8).bind fun v9 =>
  (fieldAddrA 2 r2.1).bind fun v10 =>
  (loadA none r2.2 v10).bind fun v11 =>
  (binA .other .neq v9 v11).bind fun v12 =>
  ifA v12 (
  some ((.bool false), r2.2)) (
  (fieldAddrA 1 r1.1).bind fun v13 =>
  (loadA none r2.2 v13).bind fun v14 =>
  (lenA false v14).bind fun v15 =>
  (fieldAddrA 1 r2.1).bind fun v16 =>
  (loadA none r2.2 v16).bind fun v17 =>
  (lenA false v17).bind fun v18 =>
  (binA .other .neq v15 v18).bind fun v19 =>
  ifA v19 (
  some ((.bool false), r2.2)) (
  (fieldAddrA 1 r1.1).bind fun v20 =>
  (loadA none r2.2 v20).bind fun v21 =>
  (lenA false v21).bind fun v22 =>
  L57_4 r1.1 r2.1 v22 (.int .i64 0) r2.2 (K57_4 (finK cfg.P f57.results.toList))))) :=
(AC_eq cfg 57 [a0, a1] m (fn := f57) (c := bodyOf f57) at57 rfl).trans (by kernel_rfl)
theorem L57_4_eq (x2 x3 x29 x30 : AV) (m : Mem) (K : Ex → St → Option (AV × Mem)) : L57_4 x2 x3 x29 x30 m K =
  (binA .other .lss x30 x29).bind fun v1 =>
  ifA v1 (
  (fieldAddrA 1 x2).bind fun v2 =>
  (loadA none m v2).bind fun v3 =>
  (indexAddrA none v3 x30).bind fun v4 =>
  (loadA none m v4).bind fun v5 =>
  (fieldAddrA 1 x3).bind fun v6 =>
  (loadA none m v6).bind fun v7 =>
  (indexAddrA none v7 x30).bind fun v8 =>
  (loadA none m v8).bind fun v9 =>
  (binA .other .neq v5 v9).bind fun v10 =>
  ifA v10 (
  K .ret (R57_4 (.bool false) m)) (
  (binA .other .add x30 (.int .i64 1)).bind fun v11 =>
  L57_4 x2 x3 x29 v11 m K)) (
  K (.exit 0) (O57_4 m)) :=
(loopW_eq (execW_lin _) _ _ _).trans (by kernel_rfl)
theorem K57_4_x0 (m : Mem) : K57_4 (finK cfg.P f57.results.toList) (.exit 0) (O57_4  m) =
  some ((.bool true), m) := by kernel_rfl
theorem K57_4_ret (x4 : AV) (m : Mem) : K57_4 (finK cfg.P f57.results.toList) .ret (R57_4 x4 m) =
  some (x4, m) := by kernel_rfl
/-! ### sortilege/sortilegeref25.Whole -/
def O12_3 (x3 : AV) (m : Mem) : St := ⟨[.any, .any, .any, x3, .any, .any, .any, .any, .any, .any, .any, .any, .any, .any, .any, .any, .any, .any, .any, .any, .any, .any, .any, .any, .any, .any, .any, .any, .any, .any, .any, .any, .any, .any, .any, .any, .any, .any, .any, .any, .any, .any, .any, .any, .any, .any, .any, .any, .any, .any, .any, .any, .any, .any, .any, .any, .any, .any, .any, .any, .any, .any, .any, .any, .any, .any, .any], m⟩
def R12_3 (x2 : AV) (m : Mem) : St := ⟨[.any, .any, x2, .any, .any, .any, .any, .any, .any, .any, .any, .any, .any, .any, .any, .any, .any, .any, .any, .any, .any, .any, .any, .any, .any, .any, .any, .any, .any, .any, .any, .any, .any, .any, .any, .any, .any, .any, .any, .any, .any, .any, .any, .any, .any, .any, .any, .any, .any, .any, .any, .any, .any, .any, .any, .any, .any, .any, .any, .any, .any, .any, .any, .any, .any, .any, .any], m⟩
noncomputable def L12_3 (x0 x3 x10 x11 x12 : AV) (m : Mem) (K : Ex → St → Option (AV × Mem)) : Option (AV × Mem) := loopW (execW cfg 12 (AP cfg) (AC cfg) (c1 (c1 (c2 (c1 (c2 (c2 (bodyOf f12)))))))) (cfg.mask 12 (some 3)) ⟨[x0, .any, .any, x3, .any, .any, .any, .any, .any, .any, x10, x11, x12, .any, .any, .any, .any, .any, .any, .any, .any, .any, .any, .any, .any, .any, .any, .any, .any, .any, .any, .any, .any, .any, .any, .any, .any, .any, .any, .any, .any, .any, .any, .any, .any, .any, .any, .any, .any, .any, .any, .any, .any, .any, .any, .any, .any, .any, .any, .any, .any, .any, .any, .any, .any, .any, .any], m⟩ K
noncomputable abbrev K12_3_0 (K : Ex → St → Option (AV × Mem)) : Ex → St → Option (AV × Mem) := seqK (fun st => execW cfg 12 (AP cfg) (AC cfg) (c2 (c2 (c2 (bodyOf f12)))) st K) K
noncomputable abbrev K12_3_1 (K : Ex → St → Option (AV × Mem)) : Ex → St → Option (AV × Mem) := blockK 0 (K12_3_0 K)
noncomputable abbrev K12_3 (K : Ex → St → Option (AV × Mem)) : Ex → St → Option (AV × Mem) := (K12_3_1 K)
theorem T12 (a0 : AV) (m : Mem) : AC cfg 12 [a0] m =
  (pcall (AP cfg) none m 24 []).bind fun r1 =>
  (storeA (some 3) (newAt none r1.2 (.obj true [(.bool false), (.lst none true .full []), (.lst none true .full [])])).2 (.ptr (newAt none r1.2 .resv).1 0) r1.1).bind fun m2 =>
  (lenA false a0).bind fun v3 =>
  L12_3 a0 (.ptr (newAt none r1.2 .resv).1 0) a0 v3 (.int .i64 0) m2 (K12_3 (finK cfg.P f12.results.toList)) :=
(AC_eq cfg 12 [a0] m (fn := f12) (c := bodyOf f12) at12 rfl).trans (by kernel_rfl)
theorem L12_3_eq (x0 x3 x10 x11 x12 : AV) (m : Mem) (K : Ex → St → Option (AV × Mem)) : L12_3 x0 x3 x10 x11 x12 m K =
  (binA .other .lss x12 x11).bind fun v1 =>
  ifA v1 (
  (indexAddrA (some 4) x10 x12).bind fun v2 =>
  (loadA (some 4) m v2).bind fun v3 =>
  (storeA (some 4) (newAt none m (.obj true [(.lst none true .full []), (.lst none true .full []), (.lst none true .full []), (.int .i64 0)])).2 (.ptr (newAt none m .resv).1 0) v3).bind fun m4 =>
  (loadA (some 4) m4 (.ptr (newAt none m .resv).1 0)).bind fun v5 =>
  (pcall (AP cfg) none m4 8 [v5]).bind fun r6 =>
  (extractA r6.1 0).bind fun v7 =>
  (extractA r6.1 1).bind fun v8 =>
  (extractA r6.1 2).bind fun v9 =>
  (storeA (some 3) (newAt none r6.2 (.obj true [(.bool false), (.lst none true .full []), (.lst none true .full [])])).2 (.ptr (newAt none r6.2 .resv).1 0) v7).bind fun m10 =>
  (binA .other .neq v9 (.int .i64 0)).bind fun v11 =>
  ifA v11 (
  K .ret (R12_3 (.bool false) m10)) (
  (binA .other .gtr x12 (.int .i64 0)).bind fun v12 =>
  ifA v12 (
  (fieldAddrA 0 (.ptr (newAt none m .resv).1 0)).bind fun v13 =>
  (loadA none m10 v13).bind fun v14 =>
  (indexAddrA (some 4) x0 (.int .i64 0)).bind fun v15 =>
  (fieldAddrA 0 v15).bind fun v16 =>
  (loadA none m10 v16).bind fun v17 =>
  (pcall (AP cfg) (some m10.length) m10 25 [v14, v17]).bind fun r18 =>
  (unA .not r18.1).bind fun v19 =>
  ifA v19 (
  K .ret (R12_3 (.bool false) r18.2)) (
  (fieldAddrA 1 (.ptr (newAt none m .resv).1 0)).bind fun v20 =>
  (loadA none r18.2 v20).bind fun v21 =>
  (indexAddrA (some 4) x0 (.int .i64 0)).bind fun v22 =>
  (fieldAddrA 1 v22).bind fun v23 =>
  (loadA none r18.2 v23).bind fun v24 =>
  (pcall (AP cfg) (some m10.length) r18.2 26 [v21, v24]).bind fun r25 =>
  (unA .not r25.1).bind fun v26 =>
  ifA v26 (
  K .ret (R12_3 (.bool false) r25.2)) (
  (fieldAddrA 3 (.ptr (newAt none m .resv).1 0)).bind fun v27 =>
  (loadA none r25.2 v27).bind fun v28 =>
  (binA .other .sub x12 (.int .i64 1)).bind fun v29 =>
  (indexAddrA (some 4) x0 v29).bind fun v30 =>
  (fieldAddrA 3 v30).bind fun v31 =>
  (loadA none r25.2 v31).bind fun v32 =>
  (binA .other .leq v28 v32).bind fun v33 =>
  ifA v33 (
  K .ret (R12_3 (.bool false) r25.2)) (
  (loadA (some 3) r25.2 x3).bind fun v34 =>
  (loadA (some 3) r25.2 (.ptr (newAt none r6.2 .resv).1 0)).bind fun v35 =>
  (pcall (AP cfg) none r25.2 27 [v34, v35]).bind fun r36 =>
  (storeA (some 3) r36.2 x3 r36.1).bind fun m37 =>
  (binA .other .add x12 (.int .i64 1)).bind fun v38 =>
  L12_3 x0 x3 x10 x11 v38 m37 K)))) (
  (loadA (some 3) m10 x3).bind fun v39 =>
  (loadA (some 3) m10 (.ptr (newAt none r6.2 .resv).1 0)).bind fun v40 =>
  (pcall (AP cfg) none m10 27 [v39, v40]).bind fun r41 =>
  (storeA (some 3) r41.2 x3 r41.1).bind fun m42 =>
  (binA .other .add x12 (.int .i64 1)).bind fun v43 =>
  L12_3 x0 x3 x10 x11 v43 m42 K))) (
  K (.exit 0) (O12_3 x3 m)) :=
(loopW_eq (execW_lin _) _ _ _).trans (by kernel_rfl)
theorem K12_3_x0 (x3 : AV) (m : Mem) : K12_3 (finK cfg.P f12.results.toList) (.exit 0) (O12_3 x3 m) =
  (loadA (some 3) m x3).bind fun v1 =>
  (pcall (AP cfg) (some m.length) m 21 []).bind fun r2 =>
  (pcall (AP cfg) (some m.length) r2.2 9 [v1, r2.1]).bind fun r3 =>
  some (r3.1, r3.2) := by kernel_rfl
theorem K12_3_ret (x2 : AV) (m : Mem) : K12_3 (finK cfg.P f12.results.toList) .ret (R12_3 x2 m) =
  some (x2, m) := by kernel_rfl
end Go.Ab

/- Are two rows, two lists of odds, two lists of nodes equal? The program's and the reference's answers in values. -/
set_option linter.unusedVariables false
set_option linter.unusedSimpArgs false
set_option maxRecDepth 100000
namespace Go.Ab
open Go.Proofs.Try

theorem drop_eq {α : Type} [DecidableEq α] {a b : List α} {i : Nat} (ha : i < a.length) (hb : i < b.length) : decide (a.drop i = b.drop i) = (decide (a[i] = b[i]) && decide (a.drop (i + 1) = b.drop (i + 1))) := by
  have : (a.drop i = b.drop i) ↔ (a[i] = b[i] ∧ a.drop (i + 1) = b.drop (i + 1)) := by
    rw [List.drop_eq_getElem_cons ha, List.drop_eq_getElem_cons hb, List.cons_eq_cons]
  rw [decide_eq_decide.2 this, Bool.decide_and]
theorem W54 {a b : IL} (h : a.ns.length = b.ns.length) (hl : a.ns.length < 2 ^ 40) (m : Mem) (K : Ex → St → Option (AV × Mem)) : ∀ j i : Nat, i + j = a.ns.length →
    L54_4 a.av b.av (.int .i64 a.ns.length) (.int .i64 i) m K = if decide (a.ns.drop i = b.ns.drop i) then K (.exit 0) (O54_4 m) else K .ret (R54_4 (.bool false) m)
  | 0, i, hij => by rw [L54_4_eq, n_lss, Option.bind_some, ifA_dec, if_neg (by omega), List.drop_eq_nil_of_le (by omega), List.drop_eq_nil_of_le (by omega)]; rfl
  | j + 1, i, hij => by
    have hi : i < a.ns.length := by omega
    have hi2 : i < b.ns.length := by omega
    rw [L54_4_eq, n_lss, Option.bind_some, ifA_dec, if_pos hi, index_il hi, Option.bind_some, load_il, Option.bind_some, index_il hi2, Option.bind_some, load_il, Option.bind_some, binA_neq, Option.bind_some, ifA_dec, i_add1 (by omega), Option.bind_some, W54 h hl m K j (i + 1) (by omega), drop_eq (i := i) hi hi2]
    by_cases c : a.ns[i] = b.ns[i]
    · rw [if_neg (by omega), decide_eq_true c, Bool.true_and]
    · rw [if_pos (by omega), decide_eq_false c]; rfl
theorem V54 {a b : IL} (hl : a.ns.length < 2 ^ 40) : AP cfg 54 [a.av, b.av] = some (.bool (decide (a.ns = b.ns))) := by
  refine AP_ofz _ _ (fz_bool _) rfl (m := []) ?_
  rw [T54, len_il, Option.bind_some, len_il, Option.bind_some, binA_neq, Option.bind_some, ifA_dec]
  by_cases h : a.ns.length = b.ns.length
  · rw [if_neg (by omega), Option.bind_some, show ((0 : Int)) = ((0 : Nat) : Int) from rfl, W54 h hl [] _ a.ns.length 0 (by omega), List.drop_zero, List.drop_zero]
    by_cases c : a.ns = b.ns
    · rw [decide_eq_true c, if_pos rfl, K54_4_x0]
    · rw [decide_eq_false c, if_neg (by decide), K54_4_ret]
  · rw [if_pos (by omega), decide_eq_false (fun e => h (by rw [e]))]
/-! ### Odds -/
def rowsOf (L : OL) : List (List Int) := L.es.map IL.ns
theorem rows_len (L : OL) : (rowsOf L).length = L.es.length := by simp [rowsOf]
theorem rows_get {L : OL} {i : Nat} (h : i < L.es.length) : (rowsOf L)[i]'(by rw [rows_len]; exact h) = L.es[i].ns := by simp [rowsOf]
theorem W53 {A B : OL} (h : A.es.length = B.es.length) (hl : A.es.length < 2 ^ 40) (hA : ∀ l ∈ A.es, l.ns.length < 2 ^ 40) (m : Mem) (K : Ex → St → Option (AV × Mem)) : ∀ j i : Nat, i + j = A.es.length →
    L53_4 B.av (.fn 54 []) A.av (.int .i64 A.es.length) (.int .i64 i) m K = if decide ((rowsOf A).drop i = (rowsOf B).drop i) then K (.exit 0) (O53_4 m) else K .ret (R53_4 (.bool false) m)
  | 0, i, hij => by rw [L53_4_eq, n_lss, Option.bind_some, ifA_dec, if_neg (by omega), List.drop_eq_nil_of_le (by rw [rows_len]; omega), List.drop_eq_nil_of_le (by rw [rows_len]; omega)]; rfl
  | j + 1, i, hij => by
    have hi : i < A.es.length := by omega
    have hi2 : i < B.es.length := by omega
    have e := V54 (a := A.es[i].fr) (b := B.es[i].fr) (show A.es[i].ns.length < 2 ^ 40 from hA _ (List.getElem_mem hi))
    have e : AP cfg 54 [A.es[i].fr.av, B.es[i].fr.av] = some (.bool (decide (A.es[i].ns = B.es[i].ns))) := e
    rw [L53_4_eq, n_lss, Option.bind_some, ifA_dec, if_pos hi, index_ol hi, Option.bind_some, load_ol, Option.bind_some, index_ol hi2, Option.bind_some, load_ol, Option.bind_some, show fnOf (.fn 54 []) = some (54, []) from rfl, Option.bind_some, callK_q rfl, show ([A.es[i].av, B.es[i].av] ++ ([] : List AV)) = [A.es[i].av, B.es[i].av] from rfl, pcall2 (fz_il _) (fz_il _), e, Option.map_some, Option.bind_some, not_b, Option.bind_some, ifA_not, i_add1 (by omega), Option.bind_some, W53 h hl hA m K j (i + 1) (by omega), drop_eq (i := i) (by rw [rows_len]; exact hi) (by rw [rows_len]; exact hi2), rows_get hi, rows_get hi2]
    by_cases c : A.es[i].ns = B.es[i].ns
    · rw [decide_eq_true c, Bool.true_and]; rfl
    · rw [decide_eq_false c]; rfl
theorem V53 {A B : OL} (hl : A.es.length < 2 ^ 40) (hA : ∀ l ∈ A.es, l.ns.length < 2 ^ 40) : AP cfg 53 [A.av, B.av, .fn 54 []] = some (.bool (decide (rowsOf A = rowsOf B))) := by
  refine AP_ofz _ _ (fz_bool _) rfl (m := []) ?_
  rw [T53, len_ol, Option.bind_some, len_ol, Option.bind_some, binA_neq, Option.bind_some, ifA_dec]
  by_cases h : A.es.length = B.es.length
  · rw [if_neg (by omega), Option.bind_some, show ((0 : Int)) = ((0 : Nat) : Int) from rfl, W53 h hl hA [] _ A.es.length 0 (by omega), List.drop_zero, List.drop_zero]
    by_cases c : rowsOf A = rowsOf B
    · rw [decide_eq_true c, if_pos rfl, K53_4_x0]
    · rw [decide_eq_false c, if_neg (by decide), K53_4_ret]
  · rw [if_pos (by omega), decide_eq_false (fun e => h (by rw [← rows_len, ← rows_len, e]))]
theorem X25 {A B : OL} {p : Nat} (hp : p < A.es.length) (hp2 : p < B.es.length) (h : A.es[p].ns.length = B.es[p].ns.length) (hA : A.es[p].ns.length < 2 ^ 40) (x13 x14 : AV) (m : Mem) (K : Ex → St → Option (AV × Mem)) : ∀ j i : Nat, i + j = A.es[p].ns.length →
    L25_9 A.av B.av (.int .i64 p) x13 x14 (.int .i64 A.es[p].ns.length) (.int .i64 i) m K = if decide (A.es[p].ns.drop i = B.es[p].ns.drop i) then K (.exit 2) (O25_9 A.av B.av x13 x14 m) else K .ret (R25_9 (.bool false) m)
  | 0, i, hij => by rw [L25_9_eq, n_lss, Option.bind_some, ifA_dec, if_neg (by omega), List.drop_eq_nil_of_le (by omega), List.drop_eq_nil_of_le (by omega)]; rfl
  | j + 1, i, hij => by
    have hi : i < A.es[p].ns.length := by omega
    have hi2 : i < B.es[p].ns.length := by omega
    rw [L25_9_eq, n_lss, Option.bind_some, ifA_dec, if_pos hi, index_ol hp, Option.bind_some, load_ol, Option.bind_some, index_il hi, Option.bind_some, load_il, Option.bind_some, index_ol hp2, Option.bind_some, load_ol, Option.bind_some, index_il hi2, Option.bind_some, load_il, Option.bind_some, binA_neq, Option.bind_some, ifA_dec, i_add1 (by omega), Option.bind_some, X25 hp hp2 h hA x13 x14 m K j (i + 1) (by omega), drop_eq (i := i) hi hi2]
    by_cases c : A.es[p].ns[i] = B.es[p].ns[i]
    · rw [if_neg (by omega), decide_eq_true c, Bool.true_and]
    · rw [if_pos (by omega), decide_eq_false c]; rfl
theorem W25 {A B : OL} (h : A.es.length = B.es.length) (hl : A.es.length < 2 ^ 40) (hA : ∀ l ∈ A.es, l.ns.length < 2 ^ 40) (m : Mem) (K : Ex → St → Option (AV × Mem)) : ∀ j i : Nat, i + j = A.es.length →
    L25_4 A.av B.av (.int .i64 A.es.length) (.int .i64 i) m K = if decide ((rowsOf A).drop i = (rowsOf B).drop i) then K (.exit 0) (O25_4 m) else K .ret (R25_4 (.bool false) m)
  | 0, i, hij => by rw [L25_4_eq, n_lss, Option.bind_some, ifA_dec, if_neg (by omega), List.drop_eq_nil_of_le (by rw [rows_len]; omega), List.drop_eq_nil_of_le (by rw [rows_len]; omega)]; rfl
  | j + 1, i, hij => by
    have hi : i < A.es.length := by omega
    have hi2 : i < B.es.length := by omega
    have ih := W25 h hl hA m K j (i + 1) (by omega)
    rw [L25_4_eq, n_lss, Option.bind_some, ifA_dec, if_pos hi, index_ol hi, Option.bind_some, load_ol, Option.bind_some, len_il, Option.bind_some, index_ol hi2, Option.bind_some, load_ol, Option.bind_some, len_il, Option.bind_some, binA_neq, Option.bind_some, ifA_dec, drop_eq (i := i) (by rw [rows_len]; exact hi) (by rw [rows_len]; exact hi2), rows_get hi, rows_get hi2]
    by_cases c0 : A.es[i].ns.length = B.es[i].ns.length
    · have hX := X25 hi hi2 c0 (hA _ (List.getElem_mem hi)) (.int .i64 A.es.length) (.int .i64 i) m (K25_9 K) A.es[i].ns.length 0 (by omega)
      rw [List.drop_zero, List.drop_zero, show (((0 : Nat) : Int)) = (0 : Int) from rfl] at hX
      rw [if_neg (by omega), Option.bind_some, load_ol, Option.bind_some, len_il, Option.bind_some, hX]
      by_cases c : A.es[i].ns = B.es[i].ns
      · rw [decide_eq_true c, if_pos rfl, K25_9_x2, i_add1 (by omega), Option.bind_some, ih, Bool.true_and]
      · rw [decide_eq_false c, if_neg (by decide), K25_9_ret]; rfl
    · rw [if_pos (by omega), decide_eq_false (fun e => c0 (by rw [e]))]; rfl
theorem V25 {A B : OL} (hl : A.es.length < 2 ^ 40) (hA : ∀ l ∈ A.es, l.ns.length < 2 ^ 40) : AP cfg 25 [A.av, B.av] = some (.bool (decide (rowsOf A = rowsOf B))) := by
  refine AP_ofz _ _ (fz_bool _) rfl (m := []) ?_
  rw [T25, len_ol, Option.bind_some, len_ol, Option.bind_some, binA_neq, Option.bind_some, ifA_dec]
  by_cases h : A.es.length = B.es.length
  · rw [if_neg (by omega), Option.bind_some, show ((0 : Int)) = ((0 : Nat) : Int) from rfl, W25 h hl hA [] _ A.es.length 0 (by omega), List.drop_zero, List.drop_zero]
    by_cases c : rowsOf A = rowsOf B
    · rw [decide_eq_true c, if_pos rfl, K25_4_x0]
    · rw [decide_eq_false c, if_neg (by decide), K25_4_ret]
  · rw [if_pos (by omega), decide_eq_false (fun e => h (by rw [← rows_len, ← rows_len, e]))]
/-! ### Nodes -/
def keyOfN (n : ND) : Int × Int × List Int := (n.var, n.leaf, n.kids.ns)
theorem key_eq (a b : ND) : decide (keyOfN a = keyOfN b) = (decide (a.var = b.var) && (decide (a.leaf = b.leaf) && decide (a.kids.ns = b.kids.ns))) := by
  unfold keyOfN
  by_cases h1 : a.var = b.var <;> by_cases h2 : a.leaf = b.leaf <;> by_cases h3 : a.kids.ns = b.kids.ns <;> simp [h1, h2, h3]
theorem V56 {a b : ND} (hl : a.kids.ns.length < 2 ^ 40) : AP cfg 56 [a.av, b.av] = some (.bool (decide (keyOfN a = keyOfN b))) := by
  have e : AP cfg 54 [a.kids.fr.av, b.kids.fr.av] = some (.bool (decide (a.kids.ns = b.kids.ns))) := V54 (a := a.kids.fr) (b := b.kids.fr) hl
  have ga : ∀ M : Mem, (cN a :: M)[0]? = some (cN a) := fun _ => rfl
  have gb : ∀ M : Mem, (cN a :: cN b :: M)[1]? = some (cN b) := fun _ => rfl
  refine AP_ofz _ _ (fz_bool _) rfl (m := [cN a, cN b]) ?_
  rw [key_eq, T56, box_nd, Option.bind_some]
  simp only [List.length_nil, List.nil_append]
  rw [box_nd, Option.bind_some]
  simp only [List.length_cons, List.length_nil, List.cons_append, List.nil_append, Nat.zero_add, fld0, fld1, fld2]
  rw [Option.bind_some, nld0 (ga _), Option.bind_some, Option.bind_some, nld0 (gb _), Option.bind_some, binA_eql, Option.bind_some, ifA_dec]
  by_cases c1 : a.var = b.var
  · rw [if_pos c1, Option.bind_some, nld2 (ga _), Option.bind_some, Option.bind_some, nld2 (gb _), Option.bind_some, binA_eql, Option.bind_some, ifA_dec, decide_eq_true c1, Bool.true_and]
    by_cases c2 : a.leaf = b.leaf
    · rw [if_pos c2, Option.bind_some, nld1 (ga _), Option.bind_some, Option.bind_some, nld1 (gb _), Option.bind_some, pcall2 (fz_il _) (fz_il _), e, Option.map_some, Option.bind_some, decide_eq_true c2, Bool.true_and]
    · rw [if_neg c2, decide_eq_false c2, Bool.false_and]
  · rw [if_neg c1, decide_eq_false c1, Bool.false_and]
def keysOf (l : List ND) : List (Int × Int × List Int) := l.map keyOfN
theorem keys_len (l : List ND) : (keysOf l).length = l.length := by simp [keysOf]
theorem keys_get {l : List ND} {i : Nat} (h : i < l.length) : (keysOf l)[i]'(by rw [keys_len]; exact h) = keyOfN l[i] := by simp [keysOf]
theorem W55 {A B : NL} (sA : A.sh = some 3 ∨ A.es = []) (sB : B.sh = some 3 ∨ B.es = []) (h : A.es.length = B.es.length) (hl : A.es.length < 2 ^ 40) (hA : ∀ n ∈ A.es, n.kids.ns.length < 2 ^ 40) (K : Ex → St → Option (AV × Mem)) : ∀ (j i : Nat) (m : Mem), i + j = A.es.length →
    ∃ m', L55_4 B.av (.fn 56 []) A.av (.int .i64 A.es.length) (.int .i64 i) m K = if decide ((keysOf A.es).drop i = (keysOf B.es).drop i) then K (.exit 0) (O55_4 m') else K .ret (R55_4 (.bool false) m')
  | 0, i, m, hij => ⟨m, by rw [L55_4_eq, n_lss, Option.bind_some, ifA_dec, if_neg (by omega), List.drop_eq_nil_of_le (by rw [keys_len]; omega), List.drop_eq_nil_of_le (by rw [keys_len]; omega)]; rfl⟩
  | j + 1, i, m, hij => by
    have hi : i < A.es.length := by omega
    have hi2 : i < B.es.length := by omega
    have e := V56 (a := ⟨A.es[i].var, A.es[i].kids.fr, A.es[i].leaf⟩) (b := ⟨B.es[i].var, B.es[i].kids.fr, B.es[i].leaf⟩) (show A.es[i].kids.ns.length < 2 ^ 40 from hA _ (List.getElem_mem hi))
    have e : AP cfg 56 [ND.av ⟨A.es[i].var, A.es[i].kids.fr, A.es[i].leaf⟩, ND.av ⟨B.es[i].var, B.es[i].kids.fr, B.es[i].leaf⟩] = some (.bool (decide (keyOfN A.es[i] = keyOfN B.es[i]))) := e
    obtain ⟨m', ih⟩ := W55 sA sB h hl hA K j (i + 1) ((m ++ [cN A.es[i]]) ++ [cN B.es[i]]) (by omega)
    have g1 : ((m ++ [cN A.es[i]]) ++ [cN B.es[i]])[m.length]? = some (cN A.es[i]) := get_app get_last _
    have g2 : ((m ++ [cN A.es[i]]) ++ [cN B.es[i]])[(m ++ [cN A.es[i]]).length]? = some (cN B.es[i]) := get_last
    have key : L55_4 B.av (.fn 56 []) A.av (.int .i64 A.es.length) (.int .i64 i) m K = ifA (.bool (decide (keyOfN A.es[i] = keyOfN B.es[i]))) (L55_4 B.av (.fn 56 []) A.av (.int .i64 A.es.length) (.int .i64 ((i + 1 : Nat) : Int)) ((m ++ [cN A.es[i]]) ++ [cN B.es[i]]) K) (K .ret (R55_4 (.bool false) ((m ++ [cN A.es[i]]) ++ [cN B.es[i]]))) := by
      rw [L55_4_eq, n_lss, Option.bind_some, ifA_dec, if_pos hi, index_nl sA hi, Option.bind_some, load_nd, Option.bind_some]
      simp only [new_n, new_r]
      rw [nst_last, Option.bind_some, index_nl sB hi2, Option.bind_some, load_nd, Option.bind_some, nst_last, Option.bind_some, nldA g1, Option.bind_some, nldA g2, Option.bind_some, show fnOf (.fn 56 []) = some (56, []) from rfl, Option.bind_some, callK_q rfl, show ([A.es[i].av, B.es[i].av] ++ ([] : List AV)) = [A.es[i].av, B.es[i].av] from rfl, pcall2 (fz_nd _) (fz_nd _), e, Option.map_some, Option.bind_some, not_b, Option.bind_some, ifA_not, i_add1 (by omega), Option.bind_some]
    rw [key, drop_eq (i := i) (by rw [keys_len]; exact hi) (by rw [keys_len]; exact hi2), keys_get hi, keys_get hi2]
    by_cases c : keyOfN A.es[i] = keyOfN B.es[i]
    · refine ⟨m', ?_⟩
      rw [decide_eq_true c, ifA_true, ih, Bool.true_and]
    · refine ⟨(m ++ [cN A.es[i]]) ++ [cN B.es[i]], ?_⟩
      rw [decide_eq_false c]; rfl
theorem V55 {A B : NL} (sA : A.sh = some 3 ∨ A.es = []) (sB : B.sh = some 3 ∨ B.es = []) (hl : A.es.length < 2 ^ 40) (hA : ∀ n ∈ A.es, n.kids.ns.length < 2 ^ 40) : AP cfg 55 [A.av, B.av, .fn 56 []] = some (.bool (decide (keysOf A.es = keysOf B.es))) := by
  have fin : ∀ (v : Bool) (m : Mem), AC cfg 55 [A.av, B.av, .fn 56 []] [] = some (.bool v, m) → AP cfg 55 [A.av, B.av, .fn 56 []] = some (.bool v) := fun v m h => AP_ofz _ _ (fz_bool _) rfl h
  by_cases h : A.es.length = B.es.length
  · obtain ⟨m', hW⟩ := W55 sA sB h hl hA (K55_4 (finK cfg.P f55.results.toList)) A.es.length 0 [] (by omega)
    refine fin _ m' ?_
    rw [T55, len_nl, Option.bind_some, len_nl, Option.bind_some, binA_neq, Option.bind_some, ifA_dec, if_neg (by omega), Option.bind_some, show ((0 : Int)) = ((0 : Nat) : Int) from rfl, hW, List.drop_zero, List.drop_zero]
    by_cases c : keysOf A.es = keysOf B.es
    · rw [decide_eq_true c, if_pos rfl, K55_4_x0]
    · rw [decide_eq_false c, if_neg (by decide), K55_4_ret]
  · refine fin _ [] ?_
    rw [T55, len_nl, Option.bind_some, len_nl, Option.bind_some, binA_neq, Option.bind_some, ifA_dec, if_pos (by omega), decide_eq_false (fun e => h (by rw [← keys_len, ← keys_len, e]))]
theorem W57 {a b : ND} {m : Mem} (g0 : m[0]? = some (cN a)) (g1 : m[1]? = some (cN b)) (h : a.kids.ns.length = b.kids.ns.length) (hl : a.kids.ns.length < 2 ^ 40) (K : Ex → St → Option (AV × Mem)) : ∀ j i : Nat, i + j = a.kids.ns.length →
    L57_4 (.ptr 0 0) (.ptr 1 0) (.int .i64 a.kids.ns.length) (.int .i64 i) m K = if decide (a.kids.ns.drop i = b.kids.ns.drop i) then K (.exit 0) (O57_4 m) else K .ret (R57_4 (.bool false) m)
  | 0, i, hij => by rw [L57_4_eq, n_lss, Option.bind_some, ifA_dec, if_neg (by omega), List.drop_eq_nil_of_le (by omega), List.drop_eq_nil_of_le (by omega)]; rfl
  | j + 1, i, hij => by
    have hi : i < a.kids.ns.length := by omega
    have hi2 : i < b.kids.ns.length := by omega
    rw [L57_4_eq, n_lss, Option.bind_some, ifA_dec, if_pos hi, fld1, Option.bind_some, nld1 g0, Option.bind_some, index_il hi, Option.bind_some, load_il, Option.bind_some, fld1, Option.bind_some, nld1 g1, Option.bind_some, index_il hi2, Option.bind_some, load_il, Option.bind_some, binA_neq, Option.bind_some, ifA_dec, i_add1 (by omega), Option.bind_some, W57 g0 g1 h hl K j (i + 1) (by omega), drop_eq (i := i) hi hi2]
    by_cases c : a.kids.ns[i] = b.kids.ns[i]
    · rw [if_neg (by omega), decide_eq_true c, Bool.true_and]
    · rw [if_pos (by omega), decide_eq_false c]; rfl
theorem V57 {a b : ND} (hl : a.kids.ns.length < 2 ^ 40) : AP cfg 57 [a.av, b.av] = some (.bool (decide (keyOfN a = keyOfN b))) := by
  have ga : ∀ M : Mem, (cN a :: M)[0]? = some (cN a) := fun _ => rfl
  have gb : ∀ M : Mem, (cN a :: cN b :: M)[1]? = some (cN b) := fun _ => rfl
  refine AP_ofz _ _ (fz_bool _) rfl (m := [cN a, cN b]) ?_
  rw [key_eq, T57, box_nd, Option.bind_some]
  simp only [List.length_nil, List.nil_append]
  rw [box_nd, Option.bind_some]
  simp only [List.length_cons, List.length_nil, List.cons_append, List.nil_append, Nat.zero_add, fld0, fld1, fld2]
  rw [Option.bind_some, nld0 (ga _), Option.bind_some, Option.bind_some, nld0 (gb _), Option.bind_some, binA_neq, Option.bind_some, ifA_dec]
  by_cases c1 : a.var = b.var
  · rw [if_neg (by omega), Option.bind_some, nld2 (ga _), Option.bind_some, Option.bind_some, nld2 (gb _), Option.bind_some, binA_neq, Option.bind_some, ifA_dec, decide_eq_true c1, Bool.true_and]
    by_cases c2 : a.leaf = b.leaf
    · rw [if_neg (by omega), Option.bind_some, nld1 (ga _), Option.bind_some, len_il, Option.bind_some, Option.bind_some, nld1 (gb _), Option.bind_some, len_il, Option.bind_some, binA_neq, Option.bind_some, ifA_dec, decide_eq_true c2, Bool.true_and]
      by_cases c3 : a.kids.ns.length = b.kids.ns.length
      · have hW := W57 (ga [cN b]) (gb []) c3 hl (K57_4 (finK cfg.P f57.results.toList)) a.kids.ns.length 0 (by omega)
        rw [List.drop_zero, List.drop_zero, show (((0 : Nat) : Int)) = (0 : Int) from rfl] at hW
        rw [if_neg (by omega), Option.bind_some, nld1 (ga _), Option.bind_some, len_il, Option.bind_some, hW]
        by_cases c : a.kids.ns = b.kids.ns
        · rw [decide_eq_true c, if_pos rfl, K57_4_x0]
        · rw [decide_eq_false c, if_neg (by decide), K57_4_ret]
      · rw [if_pos (by omega), decide_eq_false (fun e => c3 (by rw [e]))]
    · rw [if_pos (by omega), decide_eq_false c2, Bool.false_and]
  · rw [if_pos (by omega), decide_eq_false c1, Bool.false_and]
theorem W26 {A B : NL} (sA : A.sh = some 3 ∨ A.es = []) (sB : B.sh = some 3 ∨ B.es = []) (h : A.es.length = B.es.length) (hl : A.es.length < 2 ^ 40) (hA : ∀ n ∈ A.es, n.kids.ns.length < 2 ^ 40) (m : Mem) (K : Ex → St → Option (AV × Mem)) : ∀ (j i : Nat), i + j = A.es.length →
    L26_4 A.av B.av (.int .i64 A.es.length) (.int .i64 i) m K = if decide ((keysOf A.es).drop i = (keysOf B.es).drop i) then K (.exit 0) (O26_4 m) else K .ret (R26_4 (.bool false) m)
  | 0, i, hij => by rw [L26_4_eq, n_lss, Option.bind_some, ifA_dec, if_neg (by omega), List.drop_eq_nil_of_le (by rw [keys_len]; omega), List.drop_eq_nil_of_le (by rw [keys_len]; omega)]; rfl
  | j + 1, i, hij => by
    have hi : i < A.es.length := by omega
    have hi2 : i < B.es.length := by omega
    have e := V57 (a := ⟨A.es[i].var, A.es[i].kids.fr, A.es[i].leaf⟩) (b := ⟨B.es[i].var, B.es[i].kids.fr, B.es[i].leaf⟩) (show A.es[i].kids.ns.length < 2 ^ 40 from hA _ (List.getElem_mem hi))
    have e : AP cfg 57 [ND.av ⟨A.es[i].var, A.es[i].kids.fr, A.es[i].leaf⟩, ND.av ⟨B.es[i].var, B.es[i].kids.fr, B.es[i].leaf⟩] = some (.bool (decide (keyOfN A.es[i] = keyOfN B.es[i]))) := e
    rw [L26_4_eq, n_lss, Option.bind_some, ifA_dec, if_pos hi, index_nl sA hi, Option.bind_some, load_nd, Option.bind_some, index_nl sB hi2, Option.bind_some, load_nd, Option.bind_some, pcall2 (fz_nd _) (fz_nd _), e, Option.map_some, Option.bind_some, not_b, Option.bind_some, ifA_not, i_add1 (by omega), Option.bind_some, W26 sA sB h hl hA m K j (i + 1) (by omega), drop_eq (i := i) (by rw [keys_len]; exact hi) (by rw [keys_len]; exact hi2), keys_get hi, keys_get hi2]
    by_cases c : keyOfN A.es[i] = keyOfN B.es[i]
    · rw [decide_eq_true c, ifA_true, Bool.true_and]
    · rw [decide_eq_false c]; rfl
theorem V26 {A B : NL} (sA : A.sh = some 3 ∨ A.es = []) (sB : B.sh = some 3 ∨ B.es = []) (hl : A.es.length < 2 ^ 40) (hA : ∀ n ∈ A.es, n.kids.ns.length < 2 ^ 40) : AP cfg 26 [A.av, B.av] = some (.bool (decide (keysOf A.es = keysOf B.es))) := by
  refine AP_ofz _ _ (fz_bool _) rfl (m := []) ?_
  rw [T26, len_nl, Option.bind_some, len_nl, Option.bind_some, binA_neq, Option.bind_some, ifA_dec]
  by_cases h : A.es.length = B.es.length
  · rw [if_neg (by omega), Option.bind_some, show ((0 : Int)) = ((0 : Nat) : Int) from rfl, W26 sA sB h hl hA [] _ A.es.length 0 (by omega), List.drop_zero, List.drop_zero]
    by_cases c : keysOf A.es = keysOf B.es
    · rw [decide_eq_true c, if_pos rfl, K26_4_x0]
    · rw [decide_eq_false c, if_neg (by decide), K26_4_ret]
  · rw [if_pos (by omega), decide_eq_false (fun e => h (by rw [← keys_len, ← keys_len, e]))]
def alikeB (a b : CV) : Bool := decide (rowsOf a.odds = rowsOf b.odds) && decide (keysOf a.nodes.es = keysOf b.nodes.es)
structure Short (c : CV) : Prop where
  odds : c.odds.es.length < 2 ^ 40
  rows : ∀ l ∈ c.odds.es, l.ns.length < 2 ^ 40
  nodes : c.nodes.es.length < 2 ^ 40
  kids : ∀ n ∈ c.nodes.es, n.kids.ns.length < 2 ^ 40
  nsh : c.nodes.sh = some 3 ∨ c.nodes.es = []
theorem V22 {a b : CV} (ha : Short a) (hb : b.nodes.sh = some 3 ∨ b.nodes.es = []) : AP cfg 22 [a.av, b.av] = some (.bool (alikeB a b)) := by
  have e1 : AP cfg 53 [a.odds.fr.av, b.odds.fr.av, .fn 54 []] = some (.bool (decide (rowsOf a.odds = rowsOf b.odds))) := V53 (A := a.odds.fr) (B := b.odds.fr) ha.odds ha.rows
  have e2 : AP cfg 55 [a.nodes.fr.av, b.nodes.fr.av, .fn 56 []] = some (.bool (decide (keysOf a.nodes.es = keysOf b.nodes.es))) := V55 (A := a.nodes.fr) (B := b.nodes.fr) ha.nsh hb ha.nodes ha.kids
  have ga : ∀ M : Mem, (cC a :: M)[0]? = some (cC a) := fun _ => rfl
  have gb : ∀ M : Mem, (cC a :: cC b :: M)[1]? = some (cC b) := fun _ => rfl
  refine AP_ofz _ _ (fz_bool _) rfl (m := [cC a, cC b]) ?_
  unfold alikeB
  rw [T22, box_cv, Option.bind_some]
  simp only [List.length_nil, List.nil_append]
  rw [box_cv, Option.bind_some]
  simp only [List.length_cons, List.length_nil, List.cons_append, List.nil_append, Nat.zero_add, fld0, fld1]
  rw [Option.bind_some, cld0 (ga _), Option.bind_some, Option.bind_some, cld0 (gb _), Option.bind_some, pcall3 (fz_ol _) (fz_ol _) (fun _ => rfl), e1, Option.map_some, Option.bind_some]
  by_cases c : rowsOf a.odds = rowsOf b.odds
  · rw [decide_eq_true c, ifA_true, Option.bind_some, cld1 (ga _), Option.bind_some, Option.bind_some, cld1 (gb _), Option.bind_some, pcall3 (fz_nl _) (fz_nl _) (fun _ => rfl), e2, Option.map_some, Option.bind_some, Bool.true_and]
  · rw [decide_eq_false c, ifA_false, Bool.false_and]
end Go.Ab

/- Whole, in values: the program's and the reference's. -/
set_option linter.unusedVariables false
set_option linter.unusedSimpArgs false
set_option maxRecDepth 100000
namespace Go.Ab
open Go.Proofs.Try

/-! ### Rows of certificates -/
def kA (sh : Sh) (z : Bool) (o : Own) (l : List CV) : AV := .lst sh z o (l.map CV.av)
theorem len_ka (sh : Sh) (z : Bool) (o : Own) (l : List CV) : lenA false (kA sh z o l) = some (.int .i64 l.length) := by simp [kA, lenA]
theorem index_ka {sh : Sh} {z : Bool} {o : Own} {l : List CV} {k : Nat} {kk : IntKind} (hs : sh = some 4 ∨ l = []) (hk : k < l.length) : indexAddrA (some 4) (kA sh z o l) (.int kk k) = some (.vptr (l[k].av).cells) := by
  have hs : sh = some 4 := hs.resolve_right (fun e => by rw [e] at hk; simp at hk)
  simp [kA, indexAddrA, hs, hk]
theorem load_cv (m : Mem) (c : CV) : loadA (some 4) m (.vptr c.av.cells) = some c.av := rfl
theorem fldc0 (c : CV) : fieldAddrA 0 (.vptr c.av.cells) = some (.vptr [c.odds.av, c.nodes.av, c.ws.av, .int .i64 c.leaf]) := rfl
theorem fldc1 (c : CV) : fieldAddrA 1 (.vptr c.av.cells) = some (.vptr [c.nodes.av, c.ws.av, .int .i64 c.leaf]) := rfl
theorem fldc3 (c : CV) : fieldAddrA 3 (.vptr c.av.cells) = some (.vptr [.int .i64 c.leaf]) := rfl
theorem load_hd (m : Mem) (a : AV) (l : List AV) : loadA none m (.vptr (a :: l)) = some a := rfl
theorem cst_last {m : Mem} {x y : CV} : storeA (some 4) (m ++ [cC x]) (.ptr m.length 0) y.av = some (m ++ [cC y]) := by
  rw [cstA (y := y) get_last]; simp
/-! ### What is compared -/
structure Vw where
  e : Int
  rows : List (List Int)
  keys : List (Int × Int × List Int)
  leaf : Int
  q : Rat
def vw (c : CV) : Vw := ⟨checkE c, rowsOf c.odds, keysOf c.nodes.es, c.leaf, checkQ c⟩
def zV : Vw := ⟨1, [], [], 0, 0⟩
def stepP (V : List Vw) (i : Nat) : Bool := decide ((V.getD i zV).e = 0) && (decide (i = 0) || ((decide ((V.getD (i - 1) zV).rows = (V.getD i zV).rows) && decide ((V.getD (i - 1) zV).keys = (V.getD i zV).keys)) && decide ((V.getD (i - 1) zV).leaf < (V.getD i zV).leaf)))
def stepR (V : List Vw) (i : Nat) : Bool := decide ((V.getD i zV).e = 0) && (decide (i = 0) || (decide ((V.getD i zV).rows = (V.getD 0 zV).rows) && (decide ((V.getD i zV).keys = (V.getD 0 zV).keys) && decide ((V.getD (i - 1) zV).leaf < (V.getD i zV).leaf))))
def sumV (V : List Vw) (n : Nat) : Rat := sumR (fun i => (V.getD i zV).q) n
theorem stepP_iff {V : List Vw} {i : Nat} : stepP V i = true ↔ (V.getD i zV).e = 0 ∧ (i = 0 ∨ ((V.getD (i - 1) zV).rows = (V.getD i zV).rows ∧ (V.getD (i - 1) zV).keys = (V.getD i zV).keys) ∧ (V.getD (i - 1) zV).leaf < (V.getD i zV).leaf) := by
  simp [stepP]
theorem stepR_iff {V : List Vw} {i : Nat} : stepR V i = true ↔ (V.getD i zV).e = 0 ∧ (i = 0 ∨ ((V.getD i zV).rows = (V.getD 0 zV).rows ∧ (V.getD i zV).keys = (V.getD 0 zV).keys ∧ (V.getD (i - 1) zV).leaf < (V.getD i zV).leaf)) := by
  simp [stepR]
theorem steps_eq (V : List Vw) (n : Nat) : allF (stepP V) n 0 = allF (stepR V) n 0 := by
  rw [Bool.eq_iff_iff, allF_iff, allF_iff]
  constructor
  · intro h
    have key : ∀ k, k < 0 + n → (V.getD k zV).rows = (V.getD 0 zV).rows ∧ (V.getD k zV).keys = (V.getD 0 zV).keys := by
      intro k
      induction k with
      | zero => intro _; exact ⟨rfl, rfl⟩
      | succ k ih =>
        intro hk
        obtain ⟨h1, h2⟩ := ih (by omega)
        have := (stepP_iff.1 (h (k + 1) (by omega) hk)).2
        rcases this with h0 | ⟨⟨h3, h4⟩, _⟩
        · omega
        · rw [Nat.add_sub_cancel] at h3 h4
          exact ⟨h3.symm.trans h1, h4.symm.trans h2⟩
    intro k h1 h2
    obtain ⟨a, b⟩ := stepP_iff.1 (h k h1 h2)
    refine stepR_iff.2 ⟨a, ?_⟩
    rcases b with h0 | ⟨_, h5⟩
    · exact .inl h0
    · exact .inr ⟨(key k h2).1, (key k h2).2, h5⟩
  · intro h
    have key : ∀ k, k < 0 + n → (V.getD k zV).rows = (V.getD 0 zV).rows ∧ (V.getD k zV).keys = (V.getD 0 zV).keys := by
      intro k hk
      rcases (stepR_iff.1 (h k (by omega) hk)).2 with h0 | ⟨h3, h4, _⟩
      · rw [h0]; exact ⟨rfl, rfl⟩
      · exact ⟨h3, h4⟩
    intro k h1 h2
    obtain ⟨a, b⟩ := stepR_iff.1 (h k h1 h2)
    refine stepP_iff.2 ⟨a, ?_⟩
    rcases b with h0 | ⟨_, _, h5⟩
    · exact .inl h0
    · obtain ⟨x, y⟩ := key k h2
      obtain ⟨x', y'⟩ := key (k - 1) (by omega)
      exact .inr ⟨⟨x'.trans x.symm, y'.trans y.symm⟩, h5⟩
theorem vw_get {L : List CV} {i : Nat} (h : i < L.length) : (L.map vw).getD i zV = vw L[i] := by
  rw [List.getD_eq_getElem?_getD, List.getElem?_map, List.getElem?_eq_getElem h]; rfl
/-! ### Sizes -/
theorem short_of {c : CV} (hc : COk 30 c) (h : checkE c = 0) : Short c := by
  have hs := (check_ok h).1
  refine ⟨by have := hc.odds; omega, fun l hl => ?_, by have := hc.nlen; omega, fun n hn => ?_, hc.nsh⟩
  · obtain ⟨v, hv, rfl⟩ := List.mem_iff_getElem.1 hl
    have := (shaped_row hs hv).1
    omega
  · obtain ⟨i, hi, rfl⟩ := List.mem_iff_getElem.1 hn
    have hB := shaped_nodeB hs hi
    rcases (shaped_node hs hi).1 with h1 | ⟨v, hv, hv2, h2⟩
    · rcases (shaped_node hs hi).2 with h3 | h3
      · unfold nodeB at hB
        rw [if_pos h3, decide_eq_true_iff] at hB
        omega
      · omega
    · have := h2.len
      have := h2.row.1
      omega
theorem q_bd {c : CV} (hc : COk 30 c) : Bd 30 (checkQ c) := by
  unfold checkQ
  split
  · generalize c.nodes.es.length - 1 = k
    by_cases hk : k < c.ws.es.length
    · rw [wQ_get hk]; exact (hc.ws.ok _ (List.getElem_mem hk)).bd (by omega)
    · unfold wQ
      rw [List.getD_eq_getElem?_getD, List.getElem?_eq_none (by rw [List.length_map]; omega)]
      exact Bd_zero (by omega)
  · exact Bd_zero (by omega)
def OKC (c : CV) : Prop := c.fr = c ∧ COk 30 c
theorem sumV_bd {L : List CV} (hL : ∀ c ∈ L, OKC c) : ∀ {n : Nat}, n ≤ L.length → Bd (32 * n + 1) (sumV (L.map vw) n)
  | 0, _ => Bd_zero (by omega)
  | n + 1, h => by
    have hb : Bd 30 ((L.map vw).getD n zV).q := by
      rw [vw_get (by omega)]
      exact q_bd (hL _ (List.getElem_mem _)).2
    exact (Bd_add (sumV_bd hL (by omega)) hb (by omega)).mono (by omega)
theorem sumV_bd2 {L : List CV} (hL : ∀ c ∈ L, OKC c) (h6 : L.length ≤ 6) {n : Nat} (h : n ≤ L.length) : Bd 4000 (sumV (L.map vw) n) := (sumV_bd hL h).mono (by omega)
theorem i_subW {i : Nat} (h0 : 0 < i) (h : i ≤ 6) : binA .other .sub (.int .i64 (i : Int)) (.int .i64 1) = some (.int .i64 ((i - 1 : Nat) : Int)) := by
  rw [binA_sub, wrap_i64 (by omega) (by omega)]
  congr 2
  omega
theorem W11 {sh : Sh} {z : Bool} {o : Own} {L : List CV} (hL : ∀ c ∈ L, OKC c) (h6 : L.length ≤ 6) (hs : sh = some 4 ∨ L = []) (K : Ex → St → Option (AV × Mem)) : ∀ (j i : Nat) (m : Mem) (s : RV), i + j = L.length → m[0]? = some (cR s) → Can s (sumV (L.map vw) i) → s.fr = s → (∀ k (hk : k < L.length), k < i → checkE L[k] = 0) →
    ∃ m', (allF (stepP (L.map vw)) j i = true ∧ ∃ t : RV, Can t (sumV (L.map vw) L.length) ∧ t.fr = t ∧ m'[0]? = some (cR t) ∧ L11_3 (kA sh z o L) (.ptr 0 0) (kA sh z o L) (.int .i64 L.length) (.int .i64 i) m K = K (.exit 0) (O11_3 (.ptr 0 0) m')) ∨ (allF (stepP (L.map vw)) j i = false ∧ L11_3 (kA sh z o L) (.ptr 0 0) (kA sh z o L) (.int .i64 L.length) (.int .i64 i) m K = K .ret (R11_3 (.bool false) m'))
  | 0, i, m, s, hij, hm, hc, hf, hp => by
    obtain rfl : i = L.length := by omega
    exact ⟨m, .inl ⟨rfl, s, hc, hf, hm, by rw [L11_3_eq, n_lss, Option.bind_some, ifA_dec, if_neg (by omega)]⟩⟩
  | j + 1, i, m, s, hij, hm, hc, hf, hp => by
    have hi : i < L.length := by omega
    obtain ⟨hfr, hok⟩ := hL _ (List.getElem_mem hi)
    obtain ⟨w, w1, w2, w3, w4⟩ := V7 hok
    have oks := hc.ok (sumV_bd2 hL h6 (by omega)) (by omega)
    obtain ⟨t, t1, t2, t3⟩ := V16 oks w4 (by omega) (by omega)
    have et : s.q + w.q = sumV (L.map vw) (i + 1) := by
      rw [hc.q, w2]
      show _ = sumV (L.map vw) i + ((L.map vw).getD i zV).q
      rw [vw_get hi]; rfl
    rw [et] at t2
    have g0 : ((m ++ [cC L[i]]) ++ [cR w])[0]? = some (cR s) := get_app (get_app hm _) _
    have gc : ((m ++ [cC L[i]]) ++ [cR w])[m.length]? = some (cC L[i]) := get_app get_last _
    have gw : ((m ++ [cC L[i]]) ++ [cR w])[(m ++ [cC L[i]]).length]? = some (cR w) := get_last
    have nx : checkE L[i] = 0 → _ := fun he => W11 (sh := sh) (z := z) (o := o) hL h6 hs K j (i + 1) (((m ++ [cC L[i]]) ++ [cR w]).set 0 (cR t)) t (by omega) (by rw [List.getElem?_set_self (gr_lt g0)]) t2 t3 (fun k hk hki => by
      by_cases hke : k = i
      · subst hke; exact he
      · exact hp k hk (by omega))
    have start : L11_3 (kA sh z o L) (.ptr 0 0) (kA sh z o L) (.int .i64 L.length) (.int .i64 i) m K = L11_3 (kA sh z o L) (.ptr 0 0) (kA sh z o L) (.int .i64 L.length) (.int .i64 i) m K := rfl
    conv at start => rhs; rw [L11_3_eq, n_lss, Option.bind_some, ifA_dec, if_pos hi, index_ka hs hi, Option.bind_some, load_cv, Option.bind_some]
    simp only [new_cv, new_r] at start
    rw [cst_last, Option.bind_some, cldA (x := L[i]) get_last, Option.bind_some, pcall1 (fz_cv _), hfr, w1, Option.map_some, Option.bind_some, ex0, Option.bind_some, ex1, Option.bind_some, ex2, Option.bind_some] at start
    simp only [new_z', new_r] at start
    rw [st_last, Option.bind_some, binA_neq, Option.bind_some, ifA_dec] at start
    rw [allF]
    have est : stepP (L.map vw) i = (decide (checkE L[i] = 0) && (decide (i = 0) || ((decide (((L.map vw).getD (i - 1) zV).rows = rowsOf L[i].odds) && decide (((L.map vw).getD (i - 1) zV).keys = keysOf L[i].nodes.es)) && decide (((L.map vw).getD (i - 1) zV).leaf < L[i].leaf)))) := by
      unfold stepP
      rw [vw_get hi]; rfl
    rw [est]
    by_cases c1 : checkE L[i] = 0
    case neg =>
      rw [if_pos c1] at start
      exact ⟨_, .inr ⟨by rw [decide_eq_false c1]; rfl, start⟩⟩
    rw [decide_eq_true c1, Bool.true_and]
    rw [if_neg (by omega), binA_gtr, Option.bind_some, ifA_dec] at start
    by_cases c2 : i = 0
    · rw [if_neg (by omega), rldA g0, Option.bind_some, rldA gw, Option.bind_some, pcRR, hf, w3, t1, Option.map_some, Option.bind_some, rstA g0, Option.bind_some, i_add1 (by omega), Option.bind_some] at start
      rw [decide_eq_true c2, Bool.true_or, Bool.true_and, start]
      exact nx c1
    · have hi1 : i - 1 < L.length := by omega
      have hpc := hp (i - 1) hi1 (by omega)
      obtain ⟨pf, pok⟩ := hL _ (List.getElem_mem hi1)
      have e22 := V22 (short_of pok hpc) (b := L[i]) hok.nsh
      rw [decide_eq_false c2, Bool.false_or, vw_get hi1]
      rw [if_pos (by omega), i_subW (by omega) (by omega), Option.bind_some, index_ka hs hi1, Option.bind_some, load_cv, Option.bind_some, cldA gc, Option.bind_some, pcall2 (fz_cv _) (fz_cv _), pf, hfr, e22, Option.map_some, Option.bind_some, not_b, Option.bind_some, ifA_not] at start
      have ea : (decide ((vw L[i - 1]).rows = rowsOf L[i].odds) && decide ((vw L[i - 1]).keys = keysOf L[i].nodes.es)) = alikeB L[i - 1] L[i] := rfl
      rw [ea]
      cases c3 : alikeB L[i - 1] L[i] with
      | false =>
        rw [c3, ifA_false] at start
        exact ⟨_, .inr ⟨by rw [Bool.false_and, Bool.false_and], start⟩⟩
      | true =>
        rw [c3, ifA_true, Option.bind_some, index_ka hs hi1, Option.bind_some, fldc3, Option.bind_some, load_hd, Option.bind_some, fld3, Option.bind_some, cld3 gc, Option.bind_some, binA_geq, Option.bind_some, ifA_dec] at start
        rw [Bool.true_and]
        by_cases c4 : L[i - 1].leaf ≥ L[i].leaf
        · rw [if_pos c4] at start
          exact ⟨_, .inr ⟨by rw [decide_eq_false (show ¬ (vw L[i - 1]).leaf < L[i].leaf from by show ¬ L[i - 1].leaf < L[i].leaf; omega)]; rfl, start⟩⟩
        · rw [if_neg c4, rldA g0, Option.bind_some, rldA gw, Option.bind_some, pcRR, hf, w3, t1, Option.map_some, Option.bind_some, rstA g0, Option.bind_some, i_add1 (by omega), Option.bind_some] at start
          rw [decide_eq_true (show (vw L[i - 1]).leaf < L[i].leaf from by show L[i - 1].leaf < L[i].leaf; omega), Bool.true_and, start]
          exact nx c1
def wholeP (V : List Vw) : Bool := allF (stepP V) V.length 0 && decide (sumV V V.length = 1)
theorem V11 {sh : Sh} {z : Bool} {o : Own} {L : List CV} (hL : ∀ c ∈ L, OKC c) (h6 : L.length ≤ 6) (hs : sh = some 4 ∨ L = []) : AP cfg 11 [kA sh z o L] = some (.bool (wholeP (L.map vw))) := by
  have fin : ∀ (v : Bool) (m : Mem), AC cfg 11 [kA sh z o L] [] = some (.bool v, m) → AP cfg 11 [kA sh z o L] = some (.bool v) := fun v m h => AP_ofz _ _ (fz_bool _) rfl h
  obtain ⟨m', hW⟩ := W11 (sh := sh) (z := z) (o := o) hL h6 hs (K11_3 (finK cfg.P f11.results.toList)) L.length 0 [cR zeroR] zeroR (by omega) rfl can_zero zeroR_fr (fun k hk h => by omega)
  rw [show (((0 : Nat) : Int)) = (0 : Int) from rfl] at hW
  have start : AC cfg 11 [kA sh z o L] [] = AC cfg 11 [kA sh z o L] [] := rfl
  conv at start => rhs; rw [T11, pc0, V17, Option.map_some, Option.bind_some]
  simp only [new_z', new_r, List.length_nil, List.nil_append] at start
  rw [st0all, Option.bind_some, len_ka, Option.bind_some] at start
  unfold wholeP
  rw [List.length_map]
  rcases hW with ⟨h1, t, t1, t2, t3, t4⟩ | ⟨h1, t4⟩
  · rw [t4, K11_3_x0, rldA t3, Option.bind_some, pc0, V23, Option.map_some, Option.bind_some, pcRR, t2, oneR_fr, V14 (t1.ok (sumV_bd2 hL h6 (Nat.le_refl _)) (by omega)) (can_one.ok (Bd_one (by omega : 1 ≤ 4000)) (by omega)) t2 oneR_fr (by omega) (by omega), Option.map_some, Option.bind_some, t1.q, can_one.q] at start
    rw [h1, Bool.true_and]
    exact fin _ _ start
  · rw [t4, K11_3_ret] at start
    rw [h1, Bool.false_and]
    exact fin _ _ start
/-! ### The reference -/
theorem W12 {sh : Sh} {z : Bool} {o : Own} {L : List CV} (hL : ∀ c ∈ L, OKC c) (h6 : L.length ≤ 6) (hs : sh = some 4 ∨ L = []) (K : Ex → St → Option (AV × Mem)) : ∀ (j i : Nat) (m : Mem) (s : RV), i + j = L.length → m[0]? = some (cR s) → Can s (sumV (L.map vw) i) → s.fr = s →
    ∃ m', (allF (stepR (L.map vw)) j i = true ∧ ∃ t : RV, Can t (sumV (L.map vw) L.length) ∧ t.fr = t ∧ m'[0]? = some (cR t) ∧ L12_3 (kA sh z o L) (.ptr 0 0) (kA sh z o L) (.int .i64 L.length) (.int .i64 i) m K = K (.exit 0) (O12_3 (.ptr 0 0) m')) ∨ (allF (stepR (L.map vw)) j i = false ∧ L12_3 (kA sh z o L) (.ptr 0 0) (kA sh z o L) (.int .i64 L.length) (.int .i64 i) m K = K .ret (R12_3 (.bool false) m'))
  | 0, i, m, s, hij, hm, hc, hf => by
    obtain rfl : i = L.length := by omega
    exact ⟨m, .inl ⟨rfl, s, hc, hf, hm, by rw [L12_3_eq, n_lss, Option.bind_some, ifA_dec, if_neg (by omega)]⟩⟩
  | j + 1, i, m, s, hij, hm, hc, hf => by
    have hi : i < L.length := by omega
    obtain ⟨hfr, hok⟩ := hL _ (List.getElem_mem hi)
    obtain ⟨w, w1, w2, w3, w4⟩ := V8 hok
    have oks := hc.ok (sumV_bd2 hL h6 (by omega)) (by omega)
    obtain ⟨t, t1, t2, t3⟩ := V27 oks w4 (by omega) (by omega)
    have et : s.q + w.q = sumV (L.map vw) (i + 1) := by
      rw [hc.q, w2]
      show _ = sumV (L.map vw) i + ((L.map vw).getD i zV).q
      rw [vw_get hi]; rfl
    rw [et] at t2
    have g0 : ((m ++ [cC L[i]]) ++ [cR w])[0]? = some (cR s) := get_app (get_app hm _) _
    have gc : ((m ++ [cC L[i]]) ++ [cR w])[m.length]? = some (cC L[i]) := get_app get_last _
    have gw : ((m ++ [cC L[i]]) ++ [cR w])[(m ++ [cC L[i]]).length]? = some (cR w) := get_last
    have nx := W12 (sh := sh) (z := z) (o := o) hL h6 hs K j (i + 1) (((m ++ [cC L[i]]) ++ [cR w]).set 0 (cR t)) t (by omega) (by rw [List.getElem?_set_self (gr_lt g0)]) t2 t3
    have start : L12_3 (kA sh z o L) (.ptr 0 0) (kA sh z o L) (.int .i64 L.length) (.int .i64 i) m K = L12_3 (kA sh z o L) (.ptr 0 0) (kA sh z o L) (.int .i64 L.length) (.int .i64 i) m K := rfl
    conv at start => rhs; rw [L12_3_eq, n_lss, Option.bind_some, ifA_dec, if_pos hi, index_ka hs hi, Option.bind_some, load_cv, Option.bind_some]
    simp only [new_cv, new_r] at start
    rw [cst_last, Option.bind_some, cldA (x := L[i]) get_last, Option.bind_some, pcall1 (fz_cv _), hfr, w1, Option.map_some, Option.bind_some, ex0, Option.bind_some, ex1, Option.bind_some, ex2, Option.bind_some] at start
    simp only [new_z', new_r] at start
    rw [st_last, Option.bind_some, binA_neq, Option.bind_some, ifA_dec] at start
    rw [allF]
    have hl0 : 0 < L.length := by omega
    have est : stepR (L.map vw) i = (decide (checkE L[i] = 0) && (decide (i = 0) || (decide (rowsOf L[i].odds = rowsOf L[0].odds) && (decide (keysOf L[i].nodes.es = keysOf L[0].nodes.es) && decide (((L.map vw).getD (i - 1) zV).leaf < L[i].leaf))))) := by
      unfold stepR
      rw [vw_get hi, vw_get hl0]; rfl
    rw [est]
    by_cases c1 : checkE L[i] = 0
    case neg =>
      rw [if_pos c1] at start
      exact ⟨_, .inr ⟨by rw [decide_eq_false c1]; rfl, start⟩⟩
    rw [decide_eq_true c1, Bool.true_and]
    rw [if_neg (by omega), binA_gtr, Option.bind_some, ifA_dec] at start
    by_cases c2 : i = 0
    · rw [if_neg (by omega), rldA g0, Option.bind_some, rldA gw, Option.bind_some, pcRR, hf, w3, t1, Option.map_some, Option.bind_some, rstA g0, Option.bind_some, i_add1 (by omega), Option.bind_some] at start
      rw [decide_eq_true c2, Bool.true_or, Bool.true_and, start]
      exact nx
    · have hi1 : i - 1 < L.length := by omega
      have hsh := short_of hok c1
      have hok0 := (hL _ (List.getElem_mem hl0)).2
      have e25 : AP cfg 25 [L[i].odds.fr.av, L[0].odds.fr.av] = some (.bool (decide (rowsOf L[i].odds = rowsOf L[0].odds))) := V25 (A := L[i].odds.fr) (B := L[0].odds.fr) hsh.odds hsh.rows
      have e26 : AP cfg 26 [L[i].nodes.fr.av, L[0].nodes.fr.av] = some (.bool (decide (keysOf L[i].nodes.es = keysOf L[0].nodes.es))) := V26 (A := L[i].nodes.fr) (B := L[0].nodes.fr) hok.nsh hok0.nsh hsh.nodes hsh.kids
      have ix0 : indexAddrA (some 4) (kA sh z o L) (.int .i64 0) = some (.vptr (L[0].av).cells) := index_ka (k := 0) hs hl0
      rw [decide_eq_false c2, Bool.false_or, vw_get hi1]
      rw [if_pos (by omega), fld0, Option.bind_some, cld0 gc, Option.bind_some, ix0, Option.bind_some, fldc0, Option.bind_some, load_hd, Option.bind_some, pcall2 (fz_ol _) (fz_ol _), e25, Option.map_some, Option.bind_some, not_b, Option.bind_some, ifA_not] at start
      by_cases c3 : rowsOf L[i].odds = rowsOf L[0].odds
      case neg =>
        rw [decide_eq_false c3, ifA_false] at start
        exact ⟨_, .inr ⟨by rw [decide_eq_false c3, Bool.false_and, Bool.false_and], start⟩⟩
      rw [decide_eq_true c3, ifA_true, fld1, Option.bind_some, cld1 gc, Option.bind_some, Option.bind_some, fldc1, Option.bind_some, load_hd, Option.bind_some, pcall2 (fz_nl _) (fz_nl _), e26, Option.map_some, Option.bind_some, not_b, Option.bind_some, ifA_not] at start
      rw [decide_eq_true c3, Bool.true_and]
      by_cases c5 : keysOf L[i].nodes.es = keysOf L[0].nodes.es
      case neg =>
        rw [decide_eq_false c5, ifA_false] at start
        exact ⟨_, .inr ⟨by rw [decide_eq_false c5, Bool.false_and, Bool.false_and], start⟩⟩
      rw [decide_eq_true c5, ifA_true, fld3, Option.bind_some, cld3 gc, Option.bind_some, i_subW (by omega) (by omega), Option.bind_some, index_ka hs hi1, Option.bind_some, fldc3, Option.bind_some, load_hd, Option.bind_some, binA_leq, Option.bind_some, ifA_dec] at start
      rw [decide_eq_true c5, Bool.true_and]
      by_cases c4 : L[i].leaf ≤ L[i - 1].leaf
      · rw [if_pos c4] at start
        exact ⟨_, .inr ⟨by rw [decide_eq_false (show ¬ (vw L[i - 1]).leaf < L[i].leaf from by show ¬ L[i - 1].leaf < L[i].leaf; omega)]; rfl, start⟩⟩
      · rw [if_neg c4, rldA g0, Option.bind_some, rldA gw, Option.bind_some, pcRR, hf, w3, t1, Option.map_some, Option.bind_some, rstA g0, Option.bind_some, i_add1 (by omega), Option.bind_some] at start
        rw [decide_eq_true (show (vw L[i - 1]).leaf < L[i].leaf from by show L[i - 1].leaf < L[i].leaf; omega), Bool.true_and, start]
        exact nx
theorem V12 {sh : Sh} {z : Bool} {o : Own} {L : List CV} (hL : ∀ c ∈ L, OKC c) (h6 : L.length ≤ 6) (hs : sh = some 4 ∨ L = []) : AP cfg 12 [kA sh z o L] = some (.bool (wholeP (L.map vw))) := by
  have fin : ∀ (v : Bool) (m : Mem), AC cfg 12 [kA sh z o L] [] = some (.bool v, m) → AP cfg 12 [kA sh z o L] = some (.bool v) := fun v m h => AP_ofz _ _ (fz_bool _) rfl h
  obtain ⟨m', hW⟩ := W12 (sh := sh) (z := z) (o := o) hL h6 hs (K12_3 (finK cfg.P f12.results.toList)) L.length 0 [cR zeroF] zeroF (by omega) rfl canF_zero zeroF_fr
  rw [show (((0 : Nat) : Int)) = (0 : Int) from rfl] at hW
  have start : AC cfg 12 [kA sh z o L] [] = AC cfg 12 [kA sh z o L] [] := rfl
  conv at start => rhs; rw [T12, pc0, V24, Option.map_some, Option.bind_some]
  simp only [new_z', new_r, List.length_nil, List.nil_append] at start
  rw [st0all, Option.bind_some, len_ka, Option.bind_some] at start
  unfold wholeP
  rw [List.length_map, steps_eq]
  rcases hW with ⟨h1, t, t1, t2, t3, t4⟩ | ⟨h1, t4⟩
  · rw [t4, K12_3_x0, rldA t3, Option.bind_some, pc0, V21, Option.map_some, Option.bind_some, pcRR, t2, oneF_fr, V9 (t1.ok (sumV_bd2 hL h6 (Nat.le_refl _)) (by omega)) (canF_one.ok (Bd_one (by omega : 1 ≤ 4000)) (by omega)) (by omega) (by omega), Option.map_some, Option.bind_some, t1.q, canF_one.q] at start
    rw [h1, Bool.true_and]
    exact fin _ _ start
  · rw [t4, K12_3_ret] at start
    rw [h1, Bool.false_and]
    exact fin _ _ start
end Go.Ab

/- ProofAll in values. -/
set_option linter.unusedVariables false
set_option linter.unusedSimpArgs false
set_option maxRecDepth 100000
namespace Go.Ab
open Go.Proofs.Try

/-- Two rows that grow together, kept apart. -/
def TwoAt (m : Mem) (v1 : AV) (es1 : List AV) (v2 : AV) (es2 : List AV) : Prop :=
  (v1 = .lst none true .full [] ∧ es1 = [] ∧ v2 = .lst none true .full [] ∧ es2 = []) ∨
  (∃ n1 n2, n1 ≠ n2 ∧ v1 = .lst (some 4) false (.tok n1 26) es1 ∧ v2 = .lst (some 4) false (.tok n2 29) es2 ∧ es1 ≠ [] ∧ es2 ≠ [] ∧ m[n1]? = some (some (.tok es1.length 4)) ∧ m[n2]? = some (some (.tok es2.length 4)))
theorem TwoAt.app {m : Mem} {v1 v2 : AV} {es1 es2 : List AV} (h : TwoAt m v1 es1 v2 es2) (x : Mem) : TwoAt (m ++ x) v1 es1 v2 es2 := by
  rcases h with h | ⟨n1, n2, h0, h1, h2, h3, h4, h5, h6⟩
  · exact .inl h
  · exact .inr ⟨n1, n2, h0, h1, h2, h3, h4, by rw [List.getElem?_append_left (gr_lt h5)]; exact h5, by rw [List.getElem?_append_left (gr_lt h6)]; exact h6⟩
theorem two_grow {m : Mem} {v1 v2 y1 y2 : AV} {es1 es2 : List AV} {k1 k2 : Nat} (h : TwoAt m v1 es1 v2 es2) (hk1 : m[k1]? = some (some .resv)) (hk2 : m[k2]? = some (some .resv)) (hk : k1 ≠ k2) (hl1 : (es1.length + 1) * 80 ≤ roomA) (hl2 : (es2.length + 1) * 80 ≤ roomA) :
    ∃ v1' m1 v2' m2, appA (some k1) false 26 (some 4) 80 m v1 (.lst (some 4) false .full [y1]) = some (v1', m1) ∧ appA (some k2) false 29 (some 4) 80 m1 v2 (.lst (some 4) false .full [y2]) = some (v2', m2) ∧ TwoAt m2 v1' (es1 ++ [y1]) v2' (es2 ++ [y2]) := by
  have l1 := gr_lt hk1
  have l2 := gr_lt hk2
  rcases h with ⟨rfl, rfl, rfl, rfl⟩ | ⟨n1, n2, h0, rfl, rfl, h3, h4, h5, h6⟩
  · refine ⟨.lst (some 4) false (.tok k1 26) [y1], m.set k1 (some (.tok 1 4)), .lst (some 4) false (.tok k2 29) [y2], (m.set k1 (some (.tok 1 4))).set k2 (some (.tok 1 4)), rfl, rfl, .inr ⟨k1, k2, hk, rfl, rfl, by simp, by simp, ?_, ?_⟩⟩
    · rw [List.getElem?_set_ne (fun e => hk e.symm), List.getElem?_set_self l1]; rfl
    · rw [List.getElem?_set_self (by rw [List.length_set]; exact l2)]; rfl
  · have g1 : m.get n1 = some (.tok es1.length 4) := by simp [Mem.get, h5]
    have g2 : Mem.get (m.set n1 (some (.tok (es1.length + 1) 4))) n2 = some (.tok es2.length 4) := by
      unfold Mem.get
      rw [List.getElem?_set_ne h0, h6]; rfl
    refine ⟨.lst (some 4) false (.tok n1 26) (es1 ++ [y1]), m.set n1 (some (.tok (es1.length + 1) 4)), .lst (some 4) false (.tok n2 29) (es2 ++ [y2]), (m.set n1 (some (.tok (es1.length + 1) 4))).set n2 (some (.tok (es2.length + 1) 4)), ?_, ?_, .inr ⟨n1, n2, h0, rfl, rfl, by simp, by simp, ?_, ?_⟩⟩
    · simp [appA, g1, hl1, Sh.size]
    · simp [appA, g2, hl2, Sh.size]
    · rw [List.getElem?_set_ne (fun e => h0 e.symm), List.getElem?_set_self (gr_lt h5)]; simp
    · rw [List.getElem?_set_self (by rw [List.length_set]; exact gr_lt h6)]; simp
theorem build_cv {c : CV} (h : c.fr = c) : buildSliceA (some 4) [c.av] = some (.lst (some 4) false .full [c.av]) := by
  obtain ⟨⟨z1, o1, e1⟩, ⟨s2, z2, o2, e2⟩, ⟨s3, z3, o3, e3⟩, l⟩ := c
  simp only [CV.fr, OL.fr, NL.fr, LV.fr, CV.mk.injEq, OL.mk.injEq, NL.mk.injEq, LV.mk.injEq, true_and, and_true] at h
  cases o1 <;> cases o2 <;> cases o3 <;> simp [Own.fr] at h <;> rfl
theorem set_mid (m : Mem) (a b c : Option Ent) : ((m ++ [a]) ++ [b]).set m.length c = (m ++ [c]) ++ [b] := by simp
theorem st_two1 {m : Mem} {p : CV} : storeA (some 4) ((m ++ [cC zC]) ++ [cC zC]) (.ptr m.length 0) p.av = some ((m ++ [cC p]) ++ [cC zC]) := by
  rw [cstA (x := zC) (y := p) (get_app get_last _), set_mid]
theorem len_app1 (m : Mem) (a b : Option Ent) : (m ++ [a]).length = (m ++ [b]).length := by simp
theorem st_two2 {m : Mem} {p r : CV} : storeA (some 4) ((m ++ [cC p]) ++ [cC zC]) (.ptr (m ++ [cC zC]).length 0) r.av = some ((m ++ [cC p]) ++ [cC r]) := by
  rw [len_app1 m (cC zC) (cC p), cst_last]
theorem vw_cut {c p r : CV} (hp : CutOf c p) (hr : CutOf c r) : vw p = vw r := by
  obtain ⟨h1, _, h2, _⟩ := check_congr hp hr
  unfold vw rowsOf
  rw [h1, h2, hp.odds, hr.odds, hp.nodes, hr.nodes, hp.leaf, hr.leaf]
theorem W5 {z : Bool} {L : List CV} (hL : ∀ c ∈ L, XC c ∧ c.fr = c) (h6 : L.length ≤ 6) (K : Ex → St → Option (AV × Mem)) : ∀ (j i : Nat) (m : Mem) (v1 v2 : AV) (P R : List CV), i + j = L.length → P.length = i → R.length = i → (∀ c ∈ P, OKC c) → (∀ c ∈ R, OKC c) → P.map vw = R.map vw → TwoAt m v1 (P.map CV.av) v2 (R.map CV.av) →
    ∃ (m' : Mem) (w1 w2 : AV) (P' R' : List CV), P'.length = L.length ∧ R'.length = L.length ∧ (∀ c ∈ P', OKC c) ∧ (∀ c ∈ R', OKC c) ∧ P'.map vw = R'.map vw ∧ TwoAt m' w1 (P'.map CV.av) w2 (R'.map CV.av) ∧ L5_4 v1 v2 (kA (some 4) z .no L) (.int .i64 L.length) (.int .i64 i) m K = K (.exit 0) (O5_4 w1 w2 m')
  | 0, i, m, v1, v2, P, R, hij, hP, hR, oP, oR, hv, ht => ⟨m, v1, v2, P, R, by omega, by omega, oP, oR, hv, ht, by rw [L5_4_eq, n_lss, Option.bind_some, ifA_dec, if_neg (by omega)]⟩
  | j + 1, i, m, v1, v2, P, R, hij, hP, hR, oP, oR, hv, ht => by
    have hi : i < L.length := by omega
    obtain ⟨hx, hf⟩ := hL _ (List.getElem_mem hi)
    obtain ⟨p, r, e6, hp, hr⟩ := V6 hx
    have hp' : OKC p := ⟨hp.fr, hp.ok⟩
    have hr' : OKC r := ⟨hr.fr, hr.ok⟩
    have ht2 := (ht.app [cC L[i]]).app [cC p]
    have ht3 := (ht2.app [cC r]).app [some .resv, some .resv]
    have k1 : ((((m ++ [cC L[i]]) ++ [cC p]) ++ [cC r]) ++ [some .resv, some .resv])[(((m ++ [cC L[i]]) ++ [cC p]) ++ [cC r]).length]? = some (some .resv) := by
      rw [List.getElem?_append_right (Nat.le_refl _), Nat.sub_self]; rfl
    have k2 : ((((m ++ [cC L[i]]) ++ [cC p]) ++ [cC r]) ++ [some .resv, some .resv])[(((m ++ [cC L[i]]) ++ [cC p]) ++ [cC r]).length + 1]? = some (some .resv) := by
      rw [List.getElem?_append_right (by omega), Nat.add_sub_cancel_left]; rfl
    obtain ⟨u1, m1, u2, m2, a1, a2, a3⟩ := two_grow (y1 := p.av) (y2 := r.av) ht3 k1 k2 (by omega) (by rw [List.length_map]; simp only [roomA]; omega) (by rw [List.length_map]; simp only [roomA]; omega)
    have a3' : TwoAt m2 u1 ((P ++ [p]).map CV.av) u2 ((R ++ [r]).map CV.av) := by rw [List.map_append, List.map_append]; exact a3
    obtain ⟨m', w1, w2, P', R', b1, b2, b3, b4, b5, b6, b7⟩ := W5 (z := z) hL h6 K j (i + 1) m2 u1 u2 (P ++ [p]) (R ++ [r]) (by omega) (by simp [hP]) (by simp [hR])
      (fun c hc => (List.mem_append.1 hc).elim (oP c) (fun h => by rw [List.mem_singleton.1 h]; exact hp'))
      (fun c hc => (List.mem_append.1 hc).elim (oR c) (fun h => by rw [List.mem_singleton.1 h]; exact hr'))
      (by rw [List.map_append, List.map_append, hv]; simp [vw_cut hp hr]) a3'
    refine ⟨m', w1, w2, P', R', b1, b2, b3, b4, b5, b6, ?_⟩
    have gp : ((((m ++ [cC L[i]]) ++ [cC p]) ++ [cC r]) ++ [some .resv, some .resv])[(m ++ [cC L[i]]).length]? = some (cC p) := by
      have h1 : (((m ++ [cC L[i]]) ++ [cC p]) ++ [cC r])[(m ++ [cC L[i]]).length]? = some (cC p) := get_app get_last _
      rw [List.getElem?_append_left (gr_lt h1)]; exact h1
    have gr : ((((m ++ [cC L[i]]) ++ [cC p]) ++ [cC r]) ++ [some .resv, some .resv])[((m ++ [cC L[i]]) ++ [cC zC]).length]? = some (cC r) := by
      have h1 : (((m ++ [cC L[i]]) ++ [cC p]) ++ [cC r])[((m ++ [cC L[i]]) ++ [cC zC]).length]? = some (cC r) := by
        rw [len_app1 _ (cC zC) (cC p)]; exact get_last
      rw [List.getElem?_append_left (gr_lt h1)]; exact h1
    rw [L5_4_eq, n_lss, Option.bind_some, ifA_dec, if_pos hi, index_ka (.inl rfl) hi, Option.bind_some, load_cv, Option.bind_some]
    simp only [new_cv, new_r]
    rw [cst_last, Option.bind_some, cldA (x := L[i]) get_last, Option.bind_some, pcall1 (fz_cv _), hf, e6, Option.map_some, Option.bind_some, ext0'', Option.bind_some, ext1'', Option.bind_some]
    simp only [new_cv, new_r]
    rw [st_two1, Option.bind_some, st_two2, Option.bind_some]
    simp only [res2]
    rw [cldA gp, Option.bind_some, build_cv hp.fr, Option.bind_some, cldA gr, Option.bind_some, build_cv hr.fr, Option.bind_some, a1, Option.bind_some, a2, Option.bind_some, i_add1 (by omega), Option.bind_some]
    exact b7
theorem two_fz1 {m : Mem} {v1 v2 : AV} {P R : List CV} (h : TwoAt m v1 (P.map CV.av) v2 (R.map CV.av)) : ∃ sh z o, Fz v1 (kA sh z o P) ∧ (sh = some 4 ∨ P = []) := by
  rcases h with ⟨rfl, h1, _⟩ | ⟨n1, n2, _, rfl, _⟩
  · have : P = [] := List.map_eq_nil_iff.1 h1
    subst this
    exact ⟨none, true, .full, fun _ => rfl, .inr rfl⟩
  · exact ⟨some 4, false, .no, fun _ => rfl, .inl rfl⟩
theorem two_fz2 {m : Mem} {v1 v2 : AV} {P R : List CV} (h : TwoAt m v1 (P.map CV.av) v2 (R.map CV.av)) : ∃ sh z o, Fz v2 (kA sh z o R) ∧ (sh = some 4 ∨ R = []) := by
  rcases h with ⟨_, _, rfl, h1⟩ | ⟨n1, n2, _, _, rfl, _⟩
  · have : R = [] := List.map_eq_nil_iff.1 h1
    subst this
    exact ⟨none, true, .full, fun _ => rfl, .inr rfl⟩
  · exact ⟨some 4, false, .no, fun _ => rfl, .inl rfl⟩
theorem ProofAll_law {z : Bool} {l : List CV} (hl : ∀ c ∈ l, XC c ∧ c.fr = c) : ∃ m', AC cfg 5 [.lst (some 4) z .no (l.map CV.av)] [] = some (.bool true, m') := by
  have e1 : maxA false (.int .i64 (l.length : Nat)) (.int .i64 6) = some (.int .i64 (min l.length 6 : Nat)) := min_len _ 6
  have e2 : sliceT (some 4) (kA (some 4) z .no l) none (some (.int .i64 ((min l.length 6 : Nat) : Int))) none = some (kA (some 4) z .no (l.take 6)) := by
    have : sliceT (some 4) (.lst (some 4) z .no (l.map CV.av)) none (some (.int .i64 ((min l.length 6 : Nat) : Int))) none = some (.lst (some 4) z .no ((l.map CV.av).take (min l.length 6))) := slice_cut (by rw [List.length_map]; omega)
    rw [← List.map_take, take_min] at this
    exact this
  have start : AC cfg 5 [kA (some 4) z .no l] [] = AC cfg 5 [kA (some 4) z .no l] [] := rfl
  conv at start => rhs; rw [T5, len_ka, Option.bind_some, e1, Option.bind_some, e2, Option.bind_some, len_ka, Option.bind_some]
  obtain ⟨m', w1, w2, P, R, b1, b2, b3, b4, b5, b6, b7⟩ := W5 (z := z) (L := l.take 6) (fun c hc => hl c (List.mem_of_mem_take hc)) (by rw [List.length_take]; omega) (K5_4 (finK cfg.P f5.results.toList)) (l.take 6).length 0 [] (.lst none true .full []) (.lst none true .full []) [] [] (by omega) rfl rfl (by simp) (by simp) rfl (.inl ⟨rfl, rfl, rfl, rfl⟩)
  rw [show (((0 : Nat) : Int)) = (0 : Int) from rfl] at b7
  have hn : (l.take 6).length ≤ 6 := by rw [List.length_take]; omega
  obtain ⟨s1, z1, o1, f1, g1⟩ := two_fz1 b6
  obtain ⟨s2, z2, o2, f2, g2⟩ := two_fz2 b6
  have x1 := V11 (z := z1) (o := o1) b3 (by omega) g1
  have x2 := V12 (z := z2) (o := o2) b4 (by omega) g2
  rw [← b5] at x2
  rw [b7, K5_4_x0, pcall1 f1, x1, Option.map_some, Option.bind_some, pcall1 f2, x2, Option.map_some, Option.bind_some, bl_eql, Option.bind_some, beq_self_eq_true, ifA_true, pcall10, Option.bind_some] at start
  exact ⟨_, start⟩
end Go.Ab

/- Data that can be read, as values of the interpreter: any type of whole numbers, truth values, texts, rows of these, and flat structs. -/
set_option linter.unusedVariables false
set_option linter.unusedSimpArgs false
set_option maxRecDepth 100000
namespace Go.Ab
open Go.RowKit

def gN : G := ⟨fun _ _ => False, fun _ => False, fun _ => none, fun _ _ => none⟩
def atomT (P : Program) (t : Nat) : Bool := match P.underlying t with
  | some (.int _) | some .bool | some .string | some (.slice _) => true
  | _ => false
def shE (P : Program) (t : Nat) : Sh := match P.underlying t with
  | some (.struct fs) => some fs.size
  | _ => none
/-- What stands in a variable of a type, by depth. -/
def Reads (P : Program) : Nat → Nat → AV → Prop
  | 0, _, _ => False
  | n + 1, t, v => match P.underlying t with
    | some (.int k) => ∃ i, v = .int k i ∧ (Lit.int k i).wf = true
    | some .bool => ∃ b, v = .bool b
    | some .string => ∃ s, v = .str s ∧ s.size ≤ maxLen
    | some (.slice e) => ∃ z es, v = .lst (shE P e) z .no es ∧ (z = true → es = []) ∧ ∀ x ∈ es, Reads P n e x
    | some (.struct fs) => ∃ cs, v = .agg cs ∧ cs.length = fs.size ∧ ∀ i f, fs[i]? = some f → Reads P n f.type (cs.getD i .any)
    | _ => False
def fieldsOk (P : Program) (ok : Nat → Bool) : Nat → List Field → Bool
  | _, [] => true
  | i, f :: l => f.offset == i && P.cellsOf f.type == 1 && atomT P f.type && ok f.type && fieldsOk P ok (i + 1) l
def tyOk (P : Program) : Nat → Nat → Bool
  | 0, _ => false
  | n + 1, t => match P.underlying t with
    | some (.int _) | some .bool | some .string => P.cellsOf t == 1
    | some (.slice e) => P.cellsOf t == 1 && tyOk P n e
    | some (.struct fs) => P.cellsOf t == fs.size && decide (0 < fs.size) && fieldsOk P (tyOk P n) 0 fs.toList
    | _ => false
theorem fieldsOk_get {P : Program} {ok : Nat → Bool} : ∀ {l : List Field} {i0 : Nat}, fieldsOk P ok i0 l = true → ∀ i f, l[i]? = some f → f.offset = i0 + i ∧ P.cellsOf f.type = 1 ∧ atomT P f.type = true ∧ ok f.type = true
  | [], i0, h, i, f, hf => by simp at hf
  | g :: l, i0, h, i, f, hf => by
    simp only [fieldsOk, Bool.and_eq_true, beq_iff_eq] at h
    obtain ⟨⟨⟨⟨h1, h2⟩, h3⟩, h4⟩, h5⟩ := h
    cases i with
    | zero =>
      simp at hf; subst hf
      exact ⟨h1, h2, h3, h4⟩
    | succ i =>
      simp at hf
      obtain ⟨a, b⟩ := fieldsOk_get h5 i f hf
      exact ⟨by omega, b⟩
theorem flatS {s : Nat} (hs : 0 < s) : ∀ {es : List AV}, (∀ e ∈ es, e.cells.length = s) → (flat es).length = es.length * s ∧ ∀ j, j < es.length * s → (flat es).getD j .any = (es.getD (j / s) .any).cells.getD (j % s) .any
  | [], h => ⟨by simp [flat], fun j hj => by simp at hj⟩
  | e :: es, h => by
    have h0 := h e List.mem_cons_self
    obtain ⟨h1, h2⟩ := flatS hs (fun x hx => h x (List.mem_cons_of_mem _ hx))
    have e1 : flat (e :: es) = e.cells ++ flat es := rfl
    have e2 : (e :: es).length * s = es.length * s + s := by rw [List.length_cons, Nat.add_mul, Nat.one_mul]
    refine ⟨by rw [e1, List.length_append, h0, h1, e2]; omega, fun j hj => ?_⟩
    rw [e1, List.getD_eq_getElem?_getD]
    by_cases hj2 : j < s
    · rw [List.getElem?_append_left (by omega), Nat.div_eq_of_lt hj2, Nat.mod_eq_of_lt hj2]
      show _ = e.cells.getD j .any
      rw [List.getD_eq_getElem?_getD]
    · rw [List.getElem?_append_right (by omega), h0, ← List.getD_eq_getElem?_getD, h2 (j - s) (by omega)]
      have e3 : j / s = (j - s) / s + 1 := by
        have := Nat.div_eq_sub_div hs (by omega : s ≤ j)
        omega
      have e4 : j % s = (j - s) % s := Nat.mod_eq_sub_mod (by omega)
      rw [e3, e4, List.getD_cons_succ]
theorem reads_ok {P : Program} : ∀ (n t : Nat) (v : AV), tyOk P n t = true → Reads P n t v → shOk (shE P t) v = true ∧ pl v = true ∧ v.cells.length = P.cellsOf t ∧ 0 < P.cellsOf t ∧ (shE P t).size = P.cellsOf t ∧ (atomT P t = true → atomOk v = true)
  | 0, t, v, ht, _ => by simp [tyOk] at ht
  | n + 1, t, v, ht, h => by
    unfold Reads at h
    unfold tyOk at ht
    unfold shE atomT
    cases hu : P.underlying t with
    | none => rw [hu] at h; exact h.elim
    | some ty =>
      rw [hu] at h ht
      cases ty with
      | int k =>
        obtain ⟨i, rfl, _⟩ := h
        have hc : P.cellsOf t = 1 := by simpa using ht
        exact ⟨rfl, rfl, hc.symm, by omega, hc.symm, fun _ => rfl⟩
      | bool =>
        obtain ⟨i, rfl⟩ := h
        have hc : P.cellsOf t = 1 := by simpa using ht
        exact ⟨rfl, rfl, hc.symm, by omega, hc.symm, fun _ => rfl⟩
      | string =>
        obtain ⟨i, rfl, _⟩ := h
        have hc : P.cellsOf t = 1 := by simpa using ht
        exact ⟨rfl, rfl, hc.symm, by omega, hc.symm, fun _ => rfl⟩
      | slice e =>
        obtain ⟨z, es, rfl, _⟩ := h
        have hc : P.cellsOf t = 1 := by
          simp only [Bool.and_eq_true, beq_iff_eq] at ht
          exact ht.1
        exact ⟨rfl, rfl, hc.symm, by omega, hc.symm, fun _ => rfl⟩
      | struct fs =>
        obtain ⟨cs, rfl, hl, hf⟩ := h
        simp only [Bool.and_eq_true, beq_iff_eq, decide_eq_true_eq] at ht
        obtain ⟨⟨h1, h2⟩, h3⟩ := ht
        have hall : ∀ c ∈ cs, atomOk c = true ∧ pl c = true := by
          intro c hc
          obtain ⟨i, hi, rfl⟩ := List.mem_iff_getElem.1 hc
          have hfi : fs[i]? = some (fs[i]'(by omega)) := Array.getElem?_eq_getElem (by omega)
          obtain ⟨_, b, c2, d⟩ := fieldsOk_get h3 i _ (by rw [Array.getElem?_toList]; exact hfi)
          have r := hf i _ hfi
          rw [List.getD_eq_getElem?_getD, List.getElem?_eq_getElem hi] at r
          have := reads_ok n _ _ d r
          exact ⟨this.2.2.2.2.2 c2, this.2.1⟩
        have hpl : ∀ l : List AV, (∀ c ∈ l, pl c = true) → plL l = true := by
          intro l
          induction l with
          | nil => intro _; rfl
          | cons a l ih =>
            intro h
            show (pl a && plL l) = true
            rw [h a List.mem_cons_self, ih (fun c hc => h c (List.mem_cons_of_mem _ hc))]; rfl
        refine ⟨?_, hpl cs (fun c hc => (hall c hc).2), by show cs.length = _; omega, by omega, h1.symm, fun h => by cases h⟩
        show (cs.length == fs.size && cs.all atomOk) = true
        rw [Bool.and_eq_true]
        exact ⟨by simp [hl], List.all_eq_true.2 fun c hc => (hall c hc).1⟩
      | _ => exact h.elim
section
variable {P : Program} {H : Type} {enc : TypeId × Value → H} {W : World}
theorem rd_cells {w : World} {a : Addr} {n : Nat} {cs : List Value} (h : w.cells? 0 a n = some cs) : cs.length = n ∧ ∀ j, j < n → w.cell? (a.add j) = cs[j]? := by
  unfold World.cells? at h
  rw [if_pos (Nat.zero_le _)] at h
  refine ⟨by simpa using mapM_some_length h, fun j hj => mapM_some_get h j j (by simp [hj])⟩
theorem rd_add {a : Addr} (h : a.spot = none) (j : Nat) : a.add j = ⟨a.block, a.off + j, none⟩ := by
  obtain ⟨b, o, s⟩ := a
  subst h
  exact Addr_add b o j
/-- Whatever can be read is a value of the interpreter. -/
theorem reads : ∀ (n t : Nat), tyOk P n t = true → ∀ {fuel : Nat} {cs : List Value} {x : DataW H × List MemPlace}, DataW.trod enc P W 0 (fun _ => true) true fuel t cs = some x → ∃ v : AV, Reads P n t v ∧ cs.length = P.cellsOf t ∧ ∀ j, j < P.cellsOf t → V W gN (v.cells.getD j .any) (cs.getD j undef)
  | 0, t, ht, _, _, _, _ => by simp [tyOk] at ht
  | n + 1, t, ht, fuel, cs, x, h => by
    have ht0 := ht
    unfold tyOk at ht
    unfold Reads
    cases hu : P.underlying t with
    | none => rw [hu] at ht; cases ht
    | some ty =>
      rw [hu] at ht
      cases ty with
      | int k =>
        have hc : P.cellsOf t = 1 := by simpa using ht
        obtain ⟨i, rfl, _, hw⟩ := DataW.trod_int hu h
        refine ⟨.int k i, ⟨i, rfl, hw⟩, hc.symm, fun j hj => ?_⟩
        obtain rfl : j = 0 := by omega
        exact .int _ _
      | bool =>
        have hc : P.cellsOf t = 1 := by simpa using ht
        obtain ⟨i, rfl, _⟩ := DataW.trod_bool hu h
        refine ⟨.bool i, ⟨i, rfl⟩, hc.symm, fun j hj => ?_⟩
        obtain rfl : j = 0 := by omega
        exact .bool _
      | string =>
        have hc : P.cellsOf t = 1 := by simpa using ht
        obtain ⟨i, rfl, _, hw⟩ := DataW.trod_string hu h
        refine ⟨.str i, ⟨i, rfl, hw⟩, hc.symm, fun j hj => ?_⟩
        obtain rfl : j = 0 := by omega
        exact .str _
      | slice e =>
        simp only [Bool.and_eq_true, beq_iff_eq] at ht
        obtain ⟨hc, hte⟩ := ht
        rcases DataW.trod_slice hu h with ⟨rfl, _⟩ | ⟨a, len, cap, elems, rest, m, _, rfl, _, _, hl, hm, he, hel, hre, _⟩
        · refine ⟨.lst (shE P e) true .no [], ⟨true, [], rfl, fun _ => rfl, fun x hx => by cases hx⟩, hc.symm, fun j hj => ?_⟩
          obtain rfl : j = 0 := by omega
          exact .nils _ .no (.inr rfl)
        · obtain ⟨hrl, hre⟩ := hre rfl
          have raw : ∀ i, i < cap → ∃ y, (W.cells? 0 (a.add (i * P.cellsOf e)) (P.cellsOf e)).bind (DataW.trod enc P W 0 (fun _ => true) true m e) = some y := by
            intro i hi
            by_cases hi2 : i < len
            · have h1 := hel i hi2
              rw [List.getElem?_eq_getElem (by omega)] at h1
              exact ⟨_, h1⟩
            · have h1 := hre (i - len) (by omega)
              rw [List.getElem?_eq_getElem (by omega), show len + (i - len) = i by omega] at h1
              exact ⟨_, h1⟩
          have at1 : ∀ i, i < cap → (i = 0 ∨ a.spot = none) → a.spot = none ∧ ∃ v : AV, Reads P n e v ∧ ∀ j, j < P.cellsOf e → ∃ u, W.cell? ⟨a.block, a.off + (i * P.cellsOf e + j), none⟩ = some u ∧ V W gN (v.cells.getD j .any) u := by
            intro i hi hs0
            obtain ⟨y, hy⟩ := raw i hi
            obtain ⟨cs, h1, h2⟩ := Option.bind_eq_some_iff.1 hy
            obtain ⟨v, hv, hlen, hV⟩ := reads n e hte h2
            have hpos := (reads_ok n e v hte hv).2.2.2.1
            have h3 := (rd_cells h1).2
            have hs : a.spot = none := by
              rcases hs0 with rfl | hs0
              · rw [Nat.zero_mul] at h3
                have h4 := h3 0 hpos
                rw [List.getElem?_eq_getElem (by omega)] at h4
                exact World.cell?_spot h4
              · exact hs0
            refine ⟨hs, v, hv, fun j hj => ?_⟩
            have h4 := h3 j hj
            rw [rd_add hs, Addr_add, Nat.add_assoc, List.getElem?_eq_getElem (by omega)] at h4
            refine ⟨_, h4, ?_⟩
            have := hV j hj
            rwa [List.getD_eq_getElem?_getD (l := cs), List.getElem?_eq_getElem (by omega)] at this
          have hsp : cap = 0 ∨ a.spot = none := by
            by_cases h0 : cap = 0
            · exact .inl h0
            · exact .inr (at1 0 (by omega) (.inl rfl)).1
          have cell : ∀ i, ∃ v : AV, i < cap → Reads P n e v ∧ ∀ j, j < P.cellsOf e → ∃ u, W.cell? ⟨a.block, a.off + (i * P.cellsOf e + j), none⟩ = some u ∧ V W gN (v.cells.getD j .any) u := by
            intro i
            by_cases hi : i < cap
            · obtain ⟨v, hv⟩ := (at1 i hi (.inr (hsp.resolve_left (by omega)))).2
              exact ⟨v, fun _ => hv⟩
            · exact ⟨.any, fun h => absurd h hi⟩
          obtain ⟨f, hf⟩ := Classical.axiomOfChoice cell
          have hlen : ((List.range len).map f).length = len := by simp
          have hmem : ∀ v ∈ (List.range len).map f, Reads P n e v := by
            intro v hv
            obtain ⟨i, hi, rfl⟩ := List.mem_map.1 hv
            exact (hf i (by have := List.mem_range.1 hi; omega)).1
          have hok := fun v hv => reads_ok n e v hte (hmem v hv)
          by_cases hl0 : len = 0
          · subst hl0
            refine ⟨.lst (shE P e) false .no [], ⟨false, [], rfl, (fun h => by cases h), fun x hx => by cases hx⟩, hc.symm, fun j hj => ?_⟩
            obtain rfl : j = 0 := by omega
            exact V.lst (w := W) (g := gN) (shE P e) .no [] a cap (fun _ => undef) hsp (Nat.zero_le _) hm (fun e he => by cases he) (fun j hj => by simp [flat] at hj) (fun j hj => by simp [flat] at hj) trivial
          · have hs0 : 0 < P.cellsOf e := (hok (f 0) (List.mem_map.2 ⟨0, List.mem_range.2 (by omega), rfl⟩)).2.2.2.1
            obtain ⟨fl1, fl2⟩ := flatS hs0 (fun v hv => (hok v hv).2.2.1)
            rw [hlen] at fl1 fl2
            have hcl : ∀ j, j < len * P.cellsOf e → ∃ u, W.cell? ⟨a.block, a.off + j, none⟩ = some u ∧ V W gN ((flat ((List.range len).map f)).getD j .any) u := by
              intro j hj
              have hd : j / P.cellsOf e < len := Nat.div_lt_of_lt_mul (by rw [Nat.mul_comm]; exact hj)
              have h1 := (hf (j / P.cellsOf e) (by omega)).2 (j % P.cellsOf e) (Nat.mod_lt _ hs0)
              have e1 : j / P.cellsOf e * P.cellsOf e + j % P.cellsOf e = j := Nat.div_add_mod' j _
              rw [e1] at h1
              rw [fl2 j hj, List.getD_eq_getElem?_getD (l := (List.range len).map f), List.getElem?_map, List.getElem?_range hd]
              exact h1
            have hus : ∀ j, ∃ u, j < len * P.cellsOf e → W.cell? ⟨a.block, a.off + j, none⟩ = some u ∧ V W gN ((flat ((List.range len).map f)).getD j .any) u := by
              intro j
              by_cases hj : j < len * P.cellsOf e
              · obtain ⟨u, hu⟩ := hcl j hj
                exact ⟨u, fun _ => hu⟩
              · exact ⟨undef, fun h => absurd h hj⟩
            obtain ⟨us, hus⟩ := Classical.axiomOfChoice hus
            refine ⟨.lst (shE P e) false .no ((List.range len).map f), ⟨false, _, rfl, (fun h => by cases h), hmem⟩, hc.symm, fun j hj => ?_⟩
            obtain rfl : j = 0 := by omega
            have hV := V.lst (w := W) (g := gN) (shE P e) .no ((List.range len).map f) a cap us hsp (by rw [hlen]; exact hl) hm
              (fun v hv => ⟨(hok v hv).1, (hok v hv).2.1⟩)
              (fun j hj => by
                rw [fl1] at hj
                exact ⟨(hus j hj).1, fun h => h, fun h => h⟩)
              (fun j hj => by
                rw [fl1] at hj
                exact (hus j hj).2) trivial
            rw [hlen] at hV
            exact hV
      | struct fs =>
        simp only [Bool.and_eq_true, beq_iff_eq, decide_eq_true_eq] at ht
        obtain ⟨⟨h1, h2⟩, h3⟩ := ht
        obtain ⟨xs, m, _, _, hcl, hxl, hf⟩ := DataW.trod_struct hu h
        have fld : ∀ i, ∃ v : AV, i < fs.size → ∀ f, fs[i]? = some f → Reads P n f.type v ∧ V W gN v (cs.getD i undef) := by
          intro i
          by_cases hi : i < fs.size
          · have hfi : fs[i]? = some fs[i] := Array.getElem?_eq_getElem hi
            obtain ⟨o, c, a, k⟩ := fieldsOk_get h3 i fs[i] (by rw [Array.getElem?_toList]; exact hfi)
            have hx := hf i fs[i] hfi
            rw [List.getElem?_eq_getElem (by omega)] at hx
            obtain ⟨v, hv, hlen, hV⟩ := reads n _ k hx
            refine ⟨v, fun _ f hf => ?_⟩
            rw [hfi] at hf
            obtain rfl := Option.some.inj hf
            refine ⟨hv, ?_⟩
            have h0 := hV 0 (by omega)
            have hat := (reads_ok n _ v k hv).2.2.2.2.2 a
            have hcells : v.cells = [v] := by
              cases v <;> first | rfl | (simp [atomOk] at hat)
            rw [hcells, o, Nat.zero_add, c] at h0
            have e0 : ((cs.drop i).take 1).getD 0 undef = cs.getD i undef := by
              rw [List.getD_eq_getElem?_getD, List.getD_eq_getElem?_getD, List.getElem?_take_of_lt (by omega), List.getElem?_drop]; rfl
            rw [e0] at h0
            exact h0
          · exact ⟨.any, fun h => absurd h hi⟩
        obtain ⟨F, hF⟩ := Classical.axiomOfChoice fld
        have hg : ∀ i, i < fs.size → ((List.range fs.size).map F).getD i .any = F i := by
          intro i hi
          rw [List.getD_eq_getElem?_getD, List.getElem?_map, List.getElem?_range hi]; rfl
        refine ⟨.agg ((List.range fs.size).map F), ⟨_, rfl, by simp, fun i f hf => ?_⟩, hcl, fun j hj => ?_⟩
        · have hi : i < fs.size := (Array.getElem?_eq_some_iff.1 hf).1
          rw [hg i hi]
          exact (hF i hi f hf).1
        · rw [h1] at hj
          show V W gN (((List.range fs.size).map F).getD j .any) _
          rw [hg j hj]
          exact (hF j hj fs[j] (Array.getElem?_eq_getElem hj)).2
      | _ => cases ht
theorem read_slice {n t e : Nat} (ht : tyOk P n t = true) {v : Value} {d : DataW H} {ps : List MemPlace} (hu : P.underlying t = some (.slice e)) (hv : ∃ a len cap, v = .slice a len cap) (h : DataW.Trod enc P W 0 (fun _ => true) true t v d ps) : ∃ y : AV, V W gN y v ∧ Reads P n t y := by
  obtain ⟨a, len, cap, rfl⟩ := hv
  obtain ⟨fuel, h⟩ := h
  have h : DataW.trod enc P W 0 (fun _ => true) true fuel t [.slice a len cap] = some (d, ps) := h
  obtain ⟨y, hy, hl, hV⟩ := reads n t ht h
  obtain ⟨_, _, h3, _, _, h6⟩ := reads_ok n t y ht hy
  have hat : atomT P t = true := by unfold atomT; rw [hu]
  have hc : y.cells = [y] := by
    have := h6 hat
    cases y <;> first | rfl | (simp [atomOk] at this)
  have := hV 0 (by rw [← hl]; exact Nat.zero_lt_one)
  rw [hc] at this
  exact ⟨y, this, hy⟩
end
end Go.Ab

/- Certificates that can be read as data, as values of the interpreter. -/
set_option linter.unusedVariables false
set_option linter.unusedSimpArgs false
set_option maxRecDepth 100000
namespace Go.Ab
open Go.Proofs Go.Proofs.Try Go.RowKit

theorem get_nil (nm : Nat) : Mem.get ([] : Mem) nm = none := by simp [Mem.get]
theorem memR0 (w : World) : MemR w.heap.size w gN [] where
  obj nm bx cs h := by rw [get_nil] at h; cases h
  tok nm n sz h := by rw [get_nil] at h; cases h
  resv nm h := ⟨rfl, fun _ => rfl⟩
  fresh nm h := ⟨rfl, fun _ => rfl⟩
  inj nm nm' b h := by unfold blk at h; rw [get_nil] at h; cases h
  wrLt b off h := h.elim
  boxLt b h := h.elim
theorem cfgOk : CfgOk cfg where
  name g fn h := by
    have hall : (Try.prog.funcs.toList.all fun fn => !(fn.name == "runtime.NumGoroutine")) = true := by kernel_rfl
    have hm : fn ∈ Try.prog.funcs.toList := by
      rw [Array.mem_toList_iff]
      exact Array.mem_of_getElem? h
    have := List.all_eq_true.1 hall fn hm
    simpa using this
  lib g h hh := by cases hh
/-- A law that answers true in values answers true on the machine, and turns nothing that was there. -/
theorem law_calls {f : Nat} {args : List AV} {vs : Array Value} {W : World} (h : ∃ m', AC cfg f args [] = some (.bool true, m')) (hl : args.length = vs.size) (hv : ∀ j, j < args.length → V W gN (args.getD j .any) (vs.getD j undef)) :
    Calls Try.prog f vs W fun e W' => e = .returned (.bool true) ∧ Below W.heap.size W W' := by
  obtain ⟨m', hm'⟩ := h
  refine ((AC_sound cfgOk f args [] _ _ hm').1 W.heap.size W gN vs (memR0 W) (Nat.le_refl _) hl hv).mono ?_
  rintro e W' ⟨v', g', rfl, hs, _, hv'⟩
  cases hv'
  exact ⟨rfl, hs.below⟩
/-! ### Types -/
theorem u3 : Try.prog.underlying 3 = some (.int .i64) := by kernel_rfl
theorem u4 : Try.prog.underlying 4 = some .bool := by kernel_rfl
theorem u22 : Try.prog.underlying 22 = some (.slice 48) := by kernel_rfl
theorem u23 : Try.prog.underlying 23 = some (.slice 50) := by kernel_rfl
theorem u24 : Try.prog.underlying 24 = some (.slice 35) := by kernel_rfl
theorem u33 : Try.prog.underlying 33 = some (.slice 92) := by kernel_rfl
theorem u44 : Try.prog.underlying 44 = some (.slice 26) := by kernel_rfl
theorem u48 : Try.prog.underlying 48 = some (.slice 3) := by kernel_rfl
theorem u92 : Try.prog.underlying 92 = some (.int .u32) := by kernel_rfl
noncomputable def fieldsOf (t : Nat) : Array Field := match Try.prog.underlying t with
  | some (.struct fs) => fs
  | _ => #[]
theorem u26 : Try.prog.underlying 26 = some (.struct (fieldsOf 26)) := by kernel_rfl
theorem u35 : Try.prog.underlying 35 = some (.struct (fieldsOf 35)) := by kernel_rfl
theorem u50 : Try.prog.underlying 50 = some (.struct (fieldsOf 50)) := by kernel_rfl
theorem f26 : (fieldsOf 26).toList.map (fun f => f.type) = [22, 23, 24, 3] := by kernel_rfl
theorem f35 : (fieldsOf 35).toList.map (fun f => f.type) = [4, 33, 33] := by kernel_rfl
theorem f50 : (fieldsOf 50).toList.map (fun f => f.type) = [3, 48, 3] := by kernel_rfl
theorem s3 : shE Try.prog 3 = none := by unfold shE; rw [u3]
theorem s48 : shE Try.prog 48 = none := by unfold shE; rw [u48]
theorem s92 : shE Try.prog 92 = none := by unfold shE; rw [u92]
theorem sz {t : Nat} {l : List Nat} (h : (fieldsOf t).toList.map (fun f => f.type) = l) : (fieldsOf t).size = l.length := by
  rw [← h, List.length_map, Array.length_toList]
theorem s35 : shE Try.prog 35 = some 3 := by unfold shE; rw [u35]; exact congrArg some (sz f35)
theorem s50 : shE Try.prog 50 = some 3 := by unfold shE; rw [u50]; exact congrArg some (sz f50)
theorem s26 : shE Try.prog 26 = some 4 := by unfold shE; rw [u26]; exact congrArg some (sz f26)
theorem fld_type {t : Nat} {l : List Nat} (h : (fieldsOf t).toList.map (fun f => f.type) = l) {i ty : Nat} (hi : l[i]? = some ty) : ∃ f, (fieldsOf t)[i]? = some f ∧ f.type = ty := by
  rw [← h, List.getElem?_map, Option.map_eq_some_iff] at hi
  obtain ⟨f, h1, h2⟩ := hi
  exact ⟨f, by rw [← Array.getElem?_toList]; exact h1, h2⟩
theorem rd_struct {n t : Nat} {v : AV} (ht : Try.prog.underlying t = some (.struct (fieldsOf t))) (h : Reads Try.prog (n + 1) t v) : ∃ cs, v = .agg cs ∧ cs.length = (fieldsOf t).size ∧ ∀ i ty, ((fieldsOf t).toList.map (fun f => f.type))[i]? = some ty → Reads Try.prog n ty (cs.getD i .any) := by
  unfold Reads at h
  rw [ht] at h
  obtain ⟨cs, h1, h2, h3⟩ := h
  refine ⟨cs, h1, h2, fun i ty hi => ?_⟩
  obtain ⟨f, hf, rfl⟩ := fld_type rfl hi
  exact h3 i f hf
theorem rd_slice {n t e : Nat} {v : AV} (ht : Try.prog.underlying t = some (.slice e)) (h : Reads Try.prog (n + 1) t v) : ∃ z es, v = .lst (shE Try.prog e) z .no es ∧ (z = true → es = []) ∧ ∀ x ∈ es, Reads Try.prog n e x := by
  unfold Reads at h
  rw [ht] at h
  exact h
theorem rd_int {n : Nat} {v : AV} (h : Reads Try.prog (n + 1) 3 v) : ∃ i, v = .int .i64 i := by
  unfold Reads at h
  rw [u3] at h
  obtain ⟨i, h1, _⟩ := h
  exact ⟨i, h1⟩
theorem rd_bool {n : Nat} {v : AV} (h : Reads Try.prog (n + 1) 4 v) : ∃ i, v = .bool i := by
  unfold Reads at h
  rw [u4] at h
  exact h
theorem rd_u32 {n : Nat} {v : AV} (h : Reads Try.prog (n + 1) 92 v) : ∃ d : Nat, v = dg d ∧ d < 4294967296 := by
  unfold Reads at h
  rw [u92] at h
  obtain ⟨i, h1, hw⟩ := h
  have hw2 : 0 ≤ i ∧ i ≤ 4294967295 := by
    simp only [Lit.wf, Bool.and_eq_true, decide_eq_true_eq] at hw
    exact hw
  obtain ⟨d, rfl⟩ := Int.eq_ofNat_of_zero_le hw2.1
  exact ⟨d, h1, by omega⟩
theorem rd_nat {n : Nat} {v : AV} (h : Reads Try.prog (n + 2) 33 v) : ∃ x : NV, v = x.av ∧ XN x ∧ x.o = .no := by
  obtain ⟨z, es, rfl, hz, he⟩ := rd_slice u33 h
  obtain ⟨ds, rfl, hd⟩ := list_map (fun x hx => rd_u32 (he x hx))
  refine ⟨⟨z, .no, ds⟩, by rw [s92]; rfl, ⟨fun i => ?_, fun h => List.map_eq_nil_iff.1 (hz h)⟩, rfl⟩
  show ds.getD i 0 < _
  rw [List.getD_eq_getElem?_getD]
  by_cases hi : i < ds.length
  · rw [List.getElem?_eq_getElem hi]; exact hd _ (List.getElem_mem hi)
  · rw [List.getElem?_eq_none (by omega)]; exact (by omega : 0 < 4294967296)
theorem cells3 {cs : List AV} (h : cs.length = 3) : ∃ a b c, cs = [a, b, c] := by
  match cs, h with
  | [a, b, c], _ => exact ⟨a, b, c, rfl⟩
theorem cells4 {cs : List AV} (h : cs.length = 4) : ∃ a b c d, cs = [a, b, c, d] := by
  match cs, h with
  | [a, b, c, d], _ => exact ⟨a, b, c, d, rfl⟩
theorem rd_ratio {n : Nat} {v : AV} (h : Reads Try.prog (n + 3) 35 v) : ∃ r : RV, v = r.av ∧ (XR r ∧ r.fr = r) := by
  obtain ⟨cs, rfl, hl, hf⟩ := rd_struct u35 h
  rw [sz f35] at hl
  obtain ⟨a, b, c, rfl⟩ := cells3 hl
  rw [f35] at hf
  obtain ⟨s, hs⟩ := rd_bool (hf 0 4 rfl)
  obtain ⟨x, hx, x1, x2⟩ := rd_nat (hf 1 33 rfl)
  obtain ⟨y, hy, y1, y2⟩ := rd_nat (hf 2 33 rfl)
  have hs : a = .bool s := hs
  have hx : b = x.av := hx
  have hy : c = y.av := hy
  subst hs; subst hx; subst hy
  refine ⟨⟨s, x, y⟩, rfl, ⟨x1, y1⟩, ?_⟩
  obtain ⟨xz, xo, xd⟩ := x
  obtain ⟨yz, yo, yd⟩ := y
  subst x2; subst y2; rfl
theorem rd_ints {n : Nat} {v : AV} (h : Reads Try.prog (n + 2) 48 v) : ∃ x : IL, v = x.av ∧ x.o = .no := by
  obtain ⟨z, es, rfl, hz, he⟩ := rd_slice u48 h
  obtain ⟨ns, rfl, hd⟩ := list_map (f := iA) (Q := fun _ => True) (fun x hx => by
    obtain ⟨i, hi⟩ := rd_int (he x hx)
    exact ⟨i, hi, trivial⟩)
  exact ⟨⟨z, .no, ns⟩, by rw [s3]; rfl, rfl⟩
theorem rd_node {n : Nat} {v : AV} (h : Reads Try.prog (n + 3) 50 v) : ∃ x : ND, v = x.av ∧ x.kids.o = .no := by
  obtain ⟨cs, rfl, hl, hf⟩ := rd_struct u50 h
  rw [sz f50] at hl
  obtain ⟨a, b, c, rfl⟩ := cells3 hl
  rw [f50] at hf
  obtain ⟨s, hs⟩ := rd_int (hf 0 3 rfl)
  obtain ⟨x, hx, x1⟩ := rd_ints (hf 1 48 rfl)
  obtain ⟨y, hy⟩ := rd_int (hf 2 3 rfl)
  have hs : a = .int .i64 s := hs
  have hx : b = x.av := hx
  have hy : c = .int .i64 y := hy
  subst hs; subst hx; subst hy
  exact ⟨⟨s, x, y⟩, rfl, x1⟩
theorem rd_ratios {n : Nat} {v : AV} (h : Reads Try.prog (n + 4) 24 v) : ∃ l : LV, v = l.av ∧ l.sh = some 3 ∧ (l.z = true → l.es = []) ∧ (∀ r ∈ l.es, XR r ∧ r.fr = r) ∧ l.o = .no := by
  obtain ⟨z, es, rfl, hz, he⟩ := rd_slice u24 h
  obtain ⟨rs, rfl, hd⟩ := list_map (fun x hx => rd_ratio (he x hx))
  exact ⟨⟨some 3, z, .no, rs⟩, by rw [s35]; rfl, rfl, fun h => List.map_eq_nil_iff.1 (hz h), hd, rfl⟩
theorem rd_cert {n : Nat} {v : AV} (h : Reads Try.prog (n + 5) 26 v) : ∃ c : CV, v = c.av ∧ XC c ∧ c.fr = c := by
  obtain ⟨cs, rfl, hl, hf⟩ := rd_struct u26 h
  rw [sz f26] at hl
  obtain ⟨a, b, c, d, rfl⟩ := cells4 hl
  rw [f26] at hf
  obtain ⟨z1, es1, h1, _, he1⟩ := rd_slice u22 (hf 0 22 rfl)
  obtain ⟨os, rfl, ho⟩ := list_map (fun x hx => rd_ints (he1 x hx))
  obtain ⟨z2, es2, h2, _, he2⟩ := rd_slice u23 (hf 1 23 rfl)
  obtain ⟨ns, rfl, hn⟩ := list_map (fun x hx => rd_node (he2 x hx))
  obtain ⟨w, h3, w1, w2, w3, w4⟩ := rd_ratios (hf 2 24 rfl)
  obtain ⟨y, h4⟩ := rd_int (hf 3 3 rfl)
  rw [s48] at h1
  rw [s50] at h2
  have h1 : a = .lst none z1 .no (os.map IL.av) := h1
  have h2 : b = .lst (some 3) z2 .no (ns.map ND.av) := h2
  have h3 : c = w.av := h3
  have h4 : d = .int .i64 y := h4
  subst h1; subst h2; subst h3; subst h4
  refine ⟨⟨⟨z1, .no, os⟩, ⟨some 3, z2, .no, ns⟩, w, y⟩, rfl, ⟨.inl rfl, hn, ho, .inl w1, fun r hr => (w3 r hr).1⟩, ?_⟩
  obtain ⟨sh, z, o, es⟩ := w
  simp only at w4
  subst w4
  rfl
theorem ok44 : tyOk Try.prog 6 44 = true := by kernel_rfl
section
variable {H : Type} {enc : TypeId × Value → H} {W : World}
theorem certs_read {v : Value} {d : DataW H} {ps : List MemPlace} (hv : ∃ a len cap, v = .slice a len cap) (h : DataW.Trod enc Try.prog W 0 (fun _ => true) true 44 v d ps) : ∃ z, ∃ l : List CV, V W gN (.lst (some 4) z .no (l.map CV.av)) v ∧ (∀ c ∈ l, XC c ∧ c.fr = c) := by
  obtain ⟨y, hy, hr⟩ := read_slice ok44 u44 hv h
  obtain ⟨z, es, rfl, _, he⟩ := rd_slice u44 hr
  obtain ⟨l, rfl, hl⟩ := list_map (fun x hx => rd_cert (he x hx))
  rw [s26] at hy
  exact ⟨z, l, hy, hl⟩
end
end Go.Ab
