/- What the interpreter does, function by function. -/
import Derived.Test.YtlapgjmmlbnehaaAYtCfg
set_option maxRecDepth 100000
set_option linter.unusedVariables false
namespace Go.Ab
open Go.Proofs.Try
/-! ### sortilege/sortilegeref19.Make -/
theorem T15 (a0 a1 a2 : AV) (m : Mem) : AC cfg 15 [a0, a1, a2] m =
  (buildSliceA (some 3) []).bind fun v1 =>
  (appA none false 43 (some 3) 56 (newAt none m (.obj true [(.int .i64 0), (.int .i64 0), (.lst none true .full [])])).2 v1 a2).bind fun r2 =>
  (buildA (.agg [(.int .i64 0), (.int .i64 0), (.lst none true .full [])]) [(0, none, a0), (1, none, a1), (2, none, r2.1)]).bind fun v3 =>
  (storeA (some 3) (newAt none r2.2 (.obj true [(.int .i64 0), (.int .i64 0), (.lst none true .full [])])).2 (.ptr (newAt none r2.2 .resv).1 0) v3).bind fun m4 =>
  (loadA (some 3) m4 (.ptr (newAt none r2.2 .resv).1 0)).bind fun v5 =>
  (pcall (AP cfg) none m4 21 [v5]).bind fun r6 =>
  (unA .not r6.1).bind fun v7 =>
  ifA v7 (
  (buildA (.agg [(.int .i64 0), (.int .i64 0), (.lst none true .full [])]) []).bind fun v8 =>
  (storeA (some 3) r6.2 (.ptr (newAt none m .resv).1 0) v8).bind fun m9 =>
  (loadA (some 3) m9 (.ptr (newAt none m .resv).1 0)).bind fun v10 =>
  some ((.tup [v10, (.int .i64 1)]), m9)) (
  (loadA (some 3) r6.2 (.ptr (newAt none r2.2 .resv).1 0)).bind fun v11 =>
  (storeA (some 3) r6.2 (.ptr (newAt none m .resv).1 0) v11).bind fun m12 =>
  (loadA (some 3) m12 (.ptr (newAt none m .resv).1 0)).bind fun v13 =>
  some ((.tup [v13, (.int .i64 0)]), m12)) :=
(AC_eq cfg 15 [a0, a1, a2] m (fn := f15) (c := bodyOf f15) at15 rfl).trans (by kernel_rfl)
/-! ### sortilege/sortilegeref19.Zero -/
theorem T17 (a0 a1 : AV) (m : Mem) : AC cfg 17 [a0, a1] m =
  (binA .other .lss a0 (.int .i64 0)).bind fun v1 =>
  ifA v1 (
  (buildA (.agg [(.int .i64 0), (.int .i64 0), (.lst none true .full [])]) []).bind fun v2 =>
  (storeA (some 3) (newAt none m (.obj true [(.int .i64 0), (.int .i64 0), (.lst none true .full [])])).2 (.ptr (newAt none m .resv).1 0) v2).bind fun m3 =>
  (loadA (some 3) m3 (.ptr (newAt none m .resv).1 0)).bind fun v4 =>
  some ((.tup [v4, (.int .i64 1)]), m3)) (
  (binA .other .lss a1 (.int .i64 0)).bind fun v5 =>
  ifA v5 (
  (buildA (.agg [(.int .i64 0), (.int .i64 0), (.lst none true .full [])]) []).bind fun v6 =>
  (storeA (some 3) (newAt none m (.obj true [(.int .i64 0), (.int .i64 0), (.lst none true .full [])])).2 (.ptr (newAt none m .resv).1 0) v6).bind fun m7 =>
  (loadA (some 3) m7 (.ptr (newAt none m .resv).1 0)).bind fun v8 =>
  some ((.tup [v8, (.int .i64 1)]), m7)) (
  (binA .other .gtr a0 (.int .i64 60)).bind fun v9 =>
  ifA v9 (
  (buildA (.agg [(.int .i64 0), (.int .i64 0), (.lst none true .full [])]) []).bind fun v10 =>
  (storeA (some 3) (newAt none m (.obj true [(.int .i64 0), (.int .i64 0), (.lst none true .full [])])).2 (.ptr (newAt none m .resv).1 0) v10).bind fun m11 =>
  (loadA (some 3) m11 (.ptr (newAt none m .resv).1 0)).bind fun v12 =>
  some ((.tup [v12, (.int .i64 2)]), m11)) (
  (binA .other .gtr a1 (.int .i64 60)).bind fun v13 =>
  ifA v13 (
  (buildA (.agg [(.int .i64 0), (.int .i64 0), (.lst none true .full [])]) []).bind fun v14 =>
  (storeA (some 3) (newAt none m (.obj true [(.int .i64 0), (.int .i64 0), (.lst none true .full [])])).2 (.ptr (newAt none m .resv).1 0) v14).bind fun m15 =>
  (loadA (some 3) m15 (.ptr (newAt none m .resv).1 0)).bind fun v16 =>
  some ((.tup [v16, (.int .i64 2)]), m15)) (
  (pcall (AP cfg) none (newAt none m (.obj true [(.int .i64 0), (.int .i64 0), (.lst none true .full [])])).2 61 [a0, a1]).bind fun r17 =>
  (storeA (some 3) r17.2 (.ptr (newAt none m .resv).1 0) r17.1).bind fun m18 =>
  (loadA (some 3) m18 (.ptr (newAt none m .resv).1 0)).bind fun v19 =>
  some ((.tup [v19, (.int .i64 0)]), m18))))) :=
(AC_eq cfg 17 [a0, a1] m (fn := f17) (c := bodyOf f17) at17 rfl).trans (by kernel_rfl)
/-! ### sortilege/sortilegeref19.Identity -/
theorem T19 (a0 : AV) (m : Mem) : AC cfg 19 [a0] m =
  (binA .other .lss a0 (.int .i64 0)).bind fun v1 =>
  ifA v1 (
  (buildA (.agg [(.int .i64 0), (.int .i64 0), (.lst none true .full [])]) []).bind fun v2 =>
  (storeA (some 3) (newAt none m (.obj true [(.int .i64 0), (.int .i64 0), (.lst none true .full [])])).2 (.ptr (newAt none m .resv).1 0) v2).bind fun m3 =>
  (loadA (some 3) m3 (.ptr (newAt none m .resv).1 0)).bind fun v4 =>
  some ((.tup [v4, (.int .i64 1)]), m3)) (
  (binA .other .gtr a0 (.int .i64 60)).bind fun v5 =>
  ifA v5 (
  (buildA (.agg [(.int .i64 0), (.int .i64 0), (.lst none true .full [])]) []).bind fun v6 =>
  (storeA (some 3) (newAt none m (.obj true [(.int .i64 0), (.int .i64 0), (.lst none true .full [])])).2 (.ptr (newAt none m .resv).1 0) v6).bind fun m7 =>
  (loadA (some 3) m7 (.ptr (newAt none m .resv).1 0)).bind fun v8 =>
  some ((.tup [v8, (.int .i64 2)]), m7)) (
  (pcall (AP cfg) none (newAt none m (.obj true [(.int .i64 0), (.int .i64 0), (.lst none true .full [])])).2 63 [a0]).bind fun r9 =>
  (storeA (some 3) r9.2 (.ptr (newAt none m .resv).1 0) r9.1).bind fun m10 =>
  (loadA (some 3) m10 (.ptr (newAt none m .resv).1 0)).bind fun v11 =>
  some ((.tup [v11, (.int .i64 0)]), m10))) :=
(AC_eq cfg 19 [a0] m (fn := f19) (c := bodyOf f19) at19 rfl).trans (by kernel_rfl)
/-! ### sortilege/sortilegeref19.Right -/
def O21_4 (m : Mem) : St := ⟨[.any, .any, .any, .any, .any, .any, .any, .any, .any, .any, .any, .any, .any, .any, .any, .any, .any, .any, .any, .any, .any, .any, .any, .any, .any, .any, .any, .any, .any, .any, .any, .any, .any, .any, .any, .any, .any, .any, .any, .any, .any, .any, .any, .any, .any], m⟩
def R21_4 (x2 : AV) (m : Mem) : St := ⟨[.any, .any, x2, .any, .any, .any, .any, .any, .any, .any, .any, .any, .any, .any, .any, .any, .any, .any, .any, .any, .any, .any, .any, .any, .any, .any, .any, .any, .any, .any, .any, .any, .any, .any, .any, .any, .any, .any, .any, .any, .any, .any, .any, .any, .any], m⟩
noncomputable def L21_4 (x35 x36 x37 : AV) (m : Mem) (K : Ex → St → Option (AV × Mem)) : Option (AV × Mem) := loopW (execW cfg 21 (AP cfg) (AC cfg) (c1 (c1 (c2 (c1 (c2 (c2 (bodyOf f21)))))))) (cfg.mask 21 (some 4)) ⟨[.any, .any, .any, .any, .any, .any, .any, .any, .any, .any, .any, .any, .any, .any, .any, .any, .any, .any, .any, .any, .any, .any, .any, .any, .any, .any, .any, .any, .any, .any, .any, .any, .any, .any, .any, x35, x36, x37, .any, .any, .any, .any, .any, .any, .any], m⟩ K
noncomputable abbrev K21_4_0 (K : Ex → St → Option (AV × Mem)) : Ex → St → Option (AV × Mem) := seqK (fun st => execW cfg 21 (AP cfg) (AC cfg) (c2 (c2 (c2 (bodyOf f21)))) st K) K
noncomputable abbrev K21_4_1 (K : Ex → St → Option (AV × Mem)) : Ex → St → Option (AV × Mem) := blockK 0 (K21_4_0 K)
noncomputable abbrev K21_4 (K : Ex → St → Option (AV × Mem)) : Ex → St → Option (AV × Mem) := (K21_4_1 K)
theorem T21 (a0 : AV) (m : Mem) : AC cfg 21 [a0] m =
  (boxA none (some 3) m a0).bind fun r1 =>
  (fieldAddrA 0 r1.1).bind fun v2 =>
  (loadA none r1.2 v2).bind fun v3 =>
  (binA .other .lss v3 (.int .i64 0)).bind fun v4 =>
  ifA v4 (
  some ((.bool false), r1.2)) (
  (fieldAddrA 0 r1.1).bind fun v5 =>
  (loadA none r1.2 v5).bind fun v6 =>
  (binA .other .gtr v6 (.int .i64 60)).bind fun v7 =>
  ifA v7 (
  some ((.bool false), r1.2)) (
  (fieldAddrA 1 r1.1).bind fun v8 =>
  (loadA none r1.2 v8).bind fun v9 =>
  (binA .other .lss v9 (.int .i64 0)).bind fun v10 =>
  ifA v10 (
  some ((.bool false), r1.2)) (
  (fieldAddrA 1 r1.1).bind fun v11 =>
  (loadA none r1.2 v11).bind fun v12 =>
  (binA .other .gtr v12 (.int .i64 60)).bind fun v13 =>
  ifA v13 (
  some ((.bool false), r1.2)) (
  (fieldAddrA 2 r1.1).bind fun v14 =>
  (loadA none r1.2 v14).bind fun v15 =>
  (lenA false v15).bind fun v16 =>
  (fieldAddrA 0 r1.1).bind fun v17 =>
  (loadA none r1.2 v17).bind fun v18 =>
  (fieldAddrA 1 r1.1).bind fun v19 =>
  (loadA none r1.2 v19).bind fun v20 =>
  (binA .other .mul v18 v20).bind fun v21 =>
  (binA .other .neq v16 v21).bind fun v22 =>
  ifA v22 (
  some ((.bool false), r1.2)) (
  (fieldAddrA 2 r1.1).bind fun v23 =>
  (loadA none r1.2 v23).bind fun v24 =>
  (lenA false v24).bind fun v25 =>
  L21_4 v24 v25 (.int .i64 0) r1.2 (K21_4 (finK cfg.P f21.results.toList))))))) :=
(AC_eq cfg 21 [a0] m (fn := f21) (c := bodyOf f21) at21 rfl).trans (by kernel_rfl)
theorem L21_4_eq (x35 x36 x37 : AV) (m : Mem) (K : Ex → St → Option (AV × Mem)) : L21_4 x35 x36 x37 m K =
  (binA .other .lss x37 x36).bind fun v1 =>
  ifA v1 (
  (indexAddrA (some 3) x35 x37).bind fun v2 =>
  (loadA (some 3) m v2).bind fun v3 =>
  (storeA (some 3) (newAt none m (.obj true [(.bool false), (.lst none true .full []), (.lst none true .full [])])).2 (.ptr (newAt none m .resv).1 0) v3).bind fun m4 =>
  (loadA (some 3) m4 (.ptr (newAt none m .resv).1 0)).bind fun v5 =>
  (pcall (AP cfg) none m4 65 [v5]).bind fun r6 =>
  (unA .not r6.1).bind fun v7 =>
  ifA v7 (
  K .ret (R21_4 (.bool false) r6.2)) (
  (binA .other .add x37 (.int .i64 1)).bind fun v8 =>
  L21_4 x35 x36 v8 r6.2 K)) (
  K (.exit 0) (O21_4 m)) :=
(loopW_eq (execW_lin _) _ _ _).trans (by kernel_rfl)
theorem K21_4_x0 (m : Mem) : K21_4 (finK cfg.P f21.results.toList) (.exit 0) (O21_4  m) =
  some ((.bool true), m) := by kernel_rfl
theorem K21_4_ret (x2 : AV) (m : Mem) : K21_4 (finK cfg.P f21.results.toList) .ret (R21_4 x2 m) =
  some (x2, m) := by kernel_rfl
/-! ### sortilege/sortilegeref19.At -/
theorem T25 (a0 a1 a2 : AV) (m : Mem) : AC cfg 25 [a0, a1, a2] m =
  (boxA none (some 3) m a0).bind fun r1 =>
  (loadA (some 3) (newAt none r1.2 (.obj true [(.bool false), (.lst none true .full []), (.lst none true .full [])])).2 r1.1).bind fun v2 =>
  (pcall (AP cfg) none (newAt none r1.2 (.obj true [(.bool false), (.lst none true .full []), (.lst none true .full [])])).2 21 [v2]).bind fun r3 =>
  (unA .not r3.1).bind fun v4 =>
  ifA v4 (
  (pcall (AP cfg) none r3.2 31 []).bind fun r5 =>
  (storeA (some 3) r5.2 (.ptr (newAt none r1.2 .resv).1 0) r5.1).bind fun m6 =>
  (loadA (some 3) m6 (.ptr (newAt none r1.2 .resv).1 0)).bind fun v7 =>
  some (v7, m6)) (
  (binA .other .lss a1 (.int .i64 0)).bind fun v8 =>
  ifA v8 (
  (pcall (AP cfg) none r3.2 31 []).bind fun r9 =>
  (storeA (some 3) r9.2 (.ptr (newAt none r1.2 .resv).1 0) r9.1).bind fun m10 =>
  (loadA (some 3) m10 (.ptr (newAt none r1.2 .resv).1 0)).bind fun v11 =>
  some (v11, m10)) (
  (fieldAddrA 0 r1.1).bind fun v12 =>
  (loadA none r3.2 v12).bind fun v13 =>
  (binA .other .geq a1 v13).bind fun v14 =>
  ifA v14 (
  (pcall (AP cfg) none r3.2 31 []).bind fun r15 =>
  (storeA (some 3) r15.2 (.ptr (newAt none r1.2 .resv).1 0) r15.1).bind fun m16 =>
  (loadA (some 3) m16 (.ptr (newAt none r1.2 .resv).1 0)).bind fun v17 =>
  some (v17, m16)) (
  (binA .other .lss a2 (.int .i64 0)).bind fun v18 =>
  ifA v18 (
  (pcall (AP cfg) none r3.2 31 []).bind fun r19 =>
  (storeA (some 3) r19.2 (.ptr (newAt none r1.2 .resv).1 0) r19.1).bind fun m20 =>
  (loadA (some 3) m20 (.ptr (newAt none r1.2 .resv).1 0)).bind fun v21 =>
  some (v21, m20)) (
  (fieldAddrA 1 r1.1).bind fun v22 =>
  (loadA none r3.2 v22).bind fun v23 =>
  (binA .other .geq a2 v23).bind fun v24 =>
  ifA v24 (
  (pcall (AP cfg) none r3.2 31 []).bind fun r25 =>
  (storeA (some 3) r25.2 (.ptr (newAt none r1.2 .resv).1 0) r25.1).bind fun m26 =>
  (loadA (some 3) m26 (.ptr (newAt none r1.2 .resv).1 0)).bind fun v27 =>
  some (v27, m26)) (
  (fieldAddrA 2 r1.1).bind fun v28 =>
  (loadA none r3.2 v28).bind fun v29 =>
  (fieldAddrA 1 r1.1).bind fun v30 =>
  (loadA none r3.2 v30).bind fun v31 =>
  (binA .other .mul a1 v31).bind fun v32 =>
  (binA .other .add v32 a2).bind fun v33 =>
  (indexAddrA (some 3) v29 v33).bind fun v34 =>
  (loadA (some 3) r3.2 v34).bind fun v35 =>
  (storeA (some 3) r3.2 (.ptr (newAt none r1.2 .resv).1 0) v35).bind fun m36 =>
  (loadA (some 3) m36 (.ptr (newAt none r1.2 .resv).1 0)).bind fun v37 =>
  some (v37, m36)))))) :=
(AC_eq cfg 25 [a0, a1, a2] m (fn := f25) (c := bodyOf f25) at25 rfl).trans (by kernel_rfl)
/-! ### sortilege/sortilegeref19.Same -/
def O40_4 (m : Mem) : St := ⟨[.any, .any, .any, .any, .any, .any, .any, .any, .any, .any, .any, .any, .any, .any, .any, .any, .any, .any, .any, .any, .any, .any, .any, .any, .any, .any, .any, .any, .any, .any, .any, .any, .any, .any, .any, .any, .any, .any, .any, .any, .any, .any, .any, .any, .any, .any], m⟩
def R40_4 (x4 : AV) (m : Mem) : St := ⟨[.any, .any, .any, .any, x4, .any, .any, .any, .any, .any, .any, .any, .any, .any, .any, .any, .any, .any, .any, .any, .any, .any, .any, .any, .any, .any, .any, .any, .any, .any, .any, .any, .any, .any, .any, .any, .any, .any, .any, .any, .any, .any, .any, .any, .any, .any], m⟩
noncomputable def L40_4 (x2 x3 x29 x30 : AV) (m : Mem) (K : Ex → St → Option (AV × Mem)) : Option (AV × Mem) := loopW (execW cfg 40 (AP cfg) (AC cfg) (c1 (c1 (c2 (c1 (c2 (c2 (bodyOf f40)))))))) (cfg.mask 40 (some 4)) ⟨[.any, .any, x2, x3, .any, .any, .any, .any, .any, .any, .any, .any, .any, .any, .any, .any, .any, .any, .any, .any, .any, .any, .any, .any, .any, .any, .any, .any, .any, x29, x30, .any, .any, .any, .any, .any, .any, .any, .any, .any, .any, .any, .any, .any, .any, .any], m⟩ K
noncomputable abbrev K40_4_0 (K : Ex → St → Option (AV × Mem)) : Ex → St → Option (AV × Mem) := seqK (fun st => execW cfg 40 (AP cfg) (AC cfg) (c2 (c2 (c2 (bodyOf f40)))) st K) K
noncomputable abbrev K40_4_1 (K : Ex → St → Option (AV × Mem)) : Ex → St → Option (AV × Mem) := blockK 0 (K40_4_0 K)
noncomputable abbrev K40_4 (K : Ex → St → Option (AV × Mem)) : Ex → St → Option (AV × Mem) := (K40_4_1 K)
theorem T40 (a0 a1 : AV) (m : Mem) : AC cfg 40 [a0, a1] m =
  (boxA none (some 3) m a0).bind fun r1 =>
  (boxA none (some 3) r1.2 a1).bind fun r2 =>
  (fieldAddrA 0 r1.1).bind fun v3 =>
  (loadA none r2.2 v3).bind fun v4 =>
  (fieldAddrA 0 r2.1).bind fun v5 =>
  (loadA none r2.2 v5).bind fun v6 =>
  (binA .other .neq v4 v6).bind fun v7 =>
  ifA v7 (
  some ((.bool false), r2.2)) (
  (fieldAddrA 1 r1.1).bind fun v8 =>
  (loadA none r2.2 v8).bind fun v9 =>
  (fieldAddrA 1 r2.1).bind fun v10 =>
  (loadA none r2.2 v10).bind fun v11 =>
  (binA .other .neq v9 v11).bind fun v12 =>
  ifA v12 (
  some ((.bool false), r2.2)) (
  (fieldAddrA 2 r1.1).bind fun v13 =>
  (loadA none r2.2 v13).bind fun v14 =>
  (lenA false v14).bind fun v15 =>
  (fieldAddrA 2 r2.1).bind fun v16 =>
  (loadA none r2.2 v16).bind fun v17 =>
  (lenA false v17).bind fun v18 =>
  (binA .other .neq v15 v18).bind fun v19 =>
  ifA v19 (
  some ((.bool false), r2.2)) (
  (fieldAddrA 2 r1.1).bind fun v20 =>
  (loadA none r2.2 v20).bind fun v21 =>
  (lenA false v21).bind fun v22 =>
  L40_4 r1.1 r2.1 v22 (.int .i64 0) r2.2 (K40_4 (finK cfg.P f40.results.toList))))) :=
(AC_eq cfg 40 [a0, a1] m (fn := f40) (c := bodyOf f40) at40 rfl).trans (by kernel_rfl)
theorem L40_4_eq (x2 x3 x29 x30 : AV) (m : Mem) (K : Ex → St → Option (AV × Mem)) : L40_4 x2 x3 x29 x30 m K =
  (binA .other .lss x30 x29).bind fun v1 =>
  ifA v1 (
  (fieldAddrA 2 x2).bind fun v2 =>
  (loadA none m v2).bind fun v3 =>
  (indexAddrA (some 3) v3 x30).bind fun v4 =>
  (loadA (some 3) m v4).bind fun v5 =>
  (fieldAddrA 2 x3).bind fun v6 =>
  (loadA none m v6).bind fun v7 =>
  (indexAddrA (some 3) v7 x30).bind fun v8 =>
  (loadA (some 3) m v8).bind fun v9 =>
  (pcall (AP cfg) (some m.length) m 23 [v5, v9]).bind fun r10 =>
  (unA .not r10.1).bind fun v11 =>
  ifA v11 (
  K .ret (R40_4 (.bool false) r10.2)) (
  (binA .other .add x30 (.int .i64 1)).bind fun v12 =>
  L40_4 x2 x3 x29 v12 r10.2 K)) (
  K (.exit 0) (O40_4 m)) :=
(loopW_eq (execW_lin _) _ _ _).trans (by kernel_rfl)
theorem K40_4_x0 (m : Mem) : K40_4 (finK cfg.P f40.results.toList) (.exit 0) (O40_4  m) =
  some ((.bool true), m) := by kernel_rfl
theorem K40_4_ret (x4 : AV) (m : Mem) : K40_4 (finK cfg.P f40.results.toList) .ret (R40_4 x4 m) =
  some (x4, m) := by kernel_rfl
/-! ### sortilege/sortilegeref19.Expanded -/
/-! ### sortilege/sortilegeref19.Det -/
/-! ### sortilege/sortilegeref19.Rank -/
/-! ### sortilege/sortilegeref19.Solve -/
/-! ### sortilege/sortilegeref19.Inverse -/
/-! ### sortilege/sortilegeref19.zeros -/
def O61_3 (x4 x5 : AV) (m : Mem) : St := ⟨[.any, .any, .any, .any, x4, x5, .any, .any, .any, .any, .any, .any, .any, .any, .any, .any, .any, .any, .any, .any, .any, .any, .any, .any], m⟩
noncomputable def L61_3 (x0 x1 x4 x5 x6 : AV) (m : Mem) (K : Ex → St → Option (AV × Mem)) : Option (AV × Mem) := loopW (execW cfg 61 (AP cfg) (AC cfg) (c1 (c1 (c2 (c1 (c2 (c2 (bodyOf f61)))))))) (cfg.mask 61 (some 3)) ⟨[x0, x1, .any, .any, x4, x5, x6, .any, .any, .any, .any, .any, .any, .any, .any, .any, .any, .any, .any, .any, .any, .any, .any, .any], m⟩ K
noncomputable abbrev K61_3_0 (K : Ex → St → Option (AV × Mem)) : Ex → St → Option (AV × Mem) := seqK (fun st => execW cfg 61 (AP cfg) (AC cfg) (c2 (c2 (c2 (bodyOf f61)))) st K) K
noncomputable abbrev K61_3_1 (K : Ex → St → Option (AV × Mem)) : Ex → St → Option (AV × Mem) := blockK 0 (K61_3_0 K)
noncomputable abbrev K61_3 (K : Ex → St → Option (AV × Mem)) : Ex → St → Option (AV × Mem) := (K61_3_1 K)
theorem T61 (a0 a1 : AV) (m : Mem) : AC cfg 61 [a0, a1] m =
  (buildA (.agg [(.int .i64 0), (.int .i64 0), (.lst none true .full [])]) [(0, none, a0), (1, none, a1)]).bind fun v1 =>
  (storeA (some 3) (newAt none (newAt none m (.obj true [(.int .i64 0), (.int .i64 0), (.lst none true .full [])])).2 (.obj true [(.int .i64 0), (.int .i64 0), (.lst none true .full [])])).2 (.ptr (newAt none (newAt none m (.obj true [(.int .i64 0), (.int .i64 0), (.lst none true .full [])])).2 .resv).1 0) v1).bind fun m2 =>
  L61_3 a0 a1 (.ptr (newAt none m .resv).1 0) (.ptr (newAt none (newAt none m (.obj true [(.int .i64 0), (.int .i64 0), (.lst none true .full [])])).2 .resv).1 0) (.int .i64 0) m2 (K61_3 (finK cfg.P f61.results.toList)) :=
(AC_eq cfg 61 [a0, a1] m (fn := f61) (c := bodyOf f61) at61 rfl).trans (by kernel_rfl)
theorem L61_3_eq (x0 x1 x4 x5 x6 : AV) (m : Mem) (K : Ex → St → Option (AV × Mem)) : L61_3 x0 x1 x4 x5 x6 m K =
  (binA .other .mul x0 x1).bind fun v1 =>
  (binA .other .lss x6 v1).bind fun v2 =>
  ifA v2 (
  (fieldAddrA 2 x5).bind fun v3 =>
  (loadA none (reserve m 1) v3).bind fun v4 =>
  (pcall (AP cfg) (some m.length) (reserve m 1) 31 []).bind fun r5 =>
  (buildSliceA (some 3) [r5.1]).bind fun v6 =>
  (appA (some m.length) false 43 (some 3) 56 r5.2 v4 v6).bind fun r7 =>
  (fieldAddrA 2 x5).bind fun v8 =>
  (storeA none r7.2 v8 r7.1).bind fun m9 =>
  (binA .other .add x6 (.int .i64 1)).bind fun v10 =>
  L61_3 x0 x1 x4 x5 v10 m9 K) (
  K (.exit 0) (O61_3 x4 x5 m)) :=
(loopW_eq (execW_lin _) _ _ _).trans (by kernel_rfl)
theorem K61_3_x0 (x4 x5 : AV) (m : Mem) : K61_3 (finK cfg.P f61.results.toList) (.exit 0) (O61_3 x4 x5 m) =
  (loadA (some 3) m x5).bind fun v1 =>
  (storeA (some 3) m x4 v1).bind fun m2 =>
  (loadA (some 3) m2 x4).bind fun v3 =>
  some (v3, m2) := by kernel_rfl
/-! ### sortilege/sortilegeref19.one -/
def O63_3 (x2 x3 : AV) (m : Mem) : St := ⟨[.any, .any, x2, x3, .any, .any, .any, .any, .any, .any, .any, .any, .any, .any, .any, .any, .any, .any, .any, .any, .any, .any, .any], m⟩
noncomputable def L63_3 (x0 x2 x3 x4 : AV) (m : Mem) (K : Ex → St → Option (AV × Mem)) : Option (AV × Mem) := loopW (execW cfg 63 (AP cfg) (AC cfg) (c1 (c1 (c2 (c1 (c2 (c2 (bodyOf f63)))))))) (cfg.mask 63 (some 3)) ⟨[x0, .any, x2, x3, x4, .any, .any, .any, .any, .any, .any, .any, .any, .any, .any, .any, .any, .any, .any, .any, .any, .any, .any], m⟩ K
noncomputable abbrev K63_3_0 (K : Ex → St → Option (AV × Mem)) : Ex → St → Option (AV × Mem) := seqK (fun st => execW cfg 63 (AP cfg) (AC cfg) (c2 (c2 (c2 (bodyOf f63)))) st K) K
noncomputable abbrev K63_3_1 (K : Ex → St → Option (AV × Mem)) : Ex → St → Option (AV × Mem) := blockK 0 (K63_3_0 K)
noncomputable abbrev K63_3 (K : Ex → St → Option (AV × Mem)) : Ex → St → Option (AV × Mem) := (K63_3_1 K)
theorem T63 (a0 : AV) (m : Mem) : AC cfg 63 [a0] m =
  (thawCall (AC cfg) (newAt none m (.obj true [(.int .i64 0), (.int .i64 0), (.lst none true .full [])])).2 61 [a0, a0]).bind fun r1 =>
  (storeA (some 3) (newAt none r1.2 (.obj true [(.int .i64 0), (.int .i64 0), (.lst none true .full [])])).2 (.ptr (newAt none r1.2 .resv).1 0) r1.1).bind fun m2 =>
  L63_3 a0 (.ptr (newAt none m .resv).1 0) (.ptr (newAt none r1.2 .resv).1 0) (.int .i64 0) m2 (K63_3 (finK cfg.P f63.results.toList)) :=
(AC_eq cfg 63 [a0] m (fn := f63) (c := bodyOf f63) at63 rfl).trans (by kernel_rfl)
theorem L63_3_eq (x0 x2 x3 x4 : AV) (m : Mem) (K : Ex → St → Option (AV × Mem)) : L63_3 x0 x2 x3 x4 m K =
  (binA .other .lss x4 x0).bind fun v1 =>
  ifA v1 (
  (fieldAddrA 2 x3).bind fun v2 =>
  (loadA none m v2).bind fun v3 =>
  (binA .other .mul x4 x0).bind fun v4 =>
  (binA .other .add v4 x4).bind fun v5 =>
  (pcall (AP cfg) (some m.length) m 28 []).bind fun r6 =>
  (indexAddrA (some 3) v3 v5).bind fun v7 =>
  (storeA (some 3) r6.2 v7 r6.1).bind fun m8 =>
  (binA .other .add x4 (.int .i64 1)).bind fun v9 =>
  L63_3 x0 x2 x3 v9 m8 K) (
  K (.exit 0) (O63_3 x2 x3 m)) :=
(loopW_eq (execW_lin _) _ _ _).trans (by kernel_rfl)
theorem K63_3_x0 (x2 x3 : AV) (m : Mem) : K63_3 (finK cfg.P f63.results.toList) (.exit 0) (O63_3 x2 x3 m) =
  (loadA (some 3) m x3).bind fun v1 =>
  (storeA (some 3) m x2 v1).bind fun m2 =>
  (loadA (some 3) m2 x2).bind fun v3 =>
  some (v3, m2) := by kernel_rfl
/-! ### sortilege/sortilegeref19.rows -/
/-! ### sortilege/sortilegeref19.expanded -/
/-! ### sortilege/sortilegeref19.cleared -/
end Go.Ab
