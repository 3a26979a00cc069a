/- What the interpreter does, function by function. -/
import Derived.Test.YtlapgjmmlbnehaaAYtCfg
set_option maxRecDepth 100000
set_option linter.unusedVariables false
namespace Go.Ab
open Go.Proofs.Try
/-! ### sortilege/matrix.Make -/
theorem T14 (a0 a1 a2 : AV) (m : Mem) : AC cfg 14 [a0, a1, a2] m =
  (buildA (.agg [(.int .i64 0), (.int .i64 0), (.lst none true .full [])]) [(0, none, a0), (1, none, a1), (2, none, a2)]).bind fun v1 =>
  (storeA (some 3) (newAt none (newAt none m (.obj true [(.int .i64 0), (.int .i64 0), (.lst none true .full [])])).2 (.obj true [(.int .i64 0), (.int .i64 0), (.lst none true .full [])])).2 (.ptr (newAt none (newAt none m (.obj true [(.int .i64 0), (.int .i64 0), (.lst none true .full [])])).2 .resv).1 0) v1).bind fun m2 =>
  (loadA (some 3) m2 (.ptr (newAt none (newAt none m (.obj true [(.int .i64 0), (.int .i64 0), (.lst none true .full [])])).2 .resv).1 0)).bind fun v3 =>
  (pcall (AP cfg) none m2 20 [v3]).bind fun r4 =>
  (unA .not r4.1).bind fun v5 =>
  ifA v5 (
  (buildA (.agg [(.int .i64 0), (.int .i64 0), (.lst none true .full [])]) []).bind fun v6 =>
  (storeA (some 3) r4.2 (.ptr (newAt none m .resv).1 0) v6).bind fun m7 =>
  (loadA (some 3) m7 (.ptr (newAt none m .resv).1 0)).bind fun v8 =>
  some ((.tup [v8, (.int .i64 1)]), m7)) (
  (loadA (some 3) r4.2 (.ptr (newAt none (newAt none m (.obj true [(.int .i64 0), (.int .i64 0), (.lst none true .full [])])).2 .resv).1 0)).bind fun v9 =>
  (pcall (AP cfg) none r4.2 56 [v9]).bind fun r10 =>
  (storeA (some 3) r10.2 (.ptr (newAt none m .resv).1 0) r10.1).bind fun m11 =>
  (loadA (some 3) m11 (.ptr (newAt none m .resv).1 0)).bind fun v12 =>
  some ((.tup [v12, (.int .i64 0)]), m11)) :=
(AC_eq cfg 14 [a0, a1, a2] m (fn := f14) (c := bodyOf f14) at14 rfl).trans (by kernel_rfl)
/-! ### sortilege/matrix.Zero -/
theorem T16 (a0 a1 : AV) (m : Mem) : AC cfg 16 [a0, a1] m =
  (pcall (AP cfg) none (newAt none m (.obj true [(.int .i64 0), (.int .i64 0), (.lst none true .full [])])).2 57 [a0, a1]).bind fun r1 =>
  (binA .other .neq r1.1 (.int .i64 0)).bind fun v2 =>
  ifA v2 (
  (buildA (.agg [(.int .i64 0), (.int .i64 0), (.lst none true .full [])]) []).bind fun v3 =>
  (storeA (some 3) r1.2 (.ptr (newAt none m .resv).1 0) v3).bind fun m4 =>
  (loadA (some 3) m4 (.ptr (newAt none m .resv).1 0)).bind fun v5 =>
  some ((.tup [v5, r1.1]), m4)) (
  (pcall (AP cfg) none r1.2 58 [a0, a1, (.fn 59 [])]).bind fun r6 =>
  (storeA (some 3) r6.2 (.ptr (newAt none m .resv).1 0) r6.1).bind fun m7 =>
  (loadA (some 3) m7 (.ptr (newAt none m .resv).1 0)).bind fun v8 =>
  some ((.tup [v8, (.int .i64 0)]), m7)) :=
(AC_eq cfg 16 [a0, a1] m (fn := f16) (c := bodyOf f16) at16 rfl).trans (by kernel_rfl)
/-! ### sortilege/matrix.Identity -/
theorem T18 (a0 : AV) (m : Mem) : AC cfg 18 [a0] m =
  (pcall (AP cfg) none (newAt none m (.obj true [(.int .i64 0), (.int .i64 0), (.lst none true .full [])])).2 57 [a0, a0]).bind fun r1 =>
  (binA .other .neq r1.1 (.int .i64 0)).bind fun v2 =>
  ifA v2 (
  (buildA (.agg [(.int .i64 0), (.int .i64 0), (.lst none true .full [])]) []).bind fun v3 =>
  (storeA (some 3) r1.2 (.ptr (newAt none m .resv).1 0) v3).bind fun m4 =>
  (loadA (some 3) m4 (.ptr (newAt none m .resv).1 0)).bind fun v5 =>
  some ((.tup [v5, r1.1]), m4)) (
  (pcall (AP cfg) none r1.2 58 [a0, a0, (.fn 62 [])]).bind fun r6 =>
  (storeA (some 3) r6.2 (.ptr (newAt none m .resv).1 0) r6.1).bind fun m7 =>
  (loadA (some 3) m7 (.ptr (newAt none m .resv).1 0)).bind fun v8 =>
  some ((.tup [v8, (.int .i64 0)]), m7)) :=
(AC_eq cfg 18 [a0] m (fn := f18) (c := bodyOf f18) at18 rfl).trans (by kernel_rfl)
/-! ### sortilege/matrix.Right -/
def O20_4 (m : Mem) : St := ⟨[.any, .any, .any, .any, .any, .any, .any, .any, .any, .any, .any, .any, .any, .any, .any, .any, .any, .any, .any, .any, .any, .any, .any, .any, .any, .any, .any, .any, .any, .any, .any, .any, .any, .any, .any, .any, .any, .any, .any, .any, .any, .any, .any, .any, .any], m⟩
def R20_4 (x2 : AV) (m : Mem) : St := ⟨[.any, .any, x2, .any, .any, .any, .any, .any, .any, .any, .any, .any, .any, .any, .any, .any, .any, .any, .any, .any, .any, .any, .any, .any, .any, .any, .any, .any, .any, .any, .any, .any, .any, .any, .any, .any, .any, .any, .any, .any, .any, .any, .any, .any, .any], m⟩
noncomputable def L20_4 (x35 x36 x37 : AV) (m : Mem) (K : Ex → St → Option (AV × Mem)) : Option (AV × Mem) := loopW (execW cfg 20 (AP cfg) (AC cfg) (c1 (c1 (c2 (c1 (c2 (c2 (bodyOf f20)))))))) (cfg.mask 20 (some 4)) ⟨[.any, .any, .any, .any, .any, .any, .any, .any, .any, .any, .any, .any, .any, .any, .any, .any, .any, .any, .any, .any, .any, .any, .any, .any, .any, .any, .any, .any, .any, .any, .any, .any, .any, .any, .any, x35, x36, x37, .any, .any, .any, .any, .any, .any, .any], m⟩ K
noncomputable abbrev K20_4_0 (K : Ex → St → Option (AV × Mem)) : Ex → St → Option (AV × Mem) := seqK (fun st => execW cfg 20 (AP cfg) (AC cfg) (c2 (c2 (c2 (bodyOf f20)))) st K) K
noncomputable abbrev K20_4_1 (K : Ex → St → Option (AV × Mem)) : Ex → St → Option (AV × Mem) := blockK 0 (K20_4_0 K)
noncomputable abbrev K20_4 (K : Ex → St → Option (AV × Mem)) : Ex → St → Option (AV × Mem) := (K20_4_1 K)
theorem T20 (a0 : AV) (m : Mem) : AC cfg 20 [a0] m =
  (boxA none (some 3) m a0).bind fun r1 =>
  (fieldAddrA 0 r1.1).bind fun v2 =>
  (loadA none r1.2 v2).bind fun v3 =>
  (binA .other .lss v3 (.int .i64 0)).bind fun v4 =>
  ifA v4 (
  some ((.bool false), r1.2)) (
  (fieldAddrA 0 r1.1).bind fun v5 =>
  (loadA none r1.2 v5).bind fun v6 =>
  (binA .other .gtr v6 (.int .i64 60)).bind fun v7 =>
  ifA v7 (
  some ((.bool false), r1.2)) (
  (fieldAddrA 1 r1.1).bind fun v8 =>
  (loadA none r1.2 v8).bind fun v9 =>
  (binA .other .lss v9 (.int .i64 0)).bind fun v10 =>
  ifA v10 (
  some ((.bool false), r1.2)) (
  (fieldAddrA 1 r1.1).bind fun v11 =>
  (loadA none r1.2 v11).bind fun v12 =>
  (binA .other .gtr v12 (.int .i64 60)).bind fun v13 =>
  ifA v13 (
  some ((.bool false), r1.2)) (
  (fieldAddrA 2 r1.1).bind fun v14 =>
  (loadA none r1.2 v14).bind fun v15 =>
  (lenA false v15).bind fun v16 =>
  (fieldAddrA 0 r1.1).bind fun v17 =>
  (loadA none r1.2 v17).bind fun v18 =>
  (fieldAddrA 1 r1.1).bind fun v19 =>
  (loadA none r1.2 v19).bind fun v20 =>
  (binA .other .mul v18 v20).bind fun v21 =>
  (binA .other .neq v16 v21).bind fun v22 =>
  ifA v22 (
  some ((.bool false), r1.2)) (
  (fieldAddrA 2 r1.1).bind fun v23 =>
  (loadA none r1.2 v23).bind fun v24 =>
  (lenA false v24).bind fun v25 =>
  L20_4 v24 v25 (.int .i64 0) r1.2 (K20_4 (finK cfg.P f20.results.toList))))))) :=
(AC_eq cfg 20 [a0] m (fn := f20) (c := bodyOf f20) at20 rfl).trans (by kernel_rfl)
theorem L20_4_eq (x35 x36 x37 : AV) (m : Mem) (K : Ex → St → Option (AV × Mem)) : L20_4 x35 x36 x37 m K =
  (binA .other .lss x37 x36).bind fun v1 =>
  ifA v1 (
  (indexAddrA (some 3) x35 x37).bind fun v2 =>
  (loadA (some 3) m v2).bind fun v3 =>
  (storeA (some 3) (newAt none m (.obj true [(.bool false), (.lst none true .full []), (.lst none true .full [])])).2 (.ptr (newAt none m .resv).1 0) v3).bind fun m4 =>
  (loadA (some 3) m4 (.ptr (newAt none m .resv).1 0)).bind fun v5 =>
  (pcall (AP cfg) none m4 64 [v5]).bind fun r6 =>
  (unA .not r6.1).bind fun v7 =>
  ifA v7 (
  K .ret (R20_4 (.bool false) r6.2)) (
  (binA .other .add x37 (.int .i64 1)).bind fun v8 =>
  L20_4 x35 x36 v8 r6.2 K)) (
  K (.exit 0) (O20_4 m)) :=
(loopW_eq (execW_lin _) _ _ _).trans (by kernel_rfl)
theorem K20_4_x0 (m : Mem) : K20_4 (finK cfg.P f20.results.toList) (.exit 0) (O20_4  m) =
  some ((.bool true), m) := by kernel_rfl
theorem K20_4_ret (x2 : AV) (m : Mem) : K20_4 (finK cfg.P f20.results.toList) .ret (R20_4 x2 m) =
  some (x2, m) := by kernel_rfl
/-! ### sortilege/matrix.At -/
theorem T24 (a0 a1 a2 : AV) (m : Mem) : AC cfg 24 [a0, a1, a2] m =
  (boxA none (some 3) m a0).bind fun r1 =>
  (loadA (some 3) (newAt none r1.2 (.obj true [(.bool false), (.lst none true .full []), (.lst none true .full [])])).2 r1.1).bind fun v2 =>
  (pcall (AP cfg) none (newAt none r1.2 (.obj true [(.bool false), (.lst none true .full []), (.lst none true .full [])])).2 20 [v2]).bind fun r3 =>
  (unA .not r3.1).bind fun v4 =>
  ifA v4 (
  (pcall (AP cfg) none r3.2 60 []).bind fun r5 =>
  (storeA (some 3) r5.2 (.ptr (newAt none r1.2 .resv).1 0) r5.1).bind fun m6 =>
  (loadA (some 3) m6 (.ptr (newAt none r1.2 .resv).1 0)).bind fun v7 =>
  some (v7, m6)) (
  (binA .other .lss a1 (.int .i64 0)).bind fun v8 =>
  ifA v8 (
  (pcall (AP cfg) none r3.2 60 []).bind fun r9 =>
  (storeA (some 3) r9.2 (.ptr (newAt none r1.2 .resv).1 0) r9.1).bind fun m10 =>
  (loadA (some 3) m10 (.ptr (newAt none r1.2 .resv).1 0)).bind fun v11 =>
  some (v11, m10)) (
  (fieldAddrA 0 r1.1).bind fun v12 =>
  (loadA none r3.2 v12).bind fun v13 =>
  (binA .other .geq a1 v13).bind fun v14 =>
  ifA v14 (
  (pcall (AP cfg) none r3.2 60 []).bind fun r15 =>
  (storeA (some 3) r15.2 (.ptr (newAt none r1.2 .resv).1 0) r15.1).bind fun m16 =>
  (loadA (some 3) m16 (.ptr (newAt none r1.2 .resv).1 0)).bind fun v17 =>
  some (v17, m16)) (
  (binA .other .lss a2 (.int .i64 0)).bind fun v18 =>
  ifA v18 (
  (pcall (AP cfg) none r3.2 60 []).bind fun r19 =>
  (storeA (some 3) r19.2 (.ptr (newAt none r1.2 .resv).1 0) r19.1).bind fun m20 =>
  (loadA (some 3) m20 (.ptr (newAt none r1.2 .resv).1 0)).bind fun v21 =>
  some (v21, m20)) (
  (fieldAddrA 1 r1.1).bind fun v22 =>
  (loadA none r3.2 v22).bind fun v23 =>
  (binA .other .geq a2 v23).bind fun v24 =>
  ifA v24 (
  (pcall (AP cfg) none r3.2 60 []).bind fun r25 =>
  (storeA (some 3) r25.2 (.ptr (newAt none r1.2 .resv).1 0) r25.1).bind fun m26 =>
  (loadA (some 3) m26 (.ptr (newAt none r1.2 .resv).1 0)).bind fun v27 =>
  some (v27, m26)) (
  (fieldAddrA 2 r1.1).bind fun v28 =>
  (loadA none r3.2 v28).bind fun v29 =>
  (fieldAddrA 1 r1.1).bind fun v30 =>
  (loadA none r3.2 v30).bind fun v31 =>
  (binA .other .mul a1 v31).bind fun v32 =>
  (binA .other .add v32 a2).bind fun v33 =>
  (indexAddrA (some 3) v29 v33).bind fun v34 =>
  (loadA (some 3) r3.2 v34).bind fun v35 =>
  (pcall (AP cfg) none r3.2 67 [v35]).bind fun r36 =>
  (storeA (some 3) r36.2 (.ptr (newAt none r1.2 .resv).1 0) r36.1).bind fun m37 =>
  (loadA (some 3) m37 (.ptr (newAt none r1.2 .resv).1 0)).bind fun v38 =>
  some (v38, m37)))))) :=
(AC_eq cfg 24 [a0, a1, a2] m (fn := f24) (c := bodyOf f24) at24 rfl).trans (by kernel_rfl)
/-! ### sortilege/matrix.Power -/
/-! ### sortilege/matrix.Rank -/
/-! ### sortilege/matrix.Solve -/
/-! ### sortilege/matrix.Inverse -/
/-! ### sortilege/matrix.clone -/
def O56_3 (x2 x3 : AV) (m : Mem) : St := ⟨[.any, .any, x2, x3, .any, .any, .any, .any, .any, .any, .any, .any, .any, .any, .any, .any, .any, .any, .any, .any, .any, .any, .any, .any, .any, .any, .any], m⟩
noncomputable def L56_3 (x2 x3 x12 x13 x14 : AV) (m : Mem) (K : Ex → St → Option (AV × Mem)) : Option (AV × Mem) := loopW (execW cfg 56 (AP cfg) (AC cfg) (c1 (c1 (c2 (c1 (c2 (c2 (bodyOf f56)))))))) (cfg.mask 56 (some 3)) ⟨[.any, .any, x2, x3, .any, .any, .any, .any, .any, .any, .any, .any, x12, x13, x14, .any, .any, .any, .any, .any, .any, .any, .any, .any, .any, .any, .any], m⟩ K
noncomputable abbrev K56_3_0 (K : Ex → St → Option (AV × Mem)) : Ex → St → Option (AV × Mem) := seqK (fun st => execW cfg 56 (AP cfg) (AC cfg) (c2 (c2 (c2 (bodyOf f56)))) st K) K
noncomputable abbrev K56_3_1 (K : Ex → St → Option (AV × Mem)) : Ex → St → Option (AV × Mem) := blockK 0 (K56_3_0 K)
noncomputable abbrev K56_3 (K : Ex → St → Option (AV × Mem)) : Ex → St → Option (AV × Mem) := (K56_3_1 K)
theorem T56 (a0 : AV) (m : Mem) : AC cfg 56 [a0] m =
  (boxA none (some 3) m a0).bind fun r1 =>
  (fieldAddrA 0 r1.1).bind fun v2 =>
  (loadA none (newAt none r1.2 (.obj true [(.int .i64 0), (.int .i64 0), (.lst none true .full [])])).2 v2).bind fun v3 =>
  (fieldAddrA 1 r1.1).bind fun v4 =>
  (loadA none (newAt none r1.2 (.obj true [(.int .i64 0), (.int .i64 0), (.lst none true .full [])])).2 v4).bind fun v5 =>
  (buildA (.agg [(.int .i64 0), (.int .i64 0), (.lst none true .full [])]) [(0, none, v3), (1, none, v5)]).bind fun v6 =>
  (storeA (some 3) (newAt none (newAt none r1.2 (.obj true [(.int .i64 0), (.int .i64 0), (.lst none true .full [])])).2 (.obj true [(.int .i64 0), (.int .i64 0), (.lst none true .full [])])).2 (.ptr (newAt none (newAt none r1.2 (.obj true [(.int .i64 0), (.int .i64 0), (.lst none true .full [])])).2 .resv).1 0) v6).bind fun m7 =>
  (fieldAddrA 2 r1.1).bind fun v8 =>
  (loadA none m7 v8).bind fun v9 =>
  (lenA false v9).bind fun v10 =>
  L56_3 (.ptr (newAt none r1.2 .resv).1 0) (.ptr (newAt none (newAt none r1.2 (.obj true [(.int .i64 0), (.int .i64 0), (.lst none true .full [])])).2 .resv).1 0) v9 v10 (.int .i64 0) m7 (K56_3 (finK cfg.P f56.results.toList)) :=
(AC_eq cfg 56 [a0] m (fn := f56) (c := bodyOf f56) at56 rfl).trans (by kernel_rfl)
theorem L56_3_eq (x2 x3 x12 x13 x14 : AV) (m : Mem) (K : Ex → St → Option (AV × Mem)) : L56_3 x2 x3 x12 x13 x14 m K =
  (binA .other .lss x14 x13).bind fun v1 =>
  ifA v1 (
  (indexAddrA (some 3) x12 x14).bind fun v2 =>
  (loadA (some 3) m v2).bind fun v3 =>
  (storeA (some 3) (newAt none m (.obj true [(.bool false), (.lst none true .full []), (.lst none true .full [])])).2 (.ptr (newAt none m .resv).1 0) v3).bind fun m4 =>
  (fieldAddrA 2 x3).bind fun v5 =>
  (loadA none (reserve m4 1) v5).bind fun v6 =>
  (loadA (some 3) (reserve m4 1) (.ptr (newAt none m .resv).1 0)).bind fun v7 =>
  (pcall (AP cfg) (some m4.length) (reserve m4 1) 67 [v7]).bind fun r8 =>
  (buildSliceA (some 3) [r8.1]).bind fun v9 =>
  (appA (some m4.length) false 43 (some 3) 56 r8.2 v6 v9).bind fun r10 =>
  (fieldAddrA 2 x3).bind fun v11 =>
  (storeA none r10.2 v11 r10.1).bind fun m12 =>
  (binA .other .add x14 (.int .i64 1)).bind fun v13 =>
  L56_3 x2 x3 x12 x13 v13 m12 K) (
  K (.exit 0) (O56_3 x2 x3 m)) :=
(loopW_eq (execW_lin _) _ _ _).trans (by kernel_rfl)
theorem K56_3_x0 (x2 x3 : AV) (m : Mem) : K56_3 (finK cfg.P f56.results.toList) (.exit 0) (O56_3 x2 x3 m) =
  (loadA (some 3) m x3).bind fun v1 =>
  (storeA (some 3) m x2 v1).bind fun m2 =>
  (loadA (some 3) m2 x2).bind fun v3 =>
  some (v3, m2) := by kernel_rfl
/-! ### sortilege/matrix.sized -/
theorem T57 (a0 a1 : AV) (m : Mem) : AC cfg 57 [a0, a1] m =
  (binA .other .lss a0 (.int .i64 0)).bind fun v1 =>
  ifA v1 (
  some ((.int .i64 1), m)) (
  (binA .other .lss a1 (.int .i64 0)).bind fun v2 =>
  ifA v2 (
  some ((.int .i64 1), m)) (
  (binA .other .gtr a0 (.int .i64 60)).bind fun v3 =>
  ifA v3 (
  some ((.int .i64 2), m)) (
  (binA .other .gtr a1 (.int .i64 60)).bind fun v4 =>
  ifA v4 (
  some ((.int .i64 2), m)) (
  some ((.int .i64 0), m))))) :=
(AC_eq cfg 57 [a0, a1] m (fn := f57) (c := bodyOf f57) at57 rfl).trans (by kernel_rfl)
/-! ### sortilege/matrix.filled -/
def O58_3 (x6 x7 : AV) (m : Mem) : St := ⟨[.any, .any, .any, .any, .any, .any, x6, x7, .any, .any, .any, .any, .any, .any, .any, .any, .any, .any, .any, .any, .any, .any, .any, .any, .any, .any, .any, .any, .any, .any, .any, .any, .any], m⟩
noncomputable def L58_3 (x1 x2 x6 x7 x13 x14 : AV) (m : Mem) (K : Ex → St → Option (AV × Mem)) : Option (AV × Mem) := loopW (execW cfg 58 (AP cfg) (AC cfg) (c1 (c1 (c2 (c1 (c2 (c2 (bodyOf f58)))))))) (cfg.mask 58 (some 3)) ⟨[.any, x1, x2, .any, .any, .any, x6, x7, .any, .any, .any, .any, .any, x13, x14, .any, .any, .any, .any, .any, .any, .any, .any, .any, .any, .any, .any, .any, .any, .any, .any, .any, .any], m⟩ K
def O58_6 (x1 x2 x6 x7 x13 x14 : AV) (m : Mem) : St := ⟨[.any, x1, x2, .any, .any, .any, x6, x7, .any, .any, .any, .any, .any, x13, x14, .any, .any, .any, .any, .any, .any, .any, .any, .any, .any, .any, .any, .any, .any, .any, .any, .any, .any], m⟩
noncomputable def L58_6 (x1 x2 x6 x7 x8 x13 x14 x17 x18 : AV) (m : Mem) (K : Ex → St → Option (AV × Mem)) : Option (AV × Mem) := loopW (execW cfg 58 (AP cfg) (AC cfg) (c1 (c1 (c2 (c2 (c1 (c1 (c2 (c2 (c1 (c1 (c2 (c1 (c2 (c2 (bodyOf f58)))))))))))))))) (cfg.mask 58 (some 6)) ⟨[.any, x1, x2, .any, .any, .any, x6, x7, x8, .any, .any, .any, .any, x13, x14, .any, .any, x17, x18, .any, .any, .any, .any, .any, .any, .any, .any, .any, .any, .any, .any, .any, .any], m⟩ K
noncomputable abbrev K58_3_0 (K : Ex → St → Option (AV × Mem)) : Ex → St → Option (AV × Mem) := seqK (fun st => execW cfg 58 (AP cfg) (AC cfg) (c2 (c2 (c2 (bodyOf f58)))) st K) K
noncomputable abbrev K58_3_1 (K : Ex → St → Option (AV × Mem)) : Ex → St → Option (AV × Mem) := blockK 0 (K58_3_0 K)
noncomputable abbrev K58_3 (K : Ex → St → Option (AV × Mem)) : Ex → St → Option (AV × Mem) := (K58_3_1 K)
noncomputable abbrev K58_6_0 (K : Ex → St → Option (AV × Mem)) : Ex → St → Option (AV × Mem) := seqK (fun st => execW cfg 58 (AP cfg) (AC cfg) (c2 (c2 (c2 (c1 (c1 (c2 (c1 (c2 (c2 (bodyOf f58)))))))))) st (roundG (fun st => loopW (execW cfg 58 (AP cfg) (AC cfg) (c1 (c1 (c2 (c1 (c2 (c2 (bodyOf f58)))))))) (cfg.mask 58 (some 3)) st K) (cfg.mask 58 (some 3)) K)) (roundG (fun st => loopW (execW cfg 58 (AP cfg) (AC cfg) (c1 (c1 (c2 (c1 (c2 (c2 (bodyOf f58)))))))) (cfg.mask 58 (some 3)) st K) (cfg.mask 58 (some 3)) K)
noncomputable abbrev K58_6_1 (K : Ex → St → Option (AV × Mem)) : Ex → St → Option (AV × Mem) := blockK 1 (K58_6_0 K)
noncomputable abbrev K58_6_2 (K : Ex → St → Option (AV × Mem)) : Ex → St → Option (AV × Mem) := blockK 2 (K58_6_1 K)
noncomputable abbrev K58_6 (K : Ex → St → Option (AV × Mem)) : Ex → St → Option (AV × Mem) := (K58_6_2 K)
theorem T58 (a0 a1 a2 : AV) (m : Mem) : AC cfg 58 [a0, a1, a2] m =
  (buildA (.agg [(.int .i64 0), (.int .i64 0), (.lst none true .full [])]) [(0, none, a0), (1, none, a1)]).bind fun v1 =>
  (storeA (some 3) (newAt none (newAt none m (.obj true [(.int .i64 0), (.int .i64 0), (.lst none true .full [])])).2 (.obj true [(.int .i64 0), (.int .i64 0), (.lst none true .full [])])).2 (.ptr (newAt none (newAt none m (.obj true [(.int .i64 0), (.int .i64 0), (.lst none true .full [])])).2 .resv).1 0) v1).bind fun m2 =>
  L58_3 a1 a2 (.ptr (newAt none m .resv).1 0) (.ptr (newAt none (newAt none m (.obj true [(.int .i64 0), (.int .i64 0), (.lst none true .full [])])).2 .resv).1 0) a0 (.int .i64 0) m2 (K58_3 (finK cfg.P f58.results.toList)) :=
(AC_eq cfg 58 [a0, a1, a2] m (fn := f58) (c := bodyOf f58) at58 rfl).trans (by kernel_rfl)
theorem L58_3_eq (x1 x2 x6 x7 x13 x14 : AV) (m : Mem) (K : Ex → St → Option (AV × Mem)) : L58_3 x1 x2 x6 x7 x13 x14 m K =
  (binA .other .lss x14 x13).bind fun v1 =>
  ifA v1 (
  L58_6 x1 x2 x6 x7 x14 x13 x14 x1 (.int .i64 0) m (K58_6 K)) (
  K (.exit 0) (O58_3 x6 x7 m)) :=
(loopW_eq (execW_lin _) _ _ _).trans (by kernel_rfl)
theorem L58_6_eq (x1 x2 x6 x7 x8 x13 x14 x17 x18 : AV) (m : Mem) (K : Ex → St → Option (AV × Mem)) : L58_6 x1 x2 x6 x7 x8 x13 x14 x17 x18 m K =
  (binA .other .lss x18 x17).bind fun v1 =>
  ifA v1 (
  (fieldAddrA 2 x7).bind fun v2 =>
  (loadA none (reserve m 1) v2).bind fun v3 =>
  (fnOf x2).bind fun g4 =>
  callK cfg 58 (AP cfg) (AC cfg) (some m.length) g4.1 ([x8, x18] ++ g4.2) (reserve m 1) fun v5 m6 =>
  (buildSliceA (some 3) [v5]).bind fun v7 =>
  (appA (some m.length) false 43 (some 3) 56 m6 v3 v7).bind fun r8 =>
  (fieldAddrA 2 x7).bind fun v9 =>
  (storeA none r8.2 v9 r8.1).bind fun m10 =>
  (binA .other .add x18 (.int .i64 1)).bind fun v11 =>
  L58_6 x1 x2 x6 x7 x8 x13 x14 x17 v11 m10 K) (
  K (.exit 2) (O58_6 x1 x2 x6 x7 x13 x14 m)) :=
(loopW_eq (execW_lin _) _ _ _).trans (by kernel_rfl)
theorem K58_3_x0 (x6 x7 : AV) (m : Mem) : K58_3 (finK cfg.P f58.results.toList) (.exit 0) (O58_3 x6 x7 m) =
  (loadA (some 3) m x7).bind fun v1 =>
  (storeA (some 3) m x6 v1).bind fun m2 =>
  (loadA (some 3) m2 x6).bind fun v3 =>
  some (v3, m2) := by kernel_rfl
theorem K58_6_x2 (x1 x2 x6 x7 x13 x14 : AV) (m : Mem) (K : Ex → St → Option (AV × Mem)) : K58_6 K (.exit 2) (O58_6 x1 x2 x6 x7 x13 x14 m) =
  (binA .other .add x14 (.int .i64 1)).bind fun v1 =>
  L58_3 x1 x2 x6 x7 x13 v1 m K := by kernel_rfl
/-! ### sortilege/matrix.unit -/
theorem T62 (a0 a1 : AV) (m : Mem) : AC cfg 62 [a0, a1] m =
  (binA .other .eql a0 a1).bind fun v1 =>
  ifA v1 (
  (pcall (AP cfg) none (newAt none m (.obj true [(.bool false), (.lst none true .full []), (.lst none true .full [])])).2 84 []).bind fun r2 =>
  (storeA (some 3) r2.2 (.ptr (newAt none m .resv).1 0) r2.1).bind fun m3 =>
  (loadA (some 3) m3 (.ptr (newAt none m .resv).1 0)).bind fun v4 =>
  some (v4, m3)) (
  (pcall (AP cfg) none (newAt none m (.obj true [(.bool false), (.lst none true .full []), (.lst none true .full [])])).2 60 []).bind fun r5 =>
  (storeA (some 3) r5.2 (.ptr (newAt none m .resv).1 0) r5.1).bind fun m6 =>
  (loadA (some 3) m6 (.ptr (newAt none m .resv).1 0)).bind fun v7 =>
  some (v7, m6)) :=
(AC_eq cfg 62 [a0, a1] m (fn := f62) (c := bodyOf f62) at62 rfl).trans (by kernel_rfl)
/-! ### sortilege/matrix.copied -/
theorem T67 (a0 : AV) (m : Mem) : AC cfg 67 [a0] m =
  (boxA none (some 3) m a0).bind fun r1 =>
  (fieldAddrA 0 r1.1).bind fun v2 =>
  (loadA none (reserve (newAt none r1.2 (.obj true [(.bool false), (.lst none true .full []), (.lst none true .full [])])).2 2) v2).bind fun v3 =>
  (fieldAddrA 1 r1.1).bind fun v4 =>
  (loadA none (reserve (newAt none r1.2 (.obj true [(.bool false), (.lst none true .full []), (.lst none true .full [])])).2 2) v4).bind fun v5 =>
  (fieldAddrA 2 r1.1).bind fun v6 =>
  (loadA none (reserve (newAt none r1.2 (.obj true [(.bool false), (.lst none true .full []), (.lst none true .full [])])).2 2) v6).bind fun v7 =>
  (appA (some (newAt none r1.2 (.obj true [(.bool false), (.lst none true .full []), (.lst none true .full [])])).2.length) false 116 none 4 (reserve (newAt none r1.2 (.obj true [(.bool false), (.lst none true .full []), (.lst none true .full [])])).2 2) (.lst none true .full []) v5).bind fun r8 =>
  (appA (some ((newAt none r1.2 (.obj true [(.bool false), (.lst none true .full []), (.lst none true .full [])])).2.length + 1)) false 116 none 4 r8.2 (.lst none true .full []) v7).bind fun r9 =>
  (buildA (.agg [(.bool false), (.lst none true .full []), (.lst none true .full [])]) [(0, none, v3), (1, none, r8.1), (2, none, r9.1)]).bind fun v10 =>
  (storeA (some 3) r9.2 (.ptr (newAt none r1.2 .resv).1 0) v10).bind fun m11 =>
  (loadA (some 3) m11 (.ptr (newAt none r1.2 .resv).1 0)).bind fun v12 =>
  some (v12, m11) :=
(AC_eq cfg 67 [a0] m (fn := f67) (c := bodyOf f67) at67 rfl).trans (by kernel_rfl)
/-! ### sortilege/matrix.times -/
/-! ### sortilege/matrix.rows -/
/-! ### sortilege/matrix.steps -/
/-! ### sortilege/matrix.solved -/
/-! ### sortilege/matrix.times$1 -/
/-! ### sortilege/matrix.pivot -/
/-! ### sortilege/matrix.swap -/
/-! ### sortilege/matrix.clear -/
/-! ### sortilege/matrix.weight -/
end Go.Ab
