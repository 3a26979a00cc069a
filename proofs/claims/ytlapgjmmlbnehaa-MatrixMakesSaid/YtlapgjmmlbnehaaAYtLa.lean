/- What the interpreter does, function by function. -/
import Derived.Test.YtlapgjmmlbnehaaAYtCfg
set_option maxRecDepth 100000
set_option linter.unusedVariables false
namespace Go.Ab
open Go.Proofs.Try
/-! ### sortilege/sortilegelaw19.MatrixLong -/
/-! ### sortilege/sortilegelaw19.MatrixExpands -/
/-! ### sortilege/sortilegelaw19.MatrixSolves -/
/-! ### sortilege/sortilegelaw19.few -/
def O13_3 (x1 x2 x4 x5 : AV) (m : Mem) : St := ⟨[.any, x1, x2, .any, x4, x5, .any, .any, .any, .any, .any, .any, .any, .any, .any, .any, .any, .any, .any, .any, .any, .any, .any, .any, .any, .any, .any, .any, .any, .any, .any, .any, .any, .any, .any, .any, .any, .any, .any, .any, .any, .any, .any, .any, .any, .any, .any, .any, .any, .any, .any, .any, .any, .any, .any, .any, .any, .any, .any, .any, .any, .any, .any, .any, .any, .any, .any, .any, .any, .any, .any, .any, .any, .any, .any, .any, .any, .any, .any, .any, .any, .any, .any, .any, .any, .any, .any, .any, .any, .any, .any, .any], m⟩
noncomputable def L13_3 (x1 x2 x4 x5 x21 x22 x23 : AV) (m : Mem) (K : Ex → St → Option (AV × Mem)) : Option (AV × Mem) := loopW (execW cfg 13 (AP cfg) (AC cfg) (c1 (c1 (c2 (c1 (c2 (c2 (bodyOf f13)))))))) (cfg.mask 13 (some 3)) ⟨[.any, x1, x2, .any, x4, x5, .any, .any, .any, .any, .any, .any, .any, .any, .any, .any, .any, .any, .any, .any, .any, x21, x22, x23, .any, .any, .any, .any, .any, .any, .any, .any, .any, .any, .any, .any, .any, .any, .any, .any, .any, .any, .any, .any, .any, .any, .any, .any, .any, .any, .any, .any, .any, .any, .any, .any, .any, .any, .any, .any, .any, .any, .any, .any, .any, .any, .any, .any, .any, .any, .any, .any, .any, .any, .any, .any, .any, .any, .any, .any, .any, .any, .any, .any, .any, .any, .any, .any, .any, .any, .any, .any], m⟩ K
noncomputable def L13_11 (x2 x4 x5 x8 x9 : AV) (m : Mem) (K : Ex → St → Option (AV × Mem)) : Option (AV × Mem) := loopW (execW cfg 13 (AP cfg) (AC cfg) (c1 (c1 (c2 (c1 (c2 (c2 (c2 (c2 (c2 (bodyOf f13))))))))))) (cfg.mask 13 (some 11)) ⟨[.any, .any, x2, .any, x4, x5, .any, .any, x8, x9, .any, .any, .any, .any, .any, .any, .any, .any, .any, .any, .any, .any, .any, .any, .any, .any, .any, .any, .any, .any, .any, .any, .any, .any, .any, .any, .any, .any, .any, .any, .any, .any, .any, .any, .any, .any, .any, .any, .any, .any, .any, .any, .any, .any, .any, .any, .any, .any, .any, .any, .any, .any, .any, .any, .any, .any, .any, .any, .any, .any, .any, .any, .any, .any, .any, .any, .any, .any, .any, .any, .any, .any, .any, .any, .any, .any, .any, .any, .any, .any, .any, .any], m⟩ K
noncomputable abbrev K13_3_0 (K : Ex → St → Option (AV × Mem)) : Ex → St → Option (AV × Mem) := seqK (fun st => execW cfg 13 (AP cfg) (AC cfg) (c2 (c2 (c2 (bodyOf f13)))) st K) K
noncomputable abbrev K13_3_1 (K : Ex → St → Option (AV × Mem)) : Ex → St → Option (AV × Mem) := blockK 0 (K13_3_0 K)
noncomputable abbrev K13_3 (K : Ex → St → Option (AV × Mem)) : Ex → St → Option (AV × Mem) := (K13_3_1 K)
noncomputable abbrev K13_11_0 (K : Ex → St → Option (AV × Mem)) : Ex → St → Option (AV × Mem) := seqK (fun st => execW cfg 13 (AP cfg) (AC cfg) (c2 (c2 (c2 (c2 (c2 (c2 (bodyOf f13))))))) st K) K
noncomputable abbrev K13_11_1 (K : Ex → St → Option (AV × Mem)) : Ex → St → Option (AV × Mem) := blockK 2 (K13_11_0 K)
noncomputable abbrev K13_11 (K : Ex → St → Option (AV × Mem)) : Ex → St → Option (AV × Mem) := (K13_11_1 K)
theorem T13 (a0 a1 : AV) (m : Mem) : AC cfg 13 [a0, a1] m =
  (boxA none (some 3) m a0).bind fun r1 =>
  (fieldAddrA 0 r1.1).bind fun v2 =>
  (loadA none (newAt none r1.2 (.obj true [(.int .i64 0), (.int .i64 0), (.lst none true .full [])])).2 v2).bind fun v3 =>
  (fieldAddrA 1 r1.1).bind fun v4 =>
  (loadA none (newAt none r1.2 (.obj true [(.int .i64 0), (.int .i64 0), (.lst none true .full [])])).2 v4).bind fun v5 =>
  (buildA (.agg [(.int .i64 0), (.int .i64 0), (.lst none true .full [])]) [(0, none, v3), (1, none, v5)]).bind fun v6 =>
  (storeA (some 3) (newAt none (newAt none r1.2 (.obj true [(.int .i64 0), (.int .i64 0), (.lst none true .full [])])).2 (.obj true [(.int .i64 0), (.int .i64 0), (.lst none true .full [])])).2 (.ptr (newAt none (newAt none r1.2 (.obj true [(.int .i64 0), (.int .i64 0), (.lst none true .full [])])).2 .resv).1 0) v6).bind fun m7 =>
  (fieldAddrA 2 r1.1).bind fun v8 =>
  (loadA none m7 v8).bind fun v9 =>
  (fieldAddrA 2 r1.1).bind fun v10 =>
  (loadA none m7 v10).bind fun v11 =>
  (lenA false v11).bind fun v12 =>
  (maxA false v12 (.int .i64 4000)).bind fun v13 =>
  (sliceT (some 3) v9 none (some v13) none).bind fun v14 =>
  (lenA false v14).bind fun v15 =>
  L13_3 a1 r1.1 (.ptr (newAt none r1.2 .resv).1 0) (.ptr (newAt none (newAt none r1.2 (.obj true [(.int .i64 0), (.int .i64 0), (.lst none true .full [])])).2 .resv).1 0) v14 v15 (.int .i64 0) m7 (K13_3 (finK cfg.P f13.results.toList)) :=
(AC_eq cfg 13 [a0, a1] m (fn := f13) (c := bodyOf f13) at13 rfl).trans (by kernel_rfl)
theorem L13_3_eq (x1 x2 x4 x5 x21 x22 x23 : AV) (m : Mem) (K : Ex → St → Option (AV × Mem)) : L13_3 x1 x2 x4 x5 x21 x22 x23 m K =
  (binA .other .lss x23 x22).bind fun v1 =>
  ifA v1 (
  (indexAddrA (some 3) x21 x23).bind fun v2 =>
  (loadA (some 3) m v2).bind fun v3 =>
  (storeA (some 3) (newAt none m (.obj true [(.bool false), (.lst none true .full []), (.lst none true .full [])])).2 (.ptr (newAt none m .resv).1 0) v3).bind fun m4 =>
  (fieldAddrA 2 x5).bind fun v5 =>
  (loadA none (reserve m4 1) v5).bind fun v6 =>
  (fieldAddrA 0 (.ptr (newAt none m .resv).1 0)).bind fun v7 =>
  (loadA none (reserve m4 1) v7).bind fun v8 =>
  (fieldAddrA 1 (.ptr (newAt none m .resv).1 0)).bind fun v9 =>
  (loadA none (reserve m4 1) v9).bind fun v10 =>
  (pcall (AP cfg) (some m4.length) (reserve m4 1) 32 [v10, (.int .i64 3)]).bind fun r11 =>
  (fieldAddrA 2 (.ptr (newAt none m .resv).1 0)).bind fun v12 =>
  (loadA none r11.2 v12).bind fun v13 =>
  (pcall (AP cfg) (some m4.length) r11.2 32 [v13, (.int .i64 3)]).bind fun r14 =>
  (buildA (.agg [(.bool false), (.lst none true .full []), (.lst none true .full [])]) [(0, none, v8), (1, none, r11.1), (2, none, r14.1)]).bind fun v15 =>
  (buildSliceA (some 3) [v15]).bind fun v16 =>
  (appA (some m4.length) false 43 (some 3) 56 r14.2 v6 v16).bind fun r17 =>
  (fieldAddrA 2 x5).bind fun v18 =>
  (storeA none r17.2 v18 r17.1).bind fun m19 =>
  (binA .other .add x23 (.int .i64 1)).bind fun v20 =>
  L13_3 x1 x2 x4 x5 x21 x22 v20 m19 K) (
  K (.exit 0) (O13_3 x1 x2 x4 x5 m)) :=
(loopW_eq (execW_lin _) _ _ _).trans (by kernel_rfl)
theorem K13_3_x0 (x1 x2 x4 x5 : AV) (m : Mem) : K13_3 (finK cfg.P f13.results.toList) (.exit 0) (O13_3 x1 x2 x4 x5 m) =
  (loadA (some 3) m x5).bind fun v1 =>
  (pcall (AP cfg) none m 21 [v1]).bind fun r2 =>
  (unA .not r2.1).bind fun v3 =>
  ifA v3 (
  (loadA (some 3) r2.2 x5).bind fun v4 =>
  (storeA (some 3) r2.2 x4 v4).bind fun m5 =>
  (loadA (some 3) m5 x4).bind fun v6 =>
  some (v6, m5)) (
  (fieldAddrA 0 x2).bind fun v7 =>
  (loadA none r2.2 v7).bind fun v8 =>
  (binA .other .leq v8 x1).bind fun v9 =>
  ifA v9 (
  (fieldAddrA 1 x2).bind fun v10 =>
  (loadA none r2.2 v10).bind fun v11 =>
  (binA .other .leq v11 x1).bind fun v12 =>
  ifA v12 (
  (loadA (some 3) r2.2 x5).bind fun v13 =>
  (storeA (some 3) r2.2 x4 v13).bind fun m14 =>
  (loadA (some 3) m14 x4).bind fun v15 =>
  some (v15, m14)) (
  (fieldAddrA 0 x2).bind fun v16 =>
  (loadA none r2.2 v16).bind fun v17 =>
  (maxA false v17 x1).bind fun v18 =>
  (fieldAddrA 1 x2).bind fun v19 =>
  (loadA none r2.2 v19).bind fun v20 =>
  (maxA false v20 x1).bind fun v21 =>
  (buildA (.agg [(.int .i64 0), (.int .i64 0), (.lst none true .full [])]) [(0, none, v18), (1, none, v21)]).bind fun v22 =>
  (storeA (some 3) (newAt none r2.2 (.obj true [(.int .i64 0), (.int .i64 0), (.lst none true .full [])])).2 (.ptr (newAt none r2.2 .resv).1 0) v22).bind fun m23 =>
  L13_11 x2 x4 x5 (.ptr (newAt none r2.2 .resv).1 0) (.int .i64 0) m23 (K13_11 (finK cfg.P f13.results.toList)))) (
  (fieldAddrA 0 x2).bind fun v24 =>
  (loadA none r2.2 v24).bind fun v25 =>
  (maxA false v25 x1).bind fun v26 =>
  (fieldAddrA 1 x2).bind fun v27 =>
  (loadA none r2.2 v27).bind fun v28 =>
  (maxA false v28 x1).bind fun v29 =>
  (buildA (.agg [(.int .i64 0), (.int .i64 0), (.lst none true .full [])]) [(0, none, v26), (1, none, v29)]).bind fun v30 =>
  (storeA (some 3) (newAt none r2.2 (.obj true [(.int .i64 0), (.int .i64 0), (.lst none true .full [])])).2 (.ptr (newAt none r2.2 .resv).1 0) v30).bind fun m31 =>
  L13_11 x2 x4 x5 (.ptr (newAt none r2.2 .resv).1 0) (.int .i64 0) m31 (K13_11 (finK cfg.P f13.results.toList)))) := by kernel_rfl
/-! ### sortilege/sortilegelaw19.same -/
theorem T22 (a0 a1 a2 a3 : AV) (m : Mem) : AC cfg 22 [a0, a1, a2, a3] m =
  (boxA none (some 3) m a0).bind fun r1 =>
  (boxA none (some 3) r1.2 a2).bind fun r2 =>
  (binA .other .eql a1 a3).bind fun v3 =>
  ifA v3 (
  (loadA (some 3) r2.2 r1.1).bind fun v4 =>
  (loadA (some 3) r2.2 r2.1).bind fun v5 =>
  (pcall (AP cfg) none r2.2 40 [v4, v5]).bind fun r6 =>
  some (r6.1, r6.2)) (
  some ((.bool false), r2.2)) :=
(AC_eq cfg 22 [a0, a1, a2, a3] m (fn := f22) (c := bodyOf f22) at22 rfl).trans (by kernel_rfl)
/-! ### sortilege/sortilegelaw19.alive -/
theorem T26 (m : Mem) : AC cfg 26 [] m =
  (pcall (AP cfg) none m 18 [(.int .i64 2)]).bind fun r1 =>
  (extractA r1.1 0).bind fun v2 =>
  (extractA r1.1 1).bind fun v3 =>
  (storeA (some 3) (newAt none r1.2 (.obj true [(.int .i64 0), (.int .i64 0), (.lst none true .full [])])).2 (.ptr (newAt none r1.2 .resv).1 0) v2).bind fun m4 =>
  (binA .other .eql v3 (.int .i64 0)).bind fun v5 =>
  ifA v5 (
  (fieldAddrA 0 (.ptr (newAt none r1.2 .resv).1 0)).bind fun v6 =>
  (loadA none m4 v6).bind fun v7 =>
  (binA .other .eql v7 (.int .i64 2)).bind fun v8 =>
  ifA v8 (
  (fieldAddrA 2 (.ptr (newAt none r1.2 .resv).1 0)).bind fun v9 =>
  (loadA none m4 v9).bind fun v10 =>
  (lenA false v10).bind fun v11 =>
  (binA .other .eql v11 (.int .i64 4)).bind fun v12 =>
  some (v12, m4)) (
  some ((.bool false), m4))) (
  some ((.bool false), m4)) :=
(AC_eq cfg 26 [] m (fn := f26) (c := bodyOf f26) at26 rfl).trans (by kernel_rfl)
/-! ### sortilege/sortilegelaw19.nat -/
theorem T32 (a0 a1 : AV) (m : Mem) : AC cfg 32 [a0, a1] m =
  (lenA false a0).bind fun v1 =>
  (maxA false v1 a1).bind fun v2 =>
  (sliceT none a0 none (some v2) none).bind fun v3 =>
  some (v3, m) :=
(AC_eq cfg 32 [a0, a1] m (fn := f32) (c := bodyOf f32) at32 rfl).trans (by kernel_rfl)
/-! ### sortilege/sortilegelaw19.square -/
end Go.Ab
