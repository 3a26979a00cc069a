/- What the interpreter does, function by function. -/
import Derived.Test.YtlapgjmmlbnehaaAYtCfg
set_option maxRecDepth 100000
set_option linter.unusedVariables false
namespace Go.Ab
open Go.Proofs.Try
/-! ### sortilege/sortilegeref02.Same -/
theorem T23 (a0 a1 : AV) (m : Mem) : AC cfg 23 [a0, a1] m =
  (boxA none (some 3) m a0).bind fun r1 =>
  (boxA none (some 3) r1.2 a1).bind fun r2 =>
  (loadA (some 3) r2.2 r1.1).bind fun v3 =>
  (loadA (some 3) r2.2 r2.1).bind fun v4 =>
  (pcall (AP cfg) none r2.2 66 [v3, v4]).bind fun r5 =>
  (binA .other .eql r5.1 (.int .i64 0)).bind fun v6 =>
  some (v6, r5.2) :=
(AC_eq cfg 23 [a0, a1] m (fn := f23) (c := bodyOf f23) at23 rfl).trans (by kernel_rfl)
/-! ### sortilege/sortilegeref02.Make -/
/-! ### sortilege/sortilegeref02.One -/
theorem T28 (m : Mem) : AC cfg 28 [] m =
  (pcall (AP cfg) none (newAt none m (.obj true [(.bool false), (.lst none true .full []), (.lst none true .full [])])).2 70 [(.int .u64 1)]).bind fun r1 =>
  (pcall (AP cfg) none r1.2 70 [(.int .u64 1)]).bind fun r2 =>
  (buildA (.agg [(.bool false), (.lst none true .full []), (.lst none true .full [])]) [(1, none, r1.1), (2, none, r2.1)]).bind fun v3 =>
  (storeA (some 3) r2.2 (.ptr (newAt none m .resv).1 0) v3).bind fun m4 =>
  (loadA (some 3) m4 (.ptr (newAt none m .resv).1 0)).bind fun v5 =>
  some (v5, m4) :=
(AC_eq cfg 28 [] m (fn := f28) (c := bodyOf f28) at28 rfl).trans (by kernel_rfl)
/-! ### sortilege/sortilegeref02.Mul -/
/-! ### sortilege/sortilegeref02.Zero -/
theorem T31 (m : Mem) : AC cfg 31 [] m =
  (pcall (AP cfg) none (newAt none m (.obj true [(.bool false), (.lst none true .full []), (.lst none true .full [])])).2 70 [(.int .u64 1)]).bind fun r1 =>
  (buildA (.agg [(.bool false), (.lst none true .full []), (.lst none true .full [])]) [(2, none, r1.1)]).bind fun v2 =>
  (storeA (some 3) r1.2 (.ptr (newAt none m .resv).1 0) v2).bind fun m3 =>
  (loadA (some 3) m3 (.ptr (newAt none m .resv).1 0)).bind fun v4 =>
  some (v4, m3) :=
(AC_eq cfg 31 [] m (fn := f31) (c := bodyOf f31) at31 rfl).trans (by kernel_rfl)
/-! ### sortilege/sortilegeref02.Right -/
theorem T65 (a0 : AV) (m : Mem) : AC cfg 65 [a0] m =
  (boxA none (some 3) m a0).bind fun r1 =>
  (fieldAddrA 1 r1.1).bind fun v2 =>
  (loadA none r1.2 v2).bind fun v3 =>
  (pcall (AP cfg) none r1.2 97 [v3]).bind fun r4 =>
  (unA .not r4.1).bind fun v5 =>
  ifA v5 (
  some ((.bool false), r4.2)) (
  (fieldAddrA 2 r1.1).bind fun v6 =>
  (loadA none r4.2 v6).bind fun v7 =>
  (pcall (AP cfg) none r4.2 97 [v7]).bind fun r8 =>
  (unA .not r8.1).bind fun v9 =>
  ifA v9 (
  some ((.bool false), r8.2)) (
  (fieldAddrA 2 r1.1).bind fun v10 =>
  (loadA none r8.2 v10).bind fun v11 =>
  (lenA false v11).bind fun v12 =>
  (binA .other .eql v12 (.int .i64 0)).bind fun v13 =>
  ifA v13 (
  some ((.bool false), r8.2)) (
  (fieldAddrA 1 r1.1).bind fun v14 =>
  (loadA none r8.2 v14).bind fun v15 =>
  (lenA false v15).bind fun v16 =>
  (binA .other .eql v16 (.int .i64 0)).bind fun v17 =>
  ifA v17 (
  (fieldAddrA 0 r1.1).bind fun v18 =>
  (loadA none r8.2 v18).bind fun v19 =>
  (unA .not v19).bind fun v20 =>
  ifA v20 (
  (fieldAddrA 2 r1.1).bind fun v21 =>
  (loadA none r8.2 v21).bind fun v22 =>
  (pcall (AP cfg) (some r8.2.length) r8.2 70 [(.int .u64 1)]).bind fun r23 =>
  (pcall (AP cfg) (some r8.2.length) r23.2 98 [v22, r23.1]).bind fun r24 =>
  (binA .other .eql r24.1 (.int .i64 0)).bind fun v25 =>
  some (v25, r24.2)) (
  some ((.bool false), r8.2))) (
  (fieldAddrA 1 r1.1).bind fun v26 =>
  (loadA none r8.2 v26).bind fun v27 =>
  (fieldAddrA 2 r1.1).bind fun v28 =>
  (loadA none r8.2 v28).bind fun v29 =>
  (pcall (AP cfg) none r8.2 99 [v27, v29]).bind fun r30 =>
  (pcall (AP cfg) none r30.2 70 [(.int .u64 1)]).bind fun r31 =>
  (pcall (AP cfg) none r31.2 98 [r30.1, r31.1]).bind fun r32 =>
  (binA .other .eql r32.1 (.int .i64 0)).bind fun v33 =>
  some (v33, r32.2))))) :=
(AC_eq cfg 65 [a0] m (fn := f65) (c := bodyOf f65) at65 rfl).trans (by kernel_rfl)
/-! ### sortilege/sortilegeref02.Compare -/
theorem T66 (a0 a1 : AV) (m : Mem) : AC cfg 66 [a0, a1] m =
  (boxA none (some 3) m a0).bind fun r1 =>
  (boxA none (some 3) r1.2 a1).bind fun r2 =>
  (loadA (some 3) r2.2 r1.1).bind fun v3 =>
  (loadA (some 3) r2.2 r2.1).bind fun v4 =>
  (pcall (AP cfg) none r2.2 100 [v3, v4]).bind fun r5 =>
  (pcall (AP cfg) none r5.2 86 [r5.1]).bind fun r6 =>
  some (r6.1, r6.2) :=
(AC_eq cfg 66 [a0, a1] m (fn := f66) (c := bodyOf f66) at66 rfl).trans (by kernel_rfl)
/-! ### sortilege/sortilegeref02.size -/
/-! ### sortilege/sortilegeref02.Of -/
theorem T69 (a0 a1 a2 : AV) (m : Mem) : AC cfg 69 [a0, a1, a2] m =
  (pcall (AP cfg) none (newAt none m (.obj true [(.bool false), (.lst none true .full []), (.lst none true .full [])])).2 101 [a2]).bind fun r1 =>
  (binA .other .eql r1.1 (.int .i64 0)).bind fun v2 =>
  ifA v2 (
  (buildA (.agg [(.bool false), (.lst none true .full []), (.lst none true .full [])]) []).bind fun v3 =>
  (storeA (some 3) r1.2 (.ptr (newAt none m .resv).1 0) v3).bind fun m4 =>
  (loadA (some 3) m4 (.ptr (newAt none m .resv).1 0)).bind fun v5 =>
  some ((.tup [v5, (.int .i64 31)]), m4)) (
  (pcall (AP cfg) none r1.2 99 [a1, a2]).bind fun r6 =>
  (pcall (AP cfg) none r6.2 102 [a1, r6.1]).bind fun r7 =>
  (extractA r7.1 0).bind fun v8 =>
  (extractA r7.1 1).bind fun v9 =>
  (extractA r7.1 2).bind fun v10 =>
  (pcall (AP cfg) none r7.2 102 [a2, r6.1]).bind fun r11 =>
  (extractA r11.1 0).bind fun v12 =>
  (extractA r11.1 1).bind fun v13 =>
  (extractA r11.1 2).bind fun v14 =>
  ifA a0 (
  (lenA false v8).bind fun v15 =>
  (binA .other .gtr v15 (.int .i64 0)).bind fun v16 =>
  (buildA (.agg [(.bool false), (.lst none true .full []), (.lst none true .full [])]) [(0, none, v16), (1, none, v8), (2, none, v12)]).bind fun v17 =>
  (storeA (some 3) r11.2 (.ptr (newAt none m .resv).1 0) v17).bind fun m18 =>
  (loadA (some 3) m18 (.ptr (newAt none m .resv).1 0)).bind fun v19 =>
  some ((.tup [v19, (.int .i64 0)]), m18)) (
  (buildA (.agg [(.bool false), (.lst none true .full []), (.lst none true .full [])]) [(0, none, (.bool false)), (1, none, v8), (2, none, v12)]).bind fun v20 =>
  (storeA (some 3) r11.2 (.ptr (newAt none m .resv).1 0) v20).bind fun m21 =>
  (loadA (some 3) m21 (.ptr (newAt none m .resv).1 0)).bind fun v22 =>
  some ((.tup [v22, (.int .i64 0)]), m21))) :=
(AC_eq cfg 69 [a0, a1, a2] m (fn := f69) (c := bodyOf f69) at69 rfl).trans (by kernel_rfl)
/-! ### sortilege/sortilegeref02.valid -/
theorem T71 (a0 : AV) (m : Mem) : AC cfg 71 [a0] m =
  (boxA none (some 3) m a0).bind fun r1 =>
  (fieldAddrA 0 r1.1).bind fun v2 =>
  (loadA none (newAt none r1.2 (.obj true [(.bool false), (.lst none true .full []), (.lst none true .full [])])).2 v2).bind fun v3 =>
  (fieldAddrA 1 r1.1).bind fun v4 =>
  (loadA none (newAt none r1.2 (.obj true [(.bool false), (.lst none true .full []), (.lst none true .full [])])).2 v4).bind fun v5 =>
  (fieldAddrA 2 r1.1).bind fun v6 =>
  (loadA none (newAt none r1.2 (.obj true [(.bool false), (.lst none true .full []), (.lst none true .full [])])).2 v6).bind fun v7 =>
  (pcall (AP cfg) none (newAt none r1.2 (.obj true [(.bool false), (.lst none true .full []), (.lst none true .full [])])).2 69 [v3, v5, v7]).bind fun r8 =>
  (extractA r8.1 0).bind fun v9 =>
  (extractA r8.1 1).bind fun v10 =>
  (storeA (some 3) (newAt none r8.2 (.obj true [(.bool false), (.lst none true .full []), (.lst none true .full [])])).2 (.ptr (newAt none r8.2 .resv).1 0) v9).bind fun m11 =>
  (binA .other .neq v10 (.int .i64 0)).bind fun v12 =>
  ifA v12 (
  (pcall (AP cfg) none m11 31 []).bind fun r13 =>
  (storeA (some 3) r13.2 (.ptr (newAt none r1.2 .resv).1 0) r13.1).bind fun m14 =>
  (loadA (some 3) m14 (.ptr (newAt none r1.2 .resv).1 0)).bind fun v15 =>
  some (v15, m14)) (
  (loadA (some 3) m11 (.ptr (newAt none r8.2 .resv).1 0)).bind fun v16 =>
  (storeA (some 3) m11 (.ptr (newAt none r1.2 .resv).1 0) v16).bind fun m17 =>
  (loadA (some 3) m17 (.ptr (newAt none r1.2 .resv).1 0)).bind fun v18 =>
  some (v18, m17)) :=
(AC_eq cfg 71 [a0] m (fn := f71) (c := bodyOf f71) at71 rfl).trans (by kernel_rfl)
/-! ### sortilege/sortilegeref02.Add -/
theorem T76 (a0 a1 : AV) (m : Mem) : AC cfg 76 [a0, a1] m =
  (boxA none (some 3) m a0).bind fun r1 =>
  (boxA none (some 3) r1.2 a1).bind fun r2 =>
  (loadA (some 3) (newAt none r2.2 (.obj true [(.bool false), (.lst none true .full []), (.lst none true .full [])])).2 r1.1).bind fun v3 =>
  (pcall (AP cfg) (some (newAt none r2.2 (.obj true [(.bool false), (.lst none true .full []), (.lst none true .full [])])).2.length) (newAt none r2.2 (.obj true [(.bool false), (.lst none true .full []), (.lst none true .full [])])).2 71 [v3]).bind fun r4 =>
  (loadA (some 3) r4.2 r2.1).bind fun v5 =>
  (pcall (AP cfg) (some (newAt none r2.2 (.obj true [(.bool false), (.lst none true .full []), (.lst none true .full [])])).2.length) r4.2 71 [v5]).bind fun r6 =>
  (storeA (some 3) r6.2 r1.1 r4.1).bind fun m7 =>
  (storeA (some 3) m7 r2.1 r6.1).bind fun m8 =>
  (fieldAddrA 1 r1.1).bind fun v9 =>
  (loadA none m8 v9).bind fun v10 =>
  (fieldAddrA 2 r2.1).bind fun v11 =>
  (loadA none m8 v11).bind fun v12 =>
  (pcall (AP cfg) (some m8.length) m8 72 [v10, v12]).bind fun r13 =>
  (fieldAddrA 1 r2.1).bind fun v14 =>
  (loadA none r13.2 v14).bind fun v15 =>
  (fieldAddrA 2 r1.1).bind fun v16 =>
  (loadA none r13.2 v16).bind fun v17 =>
  (pcall (AP cfg) (some m8.length) r13.2 72 [v15, v17]).bind fun r18 =>
  (fieldAddrA 2 r1.1).bind fun v19 =>
  (loadA none r18.2 v19).bind fun v20 =>
  (fieldAddrA 2 r2.1).bind fun v21 =>
  (loadA none r18.2 v21).bind fun v22 =>
  (pcall (AP cfg) (some m8.length) r18.2 72 [v20, v22]).bind fun r23 =>
  (fieldAddrA 0 r1.1).bind fun v24 =>
  (loadA none r23.2 v24).bind fun v25 =>
  (pcall (AP cfg) (some r23.2.length) r23.2 111 [r13.1, r18.1]).bind fun r26 =>
  (fieldAddrA 0 r1.1).bind fun v27 =>
  (loadA none r26.2 v27).bind fun v28 =>
  (fieldAddrA 0 r2.1).bind fun v29 =>
  (loadA none r26.2 v29).bind fun v30 =>
  (binA .bl .neq v28 v30).bind fun v31 =>
  ifA v31 (
  (pcall (AP cfg) none r26.2 98 [r13.1, r18.1]).bind fun r32 =>
  (binA .other .geq r32.1 (.int .i64 0)).bind fun v33 =>
  ifA v33 (
  (pcall (AP cfg) none r32.2 112 [r13.1, r18.1]).bind fun r34 =>
  (extractA r34.1 0).bind fun v35 =>
  (extractA r34.1 1).bind fun v36 =>
  (pcall (AP cfg) none r34.2 69 [v25, v35, r23.1]).bind fun r37 =>
  (extractA r37.1 0).bind fun v38 =>
  (extractA r37.1 1).bind fun v39 =>
  (storeA (some 3) (newAt none r37.2 (.obj true [(.bool false), (.lst none true .full []), (.lst none true .full [])])).2 (.ptr (newAt none r37.2 .resv).1 0) v38).bind fun m40 =>
  (loadA (some 3) m40 (.ptr (newAt none r37.2 .resv).1 0)).bind fun v41 =>
  (storeA (some 3) m40 (.ptr (newAt none r2.2 .resv).1 0) v41).bind fun m42 =>
  (loadA (some 3) m42 (.ptr (newAt none r2.2 .resv).1 0)).bind fun v43 =>
  some (v43, m42)) (
  (fieldAddrA 0 r2.1).bind fun v44 =>
  (loadA none r32.2 v44).bind fun v45 =>
  (pcall (AP cfg) none r32.2 112 [r18.1, r13.1]).bind fun r46 =>
  (extractA r46.1 0).bind fun v47 =>
  (extractA r46.1 1).bind fun v48 =>
  (pcall (AP cfg) none r46.2 69 [v45, v47, r23.1]).bind fun r49 =>
  (extractA r49.1 0).bind fun v50 =>
  (extractA r49.1 1).bind fun v51 =>
  (storeA (some 3) (newAt none r49.2 (.obj true [(.bool false), (.lst none true .full []), (.lst none true .full [])])).2 (.ptr (newAt none r49.2 .resv).1 0) v50).bind fun m52 =>
  (loadA (some 3) m52 (.ptr (newAt none r49.2 .resv).1 0)).bind fun v53 =>
  (storeA (some 3) m52 (.ptr (newAt none r2.2 .resv).1 0) v53).bind fun m54 =>
  (loadA (some 3) m54 (.ptr (newAt none r2.2 .resv).1 0)).bind fun v55 =>
  some (v55, m54))) (
  (pcall (AP cfg) none r26.2 69 [v25, r26.1, r23.1]).bind fun r56 =>
  (extractA r56.1 0).bind fun v57 =>
  (extractA r56.1 1).bind fun v58 =>
  (storeA (some 3) (newAt none r56.2 (.obj true [(.bool false), (.lst none true .full []), (.lst none true .full [])])).2 (.ptr (newAt none r56.2 .resv).1 0) v57).bind fun m59 =>
  (loadA (some 3) m59 (.ptr (newAt none r56.2 .resv).1 0)).bind fun v60 =>
  (storeA (some 3) m59 (.ptr (newAt none r2.2 .resv).1 0) v60).bind fun m61 =>
  (loadA (some 3) m61 (.ptr (newAt none r2.2 .resv).1 0)).bind fun v62 =>
  some (v62, m61)) :=
(AC_eq cfg 76 [a0, a1] m (fn := f76) (c := bodyOf f76) at76 rfl).trans (by kernel_rfl)
/-! ### sortilege/sortilegeref02.Sign -/
theorem T86 (a0 : AV) (m : Mem) : AC cfg 86 [a0] m =
  (boxA none (some 3) m a0).bind fun r1 =>
  (loadA (some 3) r1.2 r1.1).bind fun v2 =>
  (pcall (AP cfg) none r1.2 71 [v2]).bind fun r3 =>
  (storeA (some 3) r3.2 r1.1 r3.1).bind fun m4 =>
  (fieldAddrA 1 r1.1).bind fun v5 =>
  (loadA none m4 v5).bind fun v6 =>
  (lenA false v6).bind fun v7 =>
  (binA .other .eql v7 (.int .i64 0)).bind fun v8 =>
  ifA v8 (
  some ((.int .i64 0), m4)) (
  (fieldAddrA 0 r1.1).bind fun v9 =>
  (loadA none m4 v9).bind fun v10 =>
  ifA v10 (
  some ((.int .i64 (-1)), m4)) (
  some ((.int .i64 1), m4))) :=
(AC_eq cfg 86 [a0] m (fn := f86) (c := bodyOf f86) at86 rfl).trans (by kernel_rfl)
/-! ### sortilege/sortilegeref02.Sub -/
theorem T100 (a0 a1 : AV) (m : Mem) : AC cfg 100 [a0, a1] m =
  (boxA none (some 3) m a0).bind fun r1 =>
  (boxA none (some 3) r1.2 a1).bind fun r2 =>
  (loadA (some 3) (newAt none r2.2 (.obj true [(.bool false), (.lst none true .full []), (.lst none true .full [])])).2 r1.1).bind fun v3 =>
  (loadA (some 3) (newAt none r2.2 (.obj true [(.bool false), (.lst none true .full []), (.lst none true .full [])])).2 r2.1).bind fun v4 =>
  (pcall (AP cfg) (some (newAt none r2.2 (.obj true [(.bool false), (.lst none true .full []), (.lst none true .full [])])).2.length) (newAt none r2.2 (.obj true [(.bool false), (.lst none true .full []), (.lst none true .full [])])).2 118 [v4]).bind fun r5 =>
  (pcall (AP cfg) (some (newAt none r2.2 (.obj true [(.bool false), (.lst none true .full []), (.lst none true .full [])])).2.length) r5.2 76 [v3, r5.1]).bind fun r6 =>
  (storeA (some 3) r6.2 (.ptr (newAt none r2.2 .resv).1 0) r6.1).bind fun m7 =>
  (loadA (some 3) m7 (.ptr (newAt none r2.2 .resv).1 0)).bind fun v8 =>
  some (v8, m7) :=
(AC_eq cfg 100 [a0, a1] m (fn := f100) (c := bodyOf f100) at100 rfl).trans (by kernel_rfl)
/-! ### sortilege/sortilegeref02.Neg -/
theorem T118 (a0 : AV) (m : Mem) : AC cfg 118 [a0] m =
  (boxA none (some 3) m a0).bind fun r1 =>
  (loadA (some 3) (newAt none r1.2 (.obj true [(.bool false), (.lst none true .full []), (.lst none true .full [])])).2 r1.1).bind fun v2 =>
  (pcall (AP cfg) none (newAt none r1.2 (.obj true [(.bool false), (.lst none true .full []), (.lst none true .full [])])).2 71 [v2]).bind fun r3 =>
  (storeA (some 3) r3.2 r1.1 r3.1).bind fun m4 =>
  (fieldAddrA 0 r1.1).bind fun v5 =>
  (loadA none m4 v5).bind fun v6 =>
  (unA .not v6).bind fun v7 =>
  ifA v7 (
  (fieldAddrA 1 r1.1).bind fun v8 =>
  (loadA none m4 v8).bind fun v9 =>
  (lenA false v9).bind fun v10 =>
  (binA .other .gtr v10 (.int .i64 0)).bind fun v11 =>
  (fieldAddrA 0 r1.1).bind fun v12 =>
  (storeA none m4 v12 v11).bind fun m13 =>
  (loadA (some 3) m13 r1.1).bind fun v14 =>
  (storeA (some 3) m13 (.ptr (newAt none r1.2 .resv).1 0) v14).bind fun m15 =>
  (loadA (some 3) m15 (.ptr (newAt none r1.2 .resv).1 0)).bind fun v16 =>
  some (v16, m15)) (
  (fieldAddrA 0 r1.1).bind fun v17 =>
  (storeA none m4 v17 (.bool false)).bind fun m18 =>
  (loadA (some 3) m18 r1.1).bind fun v19 =>
  (storeA (some 3) m18 (.ptr (newAt none r1.2 .resv).1 0) v19).bind fun m20 =>
  (loadA (some 3) m20 (.ptr (newAt none r1.2 .resv).1 0)).bind fun v21 =>
  some (v21, m20)) :=
(AC_eq cfg 118 [a0] m (fn := f118) (c := bodyOf f118) at118 rfl).trans (by kernel_rfl)
/-! ### sortilege/sortilegeref02.Div -/
end Go.Ab
