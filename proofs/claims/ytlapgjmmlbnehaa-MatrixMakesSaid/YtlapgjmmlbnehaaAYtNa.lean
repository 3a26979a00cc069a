/- What the interpreter does, function by function. -/
import Derived.Test.YtlapgjmmlbnehaaAYtCfg
set_option maxRecDepth 100000
set_option linter.unusedVariables false
namespace Go.Ab
open Go.Proofs.Try
/-! ### sortilege/nat.Of -/
theorem T93 (a0 : AV) (m : Mem) : AC cfg 93 [a0] m =
  (convA .u32 a0).bind fun v1 =>
  (binA .other .shr a0 (.int .u64 32)).bind fun v2 =>
  (convA .u32 v2).bind fun v3 =>
  (buildSliceA none [v1, v3]).bind fun v4 =>
  (pcall (AP cfg) none m 124 [v4]).bind fun r5 =>
  (pcall (AP cfg) none r5.2 123 [r5.1]).bind fun r6 =>
  some (r6.1, r6.2) :=
(AC_eq cfg 93 [a0] m (fn := f93) (c := bodyOf f93) at93 rfl).trans (by kernel_rfl)
/-! ### sortilege/nat.Right -/
theorem T94 (a0 : AV) (m : Mem) : AC cfg 94 [a0] m =
  (lenA false a0).bind fun v1 =>
  (binA .other .eql v1 (.int .i64 0)).bind fun v2 =>
  ifA v2 (
  some ((.bool true), m)) (
  (lenA false a0).bind fun v3 =>
  (binA .other .sub v3 (.int .i64 1)).bind fun v4 =>
  (indexAddrA none a0 v4).bind fun v5 =>
  (loadA none m v5).bind fun v6 =>
  (binA .other .neq v6 (.int .u32 0)).bind fun v7 =>
  some (v7, m)) :=
(AC_eq cfg 94 [a0] m (fn := f94) (c := bodyOf f94) at94 rfl).trans (by kernel_rfl)
/-! ### sortilege/nat.Small -/
theorem T95 (a0 : AV) (m : Mem) : AC cfg 95 [a0] m =
  (pcall (AP cfg) none m 124 [a0]).bind fun r1 =>
  (lenA false r1.1).bind fun v2 =>
  (binA .other .eql v2 (.int .i64 0)).bind fun v3 =>
  ifA v3 (
  some ((.tup [(.int .u64 0), (.bool true)]), r1.2)) (
  (binA .other .eql v2 (.int .i64 1)).bind fun v4 =>
  ifA v4 (
  (indexAddrA none r1.1 (.int .i64 0)).bind fun v5 =>
  (loadA none r1.2 v5).bind fun v6 =>
  (convA .u64 v6).bind fun v7 =>
  some ((.tup [v7, (.bool true)]), r1.2)) (
  (binA .other .eql v2 (.int .i64 2)).bind fun v8 =>
  ifA v8 (
  (indexAddrA none r1.1 (.int .i64 0)).bind fun v9 =>
  (loadA none r1.2 v9).bind fun v10 =>
  (convA .u64 v10).bind fun v11 =>
  (indexAddrA none r1.1 (.int .i64 1)).bind fun v12 =>
  (loadA none r1.2 v12).bind fun v13 =>
  (convA .u64 v13).bind fun v14 =>
  (binA .other .shl v14 (.int .u64 32)).bind fun v15 =>
  (binA .other .or v11 v15).bind fun v16 =>
  some ((.tup [v16, (.bool true)]), r1.2)) (
  some ((.tup [(.int .u64 0), (.bool false)]), r1.2)))) :=
(AC_eq cfg 95 [a0] m (fn := f95) (c := bodyOf f95) at95 rfl).trans (by kernel_rfl)
/-! ### sortilege/nat.Gcd -/
def O96_2 (x0 : AV) (m : Mem) : St := ⟨[x0, .any, .any, .any, .any, .any, .any, .any, .any, .any, .any, .any, .any, .any, .any, .any, .any, .any, .any, .any, .any, .any, .any, .any, .any, .any], m⟩
noncomputable def L96_2 (x0 x1 : AV) (m : Mem) (K : Ex → St → Option (AV × Mem)) : Option (AV × Mem) := loopW (execW cfg 96 (AP cfg) (AC cfg) (c1 (c1 (c1 (c2 (c2 (bodyOf f96))))))) (cfg.mask 96 (some 2)) ⟨[x0, x1, .any, .any, .any, .any, .any, .any, .any, .any, .any, .any, .any, .any, .any, .any, .any, .any, .any, .any, .any, .any, .any, .any, .any, .any], m⟩ K
noncomputable abbrev K96_2_0 (K : Ex → St → Option (AV × Mem)) : Ex → St → Option (AV × Mem) := seqK (fun st => execW cfg 96 (AP cfg) (AC cfg) (c2 (c2 (c2 (bodyOf f96)))) st K) K
noncomputable abbrev K96_2_1 (K : Ex → St → Option (AV × Mem)) : Ex → St → Option (AV × Mem) := blockK 0 (K96_2_0 K)
noncomputable abbrev K96_2 (K : Ex → St → Option (AV × Mem)) : Ex → St → Option (AV × Mem) := (K96_2_1 K)
theorem T96 (a0 a1 : AV) (m : Mem) : AC cfg 96 [a0, a1] m =
  (pcall (AP cfg) none m 124 [a0]).bind fun r1 =>
  (pcall (AP cfg) none r1.2 124 [a1]).bind fun r2 =>
  L96_2 r1.1 r2.1 r2.2 (K96_2 (finK cfg.P f96.results.toList)) :=
(AC_eq cfg 96 [a0, a1] m (fn := f96) (c := bodyOf f96) at96 rfl).trans (by kernel_rfl)
theorem L96_2_eq (x0 x1 : AV) (m : Mem) (K : Ex → St → Option (AV × Mem)) : L96_2 x0 x1 m K =
  (lenA false x1).bind fun v1 =>
  (binA .other .gtr v1 (.int .i64 0)).bind fun v2 =>
  ifA v2 (
  (pcall (AP cfg) none m 125 [x0, x1]).bind fun r3 =>
  (extractA r3.1 0).bind fun v4 =>
  (extractA r3.1 1).bind fun v5 =>
  (extractA r3.1 2).bind fun v6 =>
  L96_2 x1 v5 r3.2 K) (
  K (.exit 0) (O96_2 x0 m)) :=
(loopW_eq (execW_lin _) _ _ _).trans (by kernel_rfl)
theorem K96_2_x0 (x0 : AV) (m : Mem) : K96_2 (finK cfg.P f96.results.toList) (.exit 0) (O96_2 x0 m) =
  (pcall (AP cfg) none m 123 [x0]).bind fun r1 =>
  some (r1.1, r1.2) := by kernel_rfl
/-! ### sortilege/nat.Mul -/
/-! ### sortilege/nat.Add -/
/-! ### sortilege/nat.Compare -/
def O109_7 (m : Mem) : St := ⟨[.any, .any, .any, .any, .any, .any, .any, .any, .any, .any, .any, .any, .any, .any, .any, .any, .any, .any, .any, .any, .any, .any, .any, .any, .any, .any, .any, .any, .any, .any, .any, .any, .any, .any, .any, .any, .any, .any, .any, .any, .any, .any, .any, .any, .any, .any, .any, .any, .any], m⟩
def R109_7 (x4 : AV) (m : Mem) : St := ⟨[.any, .any, .any, .any, x4, .any, .any, .any, .any, .any, .any, .any, .any, .any, .any, .any, .any, .any, .any, .any, .any, .any, .any, .any, .any, .any, .any, .any, .any, .any, .any, .any, .any, .any, .any, .any, .any, .any, .any, .any, .any, .any, .any, .any, .any, .any, .any, .any, .any], m⟩
noncomputable def L109_7 (x0 x1 x5 : AV) (m : Mem) (K : Ex → St → Option (AV × Mem)) : Option (AV × Mem) := loopW (execW cfg 109 (AP cfg) (AC cfg) (c1 (c1 (c2 (c1 (c2 (c2 (c2 (bodyOf f109))))))))) (cfg.mask 109 (some 7)) ⟨[x0, x1, .any, .any, .any, x5, .any, .any, .any, .any, .any, .any, .any, .any, .any, .any, .any, .any, .any, .any, .any, .any, .any, .any, .any, .any, .any, .any, .any, .any, .any, .any, .any, .any, .any, .any, .any, .any, .any, .any, .any, .any, .any, .any, .any, .any, .any, .any, .any], m⟩ K
noncomputable abbrev K109_7_0 (K : Ex → St → Option (AV × Mem)) : Ex → St → Option (AV × Mem) := seqK (fun st => execW cfg 109 (AP cfg) (AC cfg) (c2 (c2 (c2 (c2 (bodyOf f109))))) st K) K
noncomputable abbrev K109_7_1 (K : Ex → St → Option (AV × Mem)) : Ex → St → Option (AV × Mem) := blockK 1 (K109_7_0 K)
noncomputable abbrev K109_7 (K : Ex → St → Option (AV × Mem)) : Ex → St → Option (AV × Mem) := (K109_7_1 K)
theorem T109 (a0 a1 : AV) (m : Mem) : AC cfg 109 [a0, a1] m =
  (pcall (AP cfg) none m 124 [a0]).bind fun r1 =>
  (pcall (AP cfg) none r1.2 124 [a1]).bind fun r2 =>
  (lenA false r1.1).bind fun v3 =>
  (lenA false r2.1).bind fun v4 =>
  (binA .other .lss v3 v4).bind fun v5 =>
  ifA v5 (
  some ((.int .i64 (-1)), r2.2)) (
  (lenA false r1.1).bind fun v6 =>
  (lenA false r2.1).bind fun v7 =>
  (binA .other .gtr v6 v7).bind fun v8 =>
  ifA v8 (
  some ((.int .i64 1), r2.2)) (
  (lenA false r1.1).bind fun v9 =>
  (binA .other .sub v9 (.int .i64 1)).bind fun v10 =>
  L109_7 r1.1 r2.1 v10 r2.2 (K109_7 (finK cfg.P f109.results.toList)))) :=
(AC_eq cfg 109 [a0, a1] m (fn := f109) (c := bodyOf f109) at109 rfl).trans (by kernel_rfl)
theorem L109_7_eq (x0 x1 x5 : AV) (m : Mem) (K : Ex → St → Option (AV × Mem)) : L109_7 x0 x1 x5 m K =
  (binA .other .geq x5 (.int .i64 0)).bind fun v1 =>
  ifA v1 (
  (indexAddrA none x0 x5).bind fun v2 =>
  (loadA none m v2).bind fun v3 =>
  (indexAddrA none x1 x5).bind fun v4 =>
  (loadA none m v4).bind fun v5 =>
  (binA .other .lss v3 v5).bind fun v6 =>
  ifA v6 (
  K .ret (R109_7 (.int .i64 (-1)) m)) (
  (indexAddrA none x0 x5).bind fun v7 =>
  (loadA none m v7).bind fun v8 =>
  (indexAddrA none x1 x5).bind fun v9 =>
  (loadA none m v9).bind fun v10 =>
  (binA .other .gtr v8 v10).bind fun v11 =>
  ifA v11 (
  K .ret (R109_7 (.int .i64 1) m)) (
  (binA .other .sub x5 (.int .i64 1)).bind fun v12 =>
  L109_7 x0 x1 v12 m K))) (
  K (.exit 1) (O109_7 m)) :=
(loopW_eq (execW_lin _) _ _ _).trans (by kernel_rfl)
theorem K109_7_x1 (m : Mem) : K109_7 (finK cfg.P f109.results.toList) (.exit 1) (O109_7  m) =
  some ((.int .i64 0), m) := by kernel_rfl
theorem K109_7_ret (x4 : AV) (m : Mem) : K109_7 (finK cfg.P f109.results.toList) .ret (R109_7 x4 m) =
  some (x4, m) := by kernel_rfl
/-! ### sortilege/nat.Sub -/
/-! ### slices.Clone[sortilege/api.Nat,uint32] -/
theorem T123 (a0 : AV) (m : Mem) : AC cfg 123 [a0] m =
  (binA .sl .eql a0 (.lst none true .full [])).bind fun v1 =>
  ifA v1 (
  some ((.lst none true .full []), m)) (
  (buildSliceA none []).bind fun v2 =>
  (appA none false 116 none 4 m v2 a0).bind fun r3 =>
  some (r3.1, r3.2)) :=
(AC_eq cfg 123 [a0] m (fn := f123) (c := bodyOf f123) at123 rfl).trans (by kernel_rfl)
/-! ### sortilege/nat.trim -/
def O124_2 (x0 x3 : AV) (m : Mem) : St := ⟨[x0, .any, .any, x3, .any, .any, .any, .any, .any, .any, .any, .any, .any, .any, .any, .any, .any, .any, .any, .any, .any], m⟩
noncomputable def L124_2 (x0 x3 : AV) (m : Mem) (K : Ex → St → Option (AV × Mem)) : Option (AV × Mem) := loopW (execW cfg 124 (AP cfg) (AC cfg) (c1 (c1 (c1 (c2 (c2 (bodyOf f124))))))) (cfg.mask 124 (some 2)) ⟨[x0, .any, .any, x3, .any, .any, .any, .any, .any, .any, .any, .any, .any, .any, .any, .any, .any, .any, .any, .any, .any], m⟩ K
noncomputable abbrev K124_2_0 (K : Ex → St → Option (AV × Mem)) : Ex → St → Option (AV × Mem) := seqK (fun st => execW cfg 124 (AP cfg) (AC cfg) (c2 (c2 (c2 (bodyOf f124)))) st K) K
noncomputable abbrev K124_2_1 (K : Ex → St → Option (AV × Mem)) : Ex → St → Option (AV × Mem) := blockK 0 (K124_2_0 K)
noncomputable abbrev K124_2 (K : Ex → St → Option (AV × Mem)) : Ex → St → Option (AV × Mem) := (K124_2_1 K)
theorem T124 (a0 : AV) (m : Mem) : AC cfg 124 [a0] m =
  (lenA false a0).bind fun v1 =>
  L124_2 a0 v1 m (K124_2 (finK cfg.P f124.results.toList)) :=
(AC_eq cfg 124 [a0] m (fn := f124) (c := bodyOf f124) at124 rfl).trans (by kernel_rfl)
theorem L124_2_eq (x0 x3 : AV) (m : Mem) (K : Ex → St → Option (AV × Mem)) : L124_2 x0 x3 m K =
  (binA .other .gtr x3 (.int .i64 0)).bind fun v1 =>
  ifA v1 (
  (binA .other .sub x3 (.int .i64 1)).bind fun v2 =>
  (indexAddrA none x0 v2).bind fun v3 =>
  (loadA none m v3).bind fun v4 =>
  (binA .other .eql v4 (.int .u32 0)).bind fun v5 =>
  ifA v5 (
  (binA .other .sub x3 (.int .i64 1)).bind fun v6 =>
  L124_2 x0 v6 m K) (
  K (.exit 0) (O124_2 x0 x3 m))) (
  K (.exit 0) (O124_2 x0 x3 m)) :=
(loopW_eq (execW_lin _) _ _ _).trans (by kernel_rfl)
theorem K124_2_x0 (x0 x3 : AV) (m : Mem) : K124_2 (finK cfg.P f124.results.toList) (.exit 0) (O124_2 x0 x3 m) =
  (sliceT none x0 none (some x3) none).bind fun v1 =>
  some (v1, m) := by kernel_rfl
/-! ### sortilege/nat.Div -/
def O125_14 (x9 x10 x12 x13 : AV) (m : Mem) : St := ⟨[.any, .any, .any, .any, .any, .any, .any, .any, .any, x9, x10, .any, x12, x13, .any, .any, .any, .any, .any, .any, .any, .any, .any, .any, .any, .any, .any, .any, .any, .any, .any, .any, .any, .any, .any, .any, .any, .any, .any, .any, .any, .any, .any, .any, .any, .any, .any, .any, .any, .any, .any, .any, .any, .any, .any, .any, .any, .any, .any, .any, .any, .any, .any, .any, .any, .any, .any, .any, .any, .any, .any, .any, .any, .any, .any, .any, .any, .any, .any, .any, .any, .any, .any, .any, .any, .any, .any, .any, .any, .any, .any, .any, .any, .any, .any, .any, .any, .any, .any, .any, .any, .any, .any, .any, .any, .any, .any, .any, .any, .any, .any, .any, .any, .any, .any, .any, .any, .any, .any, .any, .any, .any, .any, .any, .any, .any, .any, .any, .any, .any, .any, .any, .any, .any, .any, .any, .any, .any, .any, .any, .any, .any, .any, .any, .any, .any, .any, .any, .any, .any, .any, .any, .any, .any, .any, .any, .any, .any, .any, .any, .any, .any, .any, .any, .any, .any, .any, .any, .any, .any, .any, .any, .any, .any, .any, .any, .any, .any, .any, .any, .any, .any, .any, .any, .any, .any, .any, .any, .any, .any, .any, .any, .any, .any, .any, .any, .any, .any, .any, .any, .any, .any, .any, .any, .any, .any, .any, .any, .any, .any, .any, .any, .any, .any, .any, .any, .any, .any, .any, .any, .any, .any, .any, .any, .any, .any, .any, .any, .any, .any, .any, .any, .any, .any, .any, .any, .any, .any, .any, .any, .any, .any, .any, .any, .any, .any, .any, .any, .any, .any, .any, .any, .any, .any, .any, .any, .any, .any, .any, .any, .any, .any, .any, .any, .any, .any, .any, .any, .any, .any, .any, .any, .any, .any, .any, .any, .any, .any, .any, .any, .any, .any, .any, .any, .any, .any, .any, .any, .any, .any, .any, .any, .any, .any, .any, .any, .any, .any, .any, .any, .any, .any, .any, .any, .any, .any, .any, .any, .any, .any, .any, .any, .any, .any, .any], m⟩
noncomputable def L125_14 (x9 x10 x11 x12 x13 x14 : AV) (m : Mem) (K : Ex → St → Option (AV × Mem)) : Option (AV × Mem) := loopW (execW cfg 125 (AP cfg) (AC cfg) (c1 (c1 (c2 (c1 (c2 (c2 (c2 (c2 (c2 (c2 (c2 (bodyOf f125))))))))))))) (cfg.mask 125 (some 14)) ⟨[.any, .any, .any, .any, .any, .any, .any, .any, .any, x9, x10, x11, x12, x13, x14, .any, .any, .any, .any, .any, .any, .any, .any, .any, .any, .any, .any, .any, .any, .any, .any, .any, .any, .any, .any, .any, .any, .any, .any, .any, .any, .any, .any, .any, .any, .any, .any, .any, .any, .any, .any, .any, .any, .any, .any, .any, .any, .any, .any, .any, .any, .any, .any, .any, .any, .any, .any, .any, .any, .any, .any, .any, .any, .any, .any, .any, .any, .any, .any, .any, .any, .any, .any, .any, .any, .any, .any, .any, .any, .any, .any, .any, .any, .any, .any, .any, .any, .any, .any, .any, .any, .any, .any, .any, .any, .any, .any, .any, .any, .any, .any, .any, .any, .any, .any, .any, .any, .any, .any, .any, .any, .any, .any, .any, .any, .any, .any, .any, .any, .any, .any, .any, .any, .any, .any, .any, .any, .any, .any, .any, .any, .any, .any, .any, .any, .any, .any, .any, .any, .any, .any, .any, .any, .any, .any, .any, .any, .any, .any, .any, .any, .any, .any, .any, .any, .any, .any, .any, .any, .any, .any, .any, .any, .any, .any, .any, .any, .any, .any, .any, .any, .any, .any, .any, .any, .any, .any, .any, .any, .any, .any, .any, .any, .any, .any, .any, .any, .any, .any, .any, .any, .any, .any, .any, .any, .any, .any, .any, .any, .any, .any, .any, .any, .any, .any, .any, .any, .any, .any, .any, .any, .any, .any, .any, .any, .any, .any, .any, .any, .any, .any, .any, .any, .any, .any, .any, .any, .any, .any, .any, .any, .any, .any, .any, .any, .any, .any, .any, .any, .any, .any, .any, .any, .any, .any, .any, .any, .any, .any, .any, .any, .any, .any, .any, .any, .any, .any, .any, .any, .any, .any, .any, .any, .any, .any, .any, .any, .any, .any, .any, .any, .any, .any, .any, .any, .any, .any, .any, .any, .any, .any, .any, .any, .any, .any, .any, .any, .any, .any, .any, .any, .any, .any, .any, .any, .any, .any, .any, .any, .any, .any, .any, .any, .any, .any], m⟩ K
def O125_18 (x9 x10 x11 x12 x13 x14 x16 : AV) (m : Mem) : St := ⟨[.any, .any, .any, .any, .any, .any, .any, .any, .any, x9, x10, x11, x12, x13, x14, .any, x16, .any, .any, .any, .any, .any, .any, .any, .any, .any, .any, .any, .any, .any, .any, .any, .any, .any, .any, .any, .any, .any, .any, .any, .any, .any, .any, .any, .any, .any, .any, .any, .any, .any, .any, .any, .any, .any, .any, .any, .any, .any, .any, .any, .any, .any, .any, .any, .any, .any, .any, .any, .any, .any, .any, .any, .any, .any, .any, .any, .any, .any, .any, .any, .any, .any, .any, .any, .any, .any, .any, .any, .any, .any, .any, .any, .any, .any, .any, .any, .any, .any, .any, .any, .any, .any, .any, .any, .any, .any, .any, .any, .any, .any, .any, .any, .any, .any, .any, .any, .any, .any, .any, .any, .any, .any, .any, .any, .any, .any, .any, .any, .any, .any, .any, .any, .any, .any, .any, .any, .any, .any, .any, .any, .any, .any, .any, .any, .any, .any, .any, .any, .any, .any, .any, .any, .any, .any, .any, .any, .any, .any, .any, .any, .any, .any, .any, .any, .any, .any, .any, .any, .any, .any, .any, .any, .any, .any, .any, .any, .any, .any, .any, .any, .any, .any, .any, .any, .any, .any, .any, .any, .any, .any, .any, .any, .any, .any, .any, .any, .any, .any, .any, .any, .any, .any, .any, .any, .any, .any, .any, .any, .any, .any, .any, .any, .any, .any, .any, .any, .any, .any, .any, .any, .any, .any, .any, .any, .any, .any, .any, .any, .any, .any, .any, .any, .any, .any, .any, .any, .any, .any, .any, .any, .any, .any, .any, .any, .any, .any, .any, .any, .any, .any, .any, .any, .any, .any, .any, .any, .any, .any, .any, .any, .any, .any, .any, .any, .any, .any, .any, .any, .any, .any, .any, .any, .any, .any, .any, .any, .any, .any, .any, .any, .any, .any, .any, .any, .any, .any, .any, .any, .any, .any, .any, .any, .any, .any, .any, .any, .any, .any, .any, .any, .any, .any, .any, .any, .any, .any, .any, .any, .any, .any, .any, .any, .any, .any, .any], m⟩
noncomputable def L125_18 (x9 x10 x11 x12 x13 x14 x16 x17 : AV) (m : Mem) (K : Ex → St → Option (AV × Mem)) : Option (AV × Mem) := loopW (execW cfg 125 (AP cfg) (AC cfg) (c1 (c1 (c1 (c2 (c2 (c1 (c1 (c2 (c1 (c1 (c2 (c1 (c2 (c2 (c2 (c2 (c2 (c2 (c2 (bodyOf f125))))))))))))))))))))) (cfg.mask 125 (some 18)) ⟨[.any, .any, .any, .any, .any, .any, .any, .any, .any, x9, x10, x11, x12, x13, x14, .any, x16, x17, .any, .any, .any, .any, .any, .any, .any, .any, .any, .any, .any, .any, .any, .any, .any, .any, .any, .any, .any, .any, .any, .any, .any, .any, .any, .any, .any, .any, .any, .any, .any, .any, .any, .any, .any, .any, .any, .any, .any, .any, .any, .any, .any, .any, .any, .any, .any, .any, .any, .any, .any, .any, .any, .any, .any, .any, .any, .any, .any, .any, .any, .any, .any, .any, .any, .any, .any, .any, .any, .any, .any, .any, .any, .any, .any, .any, .any, .any, .any, .any, .any, .any, .any, .any, .any, .any, .any, .any, .any, .any, .any, .any, .any, .any, .any, .any, .any, .any, .any, .any, .any, .any, .any, .any, .any, .any, .any, .any, .any, .any, .any, .any, .any, .any, .any, .any, .any, .any, .any, .any, .any, .any, .any, .any, .any, .any, .any, .any, .any, .any, .any, .any, .any, .any, .any, .any, .any, .any, .any, .any, .any, .any, .any, .any, .any, .any, .any, .any, .any, .any, .any, .any, .any, .any, .any, .any, .any, .any, .any, .any, .any, .any, .any, .any, .any, .any, .any, .any, .any, .any, .any, .any, .any, .any, .any, .any, .any, .any, .any, .any, .any, .any, .any, .any, .any, .any, .any, .any, .any, .any, .any, .any, .any, .any, .any, .any, .any, .any, .any, .any, .any, .any, .any, .any, .any, .any, .any, .any, .any, .any, .any, .any, .any, .any, .any, .any, .any, .any, .any, .any, .any, .any, .any, .any, .any, .any, .any, .any, .any, .any, .any, .any, .any, .any, .any, .any, .any, .any, .any, .any, .any, .any, .any, .any, .any, .any, .any, .any, .any, .any, .any, .any, .any, .any, .any, .any, .any, .any, .any, .any, .any, .any, .any, .any, .any, .any, .any, .any, .any, .any, .any, .any, .any, .any, .any, .any, .any, .any, .any, .any, .any, .any, .any, .any, .any, .any, .any, .any, .any, .any, .any, .any, .any, .any, .any, .any, .any], m⟩ K
def O125_24 (x9 x10 x11 x12 x13 x14 x16 x18 x19 : AV) (m : Mem) : St := ⟨[.any, .any, .any, .any, .any, .any, .any, .any, .any, x9, x10, x11, x12, x13, x14, .any, x16, .any, x18, x19, .any, .any, .any, .any, .any, .any, .any, .any, .any, .any, .any, .any, .any, .any, .any, .any, .any, .any, .any, .any, .any, .any, .any, .any, .any, .any, .any, .any, .any, .any, .any, .any, .any, .any, .any, .any, .any, .any, .any, .any, .any, .any, .any, .any, .any, .any, .any, .any, .any, .any, .any, .any, .any, .any, .any, .any, .any, .any, .any, .any, .any, .any, .any, .any, .any, .any, .any, .any, .any, .any, .any, .any, .any, .any, .any, .any, .any, .any, .any, .any, .any, .any, .any, .any, .any, .any, .any, .any, .any, .any, .any, .any, .any, .any, .any, .any, .any, .any, .any, .any, .any, .any, .any, .any, .any, .any, .any, .any, .any, .any, .any, .any, .any, .any, .any, .any, .any, .any, .any, .any, .any, .any, .any, .any, .any, .any, .any, .any, .any, .any, .any, .any, .any, .any, .any, .any, .any, .any, .any, .any, .any, .any, .any, .any, .any, .any, .any, .any, .any, .any, .any, .any, .any, .any, .any, .any, .any, .any, .any, .any, .any, .any, .any, .any, .any, .any, .any, .any, .any, .any, .any, .any, .any, .any, .any, .any, .any, .any, .any, .any, .any, .any, .any, .any, .any, .any, .any, .any, .any, .any, .any, .any, .any, .any, .any, .any, .any, .any, .any, .any, .any, .any, .any, .any, .any, .any, .any, .any, .any, .any, .any, .any, .any, .any, .any, .any, .any, .any, .any, .any, .any, .any, .any, .any, .any, .any, .any, .any, .any, .any, .any, .any, .any, .any, .any, .any, .any, .any, .any, .any, .any, .any, .any, .any, .any, .any, .any, .any, .any, .any, .any, .any, .any, .any, .any, .any, .any, .any, .any, .any, .any, .any, .any, .any, .any, .any, .any, .any, .any, .any, .any, .any, .any, .any, .any, .any, .any, .any, .any, .any, .any, .any, .any, .any, .any, .any, .any, .any, .any, .any, .any, .any, .any, .any, .any], m⟩
noncomputable def L125_24 (x9 x10 x11 x12 x13 x14 x16 x18 x19 x158 x159 : AV) (m : Mem) (K : Ex → St → Option (AV × Mem)) : Option (AV × Mem) := loopW (execW cfg 125 (AP cfg) (AC cfg) (c1 (c1 (c2 (c1 (c2 (c2 (c2 (c2 (c1 (c1 (c2 (c1 (c1 (c2 (c1 (c2 (c2 (c2 (c2 (c2 (c2 (c2 (bodyOf f125)))))))))))))))))))))))) (cfg.mask 125 (some 24)) ⟨[.any, .any, .any, .any, .any, .any, .any, .any, .any, x9, x10, x11, x12, x13, x14, .any, x16, .any, x18, x19, .any, .any, .any, .any, .any, .any, .any, .any, .any, .any, .any, .any, .any, .any, .any, .any, .any, .any, .any, .any, .any, .any, .any, .any, .any, .any, .any, .any, .any, .any, .any, .any, .any, .any, .any, .any, .any, .any, .any, .any, .any, .any, .any, .any, .any, .any, .any, .any, .any, .any, .any, .any, .any, .any, .any, .any, .any, .any, .any, .any, .any, .any, .any, .any, .any, .any, .any, .any, .any, .any, .any, .any, .any, .any, .any, .any, .any, .any, .any, .any, .any, .any, .any, .any, .any, .any, .any, .any, .any, .any, .any, .any, .any, .any, .any, .any, .any, .any, .any, .any, .any, .any, .any, .any, .any, .any, .any, .any, .any, .any, .any, .any, .any, .any, .any, .any, .any, .any, .any, .any, .any, .any, .any, .any, .any, .any, .any, .any, .any, .any, .any, .any, .any, .any, .any, .any, .any, .any, x158, x159, .any, .any, .any, .any, .any, .any, .any, .any, .any, .any, .any, .any, .any, .any, .any, .any, .any, .any, .any, .any, .any, .any, .any, .any, .any, .any, .any, .any, .any, .any, .any, .any, .any, .any, .any, .any, .any, .any, .any, .any, .any, .any, .any, .any, .any, .any, .any, .any, .any, .any, .any, .any, .any, .any, .any, .any, .any, .any, .any, .any, .any, .any, .any, .any, .any, .any, .any, .any, .any, .any, .any, .any, .any, .any, .any, .any, .any, .any, .any, .any, .any, .any, .any, .any, .any, .any, .any, .any, .any, .any, .any, .any, .any, .any, .any, .any, .any, .any, .any, .any, .any, .any, .any, .any, .any, .any, .any, .any, .any, .any, .any, .any, .any, .any, .any, .any, .any, .any, .any, .any, .any, .any, .any, .any, .any, .any, .any, .any, .any, .any, .any, .any, .any, .any, .any, .any, .any, .any, .any, .any, .any, .any, .any, .any, .any, .any, .any, .any, .any, .any, .any, .any, .any, .any, .any], m⟩ K
def O125_41 (x9 x10 x11 x12 x13 x14 x16 x19 : AV) (m : Mem) : St := ⟨[.any, .any, .any, .any, .any, .any, .any, .any, .any, x9, x10, x11, x12, x13, x14, .any, x16, .any, .any, x19, .any, .any, .any, .any, .any, .any, .any, .any, .any, .any, .any, .any, .any, .any, .any, .any, .any, .any, .any, .any, .any, .any, .any, .any, .any, .any, .any, .any, .any, .any, .any, .any, .any, .any, .any, .any, .any, .any, .any, .any, .any, .any, .any, .any, .any, .any, .any, .any, .any, .any, .any, .any, .any, .any, .any, .any, .any, .any, .any, .any, .any, .any, .any, .any, .any, .any, .any, .any, .any, .any, .any, .any, .any, .any, .any, .any, .any, .any, .any, .any, .any, .any, .any, .any, .any, .any, .any, .any, .any, .any, .any, .any, .any, .any, .any, .any, .any, .any, .any, .any, .any, .any, .any, .any, .any, .any, .any, .any, .any, .any, .any, .any, .any, .any, .any, .any, .any, .any, .any, .any, .any, .any, .any, .any, .any, .any, .any, .any, .any, .any, .any, .any, .any, .any, .any, .any, .any, .any, .any, .any, .any, .any, .any, .any, .any, .any, .any, .any, .any, .any, .any, .any, .any, .any, .any, .any, .any, .any, .any, .any, .any, .any, .any, .any, .any, .any, .any, .any, .any, .any, .any, .any, .any, .any, .any, .any, .any, .any, .any, .any, .any, .any, .any, .any, .any, .any, .any, .any, .any, .any, .any, .any, .any, .any, .any, .any, .any, .any, .any, .any, .any, .any, .any, .any, .any, .any, .any, .any, .any, .any, .any, .any, .any, .any, .any, .any, .any, .any, .any, .any, .any, .any, .any, .any, .any, .any, .any, .any, .any, .any, .any, .any, .any, .any, .any, .any, .any, .any, .any, .any, .any, .any, .any, .any, .any, .any, .any, .any, .any, .any, .any, .any, .any, .any, .any, .any, .any, .any, .any, .any, .any, .any, .any, .any, .any, .any, .any, .any, .any, .any, .any, .any, .any, .any, .any, .any, .any, .any, .any, .any, .any, .any, .any, .any, .any, .any, .any, .any, .any, .any, .any, .any, .any, .any, .any], m⟩
noncomputable def L125_41 (x9 x10 x11 x12 x13 x14 x16 x19 x235 x236 : AV) (m : Mem) (K : Ex → St → Option (AV × Mem)) : Option (AV × Mem) := loopW (execW cfg 125 (AP cfg) (AC cfg) (c1 (c1 (c2 (c1 (c2 (c2 (c1 (c2 (c1 (c2 (c2 (c2 (c2 (c2 (c2 (c2 (c2 (c1 (c1 (c2 (c1 (c1 (c2 (c1 (c2 (c2 (c2 (c2 (c2 (c2 (c2 (bodyOf f125))))))))))))))))))))))))))))))))) (cfg.mask 125 (some 41)) ⟨[.any, .any, .any, .any, .any, .any, .any, .any, .any, x9, x10, x11, x12, x13, x14, .any, x16, .any, .any, x19, .any, .any, .any, .any, .any, .any, .any, .any, .any, .any, .any, .any, .any, .any, .any, .any, .any, .any, .any, .any, .any, .any, .any, .any, .any, .any, .any, .any, .any, .any, .any, .any, .any, .any, .any, .any, .any, .any, .any, .any, .any, .any, .any, .any, .any, .any, .any, .any, .any, .any, .any, .any, .any, .any, .any, .any, .any, .any, .any, .any, .any, .any, .any, .any, .any, .any, .any, .any, .any, .any, .any, .any, .any, .any, .any, .any, .any, .any, .any, .any, .any, .any, .any, .any, .any, .any, .any, .any, .any, .any, .any, .any, .any, .any, .any, .any, .any, .any, .any, .any, .any, .any, .any, .any, .any, .any, .any, .any, .any, .any, .any, .any, .any, .any, .any, .any, .any, .any, .any, .any, .any, .any, .any, .any, .any, .any, .any, .any, .any, .any, .any, .any, .any, .any, .any, .any, .any, .any, .any, .any, .any, .any, .any, .any, .any, .any, .any, .any, .any, .any, .any, .any, .any, .any, .any, .any, .any, .any, .any, .any, .any, .any, .any, .any, .any, .any, .any, .any, .any, .any, .any, .any, .any, .any, .any, .any, .any, .any, .any, .any, .any, .any, .any, .any, .any, .any, .any, .any, .any, .any, .any, .any, .any, .any, .any, .any, .any, .any, .any, .any, .any, .any, .any, .any, .any, .any, .any, .any, .any, .any, .any, .any, .any, .any, .any, x235, x236, .any, .any, .any, .any, .any, .any, .any, .any, .any, .any, .any, .any, .any, .any, .any, .any, .any, .any, .any, .any, .any, .any, .any, .any, .any, .any, .any, .any, .any, .any, .any, .any, .any, .any, .any, .any, .any, .any, .any, .any, .any, .any, .any, .any, .any, .any, .any, .any, .any, .any, .any, .any, .any, .any, .any, .any, .any, .any, .any, .any, .any, .any, .any, .any, .any, .any, .any, .any, .any, .any, .any, .any, .any, .any, .any, .any, .any, .any], m⟩ K
def O125_51 (x13 x25 : AV) (m : Mem) : St := ⟨[.any, .any, .any, .any, .any, .any, .any, .any, .any, .any, .any, .any, .any, x13, .any, .any, .any, .any, .any, .any, .any, .any, .any, .any, .any, x25, .any, .any, .any, .any, .any, .any, .any, .any, .any, .any, .any, .any, .any, .any, .any, .any, .any, .any, .any, .any, .any, .any, .any, .any, .any, .any, .any, .any, .any, .any, .any, .any, .any, .any, .any, .any, .any, .any, .any, .any, .any, .any, .any, .any, .any, .any, .any, .any, .any, .any, .any, .any, .any, .any, .any, .any, .any, .any, .any, .any, .any, .any, .any, .any, .any, .any, .any, .any, .any, .any, .any, .any, .any, .any, .any, .any, .any, .any, .any, .any, .any, .any, .any, .any, .any, .any, .any, .any, .any, .any, .any, .any, .any, .any, .any, .any, .any, .any, .any, .any, .any, .any, .any, .any, .any, .any, .any, .any, .any, .any, .any, .any, .any, .any, .any, .any, .any, .any, .any, .any, .any, .any, .any, .any, .any, .any, .any, .any, .any, .any, .any, .any, .any, .any, .any, .any, .any, .any, .any, .any, .any, .any, .any, .any, .any, .any, .any, .any, .any, .any, .any, .any, .any, .any, .any, .any, .any, .any, .any, .any, .any, .any, .any, .any, .any, .any, .any, .any, .any, .any, .any, .any, .any, .any, .any, .any, .any, .any, .any, .any, .any, .any, .any, .any, .any, .any, .any, .any, .any, .any, .any, .any, .any, .any, .any, .any, .any, .any, .any, .any, .any, .any, .any, .any, .any, .any, .any, .any, .any, .any, .any, .any, .any, .any, .any, .any, .any, .any, .any, .any, .any, .any, .any, .any, .any, .any, .any, .any, .any, .any, .any, .any, .any, .any, .any, .any, .any, .any, .any, .any, .any, .any, .any, .any, .any, .any, .any, .any, .any, .any, .any, .any, .any, .any, .any, .any, .any, .any, .any, .any, .any, .any, .any, .any, .any, .any, .any, .any, .any, .any, .any, .any, .any, .any, .any, .any, .any, .any, .any, .any, .any, .any, .any, .any, .any, .any, .any, .any, .any], m⟩
noncomputable def L125_51 (x9 x10 x13 x25 x281 x282 : AV) (m : Mem) (K : Ex → St → Option (AV × Mem)) : Option (AV × Mem) := loopW (execW cfg 125 (AP cfg) (AC cfg) (c1 (c1 (c2 (c1 (c2 (c2 (c2 (c2 (c2 (c2 (c2 (c2 (c2 (bodyOf f125))))))))))))))) (cfg.mask 125 (some 51)) ⟨[.any, .any, .any, .any, .any, .any, .any, .any, .any, x9, x10, .any, .any, x13, .any, .any, .any, .any, .any, .any, .any, .any, .any, .any, .any, x25, .any, .any, .any, .any, .any, .any, .any, .any, .any, .any, .any, .any, .any, .any, .any, .any, .any, .any, .any, .any, .any, .any, .any, .any, .any, .any, .any, .any, .any, .any, .any, .any, .any, .any, .any, .any, .any, .any, .any, .any, .any, .any, .any, .any, .any, .any, .any, .any, .any, .any, .any, .any, .any, .any, .any, .any, .any, .any, .any, .any, .any, .any, .any, .any, .any, .any, .any, .any, .any, .any, .any, .any, .any, .any, .any, .any, .any, .any, .any, .any, .any, .any, .any, .any, .any, .any, .any, .any, .any, .any, .any, .any, .any, .any, .any, .any, .any, .any, .any, .any, .any, .any, .any, .any, .any, .any, .any, .any, .any, .any, .any, .any, .any, .any, .any, .any, .any, .any, .any, .any, .any, .any, .any, .any, .any, .any, .any, .any, .any, .any, .any, .any, .any, .any, .any, .any, .any, .any, .any, .any, .any, .any, .any, .any, .any, .any, .any, .any, .any, .any, .any, .any, .any, .any, .any, .any, .any, .any, .any, .any, .any, .any, .any, .any, .any, .any, .any, .any, .any, .any, .any, .any, .any, .any, .any, .any, .any, .any, .any, .any, .any, .any, .any, .any, .any, .any, .any, .any, .any, .any, .any, .any, .any, .any, .any, .any, .any, .any, .any, .any, .any, .any, .any, .any, .any, .any, .any, .any, .any, .any, .any, .any, .any, .any, .any, .any, .any, .any, .any, .any, .any, .any, .any, .any, .any, .any, .any, .any, .any, .any, .any, .any, .any, .any, .any, .any, .any, .any, .any, .any, .any, .any, .any, .any, .any, .any, .any, .any, .any, .any, .any, .any, .any, .any, .any, x281, x282, .any, .any, .any, .any, .any, .any, .any, .any, .any, .any, .any, .any, .any, .any, .any, .any, .any, .any, .any, .any, .any, .any, .any, .any, .any, .any, .any, .any, .any, .any, .any, .any], m⟩ K
noncomputable abbrev K125_14_0 (K : Ex → St → Option (AV × Mem)) : Ex → St → Option (AV × Mem) := seqK (fun st => execW cfg 125 (AP cfg) (AC cfg) (c2 (c2 (c2 (c2 (c2 (c2 (c2 (c2 (bodyOf f125))))))))) st K) K
noncomputable abbrev K125_14_1 (K : Ex → St → Option (AV × Mem)) : Ex → St → Option (AV × Mem) := blockK 1 (K125_14_0 K)
noncomputable abbrev K125_14 (K : Ex → St → Option (AV × Mem)) : Ex → St → Option (AV × Mem) := (K125_14_1 K)
noncomputable abbrev K125_18_0 (K : Ex → St → Option (AV × Mem)) : Ex → St → Option (AV × Mem) := seqK (fun st => execW cfg 125 (AP cfg) (AC cfg) (c2 (c2 (c1 (c1 (c2 (c1 (c2 (c2 (c2 (c2 (c2 (c2 (c2 (bodyOf f125)))))))))))))) st (roundG (fun st => loopW (execW cfg 125 (AP cfg) (AC cfg) (c1 (c1 (c2 (c1 (c2 (c2 (c2 (c2 (c2 (c2 (c2 (bodyOf f125))))))))))))) (cfg.mask 125 (some 14)) st K) (cfg.mask 125 (some 14)) K)) (roundG (fun st => loopW (execW cfg 125 (AP cfg) (AC cfg) (c1 (c1 (c2 (c1 (c2 (c2 (c2 (c2 (c2 (c2 (c2 (bodyOf f125))))))))))))) (cfg.mask 125 (some 14)) st K) (cfg.mask 125 (some 14)) K)
noncomputable abbrev K125_18_1 (K : Ex → St → Option (AV × Mem)) : Ex → St → Option (AV × Mem) := blockK 2 (K125_18_0 K)
noncomputable abbrev K125_18_2 (K : Ex → St → Option (AV × Mem)) : Ex → St → Option (AV × Mem) := seqK (fun st => execW cfg 125 (AP cfg) (AC cfg) (c2 (c2 (c2 (c1 (c1 (c2 (c1 (c1 (c2 (c1 (c2 (c2 (c2 (c2 (c2 (c2 (c2 (bodyOf f125)))))))))))))))))) st (K125_18_1 K)) (K125_18_1 K)
noncomputable abbrev K125_18_3 (K : Ex → St → Option (AV × Mem)) : Ex → St → Option (AV × Mem) := blockK 3 (K125_18_2 K)
noncomputable abbrev K125_18 (K : Ex → St → Option (AV × Mem)) : Ex → St → Option (AV × Mem) := (K125_18_3 K)
noncomputable abbrev K125_51_0 (K : Ex → St → Option (AV × Mem)) : Ex → St → Option (AV × Mem) := seqK (fun st => execW cfg 125 (AP cfg) (AC cfg) (c2 (c2 (c2 (c2 (c2 (c2 (c2 (c2 (c2 (c2 (bodyOf f125))))))))))) st K) K
noncomputable abbrev K125_51_1 (K : Ex → St → Option (AV × Mem)) : Ex → St → Option (AV × Mem) := blockK 9 (K125_51_0 K)
noncomputable abbrev K125_51 (K : Ex → St → Option (AV × Mem)) : Ex → St → Option (AV × Mem) := (K125_51_1 K)
noncomputable abbrev K125_24_0 (K : Ex → St → Option (AV × Mem)) : Ex → St → Option (AV × Mem) := seqK (fun st => execW cfg 125 (AP cfg) (AC cfg) (c2 (c2 (c1 (c1 (c2 (c1 (c2 (c2 (c2 (c2 (c2 (c2 (c2 (bodyOf f125)))))))))))))) st (roundG (fun st => loopW (execW cfg 125 (AP cfg) (AC cfg) (c1 (c1 (c2 (c1 (c2 (c2 (c2 (c2 (c2 (c2 (c2 (bodyOf f125))))))))))))) (cfg.mask 125 (some 14)) st K) (cfg.mask 125 (some 14)) K)) (roundG (fun st => loopW (execW cfg 125 (AP cfg) (AC cfg) (c1 (c1 (c2 (c1 (c2 (c2 (c2 (c2 (c2 (c2 (c2 (bodyOf f125))))))))))))) (cfg.mask 125 (some 14)) st K) (cfg.mask 125 (some 14)) K)
noncomputable abbrev K125_24_1 (K : Ex → St → Option (AV × Mem)) : Ex → St → Option (AV × Mem) := blockK 2 (K125_24_0 K)
noncomputable abbrev K125_24_2 (K : Ex → St → Option (AV × Mem)) : Ex → St → Option (AV × Mem) := seqK (fun st => execW cfg 125 (AP cfg) (AC cfg) (c2 (c2 (c2 (c2 (c2 (c1 (c1 (c2 (c1 (c1 (c2 (c1 (c2 (c2 (c2 (c2 (c2 (c2 (c2 (bodyOf f125)))))))))))))))))))) st (K125_24_1 K)) (K125_24_1 K)
noncomputable abbrev K125_24_3 (K : Ex → St → Option (AV × Mem)) : Ex → St → Option (AV × Mem) := blockK 5 (K125_24_2 K)
noncomputable abbrev K125_24 (K : Ex → St → Option (AV × Mem)) : Ex → St → Option (AV × Mem) := (K125_24_3 K)
noncomputable abbrev K125_41_0 (K : Ex → St → Option (AV × Mem)) : Ex → St → Option (AV × Mem) := seqK (fun st => execW cfg 125 (AP cfg) (AC cfg) (c2 (c2 (c1 (c1 (c2 (c1 (c2 (c2 (c2 (c2 (c2 (c2 (c2 (bodyOf f125)))))))))))))) st (roundG (fun st => loopW (execW cfg 125 (AP cfg) (AC cfg) (c1 (c1 (c2 (c1 (c2 (c2 (c2 (c2 (c2 (c2 (c2 (bodyOf f125))))))))))))) (cfg.mask 125 (some 14)) st K) (cfg.mask 125 (some 14)) K)) (roundG (fun st => loopW (execW cfg 125 (AP cfg) (AC cfg) (c1 (c1 (c2 (c1 (c2 (c2 (c2 (c2 (c2 (c2 (c2 (bodyOf f125))))))))))))) (cfg.mask 125 (some 14)) st K) (cfg.mask 125 (some 14)) K)
noncomputable abbrev K125_41_1 (K : Ex → St → Option (AV × Mem)) : Ex → St → Option (AV × Mem) := blockK 2 (K125_41_0 K)
noncomputable abbrev K125_41_2 (K : Ex → St → Option (AV × Mem)) : Ex → St → Option (AV × Mem) := seqK (fun st => execW cfg 125 (AP cfg) (AC cfg) (c2 (c2 (c2 (c2 (c2 (c2 (c2 (c2 (c2 (c1 (c1 (c2 (c1 (c1 (c2 (c1 (c2 (c2 (c2 (c2 (c2 (c2 (c2 (bodyOf f125)))))))))))))))))))))))) st (K125_41_1 K)) (K125_41_1 K)
noncomputable abbrev K125_41_3 (K : Ex → St → Option (AV × Mem)) : Ex → St → Option (AV × Mem) := seqK (fun st => execW cfg 125 (AP cfg) (AC cfg) (c2 (c2 (c2 (c1 (c2 (c1 (c2 (c2 (c2 (c2 (c2 (c2 (c2 (c2 (c1 (c1 (c2 (c1 (c1 (c2 (c1 (c2 (c2 (c2 (c2 (c2 (c2 (c2 (bodyOf f125))))))))))))))))))))))))))))) st (K125_41_2 K)) (K125_41_2 K)
noncomputable abbrev K125_41_4 (K : Ex → St → Option (AV × Mem)) : Ex → St → Option (AV × Mem) := blockK 7 (K125_41_3 K)
noncomputable abbrev K125_41 (K : Ex → St → Option (AV × Mem)) : Ex → St → Option (AV × Mem) := (K125_41_4 K)
theorem T125 (a0 a1 : AV) (m : Mem) : AC cfg 125 [a0, a1] m =
  (pcall (AP cfg) none m 124 [a0]).bind fun r1 =>
  (pcall (AP cfg) none r1.2 124 [a1]).bind fun r2 =>
  (lenA false r2.1).bind fun v3 =>
  (binA .other .eql v3 (.int .i64 0)).bind fun v4 =>
  ifA v4 (
  some ((.tup [(.lst none true .full []), (.lst none true .full []), (.int .i64 31)]), r2.2)) (
  (pcall (AP cfg) none r2.2 109 [r1.1, r2.1]).bind fun r5 =>
  (binA .other .lss r5.1 (.int .i64 0)).bind fun v6 =>
  ifA v6 (
  (pcall (AP cfg) none r5.2 123 [r1.1]).bind fun r7 =>
  some ((.tup [(.lst none true .full []), r7.1, (.int .i64 0)]), r7.2)) (
  (lenA false r2.1).bind fun v8 =>
  (binA .other .eql v8 (.int .i64 1)).bind fun v9 =>
  ifA v9 (
  (indexAddrA none r2.1 (.int .i64 0)).bind fun v10 =>
  (loadA none r5.2 v10).bind fun v11 =>
  (pcall (AP cfg) none r5.2 136 [r1.1, v11]).bind fun r12 =>
  (extractA r12.1 0).bind fun v13 =>
  (extractA r12.1 1).bind fun v14 =>
  (convA .u64 v14).bind fun v15 =>
  (pcall (AP cfg) none r12.2 93 [v15]).bind fun r16 =>
  some ((.tup [v13, r16.1, (.int .i64 0)]), r16.2)) (
  (lenA false r2.1).bind fun v17 =>
  (binA .other .sub v17 (.int .i64 1)).bind fun v18 =>
  (indexAddrA none r2.1 v18).bind fun v19 =>
  (loadA none r5.2 v19).bind fun v20 =>
  (pcall (AP cfg) none r5.2 137 [v20]).bind fun r21 =>
  (convA .u64 r21.1).bind fun v22 =>
  (AC cfg 138 [r1.1, v22] r21.2).bind fun r23 =>
  (AC cfg 138 [r2.1, v22] r23.2).bind fun r24 =>
  (pcall (AP cfg) none r24.2 124 [r24.1]).bind fun r25 =>
  (lenA false r25.1).bind fun v26 =>
  (lenA false r23.1).bind fun v27 =>
  (binA .other .sub v27 v26).bind fun v28 =>
  (makeA none 116 none (.int .u32 0) 4 r25.2 v28 v28).bind fun r29 =>
  (lenA false r23.1).bind fun v30 =>
  (binA .other .sub v30 v26).bind fun v31 =>
  (binA .other .sub v31 (.int .i64 1)).bind fun v32 =>
  L125_14 v22 r23.1 r25.1 v26 r29.1 v32 r29.2 (K125_14 (finK cfg.P f125.results.toList))))) :=
(AC_eq cfg 125 [a0, a1] m (fn := f125) (c := bodyOf f125) at125 rfl).trans (by kernel_rfl)
theorem L125_14_eq (x9 x10 x11 x12 x13 x14 : AV) (m : Mem) (K : Ex → St → Option (AV × Mem)) : L125_14 x9 x10 x11 x12 x13 x14 m K =
  (binA .other .geq x14 (.int .i64 0)).bind fun v1 =>
  ifA v1 (
  (binA .other .add x14 x12).bind fun v2 =>
  (indexAddrA none x10 v2).bind fun v3 =>
  (loadA none m v3).bind fun v4 =>
  (convA .u64 v4).bind fun v5 =>
  (binA .other .shl v5 (.int .u64 32)).bind fun v6 =>
  (binA .other .add x14 x12).bind fun v7 =>
  (binA .other .sub v7 (.int .i64 1)).bind fun v8 =>
  (indexAddrA none x10 v8).bind fun v9 =>
  (loadA none m v9).bind fun v10 =>
  (convA .u64 v10).bind fun v11 =>
  (binA .other .or v6 v11).bind fun v12 =>
  (binA .other .sub x12 (.int .i64 1)).bind fun v13 =>
  (indexAddrA none x11 v13).bind fun v14 =>
  (loadA none m v14).bind fun v15 =>
  (convA .u64 v15).bind fun v16 =>
  (binA .other .quo v12 v16).bind fun v17 =>
  (binA .other .sub x12 (.int .i64 1)).bind fun v18 =>
  (indexAddrA none x11 v18).bind fun v19 =>
  (loadA none m v19).bind fun v20 =>
  (convA .u64 v20).bind fun v21 =>
  (binA .other .rem v12 v21).bind fun v22 =>
  L125_18 x9 x10 x11 x12 x13 x14 v17 v22 m (K125_18 K)) (
  K (.exit 1) (O125_14 x9 x10 x12 x13 m)) :=
(loopW_eq (execW_lin _) _ _ _).trans (by kernel_rfl)
theorem L125_18_eq (x9 x10 x11 x12 x13 x14 x16 x17 : AV) (m : Mem) (K : Ex → St → Option (AV × Mem)) : L125_18 x9 x10 x11 x12 x13 x14 x16 x17 m K =
  (binA .other .geq x16 (.int .u64 4294967296)).bind fun v1 =>
  ifA v1 (
  (binA .other .sub x16 (.int .u64 1)).bind fun v2 =>
  (binA .other .sub x12 (.int .i64 1)).bind fun v3 =>
  (indexAddrA none x11 v3).bind fun v4 =>
  (loadA none m v4).bind fun v5 =>
  (convA .u64 v5).bind fun v6 =>
  (binA .other .add x17 v6).bind fun v7 =>
  (binA .other .geq v7 (.int .u64 4294967296)).bind fun v8 =>
  ifA v8 (
  K (.exit 3) (O125_18 x9 x10 x11 x12 x13 x14 v2 m)) (
  L125_18 x9 x10 x11 x12 x13 x14 v2 v7 m K)) (
  (binA .other .sub x12 (.int .i64 2)).bind fun v9 =>
  (indexAddrA none x11 v9).bind fun v10 =>
  (loadA none m v10).bind fun v11 =>
  (convA .u64 v11).bind fun v12 =>
  (binA .other .mul x16 v12).bind fun v13 =>
  (binA .other .shl x17 (.int .u64 32)).bind fun v14 =>
  (binA .other .add x14 x12).bind fun v15 =>
  (binA .other .sub v15 (.int .i64 2)).bind fun v16 =>
  (indexAddrA none x10 v16).bind fun v17 =>
  (loadA none m v17).bind fun v18 =>
  (convA .u64 v18).bind fun v19 =>
  (binA .other .or v14 v19).bind fun v20 =>
  (binA .other .gtr v13 v20).bind fun v21 =>
  ifA v21 (
  (binA .other .sub x16 (.int .u64 1)).bind fun v22 =>
  (binA .other .sub x12 (.int .i64 1)).bind fun v23 =>
  (indexAddrA none x11 v23).bind fun v24 =>
  (loadA none m v24).bind fun v25 =>
  (convA .u64 v25).bind fun v26 =>
  (binA .other .add x17 v26).bind fun v27 =>
  (binA .other .geq v27 (.int .u64 4294967296)).bind fun v28 =>
  ifA v28 (
  K (.exit 3) (O125_18 x9 x10 x11 x12 x13 x14 v22 m)) (
  L125_18 x9 x10 x11 x12 x13 x14 v22 v27 m K)) (
  K (.exit 3) (O125_18 x9 x10 x11 x12 x13 x14 x16 m))) :=
(loopW_eq (execW_lin _) _ _ _).trans (by kernel_rfl)
theorem L125_24_eq (x9 x10 x11 x12 x13 x14 x16 x18 x19 x158 x159 : AV) (m : Mem) (K : Ex → St → Option (AV × Mem)) : L125_24 x9 x10 x11 x12 x13 x14 x16 x18 x19 x158 x159 m K =
  (binA .other .lss x159 x158).bind fun v1 =>
  ifA v1 (
  (indexAddrA none x11 x159).bind fun v2 =>
  (loadA none m v2).bind fun v3 =>
  (convA .u64 v3).bind fun v4 =>
  (binA .other .mul x16 v4).bind fun v5 =>
  (binA .other .add x19 v5).bind fun v6 =>
  (binA .other .and v6 (.int .u64 4294967295)).bind fun v7 =>
  (binA .other .add v7 x18).bind fun v8 =>
  (binA .other .add x159 x14).bind fun v9 =>
  (indexAddrA none x10 v9).bind fun v10 =>
  (loadA none m v10).bind fun v11 =>
  (convA .u64 v11).bind fun v12 =>
  (binA .other .lss v12 v8).bind fun v13 =>
  ifA v13 (
  (binA .other .add x159 x14).bind fun v14 =>
  (binA .other .add x159 x14).bind fun v15 =>
  (indexAddrA none x10 v15).bind fun v16 =>
  (loadA none m v16).bind fun v17 =>
  (convA .u64 v17).bind fun v18 =>
  (binA .other .shl (.int .u64 1) (.int .u64 32)).bind fun v19 =>
  (binA .other .add v18 v19).bind fun v20 =>
  (binA .other .sub v20 v8).bind fun v21 =>
  (convA .u32 v21).bind fun v22 =>
  (indexAddrA none x10 v14).bind fun v23 =>
  (storeA none m v23 v22).bind fun m24 =>
  (binA .other .shr v6 (.int .u64 32)).bind fun v25 =>
  (binA .other .add x159 (.int .i64 1)).bind fun v26 =>
  L125_24 x9 x10 x11 x12 x13 x14 x16 (.int .u64 1) v25 x158 v26 m24 K) (
  (binA .other .add x159 x14).bind fun v27 =>
  (binA .other .add x159 x14).bind fun v28 =>
  (indexAddrA none x10 v28).bind fun v29 =>
  (loadA none m v29).bind fun v30 =>
  (convA .u64 v30).bind fun v31 =>
  (binA .other .shl (.int .u64 0) (.int .u64 32)).bind fun v32 =>
  (binA .other .add v31 v32).bind fun v33 =>
  (binA .other .sub v33 v8).bind fun v34 =>
  (convA .u32 v34).bind fun v35 =>
  (indexAddrA none x10 v27).bind fun v36 =>
  (storeA none m v36 v35).bind fun m37 =>
  (binA .other .shr v6 (.int .u64 32)).bind fun v38 =>
  (binA .other .add x159 (.int .i64 1)).bind fun v39 =>
  L125_24 x9 x10 x11 x12 x13 x14 x16 (.int .u64 0) v38 x158 v39 m37 K)) (
  K (.exit 5) (O125_24 x9 x10 x11 x12 x13 x14 x16 x18 x19 m)) :=
(loopW_eq (execW_lin _) _ _ _).trans (by kernel_rfl)
theorem L125_41_eq (x9 x10 x11 x12 x13 x14 x16 x19 x235 x236 : AV) (m : Mem) (K : Ex → St → Option (AV × Mem)) : L125_41 x9 x10 x11 x12 x13 x14 x16 x19 x235 x236 m K =
  (binA .other .lss x236 x235).bind fun v1 =>
  ifA v1 (
  (binA .other .add x236 x14).bind fun v2 =>
  (indexAddrA none x10 v2).bind fun v3 =>
  (loadA none m v3).bind fun v4 =>
  (convA .u64 v4).bind fun v5 =>
  (indexAddrA none x11 x236).bind fun v6 =>
  (loadA none m v6).bind fun v7 =>
  (convA .u64 v7).bind fun v8 =>
  (binA .other .add v5 v8).bind fun v9 =>
  (binA .other .add x19 v9).bind fun v10 =>
  (binA .other .add x236 x14).bind fun v11 =>
  (convA .u32 v10).bind fun v12 =>
  (indexAddrA none x10 v11).bind fun v13 =>
  (storeA none m v13 v12).bind fun m14 =>
  (binA .other .shr v10 (.int .u64 32)).bind fun v15 =>
  (binA .other .add x236 (.int .i64 1)).bind fun v16 =>
  L125_41 x9 x10 x11 x12 x13 x14 x16 v15 x235 v16 m14 K) (
  K (.exit 7) (O125_41 x9 x10 x11 x12 x13 x14 x16 x19 m)) :=
(loopW_eq (execW_lin _) _ _ _).trans (by kernel_rfl)
theorem L125_51_eq (x9 x10 x13 x25 x281 x282 : AV) (m : Mem) (K : Ex → St → Option (AV × Mem)) : L125_51 x9 x10 x13 x25 x281 x282 m K =
  (binA .other .lss x282 x281).bind fun v1 =>
  ifA v1 (
  (indexAddrA none x10 x282).bind fun v2 =>
  (loadA none m v2).bind fun v3 =>
  (binA .other .shr v3 x9).bind fun v4 =>
  (indexAddrA none x25 x282).bind fun v5 =>
  (storeA none m v5 v4).bind fun m6 =>
  (binA .other .gtr x9 (.int .u64 0)).bind fun v7 =>
  ifA v7 (
  (indexAddrA none x25 x282).bind fun v8 =>
  (loadA none m6 v8).bind fun v9 =>
  (binA .other .add x282 (.int .i64 1)).bind fun v10 =>
  (indexAddrA none x10 v10).bind fun v11 =>
  (loadA none m6 v11).bind fun v12 =>
  (binA .other .sub (.int .u64 32) x9).bind fun v13 =>
  (binA .other .shl v12 v13).bind fun v14 =>
  (binA .other .or v9 v14).bind fun v15 =>
  (indexAddrA none x25 x282).bind fun v16 =>
  (storeA none m6 v16 v15).bind fun m17 =>
  (binA .other .add x282 (.int .i64 1)).bind fun v18 =>
  L125_51 x9 x10 x13 x25 x281 v18 m17 K) (
  (binA .other .add x282 (.int .i64 1)).bind fun v19 =>
  L125_51 x9 x10 x13 x25 x281 v19 m6 K)) (
  K (.exit 9) (O125_51 x13 x25 m)) :=
(loopW_eq (execW_lin _) _ _ _).trans (by kernel_rfl)
theorem K125_14_x1 (x9 x10 x12 x13 : AV) (m : Mem) : K125_14 (finK cfg.P f125.results.toList) (.exit 1) (O125_14 x9 x10 x12 x13 m) =
  (makeA none 116 none (.int .u32 0) 4 m x12 x12).bind fun r1 =>
  L125_51 x9 x10 x13 r1.1 x12 (.int .i64 0) r1.2 (K125_51 (finK cfg.P f125.results.toList)) := by kernel_rfl
theorem K125_18_x3 (x9 x10 x11 x12 x13 x14 x16 : AV) (m : Mem) (K : Ex → St → Option (AV × Mem)) : K125_18 K (.exit 3) (O125_18 x9 x10 x11 x12 x13 x14 x16 m) =
  L125_24 x9 x10 x11 x12 x13 x14 x16 (.int .u64 0) (.int .u64 0) x12 (.int .i64 0) m (K125_24 K) := by kernel_rfl
theorem K125_51_x9 (x13 x25 : AV) (m : Mem) : K125_51 (finK cfg.P f125.results.toList) (.exit 9) (O125_51 x13 x25 m) =
  (pcall (AP cfg) none m 124 [x13]).bind fun r1 =>
  (pcall (AP cfg) none r1.2 124 [x25]).bind fun r2 =>
  some ((.tup [r1.1, r2.1, (.int .i64 0)]), r2.2) := by kernel_rfl
theorem K125_24_x5 (x9 x10 x11 x12 x13 x14 x16 x18 x19 : AV) (m : Mem) (K : Ex → St → Option (AV × Mem)) : K125_24 K (.exit 5) (O125_24 x9 x10 x11 x12 x13 x14 x16 x18 x19 m) =
  (binA .other .add x19 x18).bind fun v1 =>
  (binA .other .add x14 x12).bind fun v2 =>
  (indexAddrA none x10 v2).bind fun v3 =>
  (loadA none m v3).bind fun v4 =>
  (convA .u64 v4).bind fun v5 =>
  (binA .other .lss v5 v1).bind fun v6 =>
  (binA .other .add x14 x12).bind fun v7 =>
  (binA .other .add x14 x12).bind fun v8 =>
  (indexAddrA none x10 v8).bind fun v9 =>
  (loadA none m v9).bind fun v10 =>
  (convA .u64 v10).bind fun v11 =>
  (binA .other .sub v11 v1).bind fun v12 =>
  (convA .u32 v12).bind fun v13 =>
  (indexAddrA none x10 v7).bind fun v14 =>
  (storeA none m v14 v13).bind fun m15 =>
  ifA v6 (
  (binA .other .sub x16 (.int .u64 1)).bind fun v16 =>
  L125_41 x9 x10 x11 x12 x13 x14 v16 (.int .u64 0) x12 (.int .i64 0) m15 (K125_41 K)) (
  (convA .u32 x16).bind fun v17 =>
  (indexAddrA none x13 x14).bind fun v18 =>
  (storeA none m15 v18 v17).bind fun m19 =>
  (binA .other .sub x14 (.int .i64 1)).bind fun v20 =>
  L125_14 x9 x10 x11 x12 x13 v20 m19 K) := by kernel_rfl
theorem K125_41_x7 (x9 x10 x11 x12 x13 x14 x16 x19 : AV) (m : Mem) (K : Ex → St → Option (AV × Mem)) : K125_41 K (.exit 7) (O125_41 x9 x10 x11 x12 x13 x14 x16 x19 m) =
  (binA .other .add x14 x12).bind fun v1 =>
  (indexAddrA none x10 v1).bind fun v2 =>
  (loadA none m v2).bind fun v3 =>
  (convA .u32 x19).bind fun v4 =>
  (binA .other .add v3 v4).bind fun v5 =>
  (indexAddrA none x10 v1).bind fun v6 =>
  (storeA none m v6 v5).bind fun m7 =>
  (convA .u32 x16).bind fun v8 =>
  (indexAddrA none x13 x14).bind fun v9 =>
  (storeA none m7 v9 v8).bind fun m10 =>
  (binA .other .sub x14 (.int .i64 1)).bind fun v11 =>
  L125_14 x9 x10 x11 x12 x13 v11 m10 K := by kernel_rfl
/-! ### sortilege/nat.short -/
def O136_4 (x6 x7 : AV) (m : Mem) : St := ⟨[.any, .any, .any, .any, .any, .any, x6, x7, .any, .any, .any, .any, .any, .any, .any, .any, .any, .any, .any, .any, .any, .any, .any, .any, .any, .any, .any, .any, .any, .any, .any, .any, .any, .any, .any, .any, .any, .any, .any, .any, .any, .any, .any], m⟩
noncomputable def L136_4 (x0 x1 x6 x7 x8 : AV) (m : Mem) (K : Ex → St → Option (AV × Mem)) : Option (AV × Mem) := loopW (execW cfg 136 (AP cfg) (AC cfg) (c1 (c1 (c2 (c1 (c2 (c2 (c2 (bodyOf f136))))))))) (cfg.mask 136 (some 4)) ⟨[x0, x1, .any, .any, .any, .any, x6, x7, x8, .any, .any, .any, .any, .any, .any, .any, .any, .any, .any, .any, .any, .any, .any, .any, .any, .any, .any, .any, .any, .any, .any, .any, .any, .any, .any, .any, .any, .any, .any, .any, .any, .any, .any], m⟩ K
noncomputable abbrev K136_4_0 (K : Ex → St → Option (AV × Mem)) : Ex → St → Option (AV × Mem) := seqK (fun st => execW cfg 136 (AP cfg) (AC cfg) (c2 (c2 (c2 (c2 (bodyOf f136))))) st K) K
noncomputable abbrev K136_4_1 (K : Ex → St → Option (AV × Mem)) : Ex → St → Option (AV × Mem) := blockK 0 (K136_4_0 K)
noncomputable abbrev K136_4 (K : Ex → St → Option (AV × Mem)) : Ex → St → Option (AV × Mem) := (K136_4_1 K)
theorem T136 (a0 a1 : AV) (m : Mem) : AC cfg 136 [a0, a1] m =
  (lenA false a0).bind fun v1 =>
  (makeA none 116 none (.int .u32 0) 4 m v1 v1).bind fun r2 =>
  (lenA false a0).bind fun v3 =>
  (binA .other .sub v3 (.int .i64 1)).bind fun v4 =>
  L136_4 a0 a1 r2.1 (.int .u64 0) v4 r2.2 (K136_4 (finK cfg.P f136.results.toList)) :=
(AC_eq cfg 136 [a0, a1] m (fn := f136) (c := bodyOf f136) at136 rfl).trans (by kernel_rfl)
theorem L136_4_eq (x0 x1 x6 x7 x8 : AV) (m : Mem) (K : Ex → St → Option (AV × Mem)) : L136_4 x0 x1 x6 x7 x8 m K =
  (binA .other .geq x8 (.int .i64 0)).bind fun v1 =>
  ifA v1 (
  (binA .other .shl x7 (.int .u64 32)).bind fun v2 =>
  (indexAddrA none x0 x8).bind fun v3 =>
  (loadA none m v3).bind fun v4 =>
  (convA .u64 v4).bind fun v5 =>
  (binA .other .or v2 v5).bind fun v6 =>
  (convA .u64 x1).bind fun v7 =>
  (binA .other .quo v6 v7).bind fun v8 =>
  (convA .u32 v8).bind fun v9 =>
  (indexAddrA none x6 x8).bind fun v10 =>
  (storeA none m v10 v9).bind fun m11 =>
  (convA .u64 x1).bind fun v12 =>
  (binA .other .rem v6 v12).bind fun v13 =>
  (binA .other .sub x8 (.int .i64 1)).bind fun v14 =>
  L136_4 x0 x1 x6 v13 v14 m11 K) (
  K (.exit 0) (O136_4 x6 x7 m)) :=
(loopW_eq (execW_lin _) _ _ _).trans (by kernel_rfl)
theorem K136_4_x0 (x6 x7 : AV) (m : Mem) : K136_4 (finK cfg.P f136.results.toList) (.exit 0) (O136_4 x6 x7 m) =
  (pcall (AP cfg) none m 124 [x6]).bind fun r1 =>
  (convA .u32 x7).bind fun v2 =>
  some ((.tup [r1.1, v2]), r1.2) := by kernel_rfl
/-! ### math/bits.LeadingZeros32 -/
theorem T137 (a0 : AV) (m : Mem) : AC cfg 137 [a0] m =
  (pcall (AP cfg) none m 140 [a0]).bind fun r1 =>
  (binA .other .sub (.int .i64 32) r1.1).bind fun v2 =>
  some (v2, r1.2) :=
(AC_eq cfg 137 [a0] m (fn := f137) (c := bodyOf f137) at137 rfl).trans (by kernel_rfl)
/-! ### sortilege/nat.shifted -/
def O138_3 (x5 : AV) (m : Mem) : St := ⟨[.any, .any, .any, .any, .any, x5, .any, .any, .any, .any, .any, .any, .any, .any, .any, .any, .any, .any, .any, .any, .any, .any, .any, .any, .any, .any, .any, .any, .any, .any, .any, .any, .any, .any, .any, .any, .any, .any, .any, .any], m⟩
noncomputable def L138_3 (x1 x5 x12 x13 x14 : AV) (m : Mem) (K : Ex → St → Option (AV × Mem)) : Option (AV × Mem) := loopW (execW cfg 138 (AP cfg) (AC cfg) (c1 (c1 (c2 (c1 (c2 (c2 (bodyOf f138)))))))) (cfg.mask 138 (some 3)) ⟨[.any, x1, .any, .any, .any, x5, .any, .any, .any, .any, .any, .any, x12, x13, x14, .any, .any, .any, .any, .any, .any, .any, .any, .any, .any, .any, .any, .any, .any, .any, .any, .any, .any, .any, .any, .any, .any, .any, .any, .any], m⟩ K
noncomputable abbrev K138_3_0 (K : Ex → St → Option (AV × Mem)) : Ex → St → Option (AV × Mem) := seqK (fun st => execW cfg 138 (AP cfg) (AC cfg) (c2 (c2 (c2 (bodyOf f138)))) st K) K
noncomputable abbrev K138_3_1 (K : Ex → St → Option (AV × Mem)) : Ex → St → Option (AV × Mem) := blockK 0 (K138_3_0 K)
noncomputable abbrev K138_3 (K : Ex → St → Option (AV × Mem)) : Ex → St → Option (AV × Mem) := (K138_3_1 K)
theorem T138 (a0 a1 : AV) (m : Mem) : AC cfg 138 [a0, a1] m =
  (lenA false a0).bind fun v1 =>
  (binA .other .add v1 (.int .i64 1)).bind fun v2 =>
  (makeA none 116 none (.int .u32 0) 4 m v2 v2).bind fun r3 =>
  (lenA false a0).bind fun v4 =>
  L138_3 a1 r3.1 a0 v4 (.int .i64 0) r3.2 (K138_3 (finK cfg.P f138.results.toList)) :=
(AC_eq cfg 138 [a0, a1] m (fn := f138) (c := bodyOf f138) at138 rfl).trans (by kernel_rfl)
theorem L138_3_eq (x1 x5 x12 x13 x14 : AV) (m : Mem) (K : Ex → St → Option (AV × Mem)) : L138_3 x1 x5 x12 x13 x14 m K =
  (binA .other .lss x14 x13).bind fun v1 =>
  ifA v1 (
  (indexAddrA none x12 x14).bind fun v2 =>
  (loadA none m v2).bind fun v3 =>
  (indexAddrA none x5 x14).bind fun v4 =>
  (loadA none m v4).bind fun v5 =>
  (binA .other .shl v3 x1).bind fun v6 =>
  (binA .other .or v5 v6).bind fun v7 =>
  (indexAddrA none x5 x14).bind fun v8 =>
  (storeA none m v8 v7).bind fun m9 =>
  (binA .other .add x14 (.int .i64 1)).bind fun v10 =>
  (convA .u64 v3).bind fun v11 =>
  (binA .other .shl v11 x1).bind fun v12 =>
  (binA .other .shr v12 (.int .u64 32)).bind fun v13 =>
  (convA .u32 v13).bind fun v14 =>
  (indexAddrA none x5 v10).bind fun v15 =>
  (storeA none m9 v15 v14).bind fun m16 =>
  (binA .other .add x14 (.int .i64 1)).bind fun v17 =>
  L138_3 x1 x5 x12 x13 v17 m16 K) (
  K (.exit 0) (O138_3 x5 m)) :=
(loopW_eq (execW_lin _) _ _ _).trans (by kernel_rfl)
theorem K138_3_x0 (x5 : AV) (m : Mem) : K138_3 (finK cfg.P f138.results.toList) (.exit 0) (O138_3 x5 m) =
  some (x5, m) := by kernel_rfl
/-! ### sortilege/nat.Bits -/
/-! ### math/bits.Len32 -/
theorem T140 (a0 : AV) (m : Mem) : AC cfg 140 [a0] m =
  (binA .other .geq a0 (.int .u32 65536)).bind fun v1 =>
  ifA v1 (
  (binA .other .shr a0 (.int .u64 16)).bind fun v2 =>
  (binA .other .geq v2 (.int .u32 256)).bind fun v3 =>
  ifA v3 (
  (binA .other .shr v2 (.int .u64 8)).bind fun v4 =>
  (binA .other .add (.int .i64 16) (.int .i64 8)).bind fun v5 =>
  (convA .u8 v4).bind fun v6 =>
  (indexStrA (.str ⟨⟨[0, 1, 2, 2, 3, 3, 3, 3, 4, 4, 4, 4, 4, 4, 4, 4, 5, 5, 5, 5, 5, 5, 5, 5, 5, 5, 5, 5, 5, 5, 5, 5, 6, 6, 6, 6, 6, 6, 6, 6, 6, 6, 6, 6, 6, 6, 6, 6, 6, 6, 6, 6, 6, 6, 6, 6, 6, 6, 6, 6, 6, 6, 6, 6, 7, 7, 7, 7, 7, 7, 7, 7, 7, 7, 7, 7, 7, 7, 7, 7, 7, 7, 7, 7, 7, 7, 7, 7, 7, 7, 7, 7, 7, 7, 7, 7, 7, 7, 7, 7, 7, 7, 7, 7, 7, 7, 7, 7, 7, 7, 7, 7, 7, 7, 7, 7, 7, 7, 7, 7, 7, 7, 7, 7, 7, 7, 7, 7, 8, 8, 8, 8, 8, 8, 8, 8, 8, 8, 8, 8, 8, 8, 8, 8, 8, 8, 8, 8, 8, 8, 8, 8, 8, 8, 8, 8, 8, 8, 8, 8, 8, 8, 8, 8, 8, 8, 8, 8, 8, 8, 8, 8, 8, 8, 8, 8, 8, 8, 8, 8, 8, 8, 8, 8, 8, 8, 8, 8, 8, 8, 8, 8, 8, 8, 8, 8, 8, 8, 8, 8, 8, 8, 8, 8, 8, 8, 8, 8, 8, 8, 8, 8, 8, 8, 8, 8, 8, 8, 8, 8, 8, 8, 8, 8, 8, 8, 8, 8, 8, 8, 8, 8, 8, 8, 8, 8, 8, 8, 8, 8, 8, 8, 8, 8, 8, 8, 8, 8, 8, 8, 8, 8, 8, 8, 8, 8]⟩⟩) v6).bind fun v7 =>
  (convA .i64 v7).bind fun v8 =>
  (binA .other .add v5 v8).bind fun v9 =>
  some (v9, m)) (
  (convA .u8 v2).bind fun v10 =>
  (indexStrA (.str ⟨⟨[0, 1, 2, 2, 3, 3, 3, 3, 4, 4, 4, 4, 4, 4, 4, 4, 5, 5, 5, 5, 5, 5, 5, 5, 5, 5, 5, 5, 5, 5, 5, 5, 6, 6, 6, 6, 6, 6, 6, 6, 6, 6, 6, 6, 6, 6, 6, 6, 6, 6, 6, 6, 6, 6, 6, 6, 6, 6, 6, 6, 6, 6, 6, 6, 7, 7, 7, 7, 7, 7, 7, 7, 7, 7, 7, 7, 7, 7, 7, 7, 7, 7, 7, 7, 7, 7, 7, 7, 7, 7, 7, 7, 7, 7, 7, 7, 7, 7, 7, 7, 7, 7, 7, 7, 7, 7, 7, 7, 7, 7, 7, 7, 7, 7, 7, 7, 7, 7, 7, 7, 7, 7, 7, 7, 7, 7, 7, 7, 8, 8, 8, 8, 8, 8, 8, 8, 8, 8, 8, 8, 8, 8, 8, 8, 8, 8, 8, 8, 8, 8, 8, 8, 8, 8, 8, 8, 8, 8, 8, 8, 8, 8, 8, 8, 8, 8, 8, 8, 8, 8, 8, 8, 8, 8, 8, 8, 8, 8, 8, 8, 8, 8, 8, 8, 8, 8, 8, 8, 8, 8, 8, 8, 8, 8, 8, 8, 8, 8, 8, 8, 8, 8, 8, 8, 8, 8, 8, 8, 8, 8, 8, 8, 8, 8, 8, 8, 8, 8, 8, 8, 8, 8, 8, 8, 8, 8, 8, 8, 8, 8, 8, 8, 8, 8, 8, 8, 8, 8, 8, 8, 8, 8, 8, 8, 8, 8, 8, 8, 8, 8, 8, 8, 8, 8, 8, 8]⟩⟩) v10).bind fun v11 =>
  (convA .i64 v11).bind fun v12 =>
  (binA .other .add (.int .i64 16) v12).bind fun v13 =>
  some (v13, m))) (
  (binA .other .geq a0 (.int .u32 256)).bind fun v14 =>
  ifA v14 (
  (binA .other .shr a0 (.int .u64 8)).bind fun v15 =>
  (binA .other .add (.int .i64 0) (.int .i64 8)).bind fun v16 =>
  (convA .u8 v15).bind fun v17 =>
  (indexStrA (.str ⟨⟨[0, 1, 2, 2, 3, 3, 3, 3, 4, 4, 4, 4, 4, 4, 4, 4, 5, 5, 5, 5, 5, 5, 5, 5, 5, 5, 5, 5, 5, 5, 5, 5, 6, 6, 6, 6, 6, 6, 6, 6, 6, 6, 6, 6, 6, 6, 6, 6, 6, 6, 6, 6, 6, 6, 6, 6, 6, 6, 6, 6, 6, 6, 6, 6, 7, 7, 7, 7, 7, 7, 7, 7, 7, 7, 7, 7, 7, 7, 7, 7, 7, 7, 7, 7, 7, 7, 7, 7, 7, 7, 7, 7, 7, 7, 7, 7, 7, 7, 7, 7, 7, 7, 7, 7, 7, 7, 7, 7, 7, 7, 7, 7, 7, 7, 7, 7, 7, 7, 7, 7, 7, 7, 7, 7, 7, 7, 7, 7, 8, 8, 8, 8, 8, 8, 8, 8, 8, 8, 8, 8, 8, 8, 8, 8, 8, 8, 8, 8, 8, 8, 8, 8, 8, 8, 8, 8, 8, 8, 8, 8, 8, 8, 8, 8, 8, 8, 8, 8, 8, 8, 8, 8, 8, 8, 8, 8, 8, 8, 8, 8, 8, 8, 8, 8, 8, 8, 8, 8, 8, 8, 8, 8, 8, 8, 8, 8, 8, 8, 8, 8, 8, 8, 8, 8, 8, 8, 8, 8, 8, 8, 8, 8, 8, 8, 8, 8, 8, 8, 8, 8, 8, 8, 8, 8, 8, 8, 8, 8, 8, 8, 8, 8, 8, 8, 8, 8, 8, 8, 8, 8, 8, 8, 8, 8, 8, 8, 8, 8, 8, 8, 8, 8, 8, 8, 8, 8]⟩⟩) v17).bind fun v18 =>
  (convA .i64 v18).bind fun v19 =>
  (binA .other .add v16 v19).bind fun v20 =>
  some (v20, m)) (
  (convA .u8 a0).bind fun v21 =>
  (indexStrA (.str ⟨⟨[0, 1, 2, 2, 3, 3, 3, 3, 4, 4, 4, 4, 4, 4, 4, 4, 5, 5, 5, 5, 5, 5, 5, 5, 5, 5, 5, 5, 5, 5, 5, 5, 6, 6, 6, 6, 6, 6, 6, 6, 6, 6, 6, 6, 6, 6, 6, 6, 6, 6, 6, 6, 6, 6, 6, 6, 6, 6, 6, 6, 6, 6, 6, 6, 7, 7, 7, 7, 7, 7, 7, 7, 7, 7, 7, 7, 7, 7, 7, 7, 7, 7, 7, 7, 7, 7, 7, 7, 7, 7, 7, 7, 7, 7, 7, 7, 7, 7, 7, 7, 7, 7, 7, 7, 7, 7, 7, 7, 7, 7, 7, 7, 7, 7, 7, 7, 7, 7, 7, 7, 7, 7, 7, 7, 7, 7, 7, 7, 8, 8, 8, 8, 8, 8, 8, 8, 8, 8, 8, 8, 8, 8, 8, 8, 8, 8, 8, 8, 8, 8, 8, 8, 8, 8, 8, 8, 8, 8, 8, 8, 8, 8, 8, 8, 8, 8, 8, 8, 8, 8, 8, 8, 8, 8, 8, 8, 8, 8, 8, 8, 8, 8, 8, 8, 8, 8, 8, 8, 8, 8, 8, 8, 8, 8, 8, 8, 8, 8, 8, 8, 8, 8, 8, 8, 8, 8, 8, 8, 8, 8, 8, 8, 8, 8, 8, 8, 8, 8, 8, 8, 8, 8, 8, 8, 8, 8, 8, 8, 8, 8, 8, 8, 8, 8, 8, 8, 8, 8, 8, 8, 8, 8, 8, 8, 8, 8, 8, 8, 8, 8, 8, 8, 8, 8, 8, 8]⟩⟩) v21).bind fun v22 =>
  (convA .i64 v22).bind fun v23 =>
  (binA .other .add (.int .i64 0) v23).bind fun v24 =>
  some (v24, m))) :=
(AC_eq cfg 140 [a0] m (fn := f140) (c := bodyOf f140) at140 rfl).trans (by kernel_rfl)
end Go.Ab
