/- What the interpreter does, function by function. -/
import Derived.Test.YtlapgjmmlbnehaaAYtCfg
set_option maxRecDepth 100000
set_option linter.unusedVariables false
namespace Go.Ab
open Go.Proofs.Try
/-! ### sortilege/sortilegeref01.Of -/
theorem T70 (a0 : AV) (m : Mem) : AC cfg 70 [a0] m =
  (convA .u32 a0).bind fun v1 =>
  (binA .other .shr a0 (.int .u64 32)).bind fun v2 =>
  (convA .u32 v2).bind fun v3 =>
  (buildSliceA none [v1, v3]).bind fun v4 =>
  (pcall (AP cfg) none m 103 [v4]).bind fun r5 =>
  some (r5.1, r5.2) :=
(AC_eq cfg 70 [a0] m (fn := f70) (c := bodyOf f70) at70 rfl).trans (by kernel_rfl)
/-! ### sortilege/sortilegeref01.Mul -/
def O72_4 (x5 : AV) (m : Mem) : St := ⟨[.any, .any, .any, .any, .any, x5, .any, .any, .any, .any, .any, .any, .any, .any, .any, .any, .any, .any, .any, .any, .any, .any, .any, .any, .any, .any, .any, .any, .any, .any, .any, .any, .any, .any, .any, .any, .any, .any, .any, .any, .any, .any, .any, .any, .any, .any, .any, .any, .any, .any, .any, .any, .any, .any, .any, .any, .any, .any, .any, .any, .any, .any, .any, .any, .any, .any, .any, .any, .any, .any, .any, .any, .any], m⟩
noncomputable def L72_4 (x0 x1 x5 x6 : AV) (m : Mem) (K : Ex → St → Option (AV × Mem)) : Option (AV × Mem) := loopW (execW cfg 72 (AP cfg) (AC cfg) (c1 (c1 (c2 (c1 (c2 (c2 (c2 (bodyOf f72))))))))) (cfg.mask 72 (some 4)) ⟨[x0, x1, .any, .any, .any, x5, x6, .any, .any, .any, .any, .any, .any, .any, .any, .any, .any, .any, .any, .any, .any, .any, .any, .any, .any, .any, .any, .any, .any, .any, .any, .any, .any, .any, .any, .any, .any, .any, .any, .any, .any, .any, .any, .any, .any, .any, .any, .any, .any, .any, .any, .any, .any, .any, .any, .any, .any, .any, .any, .any, .any, .any, .any, .any, .any, .any, .any, .any, .any, .any, .any, .any, .any], m⟩ K
def O72_8 (x0 x1 x5 x6 x7 : AV) (m : Mem) : St := ⟨[x0, x1, .any, .any, .any, x5, x6, x7, .any, .any, .any, .any, .any, .any, .any, .any, .any, .any, .any, .any, .any, .any, .any, .any, .any, .any, .any, .any, .any, .any, .any, .any, .any, .any, .any, .any, .any, .any, .any, .any, .any, .any, .any, .any, .any, .any, .any, .any, .any, .any, .any, .any, .any, .any, .any, .any, .any, .any, .any, .any, .any, .any, .any, .any, .any, .any, .any, .any, .any, .any, .any, .any, .any], m⟩
noncomputable def L72_8 (x0 x1 x5 x6 x7 x8 : AV) (m : Mem) (K : Ex → St → Option (AV × Mem)) : Option (AV × Mem) := loopW (execW cfg 72 (AP cfg) (AC cfg) (c1 (c1 (c2 (c1 (c2 (c1 (c1 (c2 (c1 (c1 (c2 (c1 (c2 (c2 (c2 (bodyOf f72))))))))))))))))) (cfg.mask 72 (some 8)) ⟨[x0, x1, .any, .any, .any, x5, x6, x7, x8, .any, .any, .any, .any, .any, .any, .any, .any, .any, .any, .any, .any, .any, .any, .any, .any, .any, .any, .any, .any, .any, .any, .any, .any, .any, .any, .any, .any, .any, .any, .any, .any, .any, .any, .any, .any, .any, .any, .any, .any, .any, .any, .any, .any, .any, .any, .any, .any, .any, .any, .any, .any, .any, .any, .any, .any, .any, .any, .any, .any, .any, .any, .any, .any], m⟩ K
noncomputable abbrev K72_4_0 (K : Ex → St → Option (AV × Mem)) : Ex → St → Option (AV × Mem) := seqK (fun st => execW cfg 72 (AP cfg) (AC cfg) (c2 (c2 (c2 (c2 (bodyOf f72))))) st K) K
noncomputable abbrev K72_4_1 (K : Ex → St → Option (AV × Mem)) : Ex → St → Option (AV × Mem) := blockK 0 (K72_4_0 K)
noncomputable abbrev K72_4 (K : Ex → St → Option (AV × Mem)) : Ex → St → Option (AV × Mem) := (K72_4_1 K)
noncomputable abbrev K72_8_0 (K : Ex → St → Option (AV × Mem)) : Ex → St → Option (AV × Mem) := seqK (fun st => execW cfg 72 (AP cfg) (AC cfg) (c2 (c2 (c1 (c1 (c2 (c1 (c2 (c2 (c2 (bodyOf f72)))))))))) st (roundG (fun st => loopW (execW cfg 72 (AP cfg) (AC cfg) (c1 (c1 (c2 (c1 (c2 (c2 (c2 (bodyOf f72))))))))) (cfg.mask 72 (some 4)) st K) (cfg.mask 72 (some 4)) K)) (roundG (fun st => loopW (execW cfg 72 (AP cfg) (AC cfg) (c1 (c1 (c2 (c1 (c2 (c2 (c2 (bodyOf f72))))))))) (cfg.mask 72 (some 4)) st K) (cfg.mask 72 (some 4)) K)
noncomputable abbrev K72_8_1 (K : Ex → St → Option (AV × Mem)) : Ex → St → Option (AV × Mem) := blockK 1 (K72_8_0 K)
noncomputable abbrev K72_8_2 (K : Ex → St → Option (AV × Mem)) : Ex → St → Option (AV × Mem) := seqK (fun st => execW cfg 72 (AP cfg) (AC cfg) (c2 (c2 (c1 (c1 (c2 (c1 (c1 (c2 (c1 (c2 (c2 (c2 (bodyOf f72))))))))))))) st (K72_8_1 K)) (K72_8_1 K)
noncomputable abbrev K72_8_3 (K : Ex → St → Option (AV × Mem)) : Ex → St → Option (AV × Mem) := blockK 2 (K72_8_2 K)
noncomputable abbrev K72_8 (K : Ex → St → Option (AV × Mem)) : Ex → St → Option (AV × Mem) := (K72_8_3 K)
theorem T72 (a0 a1 : AV) (m : Mem) : AC cfg 72 [a0, a1] m =
  (pcall (AP cfg) none m 103 [a0]).bind fun r1 =>
  (pcall (AP cfg) none r1.2 103 [a1]).bind fun r2 =>
  (lenA false r1.1).bind fun v3 =>
  (lenA false r2.1).bind fun v4 =>
  (binA .other .add v3 v4).bind fun v5 =>
  (makeA none 116 none (.int .u32 0) 4 r2.2 v5 v5).bind fun r6 =>
  L72_4 r1.1 r2.1 r6.1 (.int .i64 0) r6.2 (K72_4 (finK cfg.P f72.results.toList)) :=
(AC_eq cfg 72 [a0, a1] m (fn := f72) (c := bodyOf f72) at72 rfl).trans (by kernel_rfl)
theorem L72_4_eq (x0 x1 x5 x6 : AV) (m : Mem) (K : Ex → St → Option (AV × Mem)) : L72_4 x0 x1 x5 x6 m K =
  (lenA false x0).bind fun v1 =>
  (binA .other .lss x6 v1).bind fun v2 =>
  ifA v2 (
  L72_8 x0 x1 x5 x6 (.int .u64 0) (.int .i64 0) m (K72_8 K)) (
  K (.exit 0) (O72_4 x5 m)) :=
(loopW_eq (execW_lin _) _ _ _).trans (by kernel_rfl)
theorem L72_8_eq (x0 x1 x5 x6 x7 x8 : AV) (m : Mem) (K : Ex → St → Option (AV × Mem)) : L72_8 x0 x1 x5 x6 x7 x8 m K =
  (lenA false x1).bind fun v1 =>
  (binA .other .lss x8 v1).bind fun v2 =>
  ifA v2 (
  (indexAddrA none x0 x6).bind fun v3 =>
  (loadA none m v3).bind fun v4 =>
  (convA .u64 v4).bind fun v5 =>
  (indexAddrA none x1 x8).bind fun v6 =>
  (loadA none m v6).bind fun v7 =>
  (convA .u64 v7).bind fun v8 =>
  (binA .other .mul v5 v8).bind fun v9 =>
  (binA .other .add x6 x8).bind fun v10 =>
  (indexAddrA none x5 v10).bind fun v11 =>
  (loadA none m v11).bind fun v12 =>
  (convA .u64 v12).bind fun v13 =>
  (binA .other .add v9 v13).bind fun v14 =>
  (binA .other .add v14 x7).bind fun v15 =>
  (binA .other .add x6 x8).bind fun v16 =>
  (binA .other .rem v15 (.int .u64 4294967296)).bind fun v17 =>
  (convA .u32 v17).bind fun v18 =>
  (indexAddrA none x5 v16).bind fun v19 =>
  (storeA none m v19 v18).bind fun m20 =>
  (binA .other .quo v15 (.int .u64 4294967296)).bind fun v21 =>
  (binA .other .add x8 (.int .i64 1)).bind fun v22 =>
  L72_8 x0 x1 x5 x6 v21 v22 m20 K) (
  K (.exit 2) (O72_8 x0 x1 x5 x6 x7 m)) :=
(loopW_eq (execW_lin _) _ _ _).trans (by kernel_rfl)
theorem K72_4_x0 (x5 : AV) (m : Mem) : K72_4 (finK cfg.P f72.results.toList) (.exit 0) (O72_4 x5 m) =
  (pcall (AP cfg) none m 103 [x5]).bind fun r1 =>
  some (r1.1, r1.2) := by kernel_rfl
theorem K72_8_x2 (x0 x1 x5 x6 x7 : AV) (m : Mem) (K : Ex → St → Option (AV × Mem)) : K72_8 K (.exit 2) (O72_8 x0 x1 x5 x6 x7 m) =
  (lenA false x1).bind fun v1 =>
  (binA .other .add x6 v1).bind fun v2 =>
  (convA .u32 x7).bind fun v3 =>
  (indexAddrA none x5 v2).bind fun v4 =>
  (storeA none m v4 v3).bind fun m5 =>
  (binA .other .add x6 (.int .i64 1)).bind fun v6 =>
  L72_4 x0 x1 x5 v6 m5 K := by kernel_rfl
/-! ### sortilege/sortilegeref01.Right -/
theorem T97 (a0 : AV) (m : Mem) : AC cfg 97 [a0] m =
  (lenA false a0).bind fun v1 =>
  (binA .other .eql v1 (.int .i64 0)).bind fun v2 =>
  ifA v2 (
  some ((.bool true), m)) (
  (lenA false a0).bind fun v3 =>
  (binA .other .sub v3 (.int .i64 1)).bind fun v4 =>
  (indexAddrA none a0 v4).bind fun v5 =>
  (loadA none m v5).bind fun v6 =>
  (binA .other .neq v6 (.int .u32 0)).bind fun v7 =>
  some (v7, m)) :=
(AC_eq cfg 97 [a0] m (fn := f97) (c := bodyOf f97) at97 rfl).trans (by kernel_rfl)
/-! ### sortilege/sortilegeref01.Compare -/
def O98_7 (m : Mem) : St := ⟨[.any, .any, .any, .any, .any, .any, .any, .any, .any, .any, .any, .any, .any, .any, .any, .any, .any, .any, .any, .any, .any, .any, .any, .any, .any, .any, .any, .any, .any, .any, .any, .any, .any, .any, .any, .any, .any, .any, .any, .any, .any, .any, .any, .any, .any], m⟩
def R98_7 (x4 : AV) (m : Mem) : St := ⟨[.any, .any, .any, .any, x4, .any, .any, .any, .any, .any, .any, .any, .any, .any, .any, .any, .any, .any, .any, .any, .any, .any, .any, .any, .any, .any, .any, .any, .any, .any, .any, .any, .any, .any, .any, .any, .any, .any, .any, .any, .any, .any, .any, .any, .any], m⟩
noncomputable def L98_7 (x0 x1 x5 : AV) (m : Mem) (K : Ex → St → Option (AV × Mem)) : Option (AV × Mem) := loopW (execW cfg 98 (AP cfg) (AC cfg) (c1 (c1 (c2 (c1 (c2 (c2 (c2 (bodyOf f98))))))))) (cfg.mask 98 (some 7)) ⟨[x0, x1, .any, .any, .any, x5, .any, .any, .any, .any, .any, .any, .any, .any, .any, .any, .any, .any, .any, .any, .any, .any, .any, .any, .any, .any, .any, .any, .any, .any, .any, .any, .any, .any, .any, .any, .any, .any, .any, .any, .any, .any, .any, .any, .any], m⟩ K
noncomputable abbrev K98_7_0 (K : Ex → St → Option (AV × Mem)) : Ex → St → Option (AV × Mem) := seqK (fun st => execW cfg 98 (AP cfg) (AC cfg) (c2 (c2 (c2 (c2 (bodyOf f98))))) st K) K
noncomputable abbrev K98_7_1 (K : Ex → St → Option (AV × Mem)) : Ex → St → Option (AV × Mem) := blockK 0 (K98_7_0 K)
noncomputable abbrev K98_7 (K : Ex → St → Option (AV × Mem)) : Ex → St → Option (AV × Mem) := (K98_7_1 K)
theorem T98 (a0 a1 : AV) (m : Mem) : AC cfg 98 [a0, a1] m =
  (pcall (AP cfg) none m 103 [a0]).bind fun r1 =>
  (pcall (AP cfg) none r1.2 103 [a1]).bind fun r2 =>
  (lenA false r1.1).bind fun v3 =>
  (lenA false r2.1).bind fun v4 =>
  (binA .other .neq v3 v4).bind fun v5 =>
  ifA v5 (
  (lenA false r1.1).bind fun v6 =>
  (lenA false r2.1).bind fun v7 =>
  (binA .other .lss v6 v7).bind fun v8 =>
  ifA v8 (
  some ((.int .i64 (-1)), r2.2)) (
  some ((.int .i64 1), r2.2))) (
  (lenA false r1.1).bind fun v9 =>
  (binA .other .sub v9 (.int .i64 1)).bind fun v10 =>
  L98_7 r1.1 r2.1 v10 r2.2 (K98_7 (finK cfg.P f98.results.toList))) :=
(AC_eq cfg 98 [a0, a1] m (fn := f98) (c := bodyOf f98) at98 rfl).trans (by kernel_rfl)
theorem L98_7_eq (x0 x1 x5 : AV) (m : Mem) (K : Ex → St → Option (AV × Mem)) : L98_7 x0 x1 x5 m K =
  (binA .other .geq x5 (.int .i64 0)).bind fun v1 =>
  ifA v1 (
  (indexAddrA none x0 x5).bind fun v2 =>
  (loadA none m v2).bind fun v3 =>
  (indexAddrA none x1 x5).bind fun v4 =>
  (loadA none m v4).bind fun v5 =>
  (binA .other .neq v3 v5).bind fun v6 =>
  ifA v6 (
  (indexAddrA none x0 x5).bind fun v7 =>
  (loadA none m v7).bind fun v8 =>
  (indexAddrA none x1 x5).bind fun v9 =>
  (loadA none m v9).bind fun v10 =>
  (binA .other .lss v8 v10).bind fun v11 =>
  ifA v11 (
  K .ret (R98_7 (.int .i64 (-1)) m)) (
  K .ret (R98_7 (.int .i64 1) m))) (
  (binA .other .sub x5 (.int .i64 1)).bind fun v12 =>
  L98_7 x0 x1 v12 m K)) (
  K (.exit 0) (O98_7 m)) :=
(loopW_eq (execW_lin _) _ _ _).trans (by kernel_rfl)
theorem K98_7_x0 (m : Mem) : K98_7 (finK cfg.P f98.results.toList) (.exit 0) (O98_7  m) =
  some ((.int .i64 0), m) := by kernel_rfl
theorem K98_7_ret (x4 : AV) (m : Mem) : K98_7 (finK cfg.P f98.results.toList) .ret (R98_7 x4 m) =
  some (x4, m) := by kernel_rfl
/-! ### sortilege/sortilegeref01.Gcd -/
def O99_5 (x5 : AV) (m : Mem) : St := ⟨[.any, .any, .any, .any, .any, x5, .any, .any, .any, .any, .any, .any, .any, .any, .any, .any, .any, .any, .any, .any, .any, .any, .any, .any, .any, .any, .any, .any, .any, .any, .any, .any, .any, .any, .any, .any, .any, .any, .any, .any, .any, .any, .any, .any, .any, .any, .any, .any, .any, .any, .any, .any, .any, .any, .any, .any, .any, .any, .any, .any, .any, .any, .any, .any, .any, .any, .any, .any, .any, .any, .any, .any, .any, .any, .any, .any, .any, .any, .any, .any, .any, .any, .any, .any], m⟩
noncomputable def L99_5 (x5 x7 : AV) (m : Mem) (K : Ex → St → Option (AV × Mem)) : Option (AV × Mem) := loopW (execW cfg 99 (AP cfg) (AC cfg) (c1 (c1 (c1 (c1 (c2 (c1 (c2 (c2 (c2 (c2 (bodyOf f99)))))))))))) (cfg.mask 99 (some 5)) ⟨[.any, .any, .any, .any, .any, x5, .any, x7, .any, .any, .any, .any, .any, .any, .any, .any, .any, .any, .any, .any, .any, .any, .any, .any, .any, .any, .any, .any, .any, .any, .any, .any, .any, .any, .any, .any, .any, .any, .any, .any, .any, .any, .any, .any, .any, .any, .any, .any, .any, .any, .any, .any, .any, .any, .any, .any, .any, .any, .any, .any, .any, .any, .any, .any, .any, .any, .any, .any, .any, .any, .any, .any, .any, .any, .any, .any, .any, .any, .any, .any, .any, .any, .any, .any], m⟩ K
def O99_13 (x0 x1 x9 : AV) (m : Mem) : St := ⟨[x0, x1, .any, .any, .any, .any, .any, .any, .any, x9, .any, .any, .any, .any, .any, .any, .any, .any, .any, .any, .any, .any, .any, .any, .any, .any, .any, .any, .any, .any, .any, .any, .any, .any, .any, .any, .any, .any, .any, .any, .any, .any, .any, .any, .any, .any, .any, .any, .any, .any, .any, .any, .any, .any, .any, .any, .any, .any, .any, .any, .any, .any, .any, .any, .any, .any, .any, .any, .any, .any, .any, .any, .any, .any, .any, .any, .any, .any, .any, .any, .any, .any, .any, .any], m⟩
noncomputable def L99_13 (x0 x1 x9 : AV) (m : Mem) (K : Ex → St → Option (AV × Mem)) : Option (AV × Mem) := loopW (execW cfg 99 (AP cfg) (AC cfg) (c1 (c1 (c1 (c2 (c2 (c2 (c2 (c2 (c2 (c2 (c2 (bodyOf f99))))))))))))) (cfg.mask 99 (some 13)) ⟨[x0, x1, .any, .any, .any, .any, .any, .any, .any, x9, .any, .any, .any, .any, .any, .any, .any, .any, .any, .any, .any, .any, .any, .any, .any, .any, .any, .any, .any, .any, .any, .any, .any, .any, .any, .any, .any, .any, .any, .any, .any, .any, .any, .any, .any, .any, .any, .any, .any, .any, .any, .any, .any, .any, .any, .any, .any, .any, .any, .any, .any, .any, .any, .any, .any, .any, .any, .any, .any, .any, .any, .any, .any, .any, .any, .any, .any, .any, .any, .any, .any, .any, .any, .any], m⟩ K
def O99_15 (x0 x9 : AV) (m : Mem) : St := ⟨[x0, .any, .any, .any, .any, .any, .any, .any, .any, x9, .any, .any, .any, .any, .any, .any, .any, .any, .any, .any, .any, .any, .any, .any, .any, .any, .any, .any, .any, .any, .any, .any, .any, .any, .any, .any, .any, .any, .any, .any, .any, .any, .any, .any, .any, .any, .any, .any, .any, .any, .any, .any, .any, .any, .any, .any, .any, .any, .any, .any, .any, .any, .any, .any, .any, .any, .any, .any, .any, .any, .any, .any, .any, .any, .any, .any, .any, .any, .any, .any, .any, .any, .any, .any], m⟩
noncomputable def L99_15 (x0 x1 x9 : AV) (m : Mem) (K : Ex → St → Option (AV × Mem)) : Option (AV × Mem) := loopW (execW cfg 99 (AP cfg) (AC cfg) (c1 (c1 (c1 (c2 (c2 (c2 (c2 (c2 (c2 (c2 (c2 (c2 (bodyOf f99)))))))))))))) (cfg.mask 99 (some 15)) ⟨[x0, x1, .any, .any, .any, .any, .any, .any, .any, x9, .any, .any, .any, .any, .any, .any, .any, .any, .any, .any, .any, .any, .any, .any, .any, .any, .any, .any, .any, .any, .any, .any, .any, .any, .any, .any, .any, .any, .any, .any, .any, .any, .any, .any, .any, .any, .any, .any, .any, .any, .any, .any, .any, .any, .any, .any, .any, .any, .any, .any, .any, .any, .any, .any, .any, .any, .any, .any, .any, .any, .any, .any, .any, .any, .any, .any, .any, .any, .any, .any, .any, .any, .any, .any], m⟩ K
def O99_16 (x0 x1 x9 : AV) (m : Mem) : St := ⟨[x0, x1, .any, .any, .any, .any, .any, .any, .any, x9, .any, .any, .any, .any, .any, .any, .any, .any, .any, .any, .any, .any, .any, .any, .any, .any, .any, .any, .any, .any, .any, .any, .any, .any, .any, .any, .any, .any, .any, .any, .any, .any, .any, .any, .any, .any, .any, .any, .any, .any, .any, .any, .any, .any, .any, .any, .any, .any, .any, .any, .any, .any, .any, .any, .any, .any, .any, .any, .any, .any, .any, .any, .any, .any, .any, .any, .any, .any, .any, .any, .any, .any, .any, .any], m⟩
noncomputable def L99_16 (x0 x1 x9 : AV) (m : Mem) (K : Ex → St → Option (AV × Mem)) : Option (AV × Mem) := loopW (execW cfg 99 (AP cfg) (AC cfg) (c1 (c1 (c1 (c1 (c2 (c1 (c1 (c1 (c2 (c2 (c2 (c2 (c2 (c2 (c2 (c2 (c2 (bodyOf f99))))))))))))))))))) (cfg.mask 99 (some 16)) ⟨[x0, x1, .any, .any, .any, .any, .any, .any, .any, x9, .any, .any, .any, .any, .any, .any, .any, .any, .any, .any, .any, .any, .any, .any, .any, .any, .any, .any, .any, .any, .any, .any, .any, .any, .any, .any, .any, .any, .any, .any, .any, .any, .any, .any, .any, .any, .any, .any, .any, .any, .any, .any, .any, .any, .any, .any, .any, .any, .any, .any, .any, .any, .any, .any, .any, .any, .any, .any, .any, .any, .any, .any, .any, .any, .any, .any, .any, .any, .any, .any, .any, .any, .any, .any], m⟩ K
def O99_18 (x0 x1 x9 : AV) (m : Mem) : St := ⟨[x0, x1, .any, .any, .any, .any, .any, .any, .any, x9, .any, .any, .any, .any, .any, .any, .any, .any, .any, .any, .any, .any, .any, .any, .any, .any, .any, .any, .any, .any, .any, .any, .any, .any, .any, .any, .any, .any, .any, .any, .any, .any, .any, .any, .any, .any, .any, .any, .any, .any, .any, .any, .any, .any, .any, .any, .any, .any, .any, .any, .any, .any, .any, .any, .any, .any, .any, .any, .any, .any, .any, .any, .any, .any, .any, .any, .any, .any, .any, .any, .any, .any, .any, .any], m⟩
noncomputable def L99_18 (x0 x1 x9 : AV) (m : Mem) (K : Ex → St → Option (AV × Mem)) : Option (AV × Mem) := loopW (execW cfg 99 (AP cfg) (AC cfg) (c1 (c1 (c1 (c2 (c1 (c2 (c1 (c1 (c1 (c2 (c2 (c2 (c2 (c2 (c2 (c2 (c2 (c2 (bodyOf f99)))))))))))))))))))) (cfg.mask 99 (some 18)) ⟨[x0, x1, .any, .any, .any, .any, .any, .any, .any, x9, .any, .any, .any, .any, .any, .any, .any, .any, .any, .any, .any, .any, .any, .any, .any, .any, .any, .any, .any, .any, .any, .any, .any, .any, .any, .any, .any, .any, .any, .any, .any, .any, .any, .any, .any, .any, .any, .any, .any, .any, .any, .any, .any, .any, .any, .any, .any, .any, .any, .any, .any, .any, .any, .any, .any, .any, .any, .any, .any, .any, .any, .any, .any, .any, .any, .any, .any, .any, .any, .any, .any, .any, .any, .any], m⟩ K
noncomputable abbrev K99_5_0 (K : Ex → St → Option (AV × Mem)) : Ex → St → Option (AV × Mem) := seqK (fun st => execW cfg 99 (AP cfg) (AC cfg) (c2 (c2 (c2 (c2 (c2 (bodyOf f99)))))) st K) K
noncomputable abbrev K99_5_1 (K : Ex → St → Option (AV × Mem)) : Ex → St → Option (AV × Mem) := seqK (fun st => execW cfg 99 (AP cfg) (AC cfg) (c2 (c1 (c2 (c1 (c2 (c2 (c2 (c2 (bodyOf f99))))))))) st (K99_5_0 K)) (K99_5_0 K)
noncomputable abbrev K99_5_2 (K : Ex → St → Option (AV × Mem)) : Ex → St → Option (AV × Mem) := blockK 0 (K99_5_1 K)
noncomputable abbrev K99_5 (K : Ex → St → Option (AV × Mem)) : Ex → St → Option (AV × Mem) := (K99_5_2 K)
noncomputable abbrev K99_13_0 (K : Ex → St → Option (AV × Mem)) : Ex → St → Option (AV × Mem) := seqK (fun st => execW cfg 99 (AP cfg) (AC cfg) (c2 (c2 (c2 (c2 (c2 (c2 (c2 (c2 (c2 (bodyOf f99)))))))))) st K) K
noncomputable abbrev K99_13_1 (K : Ex → St → Option (AV × Mem)) : Ex → St → Option (AV × Mem) := blockK 2 (K99_13_0 K)
noncomputable abbrev K99_13 (K : Ex → St → Option (AV × Mem)) : Ex → St → Option (AV × Mem) := (K99_13_1 K)
noncomputable abbrev K99_16_0 (K : Ex → St → Option (AV × Mem)) : Ex → St → Option (AV × Mem) := blockK 5 (roundG (fun st => loopW (execW cfg 99 (AP cfg) (AC cfg) (c1 (c1 (c1 (c2 (c2 (c2 (c2 (c2 (c2 (c2 (c2 (c2 (bodyOf f99)))))))))))))) (cfg.mask 99 (some 15)) st K) (cfg.mask 99 (some 15)) K)
noncomputable abbrev K99_16_1 (K : Ex → St → Option (AV × Mem)) : Ex → St → Option (AV × Mem) := seqK (fun st => execW cfg 99 (AP cfg) (AC cfg) (c2 (c1 (c2 (c1 (c1 (c1 (c2 (c2 (c2 (c2 (c2 (c2 (c2 (c2 (c2 (bodyOf f99)))))))))))))))) st (K99_16_0 K)) (K99_16_0 K)
noncomputable abbrev K99_16_2 (K : Ex → St → Option (AV × Mem)) : Ex → St → Option (AV × Mem) := blockK 6 (K99_16_1 K)
noncomputable abbrev K99_16 (K : Ex → St → Option (AV × Mem)) : Ex → St → Option (AV × Mem) := (K99_16_2 K)
noncomputable abbrev K99_15_0 (K : Ex → St → Option (AV × Mem)) : Ex → St → Option (AV × Mem) := seqK (fun st => execW cfg 99 (AP cfg) (AC cfg) (c2 (c2 (c2 (c2 (c2 (c2 (c2 (c2 (c2 (c2 (bodyOf f99))))))))))) st K) K
noncomputable abbrev K99_15_1 (K : Ex → St → Option (AV × Mem)) : Ex → St → Option (AV × Mem) := blockK 4 (K99_15_0 K)
noncomputable abbrev K99_15 (K : Ex → St → Option (AV × Mem)) : Ex → St → Option (AV × Mem) := (K99_15_1 K)
noncomputable abbrev K99_18_0 (K : Ex → St → Option (AV × Mem)) : Ex → St → Option (AV × Mem) := blockK 5 (roundG (fun st => loopW (execW cfg 99 (AP cfg) (AC cfg) (c1 (c1 (c1 (c2 (c2 (c2 (c2 (c2 (c2 (c2 (c2 (c2 (bodyOf f99)))))))))))))) (cfg.mask 99 (some 15)) st K) (cfg.mask 99 (some 15)) K)
noncomputable abbrev K99_18_1 (K : Ex → St → Option (AV × Mem)) : Ex → St → Option (AV × Mem) := seqK (fun st => execW cfg 99 (AP cfg) (AC cfg) (c2 (c2 (c1 (c2 (c1 (c1 (c1 (c2 (c2 (c2 (c2 (c2 (c2 (c2 (c2 (c2 (bodyOf f99))))))))))))))))) st (K99_18_0 K)) (K99_18_0 K)
noncomputable abbrev K99_18_2 (K : Ex → St → Option (AV × Mem)) : Ex → St → Option (AV × Mem) := blockK 8 (K99_18_1 K)
noncomputable abbrev K99_18 (K : Ex → St → Option (AV × Mem)) : Ex → St → Option (AV × Mem) := (K99_18_2 K)
theorem T99 (a0 a1 : AV) (m : Mem) : AC cfg 99 [a0, a1] m =
  (pcall (AP cfg) none m 103 [a0]).bind fun r1 =>
  (pcall (AP cfg) none r1.2 103 [a1]).bind fun r2 =>
  (pcall (AP cfg) none r2.2 126 [r1.1]).bind fun r3 =>
  (extractA r3.1 0).bind fun v4 =>
  (extractA r3.1 1).bind fun v5 =>
  (pcall (AP cfg) none r3.2 126 [r2.1]).bind fun r6 =>
  (extractA r6.1 0).bind fun v7 =>
  (extractA r6.1 1).bind fun v8 =>
  ifA v5 (
  ifA v8 (
  L99_5 v4 v7 r6.2 (K99_5 (finK cfg.P f99.results.toList))) (
  (lenA false r1.1).bind fun v9 =>
  (binA .other .eql v9 (.int .i64 0)).bind fun v10 =>
  ifA v10 (
  some (r2.1, r6.2)) (
  (lenA false r2.1).bind fun v11 =>
  (binA .other .eql v11 (.int .i64 0)).bind fun v12 =>
  ifA v12 (
  some (r1.1, r6.2)) (
  (pcall (AP cfg) none r6.2 70 [(.int .u64 1)]).bind fun r13 =>
  L99_13 r1.1 r2.1 r13.1 r13.2 (K99_13 (finK cfg.P f99.results.toList)))))) (
  (lenA false r1.1).bind fun v14 =>
  (binA .other .eql v14 (.int .i64 0)).bind fun v15 =>
  ifA v15 (
  some (r2.1, r6.2)) (
  (lenA false r2.1).bind fun v16 =>
  (binA .other .eql v16 (.int .i64 0)).bind fun v17 =>
  ifA v17 (
  some (r1.1, r6.2)) (
  (pcall (AP cfg) none r6.2 70 [(.int .u64 1)]).bind fun r18 =>
  L99_13 r1.1 r2.1 r18.1 r18.2 (K99_13 (finK cfg.P f99.results.toList))))) :=
(AC_eq cfg 99 [a0, a1] m (fn := f99) (c := bodyOf f99) at99 rfl).trans (by kernel_rfl)
theorem L99_5_eq (x5 x7 : AV) (m : Mem) (K : Ex → St → Option (AV × Mem)) : L99_5 x5 x7 m K =
  (binA .other .neq x7 (.int .u64 0)).bind fun v1 =>
  ifA v1 (
  (binA .other .rem x5 x7).bind fun v2 =>
  L99_5 x7 v2 m K) (
  K (.exit 0) (O99_5 x5 m)) :=
(loopW_eq (execW_lin _) _ _ _).trans (by kernel_rfl)
theorem L99_13_eq (x0 x1 x9 : AV) (m : Mem) (K : Ex → St → Option (AV × Mem)) : L99_13 x0 x1 x9 m K =
  (pcall (AP cfg) none m 127 [x0]).bind fun r1 =>
  ifA r1.1 (
  (pcall (AP cfg) none r1.2 127 [x1]).bind fun r2 =>
  ifA r2.1 (
  (pcall (AP cfg) none r2.2 128 [x0]).bind fun r3 =>
  (pcall (AP cfg) none r3.2 128 [x1]).bind fun r4 =>
  (pcall (AP cfg) none r4.2 111 [x9, x9]).bind fun r5 =>
  L99_13 r3.1 r4.1 r5.1 r5.2 K) (
  K (.exit 2) (O99_13 x0 x1 x9 r2.2))) (
  K (.exit 2) (O99_13 x0 x1 x9 r1.2)) :=
(loopW_eq (execW_lin _) _ _ _).trans (by kernel_rfl)
theorem L99_15_eq (x0 x1 x9 : AV) (m : Mem) (K : Ex → St → Option (AV × Mem)) : L99_15 x0 x1 x9 m K =
  (lenA false x1).bind fun v1 =>
  (binA .other .gtr v1 (.int .i64 0)).bind fun v2 =>
  ifA v2 (
  L99_16 x0 x1 x9 m (K99_16 K)) (
  K (.exit 4) (O99_15 x0 x9 m)) :=
(loopW_eq (execW_lin _) _ _ _).trans (by kernel_rfl)
theorem L99_16_eq (x0 x1 x9 : AV) (m : Mem) (K : Ex → St → Option (AV × Mem)) : L99_16 x0 x1 x9 m K =
  (pcall (AP cfg) none m 127 [x0]).bind fun r1 =>
  ifA r1.1 (
  (pcall (AP cfg) none r1.2 128 [x0]).bind fun r2 =>
  L99_16 r2.1 x1 x9 r2.2 K) (
  K (.exit 6) (O99_16 x0 x1 x9 r1.2)) :=
(loopW_eq (execW_lin _) _ _ _).trans (by kernel_rfl)
theorem L99_18_eq (x0 x1 x9 : AV) (m : Mem) (K : Ex → St → Option (AV × Mem)) : L99_18 x0 x1 x9 m K =
  (pcall (AP cfg) none m 127 [x1]).bind fun r1 =>
  ifA r1.1 (
  (pcall (AP cfg) none r1.2 128 [x1]).bind fun r2 =>
  L99_18 x0 r2.1 x9 r2.2 K) (
  K (.exit 8) (O99_18 x0 x1 x9 r1.2)) :=
(loopW_eq (execW_lin _) _ _ _).trans (by kernel_rfl)
theorem K99_5_x0 (x5 : AV) (m : Mem) : K99_5 (finK cfg.P f99.results.toList) (.exit 0) (O99_5 x5 m) =
  (pcall (AP cfg) none m 70 [x5]).bind fun r1 =>
  some (r1.1, r1.2) := by kernel_rfl
theorem K99_13_x2 (x0 x1 x9 : AV) (m : Mem) : K99_13 (finK cfg.P f99.results.toList) (.exit 2) (O99_13 x0 x1 x9 m) =
  L99_15 x0 x1 x9 m (K99_15 (finK cfg.P f99.results.toList)) := by kernel_rfl
theorem K99_16_x6 (x0 x1 x9 : AV) (m : Mem) (K : Ex → St → Option (AV × Mem)) : K99_16 K (.exit 6) (O99_16 x0 x1 x9 m) =
  L99_18 x0 x1 x9 m (K99_18 K) := by kernel_rfl
theorem K99_15_x4 (x0 x9 : AV) (m : Mem) : K99_15 (finK cfg.P f99.results.toList) (.exit 4) (O99_15 x0 x9 m) =
  (pcall (AP cfg) none m 72 [x0, x9]).bind fun r1 =>
  some (r1.1, r1.2) := by kernel_rfl
theorem K99_18_x8 (x0 x1 x9 : AV) (m : Mem) (K : Ex → St → Option (AV × Mem)) : K99_18 K (.exit 8) (O99_18 x0 x1 x9 m) =
  (pcall (AP cfg) none m 98 [x0, x1]).bind fun r1 =>
  (binA .other .gtr r1.1 (.int .i64 0)).bind fun v2 =>
  ifA v2 (
  (pcall (AP cfg) none r1.2 112 [x0, x1]).bind fun r3 =>
  (extractA r3.1 0).bind fun v4 =>
  (extractA r3.1 1).bind fun v5 =>
  L99_15 x1 v4 x9 r3.2 K) (
  (pcall (AP cfg) none r1.2 112 [x1, x0]).bind fun r6 =>
  (extractA r6.1 0).bind fun v7 =>
  (extractA r6.1 1).bind fun v8 =>
  L99_15 x0 v7 x9 r6.2 K) := by kernel_rfl
/-! ### sortilege/sortilegeref01.Bits -/
def O101_6 (x3 : AV) (m : Mem) : St := ⟨[.any, .any, .any, x3, .any, .any, .any, .any, .any, .any, .any, .any, .any, .any, .any, .any, .any, .any, .any, .any, .any, .any, .any, .any, .any, .any, .any], m⟩
noncomputable def L101_6 (x3 x4 : AV) (m : Mem) (K : Ex → St → Option (AV × Mem)) : Option (AV × Mem) := loopW (execW cfg 101 (AP cfg) (AC cfg) (c1 (c1 (c2 (c1 (c2 (c2 (c2 (c2 (bodyOf f101)))))))))) (cfg.mask 101 (some 6)) ⟨[.any, .any, .any, x3, x4, .any, .any, .any, .any, .any, .any, .any, .any, .any, .any, .any, .any, .any, .any, .any, .any, .any, .any, .any, .any, .any, .any], m⟩ K
noncomputable abbrev K101_6_0 (K : Ex → St → Option (AV × Mem)) : Ex → St → Option (AV × Mem) := seqK (fun st => execW cfg 101 (AP cfg) (AC cfg) (c2 (c2 (c2 (c2 (c2 (bodyOf f101)))))) st K) K
noncomputable abbrev K101_6_1 (K : Ex → St → Option (AV × Mem)) : Ex → St → Option (AV × Mem) := blockK 0 (K101_6_0 K)
noncomputable abbrev K101_6 (K : Ex → St → Option (AV × Mem)) : Ex → St → Option (AV × Mem) := (K101_6_1 K)
theorem T101 (a0 : AV) (m : Mem) : AC cfg 101 [a0] m =
  (pcall (AP cfg) none m 103 [a0]).bind fun r1 =>
  (lenA false r1.1).bind fun v2 =>
  (binA .other .eql v2 (.int .i64 0)).bind fun v3 =>
  ifA v3 (
  some ((.int .i64 0), r1.2)) (
  (lenA false r1.1).bind fun v4 =>
  (binA .other .sub v4 (.int .i64 1)).bind fun v5 =>
  (binA .other .mul (.int .i64 32) v5).bind fun v6 =>
  (lenA false r1.1).bind fun v7 =>
  (binA .other .sub v7 (.int .i64 1)).bind fun v8 =>
  (indexAddrA none r1.1 v8).bind fun v9 =>
  (loadA none r1.2 v9).bind fun v10 =>
  L101_6 v6 v10 r1.2 (K101_6 (finK cfg.P f101.results.toList))) :=
(AC_eq cfg 101 [a0] m (fn := f101) (c := bodyOf f101) at101 rfl).trans (by kernel_rfl)
theorem L101_6_eq (x3 x4 : AV) (m : Mem) (K : Ex → St → Option (AV × Mem)) : L101_6 x3 x4 m K =
  (binA .other .gtr x4 (.int .u32 0)).bind fun v1 =>
  ifA v1 (
  (binA .other .add x3 (.int .i64 1)).bind fun v2 =>
  (binA .other .quo x4 (.int .u32 2)).bind fun v3 =>
  L101_6 v2 v3 m K) (
  K (.exit 0) (O101_6 x3 m)) :=
(loopW_eq (execW_lin _) _ _ _).trans (by kernel_rfl)
theorem K101_6_x0 (x3 : AV) (m : Mem) : K101_6 (finK cfg.P f101.results.toList) (.exit 0) (O101_6 x3 m) =
  some (x3, m) := by kernel_rfl
/-! ### sortilege/sortilegeref01.Div -/
def O102_11 (x0 x9 : AV) (m : Mem) : St := ⟨[x0, .any, .any, .any, .any, .any, .any, .any, .any, x9, .any, .any, .any, .any, .any, .any, .any, .any, .any, .any, .any, .any, .any, .any, .any, .any, .any, .any, .any, .any, .any, .any, .any, .any, .any, .any, .any, .any, .any, .any, .any, .any, .any, .any, .any, .any, .any, .any, .any, .any, .any, .any, .any, .any, .any, .any, .any, .any, .any, .any, .any, .any, .any, .any, .any, .any, .any, .any, .any, .any, .any, .any, .any, .any, .any, .any, .any, .any, .any, .any, .any, .any, .any, .any, .any, .any, .any, .any, .any, .any, .any, .any, .any, .any, .any, .any, .any, .any], m⟩
noncomputable def L102_11 (x0 x1 x9 x10 : AV) (m : Mem) (K : Ex → St → Option (AV × Mem)) : Option (AV × Mem) := loopW (execW cfg 102 (AP cfg) (AC cfg) (c1 (c1 (c2 (c1 (c2 (c2 (c2 (c2 (c2 (c2 (bodyOf f102)))))))))))) (cfg.mask 102 (some 11)) ⟨[x0, x1, .any, .any, .any, .any, .any, .any, .any, x9, x10, .any, .any, .any, .any, .any, .any, .any, .any, .any, .any, .any, .any, .any, .any, .any, .any, .any, .any, .any, .any, .any, .any, .any, .any, .any, .any, .any, .any, .any, .any, .any, .any, .any, .any, .any, .any, .any, .any, .any, .any, .any, .any, .any, .any, .any, .any, .any, .any, .any, .any, .any, .any, .any, .any, .any, .any, .any, .any, .any, .any, .any, .any, .any, .any, .any, .any, .any, .any, .any, .any, .any, .any, .any, .any, .any, .any, .any, .any, .any, .any, .any, .any, .any, .any, .any, .any, .any], m⟩ K
def O102_14 (x0 x1 x9 x10 x11 : AV) (m : Mem) : St := ⟨[x0, x1, .any, .any, .any, .any, .any, .any, .any, x9, x10, x11, .any, .any, .any, .any, .any, .any, .any, .any, .any, .any, .any, .any, .any, .any, .any, .any, .any, .any, .any, .any, .any, .any, .any, .any, .any, .any, .any, .any, .any, .any, .any, .any, .any, .any, .any, .any, .any, .any, .any, .any, .any, .any, .any, .any, .any, .any, .any, .any, .any, .any, .any, .any, .any, .any, .any, .any, .any, .any, .any, .any, .any, .any, .any, .any, .any, .any, .any, .any, .any, .any, .any, .any, .any, .any, .any, .any, .any, .any, .any, .any, .any, .any, .any, .any, .any, .any], m⟩
noncomputable def L102_14 (x0 x1 x9 x10 x11 x12 : AV) (m : Mem) (K : Ex → St → Option (AV × Mem)) : Option (AV × Mem) := loopW (execW cfg 102 (AP cfg) (AC cfg) (c1 (c1 (c1 (c2 (c1 (c1 (c2 (c1 (c1 (c2 (c1 (c2 (c2 (c2 (c2 (c2 (c2 (bodyOf f102))))))))))))))))))) (cfg.mask 102 (some 14)) ⟨[x0, x1, .any, .any, .any, .any, .any, .any, .any, x9, x10, x11, x12, .any, .any, .any, .any, .any, .any, .any, .any, .any, .any, .any, .any, .any, .any, .any, .any, .any, .any, .any, .any, .any, .any, .any, .any, .any, .any, .any, .any, .any, .any, .any, .any, .any, .any, .any, .any, .any, .any, .any, .any, .any, .any, .any, .any, .any, .any, .any, .any, .any, .any, .any, .any, .any, .any, .any, .any, .any, .any, .any, .any, .any, .any, .any, .any, .any, .any, .any, .any, .any, .any, .any, .any, .any, .any, .any, .any, .any, .any, .any, .any, .any, .any, .any, .any, .any], m⟩ K
noncomputable abbrev K102_11_0 (K : Ex → St → Option (AV × Mem)) : Ex → St → Option (AV × Mem) := seqK (fun st => execW cfg 102 (AP cfg) (AC cfg) (c2 (c2 (c2 (c2 (c2 (c2 (c2 (bodyOf f102)))))))) st K) K
noncomputable abbrev K102_11_1 (K : Ex → St → Option (AV × Mem)) : Ex → St → Option (AV × Mem) := blockK 0 (K102_11_0 K)
noncomputable abbrev K102_11 (K : Ex → St → Option (AV × Mem)) : Ex → St → Option (AV × Mem) := (K102_11_1 K)
noncomputable abbrev K102_14_0 (K : Ex → St → Option (AV × Mem)) : Ex → St → Option (AV × Mem) := seqK (fun st => execW cfg 102 (AP cfg) (AC cfg) (c2 (c2 (c1 (c1 (c2 (c1 (c2 (c2 (c2 (c2 (c2 (c2 (bodyOf f102))))))))))))) st (roundG (fun st => loopW (execW cfg 102 (AP cfg) (AC cfg) (c1 (c1 (c2 (c1 (c2 (c2 (c2 (c2 (c2 (c2 (bodyOf f102)))))))))))) (cfg.mask 102 (some 11)) st K) (cfg.mask 102 (some 11)) K)) (roundG (fun st => loopW (execW cfg 102 (AP cfg) (AC cfg) (c1 (c1 (c2 (c1 (c2 (c2 (c2 (c2 (c2 (c2 (bodyOf f102)))))))))))) (cfg.mask 102 (some 11)) st K) (cfg.mask 102 (some 11)) K)
noncomputable abbrev K102_14_1 (K : Ex → St → Option (AV × Mem)) : Ex → St → Option (AV × Mem) := blockK 1 (K102_14_0 K)
noncomputable abbrev K102_14_2 (K : Ex → St → Option (AV × Mem)) : Ex → St → Option (AV × Mem) := seqK (fun st => execW cfg 102 (AP cfg) (AC cfg) (c2 (c2 (c1 (c1 (c2 (c1 (c1 (c2 (c1 (c2 (c2 (c2 (c2 (c2 (c2 (bodyOf f102)))))))))))))))) st (K102_14_1 K)) (K102_14_1 K)
noncomputable abbrev K102_14_3 (K : Ex → St → Option (AV × Mem)) : Ex → St → Option (AV × Mem) := blockK 2 (K102_14_2 K)
noncomputable abbrev K102_14 (K : Ex → St → Option (AV × Mem)) : Ex → St → Option (AV × Mem) := (K102_14_3 K)
theorem T102 (a0 a1 : AV) (m : Mem) : AC cfg 102 [a0, a1] m =
  (pcall (AP cfg) none m 103 [a0]).bind fun r1 =>
  (pcall (AP cfg) none r1.2 103 [a1]).bind fun r2 =>
  (lenA false r2.1).bind fun v3 =>
  (binA .other .eql v3 (.int .i64 0)).bind fun v4 =>
  ifA v4 (
  some ((.tup [(.lst none true .full []), (.lst none true .full []), (.int .i64 31)]), r2.2)) (
  (lenA false r2.1).bind fun v5 =>
  (binA .other .eql v5 (.int .i64 1)).bind fun v6 =>
  ifA v6 (
  (indexAddrA none r2.1 (.int .i64 0)).bind fun v7 =>
  (loadA none r2.2 v7).bind fun v8 =>
  (convA .u64 v8).bind fun v9 =>
  (pcall (AP cfg) none r2.2 129 [r1.1, v9]).bind fun r10 =>
  (extractA r10.1 0).bind fun v11 =>
  (extractA r10.1 1).bind fun v12 =>
  (pcall (AP cfg) none r10.2 70 [v12]).bind fun r13 =>
  some ((.tup [v11, r13.1, (.int .i64 0)]), r13.2)) (
  (lenA false r1.1).bind fun v14 =>
  (lenA false r2.1).bind fun v15 =>
  (binA .other .lss v14 v15).bind fun v16 =>
  ifA v16 (
  some ((.tup [(.lst none true .full []), r1.1, (.int .i64 0)]), r2.2)) (
  (lenA false r1.1).bind fun v17 =>
  (makeA none 116 none (.int .u32 0) 4 r2.2 v17 v17).bind fun r18 =>
  (lenA false r1.1).bind fun v19 =>
  (lenA false r2.1).bind fun v20 =>
  (binA .other .sub v19 v20).bind fun v21 =>
  L102_11 r1.1 r2.1 r18.1 v21 r18.2 (K102_11 (finK cfg.P f102.results.toList))))) :=
(AC_eq cfg 102 [a0, a1] m (fn := f102) (c := bodyOf f102) at102 rfl).trans (by kernel_rfl)
theorem L102_11_eq (x0 x1 x9 x10 : AV) (m : Mem) (K : Ex → St → Option (AV × Mem)) : L102_11 x0 x1 x9 x10 m K =
  (binA .other .geq x10 (.int .i64 0)).bind fun v1 =>
  ifA v1 (
  (pcall (AP cfg) none m 130 [x0, x1, x10]).bind fun r2 =>
  (extractA r2.1 0).bind fun v3 =>
  (extractA r2.1 1).bind fun v4 =>
  L102_14 x0 x1 x9 x10 v3 v4 r2.2 (K102_14 K)) (
  K (.exit 0) (O102_11 x0 x9 m)) :=
(loopW_eq (execW_lin _) _ _ _).trans (by kernel_rfl)
theorem L102_14_eq (x0 x1 x9 x10 x11 x12 : AV) (m : Mem) (K : Ex → St → Option (AV × Mem)) : L102_14 x0 x1 x9 x10 x11 x12 m K =
  (binA .other .lss x11 x12).bind fun v1 =>
  ifA v1 (
  (binA .other .sub x12 x11).bind fun v2 =>
  (binA .other .add v2 (.int .u64 1)).bind fun v3 =>
  (binA .other .quo v3 (.int .u64 2)).bind fun v4 =>
  (binA .other .add x11 v4).bind fun v5 =>
  (pcall (AP cfg) none m 131 [x1, v5, x10]).bind fun r6 =>
  (pcall (AP cfg) none r6.2 98 [r6.1, x0]).bind fun r7 =>
  (binA .other .leq r7.1 (.int .i64 0)).bind fun v8 =>
  ifA v8 (
  L102_14 x0 x1 x9 x10 v5 x12 r7.2 K) (
  (binA .other .sub v5 (.int .u64 1)).bind fun v9 =>
  L102_14 x0 x1 x9 x10 x11 v9 r7.2 K)) (
  K (.exit 2) (O102_14 x0 x1 x9 x10 x11 m)) :=
(loopW_eq (execW_lin _) _ _ _).trans (by kernel_rfl)
theorem K102_11_x0 (x0 x9 : AV) (m : Mem) : K102_11 (finK cfg.P f102.results.toList) (.exit 0) (O102_11 x0 x9 m) =
  (pcall (AP cfg) none m 103 [x9]).bind fun r1 =>
  some ((.tup [r1.1, x0, (.int .i64 0)]), r1.2) := by kernel_rfl
theorem K102_14_x2 (x0 x1 x9 x10 x11 : AV) (m : Mem) (K : Ex → St → Option (AV × Mem)) : K102_14 K (.exit 2) (O102_14 x0 x1 x9 x10 x11 m) =
  (convA .u32 x11).bind fun v1 =>
  (indexAddrA none x9 x10).bind fun v2 =>
  (storeA none m v2 v1).bind fun m3 =>
  (pcall (AP cfg) none m3 131 [x1, x11, x10]).bind fun r4 =>
  (pcall (AP cfg) none r4.2 112 [x0, r4.1]).bind fun r5 =>
  (extractA r5.1 0).bind fun v6 =>
  (extractA r5.1 1).bind fun v7 =>
  (binA .other .sub x10 (.int .i64 1)).bind fun v8 =>
  L102_11 v6 x1 x9 v8 r5.2 K := by kernel_rfl
/-! ### sortilege/sortilegeref01.trim -/
def O103_2 (x0 x3 : AV) (m : Mem) : St := ⟨[x0, .any, .any, x3, .any, .any, .any, .any, .any, .any, .any, .any, .any, .any, .any, .any, .any, .any, .any, .any, .any, .any], m⟩
noncomputable def L103_2 (x0 x3 : AV) (m : Mem) (K : Ex → St → Option (AV × Mem)) : Option (AV × Mem) := loopW (execW cfg 103 (AP cfg) (AC cfg) (c1 (c1 (c1 (c2 (c2 (bodyOf f103))))))) (cfg.mask 103 (some 2)) ⟨[x0, .any, .any, x3, .any, .any, .any, .any, .any, .any, .any, .any, .any, .any, .any, .any, .any, .any, .any, .any, .any, .any], m⟩ K
noncomputable abbrev K103_2_0 (K : Ex → St → Option (AV × Mem)) : Ex → St → Option (AV × Mem) := seqK (fun st => execW cfg 103 (AP cfg) (AC cfg) (c2 (c2 (c2 (bodyOf f103)))) st K) K
noncomputable abbrev K103_2_1 (K : Ex → St → Option (AV × Mem)) : Ex → St → Option (AV × Mem) := blockK 0 (K103_2_0 K)
noncomputable abbrev K103_2 (K : Ex → St → Option (AV × Mem)) : Ex → St → Option (AV × Mem) := (K103_2_1 K)
theorem T103 (a0 : AV) (m : Mem) : AC cfg 103 [a0] m =
  (lenA false a0).bind fun v1 =>
  L103_2 a0 v1 m (K103_2 (finK cfg.P f103.results.toList)) :=
(AC_eq cfg 103 [a0] m (fn := f103) (c := bodyOf f103) at103 rfl).trans (by kernel_rfl)
theorem L103_2_eq (x0 x3 : AV) (m : Mem) (K : Ex → St → Option (AV × Mem)) : L103_2 x0 x3 m K =
  (binA .other .gtr x3 (.int .i64 0)).bind fun v1 =>
  ifA v1 (
  (binA .other .sub x3 (.int .i64 1)).bind fun v2 =>
  (indexAddrA none x0 v2).bind fun v3 =>
  (loadA none m v3).bind fun v4 =>
  (binA .other .eql v4 (.int .u32 0)).bind fun v5 =>
  ifA v5 (
  (binA .other .sub x3 (.int .i64 1)).bind fun v6 =>
  L103_2 x0 v6 m K) (
  K (.exit 0) (O103_2 x0 x3 m))) (
  K (.exit 0) (O103_2 x0 x3 m)) :=
(loopW_eq (execW_lin _) _ _ _).trans (by kernel_rfl)
theorem K103_2_x0 (x0 x3 : AV) (m : Mem) : K103_2 (finK cfg.P f103.results.toList) (.exit 0) (O103_2 x0 x3 m) =
  (sliceT none x0 none (some x3) none).bind fun v1 =>
  (appA none false 116 none 4 m (.lst none true .full []) v1).bind fun r2 =>
  some (r2.1, r2.2) := by kernel_rfl
/-! ### sortilege/sortilegeref01.Add -/
def O111_4 (x5 : AV) (m : Mem) : St := ⟨[.any, .any, .any, .any, .any, x5, .any, .any, .any, .any, .any, .any, .any, .any, .any, .any, .any, .any, .any, .any, .any, .any, .any, .any, .any, .any, .any, .any, .any, .any, .any, .any, .any, .any, .any, .any, .any, .any, .any, .any, .any, .any, .any, .any], m⟩
noncomputable def L111_4 (x0 x1 x5 x6 x7 : AV) (m : Mem) (K : Ex → St → Option (AV × Mem)) : Option (AV × Mem) := loopW (execW cfg 111 (AP cfg) (AC cfg) (c1 (c1 (c2 (c1 (c2 (c2 (c2 (bodyOf f111))))))))) (cfg.mask 111 (some 4)) ⟨[x0, x1, .any, .any, .any, x5, x6, x7, .any, .any, .any, .any, .any, .any, .any, .any, .any, .any, .any, .any, .any, .any, .any, .any, .any, .any, .any, .any, .any, .any, .any, .any, .any, .any, .any, .any, .any, .any, .any, .any, .any, .any, .any, .any], m⟩ K
noncomputable abbrev K111_4_0 (K : Ex → St → Option (AV × Mem)) : Ex → St → Option (AV × Mem) := seqK (fun st => execW cfg 111 (AP cfg) (AC cfg) (c2 (c2 (c2 (c2 (bodyOf f111))))) st K) K
noncomputable abbrev K111_4_1 (K : Ex → St → Option (AV × Mem)) : Ex → St → Option (AV × Mem) := blockK 0 (K111_4_0 K)
noncomputable abbrev K111_4 (K : Ex → St → Option (AV × Mem)) : Ex → St → Option (AV × Mem) := (K111_4_1 K)
theorem T111 (a0 a1 : AV) (m : Mem) : AC cfg 111 [a0, a1] m =
  L111_4 a0 a1 (.lst none true .full []) (.int .u64 0) (.int .i64 0) m (K111_4 (finK cfg.P f111.results.toList)) :=
(AC_eq cfg 111 [a0, a1] m (fn := f111) (c := bodyOf f111) at111 rfl).trans (by kernel_rfl)
theorem L111_4_eq (x0 x1 x5 x6 x7 : AV) (m : Mem) (K : Ex → St → Option (AV × Mem)) : L111_4 x0 x1 x5 x6 x7 m K =
  (lenA false x0).bind fun v1 =>
  (binA .other .lss x7 v1).bind fun v2 =>
  ifA v2 (
  (pcall (AP cfg) none m 133 [x0, x7]).bind fun r3 =>
  (pcall (AP cfg) none r3.2 133 [x1, x7]).bind fun r4 =>
  (binA .other .add r3.1 r4.1).bind fun v5 =>
  (binA .other .add v5 x6).bind fun v6 =>
  (binA .other .rem v6 (.int .u64 4294967296)).bind fun v7 =>
  (convA .u32 v7).bind fun v8 =>
  (buildSliceA none [v8]).bind fun v9 =>
  (appA none false 116 none 4 r4.2 x5 v9).bind fun r10 =>
  (binA .other .quo v6 (.int .u64 4294967296)).bind fun v11 =>
  (binA .other .add x7 (.int .i64 1)).bind fun v12 =>
  L111_4 x0 x1 r10.1 v11 v12 r10.2 K) (
  (lenA false x1).bind fun v13 =>
  (binA .other .lss x7 v13).bind fun v14 =>
  ifA v14 (
  (pcall (AP cfg) none m 133 [x0, x7]).bind fun r15 =>
  (pcall (AP cfg) none r15.2 133 [x1, x7]).bind fun r16 =>
  (binA .other .add r15.1 r16.1).bind fun v17 =>
  (binA .other .add v17 x6).bind fun v18 =>
  (binA .other .rem v18 (.int .u64 4294967296)).bind fun v19 =>
  (convA .u32 v19).bind fun v20 =>
  (buildSliceA none [v20]).bind fun v21 =>
  (appA none false 116 none 4 r16.2 x5 v21).bind fun r22 =>
  (binA .other .quo v18 (.int .u64 4294967296)).bind fun v23 =>
  (binA .other .add x7 (.int .i64 1)).bind fun v24 =>
  L111_4 x0 x1 r22.1 v23 v24 r22.2 K) (
  (binA .other .gtr x6 (.int .u64 0)).bind fun v25 =>
  ifA v25 (
  (pcall (AP cfg) none m 133 [x0, x7]).bind fun r26 =>
  (pcall (AP cfg) none r26.2 133 [x1, x7]).bind fun r27 =>
  (binA .other .add r26.1 r27.1).bind fun v28 =>
  (binA .other .add v28 x6).bind fun v29 =>
  (binA .other .rem v29 (.int .u64 4294967296)).bind fun v30 =>
  (convA .u32 v30).bind fun v31 =>
  (buildSliceA none [v31]).bind fun v32 =>
  (appA none false 116 none 4 r27.2 x5 v32).bind fun r33 =>
  (binA .other .quo v29 (.int .u64 4294967296)).bind fun v34 =>
  (binA .other .add x7 (.int .i64 1)).bind fun v35 =>
  L111_4 x0 x1 r33.1 v34 v35 r33.2 K) (
  K (.exit 0) (O111_4 x5 m)))) :=
(loopW_eq (execW_lin _) _ _ _).trans (by kernel_rfl)
theorem K111_4_x0 (x5 : AV) (m : Mem) : K111_4 (finK cfg.P f111.results.toList) (.exit 0) (O111_4 x5 m) =
  (pcall (AP cfg) none m 103 [x5]).bind fun r1 =>
  some (r1.1, r1.2) := by kernel_rfl
/-! ### sortilege/sortilegeref01.Sub -/
def O112_6 (x6 : AV) (m : Mem) : St := ⟨[.any, .any, .any, .any, .any, .any, x6, .any, .any, .any, .any, .any, .any, .any, .any, .any, .any, .any, .any, .any, .any, .any, .any, .any, .any, .any, .any, .any, .any, .any, .any, .any, .any, .any, .any, .any, .any, .any, .any, .any, .any, .any, .any, .any], m⟩
noncomputable def L112_6 (x0 x1 x6 x7 x8 : AV) (m : Mem) (K : Ex → St → Option (AV × Mem)) : Option (AV × Mem) := loopW (execW cfg 112 (AP cfg) (AC cfg) (c1 (c1 (c2 (c1 (c2 (c2 (c2 (c2 (bodyOf f112)))))))))) (cfg.mask 112 (some 6)) ⟨[x0, x1, .any, .any, .any, .any, x6, x7, x8, .any, .any, .any, .any, .any, .any, .any, .any, .any, .any, .any, .any, .any, .any, .any, .any, .any, .any, .any, .any, .any, .any, .any, .any, .any, .any, .any, .any, .any, .any, .any, .any, .any, .any, .any], m⟩ K
noncomputable abbrev K112_6_0 (K : Ex → St → Option (AV × Mem)) : Ex → St → Option (AV × Mem) := seqK (fun st => execW cfg 112 (AP cfg) (AC cfg) (c2 (c2 (c2 (c2 (c2 (bodyOf f112)))))) st K) K
noncomputable abbrev K112_6_1 (K : Ex → St → Option (AV × Mem)) : Ex → St → Option (AV × Mem) := blockK 0 (K112_6_0 K)
noncomputable abbrev K112_6 (K : Ex → St → Option (AV × Mem)) : Ex → St → Option (AV × Mem) := (K112_6_1 K)
theorem T112 (a0 a1 : AV) (m : Mem) : AC cfg 112 [a0, a1] m =
  (pcall (AP cfg) none m 98 [a0, a1]).bind fun r1 =>
  (binA .other .lss r1.1 (.int .i64 0)).bind fun v2 =>
  ifA v2 (
  some ((.tup [(.lst none true .full []), (.int .i64 1)]), r1.2)) (
  L112_6 a0 a1 (.lst none true .full []) (.int .u64 0) (.int .i64 0) r1.2 (K112_6 (finK cfg.P f112.results.toList))) :=
(AC_eq cfg 112 [a0, a1] m (fn := f112) (c := bodyOf f112) at112 rfl).trans (by kernel_rfl)
theorem L112_6_eq (x0 x1 x6 x7 x8 : AV) (m : Mem) (K : Ex → St → Option (AV × Mem)) : L112_6 x0 x1 x6 x7 x8 m K =
  (lenA false x0).bind fun v1 =>
  (binA .other .lss x8 v1).bind fun v2 =>
  ifA v2 (
  (pcall (AP cfg) none m 133 [x1, x8]).bind fun r3 =>
  (binA .other .add r3.1 x7).bind fun v4 =>
  (pcall (AP cfg) none r3.2 133 [x0, x8]).bind fun r5 =>
  (binA .other .lss r5.1 v4).bind fun v6 =>
  ifA v6 (
  (pcall (AP cfg) none r5.2 133 [x0, x8]).bind fun r7 =>
  (binA .other .mul (.int .u64 1) (.int .u64 4294967296)).bind fun v8 =>
  (binA .other .add r7.1 v8).bind fun v9 =>
  (binA .other .sub v9 v4).bind fun v10 =>
  (convA .u32 v10).bind fun v11 =>
  (buildSliceA none [v11]).bind fun v12 =>
  (appA none false 116 none 4 r7.2 x6 v12).bind fun r13 =>
  (binA .other .add x8 (.int .i64 1)).bind fun v14 =>
  L112_6 x0 x1 r13.1 (.int .u64 1) v14 r13.2 K) (
  (pcall (AP cfg) none r5.2 133 [x0, x8]).bind fun r15 =>
  (binA .other .mul (.int .u64 0) (.int .u64 4294967296)).bind fun v16 =>
  (binA .other .add r15.1 v16).bind fun v17 =>
  (binA .other .sub v17 v4).bind fun v18 =>
  (convA .u32 v18).bind fun v19 =>
  (buildSliceA none [v19]).bind fun v20 =>
  (appA none false 116 none 4 r15.2 x6 v20).bind fun r21 =>
  (binA .other .add x8 (.int .i64 1)).bind fun v22 =>
  L112_6 x0 x1 r21.1 (.int .u64 0) v22 r21.2 K)) (
  K (.exit 0) (O112_6 x6 m)) :=
(loopW_eq (execW_lin _) _ _ _).trans (by kernel_rfl)
theorem K112_6_x0 (x6 : AV) (m : Mem) : K112_6 (finK cfg.P f112.results.toList) (.exit 0) (O112_6 x6 m) =
  (pcall (AP cfg) none m 103 [x6]).bind fun r1 =>
  some ((.tup [r1.1, (.int .i64 0)]), r1.2) := by kernel_rfl
/-! ### sortilege/sortilegeref01.Small -/
theorem T126 (a0 : AV) (m : Mem) : AC cfg 126 [a0] m =
  (pcall (AP cfg) none m 103 [a0]).bind fun r1 =>
  (lenA false r1.1).bind fun v2 =>
  (binA .other .eql v2 (.int .i64 0)).bind fun v3 =>
  ifA v3 (
  some ((.tup [(.int .u64 0), (.bool true)]), r1.2)) (
  (binA .other .eql v2 (.int .i64 1)).bind fun v4 =>
  ifA v4 (
  (indexAddrA none r1.1 (.int .i64 0)).bind fun v5 =>
  (loadA none r1.2 v5).bind fun v6 =>
  (convA .u64 v6).bind fun v7 =>
  some ((.tup [v7, (.bool true)]), r1.2)) (
  (binA .other .eql v2 (.int .i64 2)).bind fun v8 =>
  ifA v8 (
  (indexAddrA none r1.1 (.int .i64 1)).bind fun v9 =>
  (loadA none r1.2 v9).bind fun v10 =>
  (convA .u64 v10).bind fun v11 =>
  (binA .other .shl v11 (.int .u64 32)).bind fun v12 =>
  (indexAddrA none r1.1 (.int .i64 0)).bind fun v13 =>
  (loadA none r1.2 v13).bind fun v14 =>
  (convA .u64 v14).bind fun v15 =>
  (binA .other .or v12 v15).bind fun v16 =>
  some ((.tup [v16, (.bool true)]), r1.2)) (
  some ((.tup [(.int .u64 0), (.bool false)]), r1.2)))) :=
(AC_eq cfg 126 [a0] m (fn := f126) (c := bodyOf f126) at126 rfl).trans (by kernel_rfl)
/-! ### sortilege/sortilegeref01.even -/
theorem T127 (a0 : AV) (m : Mem) : AC cfg 127 [a0] m =
  (pcall (AP cfg) none m 133 [a0, (.int .i64 0)]).bind fun r1 =>
  (binA .other .rem r1.1 (.int .u64 2)).bind fun v2 =>
  (binA .other .eql v2 (.int .u64 0)).bind fun v3 =>
  some (v3, r1.2) :=
(AC_eq cfg 127 [a0] m (fn := f127) (c := bodyOf f127) at127 rfl).trans (by kernel_rfl)
/-! ### sortilege/sortilegeref01.half -/
theorem T128 (a0 : AV) (m : Mem) : AC cfg 128 [a0] m =
  (pcall (AP cfg) none m 103 [a0]).bind fun r1 =>
  (pcall (AP cfg) none r1.2 129 [r1.1, (.int .u64 2)]).bind fun r2 =>
  (extractA r2.1 0).bind fun v3 =>
  (extractA r2.1 1).bind fun v4 =>
  some (v3, r2.2) :=
(AC_eq cfg 128 [a0] m (fn := f128) (c := bodyOf f128) at128 rfl).trans (by kernel_rfl)
/-! ### sortilege/sortilegeref01.short -/
def O129_4 (x6 x7 : AV) (m : Mem) : St := ⟨[.any, .any, .any, .any, .any, .any, x6, x7, .any, .any, .any, .any, .any, .any, .any, .any, .any, .any, .any, .any, .any, .any, .any, .any, .any, .any, .any, .any, .any, .any, .any, .any, .any, .any, .any, .any, .any, .any, .any, .any, .any], m⟩
noncomputable def L129_4 (x0 x1 x6 x7 x8 : AV) (m : Mem) (K : Ex → St → Option (AV × Mem)) : Option (AV × Mem) := loopW (execW cfg 129 (AP cfg) (AC cfg) (c1 (c1 (c2 (c1 (c2 (c2 (c2 (bodyOf f129))))))))) (cfg.mask 129 (some 4)) ⟨[x0, x1, .any, .any, .any, .any, x6, x7, x8, .any, .any, .any, .any, .any, .any, .any, .any, .any, .any, .any, .any, .any, .any, .any, .any, .any, .any, .any, .any, .any, .any, .any, .any, .any, .any, .any, .any, .any, .any, .any, .any], m⟩ K
noncomputable abbrev K129_4_0 (K : Ex → St → Option (AV × Mem)) : Ex → St → Option (AV × Mem) := seqK (fun st => execW cfg 129 (AP cfg) (AC cfg) (c2 (c2 (c2 (c2 (bodyOf f129))))) st K) K
noncomputable abbrev K129_4_1 (K : Ex → St → Option (AV × Mem)) : Ex → St → Option (AV × Mem) := blockK 0 (K129_4_0 K)
noncomputable abbrev K129_4 (K : Ex → St → Option (AV × Mem)) : Ex → St → Option (AV × Mem) := (K129_4_1 K)
theorem T129 (a0 a1 : AV) (m : Mem) : AC cfg 129 [a0, a1] m =
  (lenA false a0).bind fun v1 =>
  (makeA none 116 none (.int .u32 0) 4 m v1 v1).bind fun r2 =>
  (lenA false a0).bind fun v3 =>
  (binA .other .sub v3 (.int .i64 1)).bind fun v4 =>
  L129_4 a0 a1 r2.1 (.int .u64 0) v4 r2.2 (K129_4 (finK cfg.P f129.results.toList)) :=
(AC_eq cfg 129 [a0, a1] m (fn := f129) (c := bodyOf f129) at129 rfl).trans (by kernel_rfl)
theorem L129_4_eq (x0 x1 x6 x7 x8 : AV) (m : Mem) (K : Ex → St → Option (AV × Mem)) : L129_4 x0 x1 x6 x7 x8 m K =
  (binA .other .geq x8 (.int .i64 0)).bind fun v1 =>
  ifA v1 (
  (binA .other .mul x7 (.int .u64 4294967296)).bind fun v2 =>
  (indexAddrA none x0 x8).bind fun v3 =>
  (loadA none m v3).bind fun v4 =>
  (convA .u64 v4).bind fun v5 =>
  (binA .other .add v2 v5).bind fun v6 =>
  (binA .other .quo v6 x1).bind fun v7 =>
  (convA .u32 v7).bind fun v8 =>
  (indexAddrA none x6 x8).bind fun v9 =>
  (storeA none m v9 v8).bind fun m10 =>
  (binA .other .rem v6 x1).bind fun v11 =>
  (binA .other .sub x8 (.int .i64 1)).bind fun v12 =>
  L129_4 x0 x1 x6 v11 v12 m10 K) (
  K (.exit 0) (O129_4 x6 x7 m)) :=
(loopW_eq (execW_lin _) _ _ _).trans (by kernel_rfl)
theorem K129_4_x0 (x6 x7 : AV) (m : Mem) : K129_4 (finK cfg.P f129.results.toList) (.exit 0) (O129_4 x6 x7 m) =
  (pcall (AP cfg) none m 103 [x6]).bind fun r1 =>
  some ((.tup [r1.1, x7]), r1.2) := by kernel_rfl
/-! ### sortilege/sortilegeref01.guess -/
theorem T130 (a0 a1 a2 : AV) (m : Mem) : AC cfg 130 [a0, a1, a2] m =
  (lenA false a1).bind fun v1 =>
  (binA .other .add a2 v1).bind fun v2 =>
  (pcall (AP cfg) (some m.length) m 133 [a0, v2]).bind fun r3 =>
  (binA .other .shl r3.1 (.int .u64 32)).bind fun v4 =>
  (binA .other .add a2 v1).bind fun v5 =>
  (binA .other .sub v5 (.int .i64 1)).bind fun v6 =>
  (pcall (AP cfg) (some m.length) r3.2 133 [a0, v6]).bind fun r7 =>
  (binA .other .or v4 r7.1).bind fun v8 =>
  (binA .other .sub v1 (.int .i64 1)).bind fun v9 =>
  (indexAddrA none a1 v9).bind fun v10 =>
  (loadA none r7.2 v10).bind fun v11 =>
  (convA .u64 v11).bind fun v12 =>
  (binA .other .quo v8 v12).bind fun v13 =>
  (binA .other .lss v13 (.int .u64 4294967295)).bind fun v14 =>
  ifA v14 (
  (binA .other .quo v8 v12).bind fun v15 =>
  (binA .other .add v12 (.int .u64 1)).bind fun v16 =>
  (binA .other .lss v16 (.int .u64 4294967296)).bind fun v17 =>
  ifA v17 (
  (binA .other .add v12 (.int .u64 1)).bind fun v18 =>
  (binA .other .quo v8 v18).bind fun v19 =>
  (binA .other .lss v19 (.int .u64 4294967296)).bind fun v20 =>
  ifA v20 (
  (binA .other .add v12 (.int .u64 1)).bind fun v21 =>
  (binA .other .quo v8 v21).bind fun v22 =>
  (binA .other .gtr v22 v15).bind fun v23 =>
  ifA v23 (
  some ((.tup [v15, v15]), r7.2)) (
  some ((.tup [v22, v15]), r7.2))) (
  (binA .other .gtr (.int .u64 0) v15).bind fun v24 =>
  ifA v24 (
  some ((.tup [v15, v15]), r7.2)) (
  some ((.tup [(.int .u64 0), v15]), r7.2)))) (
  (binA .other .gtr (.int .u64 0) v15).bind fun v25 =>
  ifA v25 (
  some ((.tup [v15, v15]), r7.2)) (
  some ((.tup [(.int .u64 0), v15]), r7.2)))) (
  (binA .other .add v12 (.int .u64 1)).bind fun v26 =>
  (binA .other .lss v26 (.int .u64 4294967296)).bind fun v27 =>
  ifA v27 (
  (binA .other .add v12 (.int .u64 1)).bind fun v28 =>
  (binA .other .quo v8 v28).bind fun v29 =>
  (binA .other .lss v29 (.int .u64 4294967296)).bind fun v30 =>
  ifA v30 (
  (binA .other .add v12 (.int .u64 1)).bind fun v31 =>
  (binA .other .quo v8 v31).bind fun v32 =>
  (binA .other .gtr v32 (.int .u64 4294967295)).bind fun v33 =>
  ifA v33 (
  some ((.tup [(.int .u64 4294967295), (.int .u64 4294967295)]), r7.2)) (
  some ((.tup [v32, (.int .u64 4294967295)]), r7.2))) (
  (binA .other .gtr (.int .u64 0) (.int .u64 4294967295)).bind fun v34 =>
  ifA v34 (
  some ((.tup [(.int .u64 4294967295), (.int .u64 4294967295)]), r7.2)) (
  some ((.tup [(.int .u64 0), (.int .u64 4294967295)]), r7.2)))) (
  (binA .other .gtr (.int .u64 0) (.int .u64 4294967295)).bind fun v35 =>
  ifA v35 (
  some ((.tup [(.int .u64 4294967295), (.int .u64 4294967295)]), r7.2)) (
  some ((.tup [(.int .u64 0), (.int .u64 4294967295)]), r7.2)))) :=
(AC_eq cfg 130 [a0, a1, a2] m (fn := f130) (c := bodyOf f130) at130 rfl).trans (by kernel_rfl)
/-! ### sortilege/sortilegeref01.times -/
def O131_4 (x7 x8 : AV) (m : Mem) : St := ⟨[.any, .any, .any, .any, .any, .any, .any, x7, x8, .any, .any, .any, .any, .any, .any, .any, .any, .any, .any, .any, .any, .any, .any, .any, .any, .any, .any, .any, .any, .any, .any, .any, .any, .any, .any, .any, .any, .any, .any, .any, .any, .any], m⟩
noncomputable def L131_4 (x0 x1 x7 x8 x9 : AV) (m : Mem) (K : Ex → St → Option (AV × Mem)) : Option (AV × Mem) := loopW (execW cfg 131 (AP cfg) (AC cfg) (c1 (c1 (c2 (c1 (c2 (c2 (c2 (bodyOf f131))))))))) (cfg.mask 131 (some 4)) ⟨[x0, x1, .any, .any, .any, .any, .any, x7, x8, x9, .any, .any, .any, .any, .any, .any, .any, .any, .any, .any, .any, .any, .any, .any, .any, .any, .any, .any, .any, .any, .any, .any, .any, .any, .any, .any, .any, .any, .any, .any, .any, .any], m⟩ K
noncomputable abbrev K131_4_0 (K : Ex → St → Option (AV × Mem)) : Ex → St → Option (AV × Mem) := seqK (fun st => execW cfg 131 (AP cfg) (AC cfg) (c2 (c2 (c2 (c2 (bodyOf f131))))) st K) K
noncomputable abbrev K131_4_1 (K : Ex → St → Option (AV × Mem)) : Ex → St → Option (AV × Mem) := blockK 0 (K131_4_0 K)
noncomputable abbrev K131_4 (K : Ex → St → Option (AV × Mem)) : Ex → St → Option (AV × Mem) := (K131_4_1 K)
theorem T131 (a0 a1 a2 : AV) (m : Mem) : AC cfg 131 [a0, a1, a2] m =
  (makeT none none (.int .u32 0) 4 m a2 a2).bind fun r1 =>
  L131_4 a0 a1 r1.1 (.int .u64 0) (.int .i64 0) r1.2 (K131_4 (finK cfg.P f131.results.toList)) :=
(AC_eq cfg 131 [a0, a1, a2] m (fn := f131) (c := bodyOf f131) at131 rfl).trans (by kernel_rfl)
theorem L131_4_eq (x0 x1 x7 x8 x9 : AV) (m : Mem) (K : Ex → St → Option (AV × Mem)) : L131_4 x0 x1 x7 x8 x9 m K =
  (lenA false x0).bind fun v1 =>
  (binA .other .lss x9 v1).bind fun v2 =>
  ifA v2 (
  (indexAddrA none x0 x9).bind fun v3 =>
  (loadA none m v3).bind fun v4 =>
  (convA .u64 v4).bind fun v5 =>
  (binA .other .mul v5 x1).bind fun v6 =>
  (binA .other .add v6 x8).bind fun v7 =>
  (binA .other .rem v7 (.int .u64 4294967296)).bind fun v8 =>
  (convA .u32 v8).bind fun v9 =>
  (buildSliceA none [v9]).bind fun v10 =>
  (appA none false 116 none 4 m x7 v10).bind fun r11 =>
  (binA .other .quo v7 (.int .u64 4294967296)).bind fun v12 =>
  (binA .other .add x9 (.int .i64 1)).bind fun v13 =>
  L131_4 x0 x1 r11.1 v12 v13 r11.2 K) (
  K (.exit 0) (O131_4 x7 x8 m)) :=
(loopW_eq (execW_lin _) _ _ _).trans (by kernel_rfl)
theorem K131_4_x0 (x7 x8 : AV) (m : Mem) : K131_4 (finK cfg.P f131.results.toList) (.exit 0) (O131_4 x7 x8 m) =
  (convA .u32 x8).bind fun v1 =>
  (buildSliceA none [v1]).bind fun v2 =>
  (appA none false 116 none 4 m x7 v2).bind fun r3 =>
  (pcall (AP cfg) none r3.2 103 [r3.1]).bind fun r4 =>
  some (r4.1, r4.2) := by kernel_rfl
/-! ### sortilege/sortilegeref01.at -/
theorem T133 (a0 a1 : AV) (m : Mem) : AC cfg 133 [a0, a1] m =
  (lenA false a0).bind fun v1 =>
  (binA .other .lss a1 v1).bind fun v2 =>
  ifA v2 (
  (indexAddrA none a0 a1).bind fun v3 =>
  (loadA none m v3).bind fun v4 =>
  (convA .u64 v4).bind fun v5 =>
  some (v5, m)) (
  some ((.int .u64 0), m)) :=
(AC_eq cfg 133 [a0, a1] m (fn := f133) (c := bodyOf f133) at133 rfl).trans (by kernel_rfl)
end Go.Ab
