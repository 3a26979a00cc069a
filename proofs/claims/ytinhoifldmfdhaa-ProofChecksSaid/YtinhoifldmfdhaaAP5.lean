/- What the interpreter does, function by function. -/
import Derived.Test.YtinhoifldmfdhaaAP1
import Derived.Test.YtinhoifldmfdhaaAP2
import Derived.Test.YtinhoifldmfdhaaAP4
import Derived.Test.YtinhoifldmfdhaaAP0
import Derived.ProofKit
import Derived.OpenShut
import Derived.ChangeArms
import Derived.KernelRfl
set_option maxRecDepth 100000
set_option linter.unusedVariables false
namespace Go.Ab
open Go.Proofs.Try
/-! ### sortilege/sortilegelaw25.of -/
def O6_3 (x1 x2 x3 x4 : AV) (m : Mem) : St := ⟨[.any, x1, x2, x3, x4, .any, .any, .any, .any, .any, .any, .any, .any, .any, .any, .any, .any, .any, .any, .any, .any, .any, .any, .any, .any, .any, .any, .any, .any, .any, .any, .any, .any, .any, .any, .any, .any, .any, .any, .any, .any, .any, .any, .any, .any, .any, .any, .any, .any, .any, .any, .any, .any, .any, .any, .any, .any, .any, .any, .any, .any, .any, .any, .any, .any, .any, .any, .any, .any, .any, .any, .any, .any, .any, .any, .any, .any, .any, .any, .any, .any, .any, .any, .any, .any, .any, .any, .any], m⟩
noncomputable def L6_3 (x1 x2 x3 x4 x25 x26 x27 : AV) (m : Mem) (K : Ex → St → Option (AV × Mem)) : Option (AV × Mem) := loopW (execW cfg 6 (AP cfg) (AC cfg) (c1 (c1 (c2 (c1 (c2 (c2 (bodyOf f6)))))))) (cfg.mask 6 (some 3)) ⟨[.any, x1, x2, x3, x4, .any, .any, .any, .any, .any, .any, .any, .any, .any, .any, .any, .any, .any, .any, .any, .any, .any, .any, .any, .any, x25, x26, x27, .any, .any, .any, .any, .any, .any, .any, .any, .any, .any, .any, .any, .any, .any, .any, .any, .any, .any, .any, .any, .any, .any, .any, .any, .any, .any, .any, .any, .any, .any, .any, .any, .any, .any, .any, .any, .any, .any, .any, .any, .any, .any, .any, .any, .any, .any, .any, .any, .any, .any, .any, .any, .any, .any, .any, .any, .any, .any, .any, .any], m⟩ K
def O6_8 (x1 x2 x3 x4 : AV) (m : Mem) : St := ⟨[.any, x1, x2, x3, x4, .any, .any, .any, .any, .any, .any, .any, .any, .any, .any, .any, .any, .any, .any, .any, .any, .any, .any, .any, .any, .any, .any, .any, .any, .any, .any, .any, .any, .any, .any, .any, .any, .any, .any, .any, .any, .any, .any, .any, .any, .any, .any, .any, .any, .any, .any, .any, .any, .any, .any, .any, .any, .any, .any, .any, .any, .any, .any, .any, .any, .any, .any, .any, .any, .any, .any, .any, .any, .any, .any, .any, .any, .any, .any, .any, .any, .any, .any, .any, .any, .any, .any, .any], m⟩
noncomputable def L6_8 (x1 x2 x3 x4 x44 x45 x46 : AV) (m : Mem) (K : Ex → St → Option (AV × Mem)) : Option (AV × Mem) := loopW (execW cfg 6 (AP cfg) (AC cfg) (c1 (c1 (c2 (c1 (c2 (c2 (c2 (bodyOf f6))))))))) (cfg.mask 6 (some 8)) ⟨[.any, x1, x2, x3, x4, .any, .any, .any, .any, .any, .any, .any, .any, .any, .any, .any, .any, .any, .any, .any, .any, .any, .any, .any, .any, .any, .any, .any, .any, .any, .any, .any, .any, .any, .any, .any, .any, .any, .any, .any, .any, .any, .any, .any, x44, x45, x46, .any, .any, .any, .any, .any, .any, .any, .any, .any, .any, .any, .any, .any, .any, .any, .any, .any, .any, .any, .any, .any, .any, .any, .any, .any, .any, .any, .any, .any, .any, .any, .any, .any, .any, .any, .any, .any, .any, .any, .any, .any], m⟩ K
noncomputable abbrev K6_3_0 (K : Ex → St → Option (AV × Mem)) : Ex → St → Option (AV × Mem) := seqK (fun st => execW cfg 6 (AP cfg) (AC cfg) (c2 (c2 (c2 (bodyOf f6)))) st K) K
noncomputable abbrev K6_3_1 (K : Ex → St → Option (AV × Mem)) : Ex → St → Option (AV × Mem) := blockK 0 (K6_3_0 K)
noncomputable abbrev K6_3 (K : Ex → St → Option (AV × Mem)) : Ex → St → Option (AV × Mem) := (K6_3_1 K)
noncomputable abbrev K6_8_0 (K : Ex → St → Option (AV × Mem)) : Ex → St → Option (AV × Mem) := seqK (fun st => execW cfg 6 (AP cfg) (AC cfg) (c2 (c2 (c2 (c2 (bodyOf f6))))) st K) K
noncomputable abbrev K6_8_1 (K : Ex → St → Option (AV × Mem)) : Ex → St → Option (AV × Mem) := blockK 2 (K6_8_0 K)
noncomputable abbrev K6_8 (K : Ex → St → Option (AV × Mem)) : Ex → St → Option (AV × Mem) := (K6_8_1 K)
theorem T6 (a0 : AV) (m : Mem) : AC cfg 6 [a0] m =
  (boxA none (some 4) m a0).bind fun r1 =>
  (fieldAddrA 0 r1.1).bind fun v2 =>
  (loadA none (reserve (newAt none (newAt none r1.2 (.obj true [(.lst none true .full []), (.lst none true .full []), (.lst none true .full []), (.int .i64 0)])).2 (.obj true [(.lst none true .full []), (.lst none true .full []), (.lst none true .full []), (.int .i64 0)])).2 1) v2).bind fun v3 =>
  (fieldAddrA 0 r1.1).bind fun v4 =>
  (loadA none (reserve (newAt none (newAt none r1.2 (.obj true [(.lst none true .full []), (.lst none true .full []), (.lst none true .full []), (.int .i64 0)])).2 (.obj true [(.lst none true .full []), (.lst none true .full []), (.lst none true .full []), (.int .i64 0)])).2 1) v4).bind fun v5 =>
  (lenA false v5).bind fun v6 =>
  (maxA false v6 (.int .i64 40)).bind fun v7 =>
  (sliceT none v3 none (some v7) none).bind fun v8 =>
  (fieldAddrA 3 r1.1).bind fun v9 =>
  (loadA none (reserve (newAt none (newAt none r1.2 (.obj true [(.lst none true .full []), (.lst none true .full []), (.lst none true .full []), (.int .i64 0)])).2 (.obj true [(.lst none true .full []), (.lst none true .full []), (.lst none true .full []), (.int .i64 0)])).2 1) v9).bind fun v10 =>
  (buildA (.agg [(.lst none true .full []), (.lst none true .full []), (.lst none true .full []), (.int .i64 0)]) [(0, none, v8), (3, none, v10)]).bind fun v11 =>
  (storeA (some 4) (newAt (some (newAt none (newAt none r1.2 (.obj true [(.lst none true .full []), (.lst none true .full []), (.lst none true .full []), (.int .i64 0)])).2 (.obj true [(.lst none true .full []), (.lst none true .full []), (.lst none true .full []), (.int .i64 0)])).2.length) (reserve (newAt none (newAt none r1.2 (.obj true [(.lst none true .full []), (.lst none true .full []), (.lst none true .full []), (.int .i64 0)])).2 (.obj true [(.lst none true .full []), (.lst none true .full []), (.lst none true .full []), (.int .i64 0)])).2 1) (.obj true [(.lst none true .full []), (.lst none true .full []), (.lst none true .full []), (.int .i64 0)])).2 (.ptr (newAt (some (newAt none (newAt none r1.2 (.obj true [(.lst none true .full []), (.lst none true .full []), (.lst none true .full []), (.int .i64 0)])).2 (.obj true [(.lst none true .full []), (.lst none true .full []), (.lst none true .full []), (.int .i64 0)])).2.length) (reserve (newAt none (newAt none r1.2 (.obj true [(.lst none true .full []), (.lst none true .full []), (.lst none true .full []), (.int .i64 0)])).2 (.obj true [(.lst none true .full []), (.lst none true .full []), (.lst none true .full []), (.int .i64 0)])).2 1) .resv).1 0) v11).bind fun m12 =>
  (fieldAddrA 1 r1.1).bind fun v13 =>
  (loadA none m12 v13).bind fun v14 =>
  (fieldAddrA 1 r1.1).bind fun v15 =>
  (loadA none m12 v15).bind fun v16 =>
  (lenA false v16).bind fun v17 =>
  (maxA false v17 (.int .i64 120)).bind fun v18 =>
  (sliceT (some 3) v14 none (some v18) none).bind fun v19 =>
  (lenA false v19).bind fun v20 =>
  L6_3 r1.1 (.ptr (newAt none r1.2 .resv).1 0) (.ptr (newAt none (newAt none r1.2 (.obj true [(.lst none true .full []), (.lst none true .full []), (.lst none true .full []), (.int .i64 0)])).2 .resv).1 0) (.ptr (newAt (some (newAt none (newAt none r1.2 (.obj true [(.lst none true .full []), (.lst none true .full []), (.lst none true .full []), (.int .i64 0)])).2 (.obj true [(.lst none true .full []), (.lst none true .full []), (.lst none true .full []), (.int .i64 0)])).2.length) (reserve (newAt none (newAt none r1.2 (.obj true [(.lst none true .full []), (.lst none true .full []), (.lst none true .full []), (.int .i64 0)])).2 (.obj true [(.lst none true .full []), (.lst none true .full []), (.lst none true .full []), (.int .i64 0)])).2 1) .resv).1 0) v19 v20 (.int .i64 0) m12 (K6_3 (finK cfg.P f6.results.toList)) :=
(AC_eq cfg 6 [a0] m (fn := f6) (c := bodyOf f6) at6 rfl).trans (by kernel_rfl)
theorem L6_3_eq (x1 x2 x3 x4 x25 x26 x27 : AV) (m : Mem) (K : Ex → St → Option (AV × Mem)) : L6_3 x1 x2 x3 x4 x25 x26 x27 m K =
  (binA .other .lss x27 x26).bind fun v1 =>
  ifA v1 (
  (indexAddrA (some 3) x25 x27).bind fun v2 =>
  (loadA (some 3) m v2).bind fun v3 =>
  (storeA (some 3) (newAt none m (.obj true [(.int .i64 0), (.lst none true .full []), (.int .i64 0)])).2 (.ptr (newAt none m .resv).1 0) v3).bind fun m4 =>
  (fieldAddrA 1 x4).bind fun v5 =>
  (loadA none m4 v5).bind fun v6 =>
  (loadA (some 3) m4 (.ptr (newAt none m .resv).1 0)).bind fun v7 =>
  (buildSliceA (some 3) [v7]).bind fun v8 =>
  (appA none false 51 (some 3) 40 m4 v6 v8).bind fun r9 =>
  (fieldAddrA 1 x4).bind fun v10 =>
  (storeA none r9.2 v10 r9.1).bind fun m11 =>
  (binA .other .add x27 (.int .i64 1)).bind fun v12 =>
  L6_3 x1 x2 x3 x4 x25 x26 v12 m11 K) (
  K (.exit 0) (O6_3 x1 x2 x3 x4 m)) :=
(loopW_eq (execW_lin _) _ _ _).trans (by kernel_rfl)
theorem L6_8_eq (x1 x2 x3 x4 x44 x45 x46 : AV) (m : Mem) (K : Ex → St → Option (AV × Mem)) : L6_8 x1 x2 x3 x4 x44 x45 x46 m K =
  (binA .other .lss x46 x45).bind fun v1 =>
  ifA v1 (
  (indexAddrA (some 3) x44 x46).bind fun v2 =>
  (loadA (some 3) m v2).bind fun v3 =>
  (storeA (some 3) (newAt none m (.obj true [(.bool false), (.lst none true .full []), (.lst none true .full [])])).2 (.ptr (newAt none m .resv).1 0) v3).bind fun m4 =>
  (fieldAddrA 2 x4).bind fun v5 =>
  (loadA none (reserve m4 1) v5).bind fun v6 =>
  (fieldAddrA 0 (.ptr (newAt none m .resv).1 0)).bind fun v7 =>
  (loadA none (reserve m4 1) v7).bind fun v8 =>
  (fieldAddrA 1 (.ptr (newAt none m .resv).1 0)).bind fun v9 =>
  (loadA none (reserve m4 1) v9).bind fun v10 =>
  (fieldAddrA 1 (.ptr (newAt none m .resv).1 0)).bind fun v11 =>
  (loadA none (reserve m4 1) v11).bind fun v12 =>
  (lenA false v12).bind fun v13 =>
  (maxA false v13 (.int .i64 30)).bind fun v14 =>
  (sliceT none v10 none (some v14) none).bind fun v15 =>
  (fieldAddrA 2 (.ptr (newAt none m .resv).1 0)).bind fun v16 =>
  (loadA none (reserve m4 1) v16).bind fun v17 =>
  (fieldAddrA 2 (.ptr (newAt none m .resv).1 0)).bind fun v18 =>
  (loadA none (reserve m4 1) v18).bind fun v19 =>
  (lenA false v19).bind fun v20 =>
  (maxA false v20 (.int .i64 30)).bind fun v21 =>
  (sliceT none v17 none (some v21) none).bind fun v22 =>
  (buildA (.agg [(.bool false), (.lst none true .full []), (.lst none true .full [])]) [(0, none, v8), (1, none, v15), (2, none, v22)]).bind fun v23 =>
  (buildSliceA (some 3) [v23]).bind fun v24 =>
  (appA (some m4.length) false 35 (some 3) 56 (reserve m4 1) v6 v24).bind fun r25 =>
  (fieldAddrA 2 x4).bind fun v26 =>
  (storeA none r25.2 v26 r25.1).bind fun m27 =>
  (binA .other .add x46 (.int .i64 1)).bind fun v28 =>
  L6_8 x1 x2 x3 x4 x44 x45 v28 m27 K) (
  K (.exit 2) (O6_8 x1 x2 x3 x4 m)) :=
(loopW_eq (execW_lin _) _ _ _).trans (by kernel_rfl)
theorem K6_3_x0 (x1 x2 x3 x4 : AV) (m : Mem) : K6_3 (finK cfg.P f6.results.toList) (.exit 0) (O6_3 x1 x2 x3 x4 m) =
  (fieldAddrA 2 x1).bind fun v1 =>
  (loadA none m v1).bind fun v2 =>
  (fieldAddrA 2 x1).bind fun v3 =>
  (loadA none m v3).bind fun v4 =>
  (lenA false v4).bind fun v5 =>
  (maxA false v5 (.int .i64 120)).bind fun v6 =>
  (sliceT (some 3) v2 none (some v6) none).bind fun v7 =>
  (lenA false v7).bind fun v8 =>
  L6_8 x1 x2 x3 x4 v7 v8 (.int .i64 0) m (K6_8 (finK cfg.P f6.results.toList)) := by kernel_rfl
theorem K6_8_x2 (x1 x2 x3 x4 : AV) (m : Mem) : K6_8 (finK cfg.P f6.results.toList) (.exit 2) (O6_8 x1 x2 x3 x4 m) =
  (fieldAddrA 0 x4).bind fun v1 =>
  (loadA none m v1).bind fun v2 =>
  (fieldAddrA 1 x1).bind fun v3 =>
  (loadA none m v3).bind fun v4 =>
  (fieldAddrA 1 x1).bind fun v5 =>
  (loadA none m v5).bind fun v6 =>
  (lenA false v6).bind fun v7 =>
  (maxA false v7 (.int .i64 120)).bind fun v8 =>
  (sliceT (some 3) v4 none (some v8) none).bind fun v9 =>
  (fieldAddrA 2 x4).bind fun v10 =>
  (loadA none m v10).bind fun v11 =>
  (fieldAddrA 3 x1).bind fun v12 =>
  (loadA none m v12).bind fun v13 =>
  (buildA (.agg [(.lst none true .full []), (.lst none true .full []), (.lst none true .full []), (.int .i64 0)]) [(0, none, v2), (1, none, v9), (2, none, v11), (3, none, v13)]).bind fun v14 =>
  (loadA (some 4) m x4).bind fun v15 =>
  (storeA (some 4) m x2 v14).bind fun m16 =>
  (storeA (some 4) m16 x3 v15).bind fun m17 =>
  ifB (namesV x4 x2) (
  (loadA (some 4) m17 x2).bind fun v18 =>
  (loadA (some 4) m17 x3).bind fun v19 =>
  some ((.tup [v18, v19]), m17)) := by kernel_rfl
/-! ### sortilege/sortilegelaw25.alive -/
theorem T10 (m : Mem) : AC cfg 10 [] m =
  (buildA (.agg [(.int .i64 0), (.lst none true .full []), (.int .i64 0)]) [(0, none, (.int .i64 (-1))), (2, none, (.int .i64 4))]).bind fun v1 =>
  (buildSliceA (some 3) [v1]).bind fun v2 =>
  (pcall (AP cfg) none m 21 []).bind fun r3 =>
  (buildSliceA (some 3) [r3.1]).bind fun v4 =>
  (buildA (.agg [(.lst none true .full []), (.lst none true .full []), (.lst none true .full []), (.int .i64 0)]) [(1, none, v2), (2, none, v4), (3, none, (.int .i64 4))]).bind fun v5 =>
  (storeA (some 4) (newAt none r3.2 (.obj true [(.lst none true .full []), (.lst none true .full []), (.lst none true .full []), (.int .i64 0)])).2 (.ptr (newAt none r3.2 .resv).1 0) v5).bind fun m6 =>
  (loadA (some 4) m6 (.ptr (newAt none r3.2 .resv).1 0)).bind fun v7 =>
  (pcall (AP cfg) none m6 7 [v7]).bind fun r8 =>
  (extractA r8.1 0).bind fun v9 =>
  (extractA r8.1 1).bind fun v10 =>
  (extractA r8.1 2).bind fun v11 =>
  (storeA (some 3) (newAt none r8.2 (.obj true [(.bool false), (.lst none true .full []), (.lst none true .full [])])).2 (.ptr (newAt none r8.2 .resv).1 0) v9).bind fun m12 =>
  (binA .other .eql v11 (.int .i64 0)).bind fun v13 =>
  ifA v13 (
  (loadA (some 3) m12 (.ptr (newAt none r8.2 .resv).1 0)).bind fun v14 =>
  (pcall (AP cfg) (some m12.length) m12 21 []).bind fun r15 =>
  (pcall (AP cfg) (some m12.length) r15.2 9 [v14, r15.1]).bind fun r16 =>
  some (r16.1, r16.2)) (
  some ((.bool false), m12)) :=
(AC_eq cfg 10 [] m (fn := f10) (c := bodyOf f10) at10 rfl).trans (by kernel_rfl)
/-! ### sortilege/sortilegelaw25.ProofChecks -/
theorem T3 (a0 : AV) (m : Mem) : AC cfg 3 [a0] m =
  (boxA none (some 4) m a0).bind fun r1 =>
  (loadA (some 4) r1.2 r1.1).bind fun v2 =>
  (pcall (AP cfg) none r1.2 6 [v2]).bind fun r3 =>
  (extractA r3.1 0).bind fun v4 =>
  (extractA r3.1 1).bind fun v5 =>
  (storeA (some 4) (newAt none r3.2 (.obj true [(.lst none true .full []), (.lst none true .full []), (.lst none true .full []), (.int .i64 0)])).2 r1.1 v4).bind fun m6 =>
  (storeA (some 4) m6 (.ptr (newAt none r3.2 .resv).1 0) v5).bind fun m7 =>
  (loadA (some 4) m7 r1.1).bind fun v8 =>
  (pcall (AP cfg) none m7 7 [v8]).bind fun r9 =>
  (extractA r9.1 0).bind fun v10 =>
  (extractA r9.1 1).bind fun v11 =>
  (extractA r9.1 2).bind fun v12 =>
  (storeA (some 3) (newAt none r9.2 (.obj true [(.bool false), (.lst none true .full []), (.lst none true .full [])])).2 (.ptr (newAt none r9.2 .resv).1 0) v10).bind fun m13 =>
  (loadA (some 4) m13 (.ptr (newAt none r3.2 .resv).1 0)).bind fun v14 =>
  (pcall (AP cfg) none m13 8 [v14]).bind fun r15 =>
  (extractA r15.1 0).bind fun v16 =>
  (extractA r15.1 1).bind fun v17 =>
  (extractA r15.1 2).bind fun v18 =>
  (storeA (some 3) (newAt none r15.2 (.obj true [(.bool false), (.lst none true .full []), (.lst none true .full [])])).2 (.ptr (newAt none r15.2 .resv).1 0) v16).bind fun m19 =>
  (binA .other .eql v12 v18).bind fun v20 =>
  ifA v20 (
  (binA .other .eql v11 v17).bind fun v21 =>
  ifA v21 (
  (loadA (some 3) m19 (.ptr (newAt none r9.2 .resv).1 0)).bind fun v22 =>
  (loadA (some 3) m19 (.ptr (newAt none r15.2 .resv).1 0)).bind fun v23 =>
  (pcall (AP cfg) none m19 9 [v22, v23]).bind fun r24 =>
  ifA r24.1 (
  (pcall (AP cfg) none r24.2 10 []).bind fun r25 =>
  some (r25.1, r25.2)) (
  some ((.bool false), r24.2))) (
  some ((.bool false), m19))) (
  some ((.bool false), m19)) :=
(AC_eq cfg 3 [a0] m (fn := f3) (c := bodyOf f3) at3 rfl).trans (by kernel_rfl)
/-! ### sortilege/sortilegelaw25.ProofOnly -/
/-! ### sortilege/sortilegelaw25.ProofAll -/
end Go.Ab

/- Rows that grow by appending, for any type; parts of rows; lists of values. -/
set_option linter.unusedVariables false
set_option linter.unusedSimpArgs false
set_option maxRecDepth 100000
namespace Go.Ab

theorem gr_lt {m : Mem} {k : Nat} {e : Option Ent} (h : m[k]? = some e) : k < m.length := (List.getElem?_eq_some_iff.1 h).1
/-- A row that grows, where it is kept, and what stands in it. -/
def GrowAt (e : Nat) (sh : Sh) (m : Mem) (v : AV) (es : List AV) : Prop := (v = .lst none true .full [] ∧ es = []) ∨ (∃ nm, v = .lst sh false (.tok nm e) es ∧ es ≠ [] ∧ m[nm]? = some (some (.tok es.length sh.size)))
def PlaceOk (d : Option Nat) (m : Mem) : Prop := match d with
  | none => True
  | some k => m[k]? = some (some .resv)
/-- What is an object stays. -/
def KpO (m m' : Mem) : Prop := m.length ≤ m'.length ∧ ∀ (n : Nat) (bx : Bool) (cs : List AV), m[n]? = some (some (Ent.obj bx cs)) → m'[n]? = some (some (Ent.obj bx cs))
theorem GrowAt.nil (e : Nat) (sh : Sh) (m : Mem) : GrowAt e sh m (.lst none true .full []) [] := .inl ⟨rfl, rfl⟩
theorem GrowAt.app {e : Nat} {sh : Sh} {m : Mem} {v : AV} {es : List AV} (h : GrowAt e sh m v es) (x : Mem) : GrowAt e sh (m ++ x) v es := by
  rcases h with h | ⟨nm, h1, h2, h3⟩
  · exact .inl h
  · exact .inr ⟨nm, h1, h2, by rw [List.getElem?_append_left (gr_lt h3)]; exact h3⟩
theorem GrowAt.set {e : Nat} {sh : Sh} {m : Mem} {v : AV} {es : List AV} (h : GrowAt e sh m v es) {n : Nat} {bx : Bool} {cs : List AV} (hn : m[n]? = some (some (.obj bx cs))) (x : Option Ent) : GrowAt e sh (m.set n x) v es := by
  rcases h with h | ⟨nm, h1, h2, h3⟩
  · exact .inl h
  · refine .inr ⟨nm, h1, h2, ?_⟩
    have hne : n ≠ nm := fun e => by rw [e, h3] at hn; cases hn
    rw [List.getElem?_set_ne hne]; exact h3
theorem grow {e : Nat} {sh sh' : Sh} {d : Option Nat} {b : Nat} {m : Mem} {v y : AV} {es : List AV} {z : Bool} {o : Own} (h : GrowAt e sh m v es) (hd : PlaceOk d m) (hlen : (es.length + 1) * b ≤ roomA) :
    ∃ v' m', appA d false e sh b m v (.lst sh z o [y]) = some (v', m') ∧ GrowAt e sh m' v' (es ++ [y]) ∧ KpO m m' := by
  rcases h with ⟨rfl, rfl⟩ | ⟨nm, rfl, h2, h3⟩
  · have hl : 1 * b ≤ roomA := by simpa using hlen
    cases d with
    | none =>
      refine ⟨.lst sh false (.tok m.length e) [y], m ++ [some (.tok 1 sh.size)], ?_, .inr ⟨m.length, rfl, by simp, by simp⟩, by simp, ?_⟩
      · simp only [appA, List.length_nil, List.length_cons, Nat.zero_add, hl, if_true, List.nil_append, newAt, or_true]
        rfl
      · intro n bx cs hn
        rw [List.getElem?_append_left (gr_lt hn)]; exact hn
    | some k =>
      have hk : m[k]? = some (some .resv) := hd
      refine ⟨.lst sh false (.tok k e) [y], m.set k (some (.tok 1 sh.size)), ?_, .inr ⟨k, rfl, by simp, by rw [List.getElem?_set_self (gr_lt hk)]; rfl⟩, by simp, ?_⟩
      · simp only [appA, List.length_nil, List.length_cons, Nat.zero_add, hl, if_true, List.nil_append, newAt, or_true]
        rfl
      · intro n bx cs hn
        have hne : k ≠ n := fun e => by rw [← e, hk] at hn; cases hn
        rw [List.getElem?_set_ne hne]; exact hn
  · have hg : m.get nm = some (.tok es.length sh.size) := by simp [Mem.get, h3]
    refine ⟨.lst sh false (.tok nm e) (es ++ [y]), m.set nm (some (.tok (es.length + 1) sh.size)), ?_, .inr ⟨nm, rfl, by simp, by rw [List.getElem?_set_self (gr_lt h3)]; simp⟩, by simp, ?_⟩
    · simp [appA, hg, hlen]
    · intro n bx cs hn
      have hne : nm ≠ n := fun e => by rw [← e, h3] at hn; cases hn
      rw [List.getElem?_set_ne hne]; exact hn
theorem KpO.refl (m : Mem) : KpO m m := ⟨Nat.le_refl _, fun _ _ _ h => h⟩
theorem KpO.trans {a b c : Mem} (h : KpO a b) (k : KpO b c) : KpO a c := ⟨Nat.le_trans h.1 k.1, fun n bx cs hh => k.2 n bx cs (h.2 n bx cs hh)⟩
theorem KpO.app (m e : Mem) : KpO m (m ++ e) := ⟨by simp, fun n bx cs h => by rw [List.getElem?_append_left (gr_lt h)]; exact h⟩
/-! ### Parts -/
theorem min_len (a b : Nat) : maxA false (.int .i64 a) (.int .i64 b) = some (.int .i64 (min a b : Nat)) := by
  unfold maxA
  simp only [if_true]
  by_cases h : (b : Int) < a
  · simp only [h, if_true, Bool.false_eq_true, if_false]; congr 2; omega
  · simp only [h, if_false, Bool.false_eq_true]; congr 2; omega
theorem slice_cut {sh : Sh} {z : Bool} {o : Own} {es : List AV} {n : Nat} (h : n ≤ es.length) : sliceT sh (.lst sh z o es) none (some (.int .i64 n)) none = some (.lst sh z .no (es.take n)) := by
  have e1 : (0 : Int) ≤ (n : Nat) := by omega
  have e2 : ((n : Nat) : Int) ≤ es.length := by omega
  have e3 : ((n : Nat) : Int) ≤ (n : Nat) := by omega
  simp [sliceT, sliceA, boundA, e1, e2, e3]
/-! ### Lists of values -/
theorem list_map {α : Type} {f : α → AV} {Q : α → Prop} : ∀ {es : List AV}, (∀ x ∈ es, ∃ a, x = f a ∧ Q a) → ∃ l : List α, es = l.map f ∧ ∀ a ∈ l, Q a
  | [], _ => ⟨[], rfl, by simp⟩
  | x :: es, h => by
    obtain ⟨a, rfl, ha⟩ := h x List.mem_cons_self
    obtain ⟨l, rfl, hl⟩ := list_map (fun y hy => h y (List.mem_cons_of_mem _ hy))
    refine ⟨a :: l, rfl, fun b hb => ?_⟩
    rcases List.mem_cons.1 hb with rfl | hb
    · exact ha
    · exact hl b hb
end Go.Ab

/- A certificate cut to size, for the program and for the reference. -/
set_option linter.unusedVariables false
set_option linter.unusedSimpArgs false
set_option maxRecDepth 100000
namespace Go.Ab
open Go.Proofs.Try

theorem ob_ld {m : Mem} {k j : Nat} {bx : Bool} {cs : List AV} {v : AV} (h : m[k]? = some (some (.obj bx cs))) (hj : cs[j]? = some v) : loadA none m (.ptr k j) = some v := by
  simp [loadA, mobj h, cutSh, hj]
theorem ob_st {m : Mem} {k j : Nat} {bx : Bool} {cs : List AV} {v : AV} (h : m[k]? = some (some (.obj bx cs))) (hj : j < cs.length) (ha : atomOk v = true) : storeA none m (.ptr k j) v = some (m.set k (some (.obj bx (putAt cs j v.cells)))) := by
  simp only [storeA, mobj h, Option.bind_some]
  rw [if_pos (by show j + 1 ≤ cs.length; omega), if_pos (show shOk none v = true from ha)]
/-- Numbers as they come in. -/
def XN (x : NV) : Prop := (∀ i, x.ds.getD i 0 < 4294967296) ∧ (x.z = true → x.ds = [])
def XR (r : RV) : Prop := XN r.num ∧ XN r.den
structure XC (c : CV) : Prop where
  nsh : c.nodes.sh = some 3 ∨ c.nodes.es = []
  kids : ∀ n ∈ c.nodes.es, n.kids.o = .no
  rows : ∀ l ∈ c.odds.es, l.o = .no
  wsh : c.ws.sh = some 3 ∨ c.ws.es = []
  ws : ∀ r ∈ c.ws.es, XR r
def cutN (x : NV) : NV := ⟨x.z, .no, x.ds.take 30⟩
def cutW (r : RV) : RV := ⟨r.neg, cutN r.num, cutN r.den⟩
theorem cutW_fr (r : RV) : (cutW r).fr = cutW r := rfl
theorem cutN_ok {x : NV} (h : XN x) : NOk (cutN x) ∧ (cutN x).ds.length ≤ 30 := by
  refine ⟨⟨fun i => ?_, ?_, fun hz => ?_⟩, ?_⟩
  · show (x.ds.take 30).getD i 0 < _
    rw [List.getD_eq_getElem?_getD]
    by_cases hi : i < 30
    · rw [List.getElem?_take_of_lt hi, ← List.getD_eq_getElem?_getD]; exact h.1 i
    · rw [List.getElem?_eq_none (by rw [List.length_take]; omega)]; exact (by omega : 0 < 4294967296)
  · show (x.ds.take 30).length < _
    rw [List.length_take]; omega
  · show x.ds.take 30 = []
    rw [h.2 hz]; rfl
  · show (x.ds.take 30).length ≤ 30
    rw [List.length_take]; omega
theorem cutW_ok {r : RV} (h : XR r) : ROk 30 (cutW r) := ⟨(cutN_ok h.1).1, (cutN_ok h.2).1, (cutN_ok h.1).2, (cutN_ok h.2).2⟩
theorem slice_nv (x : NV) : sliceT none x.av none (some (.int .i64 ((min x.ds.length 30 : Nat) : Int))) none = some (cutN x).av := by
  have : sliceT none (.lst none x.z x.o (x.ds.map dg)) none (some (.int .i64 ((min x.ds.length 30 : Nat) : Int))) none = some (.lst none x.z .no ((x.ds.map dg).take (min x.ds.length 30))) := slice_cut (by rw [List.length_map]; omega)
  refine this.trans ?_
  have e : (x.ds.map dg).take (min x.ds.length 30) = (x.ds.take 30).map dg := by
    rw [List.map_take, ← List.map_take, ← List.map_take]
    congr 1
    by_cases h : x.ds.length ≤ 30
    · rw [Nat.min_eq_left h, List.take_of_length_le (Nat.le_refl _), List.take_of_length_le h]
    · rw [Nat.min_eq_right (by omega)]
  rw [e]; rfl
theorem take_min {α : Type} (l : List α) (n : Nat) : l.take (min l.length n) = l.take n := by
  by_cases h : l.length ≤ n
  · rw [Nat.min_eq_left h, List.take_of_length_le (Nat.le_refl _), List.take_of_length_le h]
  · rw [Nat.min_eq_right (by omega)]
theorem bldR (b : Bool) (x y : NV) : buildA (.agg [.bool false, .lst none true .full [], .lst none true .full []]) [(0, none, .bool b), (1, none, x.av), (2, none, y.av)] = some (RV.av ⟨b, x, y⟩) := rfl
def cB (a b c : AV) (leaf : Int) : Option Ent := some (.obj true [a, b, c, .int .i64 leaf])
structure SI (c : CV) (od v w : AV) (m : Mem) : Prop where
  g0 : m[0]? = some (cC c)
  g1 : m[1]? = some (cC zC)
  g2 : m[2]? = some (cC zC)
  g3 : m[3]? = some (cB od v w c.leaf)
theorem SI.kp {c : CV} {od v w : AV} {m m' : Mem} (h : SI c od v w m) (k : KpO m m') : SI c od v w m' := ⟨k.2 _ _ _ h.g0, k.2 _ _ _ h.g1, k.2 _ _ _ h.g2, k.2 _ _ _ h.g3⟩
theorem SI.put {c : CV} {od v w v' w' : AV} {m : Mem} (h : SI c od v w m) : SI c od v' w' (m.set 3 (cB od v' w' c.leaf)) := by
  have hl : 3 < m.length := gr_lt h.g3
  refine ⟨?_, ?_, ?_, ?_⟩
  · rw [List.getElem?_set_ne (by omega)]; exact h.g0
  · rw [List.getElem?_set_ne (by omega)]; exact h.g1
  · rw [List.getElem?_set_ne (by omega)]; exact h.g2
  · rw [List.getElem?_set_self hl]
theorem grow_atom {e : Nat} {sh : Sh} {m : Mem} {v : AV} {es : List AV} (h : GrowAt e sh m v es) : atomOk v = true ∧ v.cells = [v] := by
  rcases h with ⟨rfl, _⟩ | ⟨nm, rfl, _⟩ <;> exact ⟨rfl, rfl⟩
theorem build_node {n : ND} (h : n.kids.o = .no) : buildSliceA (some 3) [n.av] = some (.lst (some 3) false .full [n.av]) := by
  obtain ⟨a, ⟨z, o, ns⟩, b⟩ := n
  simp only at h
  subst h
  rfl
theorem W6a {c : CV} (hc : XC c) (od w : AV) (N : NL) (hN : N.sh = some 3 ∨ N.es = []) (hk : ∀ n ∈ N.es, n.kids.o = .no) (hlen : N.es.length ≤ 120) (K : Ex → St → Option (AV × Mem)) : ∀ (j i : Nat) (m : Mem) (v : AV), i + j = N.es.length → SI c od v w m → GrowAt 51 (some 3) m v ((N.es.take i).map ND.av) →
    ∃ m' v', SI c od v' w m' ∧ GrowAt 51 (some 3) m' v' (N.es.map ND.av) ∧ L6_3 (.ptr 0 0) (.ptr 1 0) (.ptr 2 0) (.ptr 3 0) N.av (.int .i64 N.es.length) (.int .i64 i) m K = K (.exit 0) (O6_3 (.ptr 0 0) (.ptr 1 0) (.ptr 2 0) (.ptr 3 0) m')
  | 0, i, m, v, hij, hs, hg => ⟨m, v, hs, by rw [List.take_of_length_le (by omega)] at hg; exact hg, by rw [L6_3_eq, n_lss, Option.bind_some, ifA_dec, if_neg (by omega)]⟩
  | j + 1, i, m, v, hij, hs, hg => by
    have hi : i < N.es.length := by omega
    have hb := build_node (hk _ (List.getElem_mem hi))
    have hs1 := hs.kp (KpO.app m [cN N.es[i]])
    obtain ⟨v', m1, a1, a2, a3⟩ := grow (d := none) (b := 40) (y := N.es[i].av) (z := false) (o := .full) (sh' := some 3) (hg.app [cN N.es[i]]) trivial (by rw [List.length_map, List.length_take]; simp only [roomA]; omega)
    have hs2 := hs1.kp a3
    have et : (N.es.take i).map ND.av ++ [N.es[i].av] = (N.es.take (i + 1)).map ND.av := by
      rw [List.take_succ_eq_append_getElem hi, List.map_append]; rfl
    rw [et] at a2
    have hat := grow_atom a2
    obtain ⟨m', v'', b1, b2, b3⟩ := W6a hc od w N hN hk hlen K j (i + 1) (m1.set 3 (cB od v' w c.leaf)) v' (by omega) (hs2.put) (a2.set hs2.g3 _)
    refine ⟨m', v'', b1, b2, ?_⟩
    have hp : putAt [od, v, w, .int .i64 c.leaf] 1 v'.cells = [od, v', w, .int .i64 c.leaf] := by rw [hat.2]; rfl
    have est := ob_st hs2.g3 (j := 1) (v := v') (by simp) hat.1
    rw [hp] at est
    rw [L6_3_eq, n_lss, Option.bind_some, ifA_dec, if_pos hi, index_nl hN hi, Option.bind_some, load_nd, Option.bind_some]
    simp only [new_n, new_r]
    rw [nst_last, Option.bind_some, fld1, Option.bind_some, ob_ld hs1.g3 (j := 1) (v := v) rfl, Option.bind_some, nldA (x := N.es[i]) get_last, Option.bind_some, hb, Option.bind_some, a1, Option.bind_some, Option.bind_some, est, Option.bind_some, i_add1 (by omega), Option.bind_some]
    exact b3
theorem W6b {c : CV} (hc : XC c) (od v : AV) (N : LV) (hN : N.sh = some 3 ∨ N.es = []) (hx : ∀ r ∈ N.es, XR r) (hlen : N.es.length ≤ 120) (ns : List AV) (K : Ex → St → Option (AV × Mem)) : ∀ (j i : Nat) (m : Mem) (w : AV), i + j = N.es.length → SI c od v w m → GrowAt 35 (some 3) m w ((N.es.take i).map fun r => (cutW r).av) →
    ∃ m' w', SI c od v w' m' ∧ GrowAt 35 (some 3) m' w' (N.es.map fun r => (cutW r).av) ∧ L6_8 (.ptr 0 0) (.ptr 1 0) (.ptr 2 0) (.ptr 3 0) N.av (.int .i64 N.es.length) (.int .i64 i) m K = K (.exit 2) (O6_8 (.ptr 0 0) (.ptr 1 0) (.ptr 2 0) (.ptr 3 0) m')
  | 0, i, m, w, hij, hs, hg => ⟨m, w, hs, by rw [List.take_of_length_le (by omega)] at hg; exact hg, by rw [L6_8_eq, n_lss, Option.bind_some, ifA_dec, if_neg (by omega)]⟩
  | j + 1, i, m, w, hij, hs, hg => by
    have hi : i < N.es.length := by omega
    have hb := build_row (cutW_fr N.es[i])
    have hs0 := hs.kp (KpO.app m [cR N.es[i]])
    have hs1 := hs0.kp (KpO.app (m ++ [cR N.es[i]]) [some .resv])
    have gr : ((m ++ [cR N.es[i]]) ++ [some .resv])[m.length]? = some (cR N.es[i]) := get_app get_last _
    obtain ⟨w', m1, a1, a2, a3⟩ := grow (d := some (m ++ [cR N.es[i]]).length) (b := 56) (y := (cutW N.es[i]).av) (z := false) (o := .full) (sh' := some 3) ((hg.app [cR N.es[i]]).app [some .resv]) (by show _ = _; exact get_last) (by rw [List.length_map, List.length_take]; simp only [roomA]; omega)
    have hs2 := hs1.kp a3
    have et : (N.es.take i).map (fun r => (cutW r).av) ++ [(cutW N.es[i]).av] = (N.es.take (i + 1)).map (fun r => (cutW r).av) := by
      rw [List.take_succ_eq_append_getElem hi, List.map_append]; rfl
    rw [et] at a2
    have hat := grow_atom a2
    obtain ⟨m', w'', b1, b2, b3⟩ := W6b hc od v N hN hx hlen ns K j (i + 1) (m1.set 3 (cB od v w' c.leaf)) w' (by omega) (hs2.put) (a2.set hs2.g3 _)
    refine ⟨m', w'', b1, b2, ?_⟩
    have hp : putAt [od, v, w, .int .i64 c.leaf] 2 w'.cells = [od, v, w', .int .i64 c.leaf] := by rw [hat.2]; rfl
    have est := ob_st hs2.g3 (j := 2) (v := w') (by simp) hat.1
    rw [hp] at est
    have idx : indexAddrA (some 3) N.av (.int .i64 i) = some (.vptr (N.es[i].av).cells) := by
      have hN : N.sh = some 3 := hN.resolve_right (fun e => by rw [e] at hi; simp at hi)
      simp [LV.av, indexAddrA, hN, hi]
    have m1' : ∀ n : Nat, maxA false (.int .i64 (n : Nat)) (.int .i64 30) = some (.int .i64 (min n 30 : Nat)) := fun n => min_len n 30
    rw [L6_8_eq, n_lss, Option.bind_some, ifA_dec, if_pos hi, idx, Option.bind_some, load_row, Option.bind_some]
    simp only [new_z', new_r]
    rw [st_last, Option.bind_some, fld2, Option.bind_some]
    simp only [res1]
    rw [ob_ld hs1.g3 (j := 2) (v := w) rfl, Option.bind_some, fld0, Option.bind_some, rld0 gr, Option.bind_some, fld1, Option.bind_some, rld1 gr, Option.bind_some, Option.bind_some, rld1 gr, Option.bind_some, len_nv, Option.bind_some, m1', Option.bind_some, slice_nv, Option.bind_some, fld2, Option.bind_some, rld2 gr, Option.bind_some, Option.bind_some, rld2 gr, Option.bind_some, len_nv, Option.bind_some, m1', Option.bind_some, slice_nv, Option.bind_some, bldR, Option.bind_some]
    rw [show (⟨N.es[i].neg, cutN N.es[i].num, cutN N.es[i].den⟩ : RV) = cutW N.es[i] from rfl, hb, Option.bind_some, a1, Option.bind_some, Option.bind_some, est, Option.bind_some, i_add1 (by omega), Option.bind_some]
    exact b3
structure CutOf (c p : CV) : Prop where
  fr : p.fr = p
  ok : COk 30 p
  odds : p.odds.es = c.odds.es.take 40
  nodes : p.nodes.es = c.nodes.es.take 120
  ws : p.ws.es = (c.ws.es.take 120).map cutW
  leaf : p.leaf = c.leaf
  kids : ∀ n ∈ p.nodes.es, n.kids.o = .no
  rows : ∀ l ∈ p.odds.es, l.o = .no
theorem grow_nl {m : Mem} {v : AV} {l : List ND} (h : GrowAt 51 (some 3) m v (l.map ND.av)) : ∃ N : NL, v = N.av ∧ N.es = l ∧ (N.sh = some 3 ∨ N.es = []) ∧ N.fr.fr = N.fr := by
  rcases h with ⟨rfl, h⟩ | ⟨nm, rfl, _⟩
  · have : l = [] := List.map_eq_nil_iff.1 h
    subst this
    exact ⟨⟨none, true, .full, []⟩, rfl, rfl, .inr rfl, rfl⟩
  · exact ⟨⟨some 3, false, .tok nm 51, l⟩, rfl, rfl, .inl rfl, rfl⟩
theorem grow_lv {m : Mem} {v : AV} {l : List RV} (h : GrowAt 35 (some 3) m v (l.map RV.av)) : ∃ N : LV, v = N.av ∧ N.es = l ∧ (N.sh = some 3 ∨ N.es = []) ∧ (N.z = true → N.es = []) ∧ N.fr.fr = N.fr := by
  rcases h with ⟨rfl, h⟩ | ⟨nm, rfl, _⟩
  · have : l = [] := List.map_eq_nil_iff.1 h
    subst this
    exact ⟨⟨none, true, .full, []⟩, rfl, rfl, .inr rfl, fun _ => rfl, rfl⟩
  · exact ⟨⟨some 3, false, .tok nm 35, l⟩, rfl, rfl, .inl rfl, (fun h => by cases h), rfl⟩
theorem fz_tupC2 (a b : CV) : Fz (.tup [a.av, b.av]) (.tup [a.fr.av, b.fr.av]) := by
  intro m
  have e : frz m fuelF (.tup [a.av, b.av]) = (mapF (frz m 8) [a.av, b.av]).map fun r => (.tup r.1, r.2) := rfl
  rw [e]
  simp [mapF, fza_cv a m 6, fza_cv b m 6]
theorem newS (m : Mem) (n : Nat) : newAt (some n) m (.obj true [.lst none true .full [], .lst none true .full [], .lst none true .full [], .int .i64 0]) = (n, m.set n (cC zC)) := rfl
theorem newSr (m : Mem) (n : Nat) : newAt (some n) m .resv = (n, m.set n (some .resv)) := rfl
theorem slice_ol (L : OL) : sliceT none L.av none (some (.int .i64 ((min L.es.length 40 : Nat) : Int))) none = some (OL.av ⟨L.z, .no, L.es.take 40⟩) := by
  have : sliceT none (.lst none L.z L.o (L.es.map IL.av)) none (some (.int .i64 ((min L.es.length 40 : Nat) : Int))) none = some (.lst none L.z .no ((L.es.map IL.av).take (min L.es.length 40))) := slice_cut (by rw [List.length_map]; omega)
  refine this.trans ?_
  rw [← List.map_take, take_min]; rfl
theorem slice_nl (L : NL) (hs : L.sh = some 3 ∨ L.es = []) : ∃ sh, (sh = some 3 ∨ L.es.take 120 = []) ∧ sliceT (some 3) L.av none (some (.int .i64 ((min L.es.length 120 : Nat) : Int))) none = some (NL.av ⟨sh, L.z, .no, L.es.take 120⟩) := by
  rcases hs with hs | hs
  · refine ⟨some 3, .inl rfl, ?_⟩
    have : sliceT (some 3) (.lst (some 3) L.z L.o (L.es.map ND.av)) none (some (.int .i64 ((min L.es.length 120 : Nat) : Int))) none = some (.lst (some 3) L.z .no ((L.es.map ND.av).take (min L.es.length 120))) := slice_cut (by rw [List.length_map]; omega)
    rw [← List.map_take, take_min] at this
    obtain ⟨sh, z, o, es⟩ := L
    simp only at hs
    subst hs
    exact this
  · obtain ⟨sh, z, o, es⟩ := L
    simp only at hs
    subst hs
    refine ⟨sh, .inr rfl, ?_⟩
    simp [NL.av, sliceT, sliceA, boundA]
theorem slice_lw (L : LV) (hs : L.sh = some 3 ∨ L.es = []) : ∃ sh, (sh = some 3 ∨ L.es.take 120 = []) ∧ sliceT (some 3) L.av none (some (.int .i64 ((min L.es.length 120 : Nat) : Int))) none = some (LV.av ⟨sh, L.z, .no, L.es.take 120⟩) := by
  rcases hs with hs | hs
  · refine ⟨some 3, .inl rfl, ?_⟩
    have : sliceT (some 3) (.lst (some 3) L.z L.o (L.es.map RV.av)) none (some (.int .i64 ((min L.es.length 120 : Nat) : Int))) none = some (.lst (some 3) L.z .no ((L.es.map RV.av).take (min L.es.length 120))) := slice_cut (by rw [List.length_map]; omega)
    rw [← List.map_take, take_min] at this
    obtain ⟨sh, z, o, es⟩ := L
    simp only at hs
    subst hs
    exact this
  · obtain ⟨sh, z, o, es⟩ := L
    simp only at hs
    subst hs
    refine ⟨sh, .inr rfl, ?_⟩
    simp [LV.av, sliceT, sliceA, boundA]
theorem bldC03 (a : AV) (n : Int) (ha : atomOk a = true) : buildA (.agg [.lst none true .full [], .lst none true .full [], .lst none true .full [], .int .i64 0]) [(0, none, a), (3, none, .int .i64 n)] = some (.agg (a.cells ++ [.lst none true .full [], .lst none true .full [], .int .i64 n])) := by
  cases a <;> first | rfl | (simp [atomOk] at ha)
theorem V6 {c : CV} (hc : XC c) : ∃ p r : CV, AP cfg 6 [c.av] = some (.tup [p.av, r.av]) ∧ CutOf c p ∧ CutOf c r := by
  have start : AC cfg 6 [c.av] [] = AC cfg 6 [c.av] [] := rfl
  obtain ⟨sh1, hsh1, en⟩ := slice_nl c.nodes hc.nsh
  obtain ⟨sh2, hsh2, ew⟩ := slice_lw c.ws hc.wsh
  have m40 : maxA false (.int .i64 (c.odds.es.length : Nat)) (.int .i64 40) = some (.int .i64 (min c.odds.es.length 40 : Nat)) := min_len _ 40
  have m120 : ∀ n : Nat, maxA false (.int .i64 (n : Nat)) (.int .i64 120) = some (.int .i64 (min n 120 : Nat)) := fun n => min_len n 120
  have g0 : ∀ M : Mem, (cC c :: M)[0]? = some (cC c) := fun _ => rfl
  conv at start => rhs; rw [T6, box_cv, Option.bind_some]
  simp only [new_cv, new_r, res1, newS, newSr, List.length_nil, List.nil_append, List.length_cons, List.cons_append, Nat.zero_add, Nat.reduceAdd, List.set_cons_succ, List.set_cons_zero, fld0, fld1, fld2, fld3] at start
  rw [Option.bind_some, cld0 (g0 _), Option.bind_some, Option.bind_some, cld0 (g0 _), Option.bind_some, len_ol, Option.bind_some, m40, Option.bind_some, slice_ol, Option.bind_some, Option.bind_some, cld3 (g0 _), Option.bind_some, bldC03 _ _ rfl, Option.bind_some] at start
  have st : storeA (some 4) [cC c, cC zC, cC zC, cC zC] (.ptr 3 0) (.agg ((OL.av ⟨c.odds.z, .no, c.odds.es.take 40⟩).cells ++ [.lst none true .full [], .lst none true .full [], .int .i64 c.leaf])) = some [cC c, cC zC, cC zC, cB (OL.av ⟨c.odds.z, .no, c.odds.es.take 40⟩) (.lst none true .full []) (.lst none true .full []) c.leaf] := rfl
  rw [st, Option.bind_some, Option.bind_some, cld1 (g0 _), Option.bind_some, Option.bind_some, cld1 (g0 _), Option.bind_some, len_nl, Option.bind_some, m120, Option.bind_some, en, Option.bind_some, len_nl, Option.bind_some] at start
  obtain ⟨m1, v1, s1, g1, e1⟩ := W6a hc (OL.av ⟨c.odds.z, .no, c.odds.es.take 40⟩) (.lst none true .full []) ⟨sh1, c.nodes.z, .no, c.nodes.es.take 120⟩ hsh1 (fun n hn => hc.kids n (List.mem_of_mem_take hn)) (by show (c.nodes.es.take 120).length ≤ 120; rw [List.length_take]; omega) (K6_3 (finK cfg.P f6.results.toList)) (c.nodes.es.take 120).length 0 [cC c, cC zC, cC zC, cB (OL.av ⟨c.odds.z, .no, c.odds.es.take 40⟩) (.lst none true .full []) (.lst none true .full []) c.leaf] (.lst none true .full []) (by simp) ⟨rfl, rfl, rfl, rfl⟩ (GrowAt.nil _ _ _)
  rw [show (((0 : Nat) : Int)) = (0 : Int) from rfl] at e1
  rw [e1, K6_3_x0, fld2, Option.bind_some, cld2 s1.g0, Option.bind_some, Option.bind_some, cld2 s1.g0, Option.bind_some, len_lv, Option.bind_some, m120, Option.bind_some, ew, Option.bind_some, len_lv, Option.bind_some] at start
  obtain ⟨m2, w2, s2, g2, e2⟩ := W6b hc (OL.av ⟨c.odds.z, .no, c.odds.es.take 40⟩) v1 ⟨sh2, c.ws.z, .no, c.ws.es.take 120⟩ hsh2 (fun r hr => hc.ws r (List.mem_of_mem_take hr)) (by show (c.ws.es.take 120).length ≤ 120; rw [List.length_take]; omega) [] (K6_8 (finK cfg.P f6.results.toList)) (c.ws.es.take 120).length 0 m1 (.lst none true .full []) (by simp) s1 (GrowAt.nil _ _ _)
  have e2 : _ = _ := e2
  rw [show (((0 : Nat) : Int)) = (0 : Int) from rfl] at e2
  obtain ⟨N, rfl, hN1, hN2, hN3⟩ := grow_nl g1
  have g2' : GrowAt 35 (some 3) m2 w2 (((c.ws.es.take 120).map cutW).map RV.av) := by rw [List.map_map]; exact g2
  obtain ⟨W, rfl, hW1, hW2, hW4, hW3⟩ := grow_lv g2'
  have q3 : m2[3]? = some (cC ⟨⟨c.odds.z, .no, c.odds.es.take 40⟩, N, W, c.leaf⟩) := s2.g3
  have l1 : 1 < m2.length := gr_lt s2.g1
  have l2 : 2 < m2.length := gr_lt s2.g2
  let p : CV := ⟨⟨c.odds.z, .no, c.odds.es.take 40⟩, ⟨sh1, c.nodes.z, .no, c.nodes.es.take 120⟩, W, c.leaf⟩
  let r : CV := ⟨⟨c.odds.z, .no, c.odds.es.take 40⟩, N, W, c.leaf⟩
  have k2 : (m2.set 1 (cC p))[2]? = some (cC zC) := by rw [List.getElem?_set_ne (by omega)]; exact s2.g2
  have k3 : ((m2.set 1 (cC p)).set 2 (cC r))[1]? = some (cC p) := by rw [List.getElem?_set_ne (by omega), List.getElem?_set_self l1]
  have k4 : ((m2.set 1 (cC p)).set 2 (cC r))[2]? = some (cC r) := by rw [List.getElem?_set_self (by rw [List.length_set]; exact l2)]
  have bp : buildA (.agg [.lst none true .full [], .lst none true .full [], .lst none true .full [], .int .i64 0]) [(0, none, OL.av ⟨c.odds.z, .no, c.odds.es.take 40⟩), (1, none, NL.av ⟨sh1, c.nodes.z, .no, c.nodes.es.take 120⟩), (2, none, W.av), (3, none, .int .i64 c.leaf)] = some p.av := rfl
  have nm : namesV (.ptr 3 0) (.ptr 1 0) = true := rfl
  rw [e2, K6_8_x2, fld0, Option.bind_some, cld0 q3, Option.bind_some, fld1, Option.bind_some, cld1 s2.g0, Option.bind_some, Option.bind_some, cld1 s2.g0, Option.bind_some, len_nl, Option.bind_some, m120, Option.bind_some, en, Option.bind_some, fld2, Option.bind_some, cld2 q3, Option.bind_some, fld3, Option.bind_some, cld3 s2.g0, Option.bind_some, bp, Option.bind_some, cldA q3, Option.bind_some, cstA (y := p) s2.g1, Option.bind_some, cstA (y := r) k2, Option.bind_some, nm, ifB, cldA k3, Option.bind_some, cldA k4, Option.bind_some] at start
  have okW : LOk 30 W.fr := ⟨hW2, hW4, fun t ht => by
    have ht : t ∈ W.es := ht
    rw [hW1] at ht
    obtain ⟨a, _, rfl⟩ := List.mem_map.1 ht
    rfl, fun t ht => by
    have ht : t ∈ W.es := ht
    rw [hW1] at ht
    obtain ⟨a, ha, rfl⟩ := List.mem_map.1 ht
    exact cutW_ok (hc.ws a (List.mem_of_mem_take ha))⟩
  have lW : W.es.length ≤ 120 := by rw [hW1, List.length_map, List.length_take]; omega
  have lO : (c.odds.es.take 40).length ≤ 40 := by rw [List.length_take]; omega
  have lN : (c.nodes.es.take 120).length ≤ 120 := by rw [List.length_take]; omega
  have hkid : ∀ n ∈ c.nodes.es.take 120, n.kids.o = .no := fun n hn => hc.kids n (List.mem_of_mem_take hn)
  have hrow : ∀ l ∈ c.odds.es.take 40, l.o = .no := fun n hn => hc.rows n (List.mem_of_mem_take hn)
  refine ⟨p.fr, r.fr, AP_ofz _ _ (fz_tupC2 p r) rfl start, ⟨?_, ⟨lO, hsh1, lN, okW, lW⟩, rfl, rfl, hW1, rfl, hkid, hrow⟩, ⟨?_, ⟨lO, hN2, by show N.es.length ≤ 120; rw [hN1]; exact lN, okW, lW⟩, rfl, hN1, hW1, rfl, by intro n hn; have hn : n ∈ N.es := hn; rw [hN1] at hn; exact hkid n hn, hrow⟩⟩
  · show (⟨_, _, W.fr.fr, _⟩ : CV) = ⟨_, _, W.fr, _⟩
    rw [hW3]; rfl
  · show (⟨_, N.fr.fr, W.fr.fr, _⟩ : CV) = ⟨_, N.fr, W.fr, _⟩
    rw [hW3, hN3]; rfl
end Go.Ab

/- ProofChecks in values. -/
set_option linter.unusedVariables false
set_option linter.unusedSimpArgs false
set_option maxRecDepth 100000
namespace Go.Ab
open Go.Proofs.Try

def aliveC : CV := ⟨⟨true, .full, []⟩, ⟨some 3, false, .full, [⟨-1, nilI, 4⟩]⟩, ⟨some 3, false, .full, [oneF]⟩, 4⟩
theorem alive_ok : COk 30 aliveC.fr := ⟨by simp [aliveC, CV.fr, OL.fr], .inl rfl, by simp [aliveC, CV.fr, NL.fr], ⟨.inl rfl, (fun h => by cases h), by simp [aliveC, CV.fr, LV.fr, oneF_fr], by
  intro r hr
  have : r = oneF := by simpa [aliveC, CV.fr, LV.fr] using hr
  rw [this]
  exact (canF_one.ok (Bd_one (by omega)) (by omega))⟩, by simp [aliveC, CV.fr, LV.fr]⟩
theorem alive_shaped : shapedB aliveC.fr = true := by
  have h1 : rightR oneF = true := can_rightR canF_one
  simp [shapedB, aliveC, CV.fr, OL.fr, NL.fr, LV.fr, oddsB, nodesB, allF, nodeB, armsI, lens, h1, nilI]
theorem alive_okAt : okAt aliveC.fr 0 = true := by
  unfold okAt
  refine decide_eq_true ?_
  have e1 : wQ aliveC.fr.ws 0 = 1 := canF_one.q
  rw [e1]
  rfl
theorem alive_E : checkE aliveC.fr = 0 ∧ checkQ aliveC.fr = 1 := by
  have e : checkE aliveC.fr = 0 := by
    unfold checkE
    rw [if_pos alive_shaped]
    show (match firstF (okAt aliveC.fr) 1 0 with | none => (0 : Int) | some _ => 32) = 0
    rw [firstF, if_pos alive_okAt]; rfl
  refine ⟨e, ?_⟩
  unfold checkQ
  rw [if_pos e]
  exact canF_one.q
theorem pcall10 {m : Mem} {d : Option Nat} : pcall (AP cfg) d m 10 [] = some (.bool true, m) := by
  have h10 : AP cfg 10 [] = some (.bool true) := by
    obtain ⟨e1, e2⟩ := alive_E
    obtain ⟨r, r1, r2, r3, r4⟩ := V7 alive_ok
    rw [e1] at r1
    rw [e2] at r2
    have e9 := V9 r4 (canF_one.ok (Bd_one (by omega : 1 ≤ 4000)) (by omega)) (by omega) (by omega)
    rw [r2, canF_one.q] at e9
    refine AP_ofz _ _ (fz_bool _) rfl (m := [cC aliveC, cR r]) ?_
    have b1 : buildA (.agg [.int .i64 0, .lst none true .full [], .int .i64 0]) [(0, none, .int .i64 (-1)), (2, none, .int .i64 4)] = some (ND.av ⟨-1, nilI, 4⟩) := rfl
    have b2 : buildSliceA (some 3) [ND.av ⟨-1, nilI, 4⟩] = some (.lst (some 3) false .full [ND.av ⟨-1, nilI, 4⟩]) := rfl
    have b3 : buildA (.agg [.lst none true .full [], .lst none true .full [], .lst none true .full [], .int .i64 0]) [(1, none, .lst (some 3) false .full [ND.av ⟨-1, nilI, 4⟩]), (2, none, .lst (some 3) false .full [oneF.av]), (3, none, .int .i64 4)] = some aliveC.av := rfl
    have start : AC cfg 10 [] [] = AC cfg 10 [] [] := rfl
    conv at start => rhs; rw [T10, b1, Option.bind_some, b2, Option.bind_some, pc0, V21, Option.map_some, Option.bind_some, build_row oneF_fr, Option.bind_some, b3, Option.bind_some]
    simp only [new_cv, new_r, List.length_nil, List.nil_append] at start
    rw [cstA (x := zC) rfl, Option.bind_some] at start
    simp only [List.set_cons_zero] at start
    rw [cldA (x := aliveC) rfl, Option.bind_some, pcall1 (fz_cv _), r1, Option.map_some, Option.bind_some, ex0, Option.bind_some, ex1, Option.bind_some, ex2, Option.bind_some] at start
    simp only [new_z', new_r, List.length_nil, List.nil_append, List.length_cons, List.cons_append, Nat.zero_add] at start
    rw [st1all, Option.bind_some, binA_eql, Option.bind_some, decide_eq_true rfl, ifA_true, ld1all, Option.bind_some, pc0, V21, Option.map_some, Option.bind_some, pcRR, r3, oneF_fr, e9, Option.map_some, Option.bind_some] at start
    rw [start]
    rfl
  rw [pcall0, h10]; rfl
/-! ### Two certificates of the same content -/
theorem check_congr {c p r : CV} (hp : CutOf c p) (hr : CutOf c r) : checkE p = checkE r ∧ checkI p = checkI r ∧ checkQ p = checkQ r ∧ shapedB p = shapedB r := by
  have h1 := hp.odds.trans hr.odds.symm
  have h2 := hp.nodes.trans hr.nodes.symm
  have h3 := hp.ws.trans hr.ws.symm
  have h4 := hp.leaf.trans hr.leaf.symm
  obtain ⟨⟨z1, o1, e1⟩, ⟨s2, z2, o2, e2⟩, ⟨s3, z3, o3, e3⟩, l⟩ := p
  obtain ⟨⟨z1', o1', e1'⟩, ⟨s2', z2', o2', e2'⟩, ⟨s3', z3', o3', e3'⟩, l'⟩ := r
  simp only at h1 h2 h3 h4
  subst h1; subst h2; subst h3; subst h4
  exact ⟨rfl, rfl, rfl, rfl⟩
theorem ProofChecks_law {c : CV} (hc : XC c) (hf : c.fr = c) : ∃ m', AC cfg 3 [c.av] [] = some (.bool true, m') := by
  obtain ⟨p, r, e6, hp, hr⟩ := V6 hc
  obtain ⟨k1, k2, k3, _⟩ := check_congr hp hr
  obtain ⟨u, u1, u2, u3, u4⟩ := V7 hp.ok
  obtain ⟨w, w1, w2, w3, w4⟩ := V8 hr.ok
  have e9 := V9 u4 w4 (by omega) (by omega)
  rw [u2, w2, k3] at e9
  have start : AC cfg 3 [c.av] [] = AC cfg 3 [c.av] [] := rfl
  conv at start => rhs; rw [T3, box_cv, Option.bind_some]
  simp only [List.length_nil, List.nil_append] at start
  rw [cldA (x := c) rfl, Option.bind_some, pcall1 (fz_cv _), hf, e6, Option.map_some, Option.bind_some, ext0'', Option.bind_some, ext1'', Option.bind_some] at start
  simp only [new_cv, new_r, List.length_nil, List.nil_append, List.length_cons, List.cons_append, Nat.zero_add] at start
  rw [cstA (x := c) rfl, Option.bind_some] at start
  simp only [List.set_cons_zero] at start
  rw [cstA (x := zC) rfl, Option.bind_some] at start
  simp only [List.set_cons_zero, List.set_cons_succ] at start
  rw [cldA (x := p) rfl, Option.bind_some, pcall1 (fz_cv _), hp.fr, u1, Option.map_some, Option.bind_some, ex0, Option.bind_some, ex1, Option.bind_some, ex2, Option.bind_some] at start
  simp only [new_z', new_r, List.length_nil, List.nil_append, List.length_cons, List.cons_append, Nat.zero_add, Nat.reduceAdd] at start
  rw [st2all, Option.bind_some, cldA (x := r) rfl, Option.bind_some, pcall1 (fz_cv _), hr.fr, w1, Option.map_some, Option.bind_some, ex0, Option.bind_some, ex1, Option.bind_some, ex2, Option.bind_some] at start
  simp only [new_z', new_r, List.length_nil, List.nil_append, List.length_cons, List.cons_append, Nat.zero_add, Nat.reduceAdd] at start
  rw [st3all, Option.bind_some, binA_eql, Option.bind_some, decide_eq_true k1, ifA_true, binA_eql, Option.bind_some, decide_eq_true k2, ifA_true, ld2all, Option.bind_some, ld3all, Option.bind_some, pcRR, u3, w3, e9, Option.map_some, Option.bind_some, decide_eq_true rfl, ifA_true, pcall10, Option.bind_some] at start
  exact ⟨_, start⟩
end Go.Ab

/- Data that can be read, as values of the interpreter: any type of whole numbers, truth values, texts, rows of these, and flat structs. -/
set_option linter.unusedVariables false
set_option linter.unusedSimpArgs false
set_option maxRecDepth 100000
namespace Go.Ab
open Go.RowKit

def gN : G := ⟨fun _ _ => False, fun _ => False, fun _ => none, fun _ _ => none⟩
def atomT (P : Program) (t : Nat) : Bool := match P.underlying t with
  | some (.int _) | some .bool | some .string | some (.slice _) => true
  | _ => false
def shE (P : Program) (t : Nat) : Sh := match P.underlying t with
  | some (.struct fs) => some fs.size
  | _ => none
/-- What stands in a variable of a type, by depth. -/
def Reads (P : Program) : Nat → Nat → AV → Prop
  | 0, _, _ => False
  | n + 1, t, v => match P.underlying t with
    | some (.int k) => ∃ i, v = .int k i ∧ (Lit.int k i).wf = true
    | some .bool => ∃ b, v = .bool b
    | some .string => ∃ s, v = .str s ∧ s.size ≤ maxLen
    | some (.slice e) => ∃ z es, v = .lst (shE P e) z .no es ∧ (z = true → es = []) ∧ ∀ x ∈ es, Reads P n e x
    | some (.struct fs) => ∃ cs, v = .agg cs ∧ cs.length = fs.size ∧ ∀ i f, fs[i]? = some f → Reads P n f.type (cs.getD i .any)
    | _ => False
def fieldsOk (P : Program) (ok : Nat → Bool) : Nat → List Field → Bool
  | _, [] => true
  | i, f :: l => f.offset == i && P.cellsOf f.type == 1 && atomT P f.type && ok f.type && fieldsOk P ok (i + 1) l
def tyOk (P : Program) : Nat → Nat → Bool
  | 0, _ => false
  | n + 1, t => match P.underlying t with
    | some (.int _) | some .bool | some .string => P.cellsOf t == 1
    | some (.slice e) => P.cellsOf t == 1 && tyOk P n e
    | some (.struct fs) => P.cellsOf t == fs.size && decide (0 < fs.size) && fieldsOk P (tyOk P n) 0 fs.toList
    | _ => false
theorem fieldsOk_get {P : Program} {ok : Nat → Bool} : ∀ {l : List Field} {i0 : Nat}, fieldsOk P ok i0 l = true → ∀ i f, l[i]? = some f → f.offset = i0 + i ∧ P.cellsOf f.type = 1 ∧ atomT P f.type = true ∧ ok f.type = true
  | [], i0, h, i, f, hf => by simp at hf
  | g :: l, i0, h, i, f, hf => by
    simp only [fieldsOk, Bool.and_eq_true, beq_iff_eq] at h
    obtain ⟨⟨⟨⟨h1, h2⟩, h3⟩, h4⟩, h5⟩ := h
    cases i with
    | zero =>
      simp at hf; subst hf
      exact ⟨h1, h2, h3, h4⟩
    | succ i =>
      simp at hf
      obtain ⟨a, b⟩ := fieldsOk_get h5 i f hf
      exact ⟨by omega, b⟩
theorem flatS {s : Nat} (hs : 0 < s) : ∀ {es : List AV}, (∀ e ∈ es, e.cells.length = s) → (flat es).length = es.length * s ∧ ∀ j, j < es.length * s → (flat es).getD j .any = (es.getD (j / s) .any).cells.getD (j % s) .any
  | [], h => ⟨by simp [flat], fun j hj => by simp at hj⟩
  | e :: es, h => by
    have h0 := h e List.mem_cons_self
    obtain ⟨h1, h2⟩ := flatS hs (fun x hx => h x (List.mem_cons_of_mem _ hx))
    have e1 : flat (e :: es) = e.cells ++ flat es := rfl
    have e2 : (e :: es).length * s = es.length * s + s := by rw [List.length_cons, Nat.add_mul, Nat.one_mul]
    refine ⟨by rw [e1, List.length_append, h0, h1, e2]; omega, fun j hj => ?_⟩
    rw [e1, List.getD_eq_getElem?_getD]
    by_cases hj2 : j < s
    · rw [List.getElem?_append_left (by omega), Nat.div_eq_of_lt hj2, Nat.mod_eq_of_lt hj2]
      show _ = e.cells.getD j .any
      rw [List.getD_eq_getElem?_getD]
    · rw [List.getElem?_append_right (by omega), h0, ← List.getD_eq_getElem?_getD, h2 (j - s) (by omega)]
      have e3 : j / s = (j - s) / s + 1 := by
        have := Nat.div_eq_sub_div hs (by omega : s ≤ j)
        omega
      have e4 : j % s = (j - s) % s := Nat.mod_eq_sub_mod (by omega)
      rw [e3, e4, List.getD_cons_succ]
theorem reads_ok {P : Program} : ∀ (n t : Nat) (v : AV), tyOk P n t = true → Reads P n t v → shOk (shE P t) v = true ∧ pl v = true ∧ v.cells.length = P.cellsOf t ∧ 0 < P.cellsOf t ∧ (shE P t).size = P.cellsOf t ∧ (atomT P t = true → atomOk v = true)
  | 0, t, v, ht, _ => by simp [tyOk] at ht
  | n + 1, t, v, ht, h => by
    unfold Reads at h
    unfold tyOk at ht
    unfold shE atomT
    cases hu : P.underlying t with
    | none => rw [hu] at h; exact h.elim
    | some ty =>
      rw [hu] at h ht
      cases ty with
      | int k =>
        obtain ⟨i, rfl, _⟩ := h
        have hc : P.cellsOf t = 1 := by simpa using ht
        exact ⟨rfl, rfl, hc.symm, by omega, hc.symm, fun _ => rfl⟩
      | bool =>
        obtain ⟨i, rfl⟩ := h
        have hc : P.cellsOf t = 1 := by simpa using ht
        exact ⟨rfl, rfl, hc.symm, by omega, hc.symm, fun _ => rfl⟩
      | string =>
        obtain ⟨i, rfl, _⟩ := h
        have hc : P.cellsOf t = 1 := by simpa using ht
        exact ⟨rfl, rfl, hc.symm, by omega, hc.symm, fun _ => rfl⟩
      | slice e =>
        obtain ⟨z, es, rfl, _⟩ := h
        have hc : P.cellsOf t = 1 := by
          simp only [Bool.and_eq_true, beq_iff_eq] at ht
          exact ht.1
        exact ⟨rfl, rfl, hc.symm, by omega, hc.symm, fun _ => rfl⟩
      | struct fs =>
        obtain ⟨cs, rfl, hl, hf⟩ := h
        simp only [Bool.and_eq_true, beq_iff_eq, decide_eq_true_eq] at ht
        obtain ⟨⟨h1, h2⟩, h3⟩ := ht
        have hall : ∀ c ∈ cs, atomOk c = true ∧ pl c = true := by
          intro c hc
          obtain ⟨i, hi, rfl⟩ := List.mem_iff_getElem.1 hc
          have hfi : fs[i]? = some (fs[i]'(by omega)) := Array.getElem?_eq_getElem (by omega)
          obtain ⟨_, b, c2, d⟩ := fieldsOk_get h3 i _ (by rw [Array.getElem?_toList]; exact hfi)
          have r := hf i _ hfi
          rw [List.getD_eq_getElem?_getD, List.getElem?_eq_getElem hi] at r
          have := reads_ok n _ _ d r
          exact ⟨this.2.2.2.2.2 c2, this.2.1⟩
        have hpl : ∀ l : List AV, (∀ c ∈ l, pl c = true) → plL l = true := by
          intro l
          induction l with
          | nil => intro _; rfl
          | cons a l ih =>
            intro h
            show (pl a && plL l) = true
            rw [h a List.mem_cons_self, ih (fun c hc => h c (List.mem_cons_of_mem _ hc))]; rfl
        refine ⟨?_, hpl cs (fun c hc => (hall c hc).2), by show cs.length = _; omega, by omega, h1.symm, fun h => by cases h⟩
        show (cs.length == fs.size && cs.all atomOk) = true
        rw [Bool.and_eq_true]
        exact ⟨by simp [hl], List.all_eq_true.2 fun c hc => (hall c hc).1⟩
      | _ => exact h.elim
section
variable {P : Program} {H : Type} {enc : TypeId × Value → H} {W : World}
theorem rd_cells {w : World} {a : Addr} {n : Nat} {cs : List Value} (h : w.cells? 0 a n = some cs) : cs.length = n ∧ ∀ j, j < n → w.cell? (a.add j) = cs[j]? := by
  unfold World.cells? at h
  rw [if_pos (Nat.zero_le _)] at h
  refine ⟨by simpa using mapM_some_length h, fun j hj => mapM_some_get h j j (by simp [hj])⟩
theorem rd_add {a : Addr} (h : a.spot = none) (j : Nat) : a.add j = ⟨a.block, a.off + j, none⟩ := by
  obtain ⟨b, o, s⟩ := a
  subst h
  exact Addr_add b o j
/-- Whatever can be read is a value of the interpreter. -/
theorem reads : ∀ (n t : Nat), tyOk P n t = true → ∀ {fuel : Nat} {cs : List Value} {x : DataW H × List MemPlace}, DataW.trod enc P W 0 (fun _ => true) true fuel t cs = some x → ∃ v : AV, Reads P n t v ∧ cs.length = P.cellsOf t ∧ ∀ j, j < P.cellsOf t → V W gN (v.cells.getD j .any) (cs.getD j undef)
  | 0, t, ht, _, _, _, _ => by simp [tyOk] at ht
  | n + 1, t, ht, fuel, cs, x, h => by
    have ht0 := ht
    unfold tyOk at ht
    unfold Reads
    cases hu : P.underlying t with
    | none => rw [hu] at ht; cases ht
    | some ty =>
      rw [hu] at ht
      cases ty with
      | int k =>
        have hc : P.cellsOf t = 1 := by simpa using ht
        obtain ⟨i, rfl, _, hw⟩ := DataW.trod_int hu h
        refine ⟨.int k i, ⟨i, rfl, hw⟩, hc.symm, fun j hj => ?_⟩
        obtain rfl : j = 0 := by omega
        exact .int _ _
      | bool =>
        have hc : P.cellsOf t = 1 := by simpa using ht
        obtain ⟨i, rfl, _⟩ := DataW.trod_bool hu h
        refine ⟨.bool i, ⟨i, rfl⟩, hc.symm, fun j hj => ?_⟩
        obtain rfl : j = 0 := by omega
        exact .bool _
      | string =>
        have hc : P.cellsOf t = 1 := by simpa using ht
        obtain ⟨i, rfl, _, hw⟩ := DataW.trod_string hu h
        refine ⟨.str i, ⟨i, rfl, hw⟩, hc.symm, fun j hj => ?_⟩
        obtain rfl : j = 0 := by omega
        exact .str _
      | slice e =>
        simp only [Bool.and_eq_true, beq_iff_eq] at ht
        obtain ⟨hc, hte⟩ := ht
        rcases DataW.trod_slice hu h with ⟨rfl, _⟩ | ⟨a, len, cap, elems, rest, m, _, rfl, _, _, hl, hm, he, hel, hre, _⟩
        · refine ⟨.lst (shE P e) true .no [], ⟨true, [], rfl, fun _ => rfl, fun x hx => by cases hx⟩, hc.symm, fun j hj => ?_⟩
          obtain rfl : j = 0 := by omega
          exact .nils _ .no (.inr rfl)
        · obtain ⟨hrl, hre⟩ := hre rfl
          have raw : ∀ i, i < cap → ∃ y, (W.cells? 0 (a.add (i * P.cellsOf e)) (P.cellsOf e)).bind (DataW.trod enc P W 0 (fun _ => true) true m e) = some y := by
            intro i hi
            by_cases hi2 : i < len
            · have h1 := hel i hi2
              rw [List.getElem?_eq_getElem (by omega)] at h1
              exact ⟨_, h1⟩
            · have h1 := hre (i - len) (by omega)
              rw [List.getElem?_eq_getElem (by omega), show len + (i - len) = i by omega] at h1
              exact ⟨_, h1⟩
          have at1 : ∀ i, i < cap → (i = 0 ∨ a.spot = none) → a.spot = none ∧ ∃ v : AV, Reads P n e v ∧ ∀ j, j < P.cellsOf e → ∃ u, W.cell? ⟨a.block, a.off + (i * P.cellsOf e + j), none⟩ = some u ∧ V W gN (v.cells.getD j .any) u := by
            intro i hi hs0
            obtain ⟨y, hy⟩ := raw i hi
            obtain ⟨cs, h1, h2⟩ := Option.bind_eq_some_iff.1 hy
            obtain ⟨v, hv, hlen, hV⟩ := reads n e hte h2
            have hpos := (reads_ok n e v hte hv).2.2.2.1
            have h3 := (rd_cells h1).2
            have hs : a.spot = none := by
              rcases hs0 with rfl | hs0
              · rw [Nat.zero_mul] at h3
                have h4 := h3 0 hpos
                rw [List.getElem?_eq_getElem (by omega)] at h4
                exact World.cell?_spot h4
              · exact hs0
            refine ⟨hs, v, hv, fun j hj => ?_⟩
            have h4 := h3 j hj
            rw [rd_add hs, Addr_add, Nat.add_assoc, List.getElem?_eq_getElem (by omega)] at h4
            refine ⟨_, h4, ?_⟩
            have := hV j hj
            rwa [List.getD_eq_getElem?_getD (l := cs), List.getElem?_eq_getElem (by omega)] at this
          have hsp : cap = 0 ∨ a.spot = none := by
            by_cases h0 : cap = 0
            · exact .inl h0
            · exact .inr (at1 0 (by omega) (.inl rfl)).1
          have cell : ∀ i, ∃ v : AV, i < cap → Reads P n e v ∧ ∀ j, j < P.cellsOf e → ∃ u, W.cell? ⟨a.block, a.off + (i * P.cellsOf e + j), none⟩ = some u ∧ V W gN (v.cells.getD j .any) u := by
            intro i
            by_cases hi : i < cap
            · obtain ⟨v, hv⟩ := (at1 i hi (.inr (hsp.resolve_left (by omega)))).2
              exact ⟨v, fun _ => hv⟩
            · exact ⟨.any, fun h => absurd h hi⟩
          obtain ⟨f, hf⟩ := Classical.axiomOfChoice cell
          have hlen : ((List.range len).map f).length = len := by simp
          have hmem : ∀ v ∈ (List.range len).map f, Reads P n e v := by
            intro v hv
            obtain ⟨i, hi, rfl⟩ := List.mem_map.1 hv
            exact (hf i (by have := List.mem_range.1 hi; omega)).1
          have hok := fun v hv => reads_ok n e v hte (hmem v hv)
          by_cases hl0 : len = 0
          · subst hl0
            refine ⟨.lst (shE P e) false .no [], ⟨false, [], rfl, (fun h => by cases h), fun x hx => by cases hx⟩, hc.symm, fun j hj => ?_⟩
            obtain rfl : j = 0 := by omega
            exact V.lst (w := W) (g := gN) (shE P e) .no [] a cap (fun _ => undef) hsp (Nat.zero_le _) hm (fun e he => by cases he) (fun j hj => by simp [flat] at hj) (fun j hj => by simp [flat] at hj) trivial
          · have hs0 : 0 < P.cellsOf e := (hok (f 0) (List.mem_map.2 ⟨0, List.mem_range.2 (by omega), rfl⟩)).2.2.2.1
            obtain ⟨fl1, fl2⟩ := flatS hs0 (fun v hv => (hok v hv).2.2.1)
            rw [hlen] at fl1 fl2
            have hcl : ∀ j, j < len * P.cellsOf e → ∃ u, W.cell? ⟨a.block, a.off + j, none⟩ = some u ∧ V W gN ((flat ((List.range len).map f)).getD j .any) u := by
              intro j hj
              have hd : j / P.cellsOf e < len := Nat.div_lt_of_lt_mul (by rw [Nat.mul_comm]; exact hj)
              have h1 := (hf (j / P.cellsOf e) (by omega)).2 (j % P.cellsOf e) (Nat.mod_lt _ hs0)
              have e1 : j / P.cellsOf e * P.cellsOf e + j % P.cellsOf e = j := Nat.div_add_mod' j _
              rw [e1] at h1
              rw [fl2 j hj, List.getD_eq_getElem?_getD (l := (List.range len).map f), List.getElem?_map, List.getElem?_range hd]
              exact h1
            have hus : ∀ j, ∃ u, j < len * P.cellsOf e → W.cell? ⟨a.block, a.off + j, none⟩ = some u ∧ V W gN ((flat ((List.range len).map f)).getD j .any) u := by
              intro j
              by_cases hj : j < len * P.cellsOf e
              · obtain ⟨u, hu⟩ := hcl j hj
                exact ⟨u, fun _ => hu⟩
              · exact ⟨undef, fun h => absurd h hj⟩
            obtain ⟨us, hus⟩ := Classical.axiomOfChoice hus
            refine ⟨.lst (shE P e) false .no ((List.range len).map f), ⟨false, _, rfl, (fun h => by cases h), hmem⟩, hc.symm, fun j hj => ?_⟩
            obtain rfl : j = 0 := by omega
            have hV := V.lst (w := W) (g := gN) (shE P e) .no ((List.range len).map f) a cap us hsp (by rw [hlen]; exact hl) hm
              (fun v hv => ⟨(hok v hv).1, (hok v hv).2.1⟩)
              (fun j hj => by
                rw [fl1] at hj
                exact ⟨(hus j hj).1, fun h => h, fun h => h⟩)
              (fun j hj => by
                rw [fl1] at hj
                exact (hus j hj).2) trivial
            rw [hlen] at hV
            exact hV
      | struct fs =>
        simp only [Bool.and_eq_true, beq_iff_eq, decide_eq_true_eq] at ht
        obtain ⟨⟨h1, h2⟩, h3⟩ := ht
        obtain ⟨xs, m, _, _, hcl, hxl, hf⟩ := DataW.trod_struct hu h
        have fld : ∀ i, ∃ v : AV, i < fs.size → ∀ f, fs[i]? = some f → Reads P n f.type v ∧ V W gN v (cs.getD i undef) := by
          intro i
          by_cases hi : i < fs.size
          · have hfi : fs[i]? = some fs[i] := Array.getElem?_eq_getElem hi
            obtain ⟨o, c, a, k⟩ := fieldsOk_get h3 i fs[i] (by rw [Array.getElem?_toList]; exact hfi)
            have hx := hf i fs[i] hfi
            rw [List.getElem?_eq_getElem (by omega)] at hx
            obtain ⟨v, hv, hlen, hV⟩ := reads n _ k hx
            refine ⟨v, fun _ f hf => ?_⟩
            rw [hfi] at hf
            obtain rfl := Option.some.inj hf
            refine ⟨hv, ?_⟩
            have h0 := hV 0 (by omega)
            have hat := (reads_ok n _ v k hv).2.2.2.2.2 a
            have hcells : v.cells = [v] := by
              cases v <;> first | rfl | (simp [atomOk] at hat)
            rw [hcells, o, Nat.zero_add, c] at h0
            have e0 : ((cs.drop i).take 1).getD 0 undef = cs.getD i undef := by
              rw [List.getD_eq_getElem?_getD, List.getD_eq_getElem?_getD, List.getElem?_take_of_lt (by omega), List.getElem?_drop]; rfl
            rw [e0] at h0
            exact h0
          · exact ⟨.any, fun h => absurd h hi⟩
        obtain ⟨F, hF⟩ := Classical.axiomOfChoice fld
        have hg : ∀ i, i < fs.size → ((List.range fs.size).map F).getD i .any = F i := by
          intro i hi
          rw [List.getD_eq_getElem?_getD, List.getElem?_map, List.getElem?_range hi]; rfl
        refine ⟨.agg ((List.range fs.size).map F), ⟨_, rfl, by simp, fun i f hf => ?_⟩, hcl, fun j hj => ?_⟩
        · have hi : i < fs.size := (Array.getElem?_eq_some_iff.1 hf).1
          rw [hg i hi]
          exact (hF i hi f hf).1
        · rw [h1] at hj
          show V W gN (((List.range fs.size).map F).getD j .any) _
          rw [hg j hj]
          exact (hF j hj fs[j] (Array.getElem?_eq_getElem hj)).2
      | _ => cases ht
theorem read_struct {n t : Nat} (ht : tyOk P n t = true) {v : Value} {d : DataW H} {ps : List MemPlace} (hv : ∃ cs, v = .agg cs) (h : DataW.Trod enc P W 0 (fun _ => true) true t v d ps) (hs : (shE P t).isSome = true) : ∃ y : AV, V W gN y v ∧ Reads P n t y := by
  obtain ⟨cs, rfl⟩ := hv
  obtain ⟨fuel, h⟩ := h
  have h : DataW.trod enc P W 0 (fun _ => true) true fuel t cs.toList = some (d, ps) := h
  obtain ⟨y, hy, hl, hV⟩ := reads n t ht h
  obtain ⟨h1, _, h3, _, _, _⟩ := reads_ok n t y ht hy
  have : ∃ l, y = .agg l := by
    unfold shOk at h1
    cases hsh : shE P t with
    | none => rw [hsh] at hs; cases hs
    | some k =>
      rw [hsh] at h1
      cases y <;> first | exact ⟨_, rfl⟩ | cases h1
  obtain ⟨l, rfl⟩ := this
  refine ⟨.agg l, .agg _ _ (by simp at hl; exact h3.trans hl.symm) (fun j hj => ?_), hy⟩
  have := hV j (by rw [← h3]; exact hj)
  rw [List.getD_eq_getElem?_getD (l := cs.toList), Array.getElem?_toList] at this
  rw [Array.getD_eq_getD_getElem?]
  exact this
end
end Go.Ab

/- Certificates that can be read as data, as values of the interpreter. -/
set_option linter.unusedVariables false
set_option linter.unusedSimpArgs false
set_option maxRecDepth 100000
namespace Go.Ab
open Go.Proofs Go.Proofs.Try Go.RowKit

theorem get_nil (nm : Nat) : Mem.get ([] : Mem) nm = none := by simp [Mem.get]
theorem memR0 (w : World) : MemR w.heap.size w gN [] where
  obj nm bx cs h := by rw [get_nil] at h; cases h
  tok nm n sz h := by rw [get_nil] at h; cases h
  resv nm h := ⟨rfl, fun _ => rfl⟩
  fresh nm h := ⟨rfl, fun _ => rfl⟩
  inj nm nm' b h := by unfold blk at h; rw [get_nil] at h; cases h
  wrLt b off h := h.elim
  boxLt b h := h.elim
theorem cfgOk : CfgOk cfg where
  name g fn h := by
    have hall : (Try.prog.funcs.toList.all fun fn => !(fn.name == "runtime.NumGoroutine")) = true := by kernel_rfl
    have hm : fn ∈ Try.prog.funcs.toList := by
      rw [Array.mem_toList_iff]
      exact Array.mem_of_getElem? h
    have := List.all_eq_true.1 hall fn hm
    simpa using this
  lib g h hh := by cases hh
/-- A law that answers true in values answers true on the machine, and turns nothing that was there. -/
theorem law_calls {f : Nat} {args : List AV} {vs : Array Value} {W : World} (h : ∃ m', AC cfg f args [] = some (.bool true, m')) (hl : args.length = vs.size) (hv : ∀ j, j < args.length → V W gN (args.getD j .any) (vs.getD j undef)) :
    Calls Try.prog f vs W fun e W' => e = .returned (.bool true) ∧ Below W.heap.size W W' := by
  obtain ⟨m', hm'⟩ := h
  refine ((AC_sound cfgOk f args [] _ _ hm').1 W.heap.size W gN vs (memR0 W) (Nat.le_refl _) hl hv).mono ?_
  rintro e W' ⟨v', g', rfl, hs, _, hv'⟩
  cases hv'
  exact ⟨rfl, hs.below⟩
/-! ### Types -/
theorem u3 : Try.prog.underlying 3 = some (.int .i64) := by kernel_rfl
theorem u4 : Try.prog.underlying 4 = some .bool := by kernel_rfl
theorem u22 : Try.prog.underlying 22 = some (.slice 48) := by kernel_rfl
theorem u23 : Try.prog.underlying 23 = some (.slice 50) := by kernel_rfl
theorem u24 : Try.prog.underlying 24 = some (.slice 35) := by kernel_rfl
theorem u33 : Try.prog.underlying 33 = some (.slice 92) := by kernel_rfl
theorem u48 : Try.prog.underlying 48 = some (.slice 3) := by kernel_rfl
theorem u92 : Try.prog.underlying 92 = some (.int .u32) := by kernel_rfl
noncomputable def fieldsOf (t : Nat) : Array Field := match Try.prog.underlying t with
  | some (.struct fs) => fs
  | _ => #[]
theorem u26 : Try.prog.underlying 26 = some (.struct (fieldsOf 26)) := by kernel_rfl
theorem u35 : Try.prog.underlying 35 = some (.struct (fieldsOf 35)) := by kernel_rfl
theorem u50 : Try.prog.underlying 50 = some (.struct (fieldsOf 50)) := by kernel_rfl
theorem f26 : (fieldsOf 26).toList.map (fun f => f.type) = [22, 23, 24, 3] := by kernel_rfl
theorem f35 : (fieldsOf 35).toList.map (fun f => f.type) = [4, 33, 33] := by kernel_rfl
theorem f50 : (fieldsOf 50).toList.map (fun f => f.type) = [3, 48, 3] := by kernel_rfl
theorem s3 : shE Try.prog 3 = none := by unfold shE; rw [u3]
theorem s48 : shE Try.prog 48 = none := by unfold shE; rw [u48]
theorem s92 : shE Try.prog 92 = none := by unfold shE; rw [u92]
theorem sz {t : Nat} {l : List Nat} (h : (fieldsOf t).toList.map (fun f => f.type) = l) : (fieldsOf t).size = l.length := by
  rw [← h, List.length_map, Array.length_toList]
theorem s35 : shE Try.prog 35 = some 3 := by unfold shE; rw [u35]; exact congrArg some (sz f35)
theorem s50 : shE Try.prog 50 = some 3 := by unfold shE; rw [u50]; exact congrArg some (sz f50)
theorem s26 : shE Try.prog 26 = some 4 := by unfold shE; rw [u26]; exact congrArg some (sz f26)
theorem fld_type {t : Nat} {l : List Nat} (h : (fieldsOf t).toList.map (fun f => f.type) = l) {i ty : Nat} (hi : l[i]? = some ty) : ∃ f, (fieldsOf t)[i]? = some f ∧ f.type = ty := by
  rw [← h, List.getElem?_map, Option.map_eq_some_iff] at hi
  obtain ⟨f, h1, h2⟩ := hi
  exact ⟨f, by rw [← Array.getElem?_toList]; exact h1, h2⟩
theorem rd_struct {n t : Nat} {v : AV} (ht : Try.prog.underlying t = some (.struct (fieldsOf t))) (h : Reads Try.prog (n + 1) t v) : ∃ cs, v = .agg cs ∧ cs.length = (fieldsOf t).size ∧ ∀ i ty, ((fieldsOf t).toList.map (fun f => f.type))[i]? = some ty → Reads Try.prog n ty (cs.getD i .any) := by
  unfold Reads at h
  rw [ht] at h
  obtain ⟨cs, h1, h2, h3⟩ := h
  refine ⟨cs, h1, h2, fun i ty hi => ?_⟩
  obtain ⟨f, hf, rfl⟩ := fld_type rfl hi
  exact h3 i f hf
theorem rd_slice {n t e : Nat} {v : AV} (ht : Try.prog.underlying t = some (.slice e)) (h : Reads Try.prog (n + 1) t v) : ∃ z es, v = .lst (shE Try.prog e) z .no es ∧ (z = true → es = []) ∧ ∀ x ∈ es, Reads Try.prog n e x := by
  unfold Reads at h
  rw [ht] at h
  exact h
theorem rd_int {n : Nat} {v : AV} (h : Reads Try.prog (n + 1) 3 v) : ∃ i, v = .int .i64 i := by
  unfold Reads at h
  rw [u3] at h
  obtain ⟨i, h1, _⟩ := h
  exact ⟨i, h1⟩
theorem rd_bool {n : Nat} {v : AV} (h : Reads Try.prog (n + 1) 4 v) : ∃ i, v = .bool i := by
  unfold Reads at h
  rw [u4] at h
  exact h
theorem rd_u32 {n : Nat} {v : AV} (h : Reads Try.prog (n + 1) 92 v) : ∃ d : Nat, v = dg d ∧ d < 4294967296 := by
  unfold Reads at h
  rw [u92] at h
  obtain ⟨i, h1, hw⟩ := h
  have hw2 : 0 ≤ i ∧ i ≤ 4294967295 := by
    simp only [Lit.wf, Bool.and_eq_true, decide_eq_true_eq] at hw
    exact hw
  obtain ⟨d, rfl⟩ := Int.eq_ofNat_of_zero_le hw2.1
  exact ⟨d, h1, by omega⟩
theorem rd_nat {n : Nat} {v : AV} (h : Reads Try.prog (n + 2) 33 v) : ∃ x : NV, v = x.av ∧ XN x ∧ x.o = .no := by
  obtain ⟨z, es, rfl, hz, he⟩ := rd_slice u33 h
  obtain ⟨ds, rfl, hd⟩ := list_map (fun x hx => rd_u32 (he x hx))
  refine ⟨⟨z, .no, ds⟩, by rw [s92]; rfl, ⟨fun i => ?_, fun h => List.map_eq_nil_iff.1 (hz h)⟩, rfl⟩
  show ds.getD i 0 < _
  rw [List.getD_eq_getElem?_getD]
  by_cases hi : i < ds.length
  · rw [List.getElem?_eq_getElem hi]; exact hd _ (List.getElem_mem hi)
  · rw [List.getElem?_eq_none (by omega)]; exact (by omega : 0 < 4294967296)
theorem cells3 {cs : List AV} (h : cs.length = 3) : ∃ a b c, cs = [a, b, c] := by
  match cs, h with
  | [a, b, c], _ => exact ⟨a, b, c, rfl⟩
theorem cells4 {cs : List AV} (h : cs.length = 4) : ∃ a b c d, cs = [a, b, c, d] := by
  match cs, h with
  | [a, b, c, d], _ => exact ⟨a, b, c, d, rfl⟩
theorem rd_ratio {n : Nat} {v : AV} (h : Reads Try.prog (n + 3) 35 v) : ∃ r : RV, v = r.av ∧ (XR r ∧ r.fr = r) := by
  obtain ⟨cs, rfl, hl, hf⟩ := rd_struct u35 h
  rw [sz f35] at hl
  obtain ⟨a, b, c, rfl⟩ := cells3 hl
  rw [f35] at hf
  obtain ⟨s, hs⟩ := rd_bool (hf 0 4 rfl)
  obtain ⟨x, hx, x1, x2⟩ := rd_nat (hf 1 33 rfl)
  obtain ⟨y, hy, y1, y2⟩ := rd_nat (hf 2 33 rfl)
  have hs : a = .bool s := hs
  have hx : b = x.av := hx
  have hy : c = y.av := hy
  subst hs; subst hx; subst hy
  refine ⟨⟨s, x, y⟩, rfl, ⟨x1, y1⟩, ?_⟩
  obtain ⟨xz, xo, xd⟩ := x
  obtain ⟨yz, yo, yd⟩ := y
  subst x2; subst y2; rfl
theorem rd_ints {n : Nat} {v : AV} (h : Reads Try.prog (n + 2) 48 v) : ∃ x : IL, v = x.av ∧ x.o = .no := by
  obtain ⟨z, es, rfl, hz, he⟩ := rd_slice u48 h
  obtain ⟨ns, rfl, hd⟩ := list_map (f := iA) (Q := fun _ => True) (fun x hx => by
    obtain ⟨i, hi⟩ := rd_int (he x hx)
    exact ⟨i, hi, trivial⟩)
  exact ⟨⟨z, .no, ns⟩, by rw [s3]; rfl, rfl⟩
theorem rd_node {n : Nat} {v : AV} (h : Reads Try.prog (n + 3) 50 v) : ∃ x : ND, v = x.av ∧ x.kids.o = .no := by
  obtain ⟨cs, rfl, hl, hf⟩ := rd_struct u50 h
  rw [sz f50] at hl
  obtain ⟨a, b, c, rfl⟩ := cells3 hl
  rw [f50] at hf
  obtain ⟨s, hs⟩ := rd_int (hf 0 3 rfl)
  obtain ⟨x, hx, x1⟩ := rd_ints (hf 1 48 rfl)
  obtain ⟨y, hy⟩ := rd_int (hf 2 3 rfl)
  have hs : a = .int .i64 s := hs
  have hx : b = x.av := hx
  have hy : c = .int .i64 y := hy
  subst hs; subst hx; subst hy
  exact ⟨⟨s, x, y⟩, rfl, x1⟩
theorem rd_ratios {n : Nat} {v : AV} (h : Reads Try.prog (n + 4) 24 v) : ∃ l : LV, v = l.av ∧ l.sh = some 3 ∧ (l.z = true → l.es = []) ∧ (∀ r ∈ l.es, XR r ∧ r.fr = r) ∧ l.o = .no := by
  obtain ⟨z, es, rfl, hz, he⟩ := rd_slice u24 h
  obtain ⟨rs, rfl, hd⟩ := list_map (fun x hx => rd_ratio (he x hx))
  exact ⟨⟨some 3, z, .no, rs⟩, by rw [s35]; rfl, rfl, fun h => List.map_eq_nil_iff.1 (hz h), hd, rfl⟩
theorem rd_cert {n : Nat} {v : AV} (h : Reads Try.prog (n + 5) 26 v) : ∃ c : CV, v = c.av ∧ XC c ∧ c.fr = c := by
  obtain ⟨cs, rfl, hl, hf⟩ := rd_struct u26 h
  rw [sz f26] at hl
  obtain ⟨a, b, c, d, rfl⟩ := cells4 hl
  rw [f26] at hf
  obtain ⟨z1, es1, h1, _, he1⟩ := rd_slice u22 (hf 0 22 rfl)
  obtain ⟨os, rfl, ho⟩ := list_map (fun x hx => rd_ints (he1 x hx))
  obtain ⟨z2, es2, h2, _, he2⟩ := rd_slice u23 (hf 1 23 rfl)
  obtain ⟨ns, rfl, hn⟩ := list_map (fun x hx => rd_node (he2 x hx))
  obtain ⟨w, h3, w1, w2, w3, w4⟩ := rd_ratios (hf 2 24 rfl)
  obtain ⟨y, h4⟩ := rd_int (hf 3 3 rfl)
  rw [s48] at h1
  rw [s50] at h2
  have h1 : a = .lst none z1 .no (os.map IL.av) := h1
  have h2 : b = .lst (some 3) z2 .no (ns.map ND.av) := h2
  have h3 : c = w.av := h3
  have h4 : d = .int .i64 y := h4
  subst h1; subst h2; subst h3; subst h4
  refine ⟨⟨⟨z1, .no, os⟩, ⟨some 3, z2, .no, ns⟩, w, y⟩, rfl, ⟨.inl rfl, hn, ho, .inl w1, fun r hr => (w3 r hr).1⟩, ?_⟩
  obtain ⟨sh, z, o, es⟩ := w
  simp only at w4
  subst w4
  rfl
theorem ok26 : tyOk Try.prog 5 26 = true := by kernel_rfl
section
variable {H : Type} {enc : TypeId × Value → H} {W : World}
theorem cert_read {v : Value} {d : DataW H} {ps : List MemPlace} (hv : ∃ cs, v = .agg cs) (h : DataW.Trod enc Try.prog W 0 (fun _ => true) true 26 v d ps) : ∃ y : CV, V W gN y.av v ∧ XC y ∧ y.fr = y := by
  obtain ⟨y, hy, hr⟩ := read_struct ok26 hv h (by rw [s26]; rfl)
  obtain ⟨c, rfl, hc, hf⟩ := rd_cert hr
  exact ⟨c, hy, hc, hf⟩
theorem okWide_agg {base : Nat} {t : Nat} {v : Value} {fs : Array Field} (ht : Try.prog.underlying t = some (.struct fs)) (h : Value.okWide Try.prog W .any base t v) : ∃ cs, v = .agg cs := by
  simp only [Value.okWide, ht] at h
  obtain ⟨cs, h, _⟩ := h
  exact ⟨cs, h⟩
end
end Go.Ab
