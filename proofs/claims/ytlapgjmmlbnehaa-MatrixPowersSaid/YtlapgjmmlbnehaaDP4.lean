/- What the interpreter does, function by function. -/
import Derived.Test.YtlapgjmmlbnehaaDP1
import Derived.Test.YtlapgjmmlbnehaaDP3
import Derived.ProofKit
import Derived.OpenShut
import Derived.ChangeArms
import Derived.KernelRfl
set_option maxRecDepth 100000
set_option linter.unusedVariables false
namespace Go.Ab
open Go.Proofs.Try
/-! ### sortilege/matrix.Add -/
/-! ### sortilege/matrix.Scale -/
/-! ### sortilege/matrix.Transpose -/
/-! ### sortilege/matrix.Same -/
def O39_4 (m : Mem) : St := ⟨[.any, .any, .any, .any, .any, .any, .any, .any, .any, .any, .any, .any, .any, .any, .any, .any, .any, .any, .any, .any, .any, .any, .any, .any, .any, .any, .any, .any, .any, .any, .any, .any, .any, .any, .any, .any, .any, .any, .any, .any, .any, .any, .any, .any, .any, .any], m⟩
def R39_4 (x4 : AV) (m : Mem) : St := ⟨[.any, .any, .any, .any, x4, .any, .any, .any, .any, .any, .any, .any, .any, .any, .any, .any, .any, .any, .any, .any, .any, .any, .any, .any, .any, .any, .any, .any, .any, .any, .any, .any, .any, .any, .any, .any, .any, .any, .any, .any, .any, .any, .any, .any, .any, .any], m⟩
noncomputable def L39_4 (x2 x3 x29 x30 : AV) (m : Mem) (K : Ex → St → Option (AV × Mem)) : Option (AV × Mem) := loopW (execW cfg 39 (AP cfg) (AC cfg) (c1 (c1 (c2 (c1 (c2 (c2 (bodyOf f39)))))))) (cfg.mask 39 (some 4)) ⟨[.any, .any, x2, x3, .any, .any, .any, .any, .any, .any, .any, .any, .any, .any, .any, .any, .any, .any, .any, .any, .any, .any, .any, .any, .any, .any, .any, .any, .any, x29, x30, .any, .any, .any, .any, .any, .any, .any, .any, .any, .any, .any, .any, .any, .any, .any], m⟩ K
noncomputable abbrev K39_4_0 (K : Ex → St → Option (AV × Mem)) : Ex → St → Option (AV × Mem) := seqK (fun st => execW cfg 39 (AP cfg) (AC cfg) (c2 (c2 (c2 (bodyOf f39)))) st K) K
noncomputable abbrev K39_4_1 (K : Ex → St → Option (AV × Mem)) : Ex → St → Option (AV × Mem) := blockK 0 (K39_4_0 K)
noncomputable abbrev K39_4 (K : Ex → St → Option (AV × Mem)) : Ex → St → Option (AV × Mem) := (K39_4_1 K)
theorem T39 (a0 a1 : AV) (m : Mem) : AC cfg 39 [a0, a1] m =
  (boxA none (some 3) m a0).bind fun r1 =>
  (boxA none (some 3) r1.2 a1).bind fun r2 =>
  (fieldAddrA 0 r1.1).bind fun v3 =>
  (loadA none r2.2 v3).bind fun v4 =>
  (fieldAddrA 0 r2.1).bind fun v5 =>
  (loadA none r2.2 v5).bind fun v6 =>
  (binA .other .neq v4 v6).bind fun v7 =>
  ifA v7 (
  some ((.bool false), r2.2)) (
  (fieldAddrA 1 r1.1).bind fun v8 =>
  (loadA none r2.2 v8).bind fun v9 =>
  (fieldAddrA 1 r2.1).bind fun v10 =>
  (loadA none r2.2 v10).bind fun v11 =>
  (binA .other .neq v9 v11).bind fun v12 =>
  ifA v12 (
  some ((.bool false), r2.2)) (
  (fieldAddrA 2 r1.1).bind fun v13 =>
  (loadA none r2.2 v13).bind fun v14 =>
  (lenA false v14).bind fun v15 =>
  (fieldAddrA 2 r2.1).bind fun v16 =>
  (loadA none r2.2 v16).bind fun v17 =>
  (lenA false v17).bind fun v18 =>
  (binA .other .neq v15 v18).bind fun v19 =>
  ifA v19 (
  some ((.bool false), r2.2)) (
  (fieldAddrA 2 r1.1).bind fun v20 =>
  (loadA none r2.2 v20).bind fun v21 =>
  (lenA false v21).bind fun v22 =>
  L39_4 r1.1 r2.1 v22 (.int .i64 0) r2.2 (K39_4 (finK cfg.P f39.results.toList))))) :=
(AC_eq cfg 39 [a0, a1] m (fn := f39) (c := bodyOf f39) at39 rfl).trans (by kernel_rfl)
theorem L39_4_eq (x2 x3 x29 x30 : AV) (m : Mem) (K : Ex → St → Option (AV × Mem)) : L39_4 x2 x3 x29 x30 m K =
  (binA .other .lss x30 x29).bind fun v1 =>
  ifA v1 (
  (fieldAddrA 2 x2).bind fun v2 =>
  (loadA none m v2).bind fun v3 =>
  (indexAddrA (some 3) v3 x30).bind fun v4 =>
  (loadA (some 3) m v4).bind fun v5 =>
  (fieldAddrA 2 x3).bind fun v6 =>
  (loadA none m v6).bind fun v7 =>
  (indexAddrA (some 3) v7 x30).bind fun v8 =>
  (loadA (some 3) m v8).bind fun v9 =>
  (pcall (AP cfg) (some m.length) m 80 [v5, v9]).bind fun r10 =>
  (unA .not r10.1).bind fun v11 =>
  ifA v11 (
  K .ret (R39_4 (.bool false) r10.2)) (
  (binA .other .add x30 (.int .i64 1)).bind fun v12 =>
  L39_4 x2 x3 x29 v12 r10.2 K)) (
  K (.exit 0) (O39_4 m)) :=
(loopW_eq (execW_lin _) _ _ _).trans (by kernel_rfl)
theorem K39_4_x0 (m : Mem) : K39_4 (finK cfg.P f39.results.toList) (.exit 0) (O39_4  m) =
  some ((.bool true), m) := by kernel_rfl
theorem K39_4_ret (x4 : AV) (m : Mem) : K39_4 (finK cfg.P f39.results.toList) .ret (R39_4 x4 m) =
  some (x4, m) := by kernel_rfl
/-! ### sortilege/matrix.Mul -/
theorem T41 (a0 a1 : AV) (m : Mem) : AC cfg 41 [a0, a1] m =
  (boxA none (some 3) m a0).bind fun r1 =>
  (boxA none (some 3) r1.2 a1).bind fun r2 =>
  (loadA (some 3) (newAt none r2.2 (.obj true [(.int .i64 0), (.int .i64 0), (.lst none true .full [])])).2 r1.1).bind fun v3 =>
  (pcall (AP cfg) none (newAt none r2.2 (.obj true [(.int .i64 0), (.int .i64 0), (.lst none true .full [])])).2 20 [v3]).bind fun r4 =>
  (unA .not r4.1).bind fun v5 =>
  ifA v5 (
  (buildA (.agg [(.int .i64 0), (.int .i64 0), (.lst none true .full [])]) []).bind fun v6 =>
  (storeA (some 3) r4.2 (.ptr (newAt none r2.2 .resv).1 0) v6).bind fun m7 =>
  (loadA (some 3) m7 (.ptr (newAt none r2.2 .resv).1 0)).bind fun v8 =>
  some ((.tup [v8, (.int .i64 1)]), m7)) (
  (loadA (some 3) r4.2 r2.1).bind fun v9 =>
  (pcall (AP cfg) none r4.2 20 [v9]).bind fun r10 =>
  (unA .not r10.1).bind fun v11 =>
  ifA v11 (
  (buildA (.agg [(.int .i64 0), (.int .i64 0), (.lst none true .full [])]) []).bind fun v12 =>
  (storeA (some 3) r10.2 (.ptr (newAt none r2.2 .resv).1 0) v12).bind fun m13 =>
  (loadA (some 3) m13 (.ptr (newAt none r2.2 .resv).1 0)).bind fun v14 =>
  some ((.tup [v14, (.int .i64 1)]), m13)) (
  (fieldAddrA 1 r1.1).bind fun v15 =>
  (loadA none r10.2 v15).bind fun v16 =>
  (fieldAddrA 0 r2.1).bind fun v17 =>
  (loadA none r10.2 v17).bind fun v18 =>
  (binA .other .neq v16 v18).bind fun v19 =>
  ifA v19 (
  (buildA (.agg [(.int .i64 0), (.int .i64 0), (.lst none true .full [])]) []).bind fun v20 =>
  (storeA (some 3) r10.2 (.ptr (newAt none r2.2 .resv).1 0) v20).bind fun m21 =>
  (loadA (some 3) m21 (.ptr (newAt none r2.2 .resv).1 0)).bind fun v22 =>
  some ((.tup [v22, (.int .i64 30)]), m21)) (
  (loadA (some 3) r10.2 r1.1).bind fun v23 =>
  (loadA (some 3) r10.2 r2.1).bind fun v24 =>
  (pcall (AP cfg) none r10.2 73 [v23, v24]).bind fun r25 =>
  (storeA (some 3) r25.2 (.ptr (newAt none r2.2 .resv).1 0) r25.1).bind fun m26 =>
  (loadA (some 3) m26 (.ptr (newAt none r2.2 .resv).1 0)).bind fun v27 =>
  some ((.tup [v27, (.int .i64 0)]), m26)))) :=
(AC_eq cfg 41 [a0, a1] m (fn := f41) (c := bodyOf f41) at41 rfl).trans (by kernel_rfl)
/-! ### sortilege/matrix.Zero$1 -/
/-! ### sortilege/matrix.Add$1 -/
/-! ### sortilege/matrix.Scale$1 -/
/-! ### sortilege/matrix.Transpose$1 -/
end Go.Ab

/- Matrices whose cells a function tells. -/
set_option linter.unusedVariables false
set_option linter.unusedSimpArgs false
set_option maxRecDepth 100000
namespace Go.Ab
open Go.Proofs.Try

theorem pcM {m : Mem} {d : Option Nat} {g : Nat} (x : MV) : pcall (AP cfg) d m g [x.av] = (AP cfg g [x.fr.av]).map fun v => (v, m) := pcall1 (fz_mv x)
theorem pcII {m : Mem} {d : Option Nat} {g : Nat} (k k' : IntKind) (a b : Int) : pcall (AP cfg) d m g [.int k a, .int k' b] = (AP cfg g [.int k a, .int k' b]).map fun v => (v, m) := pcall2 (fz_int k a) (fz_int k' b)

/-! ### sized -/
def sizeE (a b : Int) : Int := if a < 0 ∨ b < 0 then 1 else if a > 60 ∨ b > 60 then 2 else 0
theorem V57 (a b : Int) : AP cfg 57 [.int .i64 a, .int .i64 b] = some (.int .i64 (sizeE a b)) := by
  refine AP_ofz _ _ (fz_int _ _) rfl (m := []) ?_
  rw [T57, binA_lss, Option.bind_some, ifA_dec]
  unfold sizeE
  by_cases c1 : a < 0
  · rw [if_pos c1, if_pos (.inl c1)]
  · rw [if_neg c1, binA_lss, Option.bind_some, ifA_dec]
    by_cases c2 : b < 0
    · rw [if_pos c2, if_pos (.inr c2)]
    · rw [if_neg c2, if_neg (fun h => h.elim c1 c2), binA_gtr, Option.bind_some, ifA_dec]
      by_cases c3 : a > 60
      · rw [if_pos c3, if_pos (.inl c3)]
      · rw [if_neg c3, binA_gtr, Option.bind_some, ifA_dec]
        by_cases c4 : b > 60
        · rw [if_pos c4, if_pos (.inr c4)]
        · rw [if_neg c4, if_neg (fun h => h.elim c3 c4)]

/-! ### filled -/
def rowF (F : Nat → Nat → RV) (cols i : Nat) : List RV := (List.range cols).map (F i)
def cellsF (F : Nat → Nat → RV) (cols : Nat) : Nat → List RV
  | 0 => []
  | i + 1 => cellsF F cols i ++ rowF F cols i
theorem cellsF_length (F : Nat → Nat → RV) (cols : Nat) : ∀ i, (cellsF F cols i).length = i * cols
  | 0 => by simp [cellsF]
  | i + 1 => by simp [cellsF, rowF, cellsF_length F cols i, Nat.succ_mul]
theorem cellsF_mem {F : Nat → Nat → RV} {cols : Nat} {r : RV} : ∀ {i : Nat}, r ∈ cellsF F cols i → ∃ a b, a < i ∧ b < cols ∧ r = F a b
  | 0, h => by simp [cellsF] at h
  | i + 1, h => by
    simp only [cellsF, List.mem_append] at h
    rcases h with h | h
    · obtain ⟨a, b, h1, h2, h3⟩ := cellsF_mem h
      exact ⟨a, b, by omega, h2, h3⟩
    · simp only [rowF, List.mem_map, List.mem_range] at h
      obtain ⟨b, hb, rfl⟩ := h
      exact ⟨i, b, by omega, hb, rfl⟩
theorem callK_p {fid g : Nat} {vs : List AV} {m : Mem} {d : Option Nat} {K : AV → Mem → Option (AV × Mem)} (hi : cfg.inl fid g = false) : callK cfg fid (AP cfg) (AC cfg) d g vs m K = (pcall (AP cfg) d m g vs).bind fun r => K r.1 r.2 := by
  unfold callK
  rw [show cfg.lib g = none from rfl]
  simp only []
  rw [hi]
structure FillOk (g : Nat) (cs : List AV) (F : Nat → Nat → RV) (rows cols k : Nat) : Prop where
  inl : cfg.inl 58 g = false
  csz : ∀ m, mapF (frz m fuelF) cs = some (cs, [])
  call : ∀ i j : Nat, i < rows → j < cols → AP cfg g ([.int .i64 i, .int .i64 j] ++ cs) = some (F i j).av
  fr : ∀ i j : Nat, i < rows → j < cols → (F i j).fr = F i j
  ok : ∀ i j : Nat, i < rows → j < cols → ROk k (F i j)
theorem pc_fill {g : Nat} {cs : List AV} {F : Nat → Nat → RV} {rows cols k : Nat} (h : FillOk g cs F rows cols k) {i j : Nat} (hi : i < rows) (hj : j < cols) {m : Mem} {d : Option Nat} : pcall (AP cfg) d m g ([.int .i64 i, .int .i64 j] ++ cs) = some ((F i j).av, m) := by
  have e : mapF (frz m fuelF) ([.int .i64 i, .int .i64 j] ++ cs) = some ([.int .i64 i, .int .i64 j] ++ cs, []) := by
    have h1 := h.csz m
    have f1 : ∀ n : Int, frz m fuelF (.int .i64 n) = some (.int .i64 n, []) := fun _ => rfl
    simp [mapF, h1, f1]
  unfold pcall
  rw [e]
  have hc := h.call i j hi hj
  simp only [List.cons_append, List.nil_append] at hc
  simp [hc, kill]
theorem W58_6 {g : Nat} {cs : List AV} {F : Nat → Nat → RV} {rows cols k : Nat} (h : FillOk g cs F rows cols k) (hr : rows ≤ 60) (hc : cols ≤ 60) (K : Ex → St → Option (AV × Mem)) {i : Nat} (hi : i < rows) (x13 x14 : AV) : ∀ (j c : Nat) (m : Mem) (l : LV), c + j = cols → m[0]? = some (cM zM) → m[1]? = some (cM ⟨rows, cols, l⟩) → RowAt m l → l.es = cellsF F cols i ++ (List.range c).map (F i) →
    ∃ m' l', m'[0]? = some (cM zM) ∧ m'[1]? = some (cM ⟨rows, cols, l'⟩) ∧ RowAt m' l' ∧ l'.es = cellsF F cols (i + 1) ∧ L58_6 (.int .i64 cols) (.fn g cs) (.ptr 0 0) (.ptr 1 0) (.int .i64 i) x13 x14 (.int .i64 cols) (.int .i64 c) m K = K (.exit 2) (O58_6 (.int .i64 cols) (.fn g cs) (.ptr 0 0) (.ptr 1 0) x13 x14 m') := by
  intro j
  induction j with
  | zero =>
    intro c m l hcj h1 h2 h3 h4
    have : c = cols := by omega
    subst this
    refine ⟨m, l, h1, h2, h3, h4, ?_⟩
    rw [L58_6_eq, n_lss, Option.bind_some, ifA_dec, if_neg (by omega)]
  | succ j ih =>
    intro c m l hcj h1 h2 h3 h4
    have hcl : c < cols := by omega
    have hle : i * cols ≤ 60 * 60 := Nat.mul_le_mul (by omega) hc
    have hll : l.es.length < 5000 := by rw [h4, List.length_append, cellsF_length, List.length_map, List.length_range]; omega
    obtain ⟨l', m1, m2, p1, p2, p3, p4, p5, p6⟩ := push (r := F i c) h2 h3 hll
    obtain ⟨m', l'', q1, q2, q3, q4, q5⟩ := ih (c + 1) m2 l' (by omega) (p6.2 0 true _ (by omega) h1) p4 p5 (by
      rw [p2]
      show l.es ++ _ = _
      rw [h4, List.range_succ, List.map_append, List.append_assoc]; rfl)
    refine ⟨m', l'', q1, q2, q3, q4, ?_⟩
    have g2 := (Kp.app m [some .resv]).2 1 true _ h2
    rw [L58_6_eq, n_lss, Option.bind_some, ifA_dec, if_pos hcl, fld2, Option.bind_some]
    have hfn : fnOf (.fn g cs) = some (g, cs) := rfl
    have p1' := p1
    rw [res1] at p1' ⊢
    rw [mld2 g2, Option.bind_some, hfn, Option.bind_some, callK_p h.inl, pc_fill h hi hcl, Option.bind_some, build_row (h.fr i c hi hcl), Option.bind_some, p1', Option.bind_some, Option.bind_some, p3, Option.bind_some, i_add1 (by omega), Option.bind_some]
    exact q5
theorem W58_3 {g : Nat} {cs : List AV} {F : Nat → Nat → RV} {rows cols k : Nat} (h : FillOk g cs F rows cols k) (hr : rows ≤ 60) (hc : cols ≤ 60) (K : Ex → St → Option (AV × Mem)) : ∀ (j i : Nat) (m : Mem) (l : LV), i + j = rows → m[0]? = some (cM zM) → m[1]? = some (cM ⟨rows, cols, l⟩) → RowAt m l → l.es = cellsF F cols i →
    ∃ m' l', m'[0]? = some (cM zM) ∧ m'[1]? = some (cM ⟨rows, cols, l'⟩) ∧ RowAt m' l' ∧ l'.es = cellsF F cols rows ∧ L58_3 (.int .i64 cols) (.fn g cs) (.ptr 0 0) (.ptr 1 0) (.int .i64 rows) (.int .i64 i) m K = K (.exit 0) (O58_3 (.ptr 0 0) (.ptr 1 0) m') := by
  intro j
  induction j with
  | zero =>
    intro i m l hij h1 h2 h3 h4
    have : i = rows := by omega
    subst this
    refine ⟨m, l, h1, h2, h3, h4, ?_⟩
    rw [L58_3_eq, n_lss, Option.bind_some, ifA_dec, if_neg (by omega)]
  | succ j ih =>
    intro i m l hij h1 h2 h3 h4
    have hil : i < rows := by omega
    obtain ⟨m1, l1, a1, a2, a3, a4, a5⟩ := W58_6 h hr hc (K58_6 K) hil (.int .i64 rows) (.int .i64 i) cols 0 m l (by omega) h1 h2 h3 (by rw [h4]; simp)
    obtain ⟨m', l', q1, q2, q3, q4, q5⟩ := ih (i + 1) m1 l1 (by omega) a1 a2 a3 a4
    refine ⟨m', l', q1, q2, q3, q4, ?_⟩
    rw [L58_3_eq, n_lss, Option.bind_some, ifA_dec, if_pos hil]
    refine Eq.trans ?_ (a5.trans ?_)
    · rfl
    rw [K58_6_x2, i_add1 (by omega), Option.bind_some]
    exact q5
theorem V58 {g : Nat} {cs : List AV} {F : Nat → Nat → RV} {rows cols k : Nat} (h : FillOk g cs F rows cols k) (hr : rows ≤ 60) (hc : cols ≤ 60) : ∃ y : MV, AP cfg 58 [.int .i64 rows, .int .i64 cols, .fn g cs] = some y.av ∧ y.rows = rows ∧ y.cols = cols ∧ y.lv.es = cellsF F cols rows ∧ LOk k y.lv ∧ y.fr = y := by
  obtain ⟨m', l', q1, q2, q3, q4, q5⟩ := W58_3 h hr hc (K58_3 (finK cfg.P f58.results.toList)) rows 0 [cM zM, cM ⟨rows, cols, nilL⟩] nilL (by omega) rfl rfl (.inl rfl) rfl
  have hl1 : 0 < m'.length := by
    apply Classical.byContradiction
    intro hcc
    rw [List.getElem?_eq_none (by omega)] at q1
    cases q1
  have hlo : LOk k l' := rowAt_lok q3 (by rw [q4]; intro r hr; obtain ⟨a, b, h1, h2, rfl⟩ := cellsF_mem hr; exact h.fr a b h1 h2) (by rw [q4]; intro r hr; obtain ⟨a, b, h1, h2, rfl⟩ := cellsF_mem hr; exact h.ok a b h1 h2)
  refine ⟨⟨rows, cols, l'.fr⟩, AP_ofz _ _ (fz_mv ⟨rows, cols, l'⟩) (noV_mv _) (m := m'.set 0 (cM ⟨rows, cols, l'⟩)) ?_, rfl, rfl, q4, hlo.fr', by simp only [MV.fr, rowAt_fr q3]⟩
  have e2 : ([cM zM, cM zM] : Mem)[1]? = some (cM zM) := rfl
  rw [T58, bldM01, Option.bind_some]
  simp only [new_m, new_r, List.length_nil, List.nil_append, List.length_cons, List.cons_append, Nat.zero_add]
  rw [mstA e2, Option.bind_some]
  simp only [List.set_cons_succ, List.set_cons_zero]
  refine q5.trans ?_
  rw [K58_3_x0, mldA q2, Option.bind_some, mstA q1, Option.bind_some, mldA (by rw [List.getElem?_set_self hl1])]
  rfl

/-! ### Zero, Identity -/
def unitR (a b : Nat) : RV := if a = b then oneR else zeroR
theorem unitR_fr (a b : Nat) : (unitR a b).fr = unitR a b := by unfold unitR; split <;> rfl
theorem V62 (a b : Nat) : AP cfg 62 [.int .i64 a, .int .i64 b] = some (unitR a b).av := by
  unfold unitR
  by_cases h : a = b
  · rw [if_pos h]
    refine AP_ofz _ _ (fz_rv oneR) (noV_rv _) (m := [cR oneR]) ?_
    rw [T62, n_eql, Option.bind_some, ifA_dec, if_pos h]
    simp only [new_z', new_r, List.length_nil, List.nil_append]
    rw [pc0, V84, Option.map_some, Option.bind_some, rstA (x := zR) rfl, Option.bind_some]
    simp only [List.set_cons_zero]
    rw [rldA (x := oneR) rfl]
    rfl
  · rw [if_neg h]
    refine AP_ofz _ _ (fz_rv zeroR) (noV_rv _) (m := [cR zeroR]) ?_
    rw [T62, n_eql, Option.bind_some, ifA_dec, if_neg h]
    simp only [new_z', new_r, List.length_nil, List.nil_append]
    rw [pc0, V60, Option.map_some, Option.bind_some, rstA (x := zR) rfl, Option.bind_some]
    simp only [List.set_cons_zero]
    rw [rldA (x := zeroR) rfl]
    rfl
theorem zeroR_ok : ROk 1 zeroR := can_zero.ok (Bd_zero (by omega)) (by omega)
theorem oneR_ok : ROk 1 oneR := can_one.ok (Bd_one (by omega)) (by omega)
theorem fill62 (rows cols : Nat) : FillOk 62 [] unitR rows cols 1 := ⟨rfl, fun _ => rfl, fun i j _ _ => V62 i j, fun i j _ _ => unitR_fr i j, fun i j _ _ => by unfold unitR; split <;> first | exact oneR_ok | exact zeroR_ok⟩
theorem fz_fn0 (g : Nat) : Fz (.fn g []) (.fn g []) := fun _ => rfl
theorem zM_ok (k : Nat) : LOk k zM.lv := ⟨.inr rfl, fun _ => rfl, by simp [zM, nilL], by simp [zM, nilL]⟩
theorem V18 (a : Int) : ∃ y : MV, AP cfg 18 [.int .i64 a] = some (.tup [y.av, .int .i64 (sizeE a a)]) ∧ y.fr = y ∧ LOk 1 y.lv ∧
    ((sizeE a a ≠ 0 ∧ y = zM) ∨ (sizeE a a = 0 ∧ y.rows = a ∧ y.cols = a ∧ y.lv.es = cellsF unitR a.toNat a.toNat)) := by
  by_cases h0 : sizeE a a = 0
  · have hb : 0 ≤ a ∧ a ≤ 60 := by unfold sizeE at h0; (repeat' split at h0) <;> omega
    obtain ⟨x, rfl⟩ := Int.eq_ofNat_of_zero_le hb.1
    obtain ⟨y, f1, f2, f3, f4, f5, f6⟩ := V58 (fill62 x x) (by omega) (by omega)
    refine ⟨y, (AP_ofz _ _ (fz_tupM2 y (fza_int _ _)) rfl (m := [cM y]) ?_).trans (by rw [f6]), f6, f5, .inr ⟨h0, f2, f3, f4⟩⟩
    rw [T18]
    simp only [new_m, new_r, List.length_nil, List.nil_append]
    rw [pcII, V57, Option.map_some, Option.bind_some, binA_neq, Option.bind_some, ifA_dec, if_neg (fun hn => hn h0), pcall3 (fz_int _ _) (fz_int _ _) (fz_fn0 62), f1, Option.map_some, Option.bind_some, mstA (x := zM) rfl, Option.bind_some]
    simp only [List.set_cons_zero]
    rw [mldA (x := y) rfl, h0]
    rfl
  · refine ⟨zM, AP_ofz _ _ (fz_tupM2 zM (fza_int _ _)) rfl (m := [cM zM]) ?_, rfl, zM_ok 1, .inl ⟨h0, rfl⟩⟩
    rw [T18]
    simp only [new_m, new_r, List.length_nil, List.nil_append]
    rw [pcII, V57, Option.map_some, Option.bind_some, binA_neq, Option.bind_some, ifA_dec, if_pos h0, bldM, Option.bind_some, mstA (x := zM) rfl, Option.bind_some]
    simp only [List.set_cons_zero]
    rw [mldA (x := zM) rfl]
    rfl
end Go.Ab

/- The reference's Make, Zero and Identity, in values. -/
set_option linter.unusedVariables false
set_option linter.unusedSimpArgs false
set_option maxRecDepth 100000
namespace Go.Ab
open Go.Proofs.Try

/-! ### A row of fractions that is written to -/
/-! ### zeros -/
theorem zeroF_ok : ROk 1 zeroF := canF_zero.ok (Bd_zero (by omega)) (by omega)
/-! ### one -/
end Go.Ab

/- What the interpreter does, function by function. -/
set_option maxRecDepth 100000
set_option linter.unusedVariables false
namespace Go.Ab
open Go.Proofs.Try
/-! ### sortilege/sortilegelaw19.MatrixLong -/
/-! ### sortilege/sortilegelaw19.MatrixExpands -/
/-! ### sortilege/sortilegelaw19.MatrixSolves -/
/-! ### sortilege/sortilegelaw19.few -/
def O13_3 (x1 x2 x4 x5 : AV) (m : Mem) : St := ⟨[.any, x1, x2, .any, x4, x5, .any, .any, .any, .any, .any, .any, .any, .any, .any, .any, .any, .any, .any, .any, .any, .any, .any, .any, .any, .any, .any, .any, .any, .any, .any, .any, .any, .any, .any, .any, .any, .any, .any, .any, .any, .any, .any, .any, .any, .any, .any, .any, .any, .any, .any, .any, .any, .any, .any, .any, .any, .any, .any, .any, .any, .any, .any, .any, .any, .any, .any, .any, .any, .any, .any, .any, .any, .any, .any, .any, .any, .any, .any, .any, .any, .any, .any, .any, .any, .any, .any, .any, .any, .any, .any, .any], m⟩
noncomputable def L13_3 (x1 x2 x4 x5 x21 x22 x23 : AV) (m : Mem) (K : Ex → St → Option (AV × Mem)) : Option (AV × Mem) := loopW (execW cfg 13 (AP cfg) (AC cfg) (c1 (c1 (c2 (c1 (c2 (c2 (bodyOf f13)))))))) (cfg.mask 13 (some 3)) ⟨[.any, x1, x2, .any, x4, x5, .any, .any, .any, .any, .any, .any, .any, .any, .any, .any, .any, .any, .any, .any, .any, x21, x22, x23, .any, .any, .any, .any, .any, .any, .any, .any, .any, .any, .any, .any, .any, .any, .any, .any, .any, .any, .any, .any, .any, .any, .any, .any, .any, .any, .any, .any, .any, .any, .any, .any, .any, .any, .any, .any, .any, .any, .any, .any, .any, .any, .any, .any, .any, .any, .any, .any, .any, .any, .any, .any, .any, .any, .any, .any, .any, .any, .any, .any, .any, .any, .any, .any, .any, .any, .any, .any], m⟩ K
def O13_11 (x4 x8 : AV) (m : Mem) : St := ⟨[.any, .any, .any, .any, x4, .any, .any, .any, x8, .any, .any, .any, .any, .any, .any, .any, .any, .any, .any, .any, .any, .any, .any, .any, .any, .any, .any, .any, .any, .any, .any, .any, .any, .any, .any, .any, .any, .any, .any, .any, .any, .any, .any, .any, .any, .any, .any, .any, .any, .any, .any, .any, .any, .any, .any, .any, .any, .any, .any, .any, .any, .any, .any, .any, .any, .any, .any, .any, .any, .any, .any, .any, .any, .any, .any, .any, .any, .any, .any, .any, .any, .any, .any, .any, .any, .any, .any, .any, .any, .any, .any, .any], m⟩
noncomputable def L13_11 (x2 x4 x5 x8 x9 : AV) (m : Mem) (K : Ex → St → Option (AV × Mem)) : Option (AV × Mem) := loopW (execW cfg 13 (AP cfg) (AC cfg) (c1 (c1 (c2 (c1 (c2 (c2 (c2 (c2 (c2 (bodyOf f13))))))))))) (cfg.mask 13 (some 11)) ⟨[.any, .any, x2, .any, x4, x5, .any, .any, x8, x9, .any, .any, .any, .any, .any, .any, .any, .any, .any, .any, .any, .any, .any, .any, .any, .any, .any, .any, .any, .any, .any, .any, .any, .any, .any, .any, .any, .any, .any, .any, .any, .any, .any, .any, .any, .any, .any, .any, .any, .any, .any, .any, .any, .any, .any, .any, .any, .any, .any, .any, .any, .any, .any, .any, .any, .any, .any, .any, .any, .any, .any, .any, .any, .any, .any, .any, .any, .any, .any, .any, .any, .any, .any, .any, .any, .any, .any, .any, .any, .any, .any, .any], m⟩ K
noncomputable abbrev K13_3_0 (K : Ex → St → Option (AV × Mem)) : Ex → St → Option (AV × Mem) := seqK (fun st => execW cfg 13 (AP cfg) (AC cfg) (c2 (c2 (c2 (bodyOf f13)))) st K) K
noncomputable abbrev K13_3_1 (K : Ex → St → Option (AV × Mem)) : Ex → St → Option (AV × Mem) := blockK 0 (K13_3_0 K)
noncomputable abbrev K13_3 (K : Ex → St → Option (AV × Mem)) : Ex → St → Option (AV × Mem) := (K13_3_1 K)
noncomputable abbrev K13_11_0 (K : Ex → St → Option (AV × Mem)) : Ex → St → Option (AV × Mem) := seqK (fun st => execW cfg 13 (AP cfg) (AC cfg) (c2 (c2 (c2 (c2 (c2 (c2 (bodyOf f13))))))) st K) K
noncomputable abbrev K13_11_1 (K : Ex → St → Option (AV × Mem)) : Ex → St → Option (AV × Mem) := blockK 2 (K13_11_0 K)
noncomputable abbrev K13_11 (K : Ex → St → Option (AV × Mem)) : Ex → St → Option (AV × Mem) := (K13_11_1 K)
theorem T13 (a0 a1 : AV) (m : Mem) : AC cfg 13 [a0, a1] m =
  (boxA none (some 3) m a0).bind fun r1 =>
  (fieldAddrA 0 r1.1).bind fun v2 =>
  (loadA none (newAt none r1.2 (.obj true [(.int .i64 0), (.int .i64 0), (.lst none true .full [])])).2 v2).bind fun v3 =>
  (fieldAddrA 1 r1.1).bind fun v4 =>
  (loadA none (newAt none r1.2 (.obj true [(.int .i64 0), (.int .i64 0), (.lst none true .full [])])).2 v4).bind fun v5 =>
  (buildA (.agg [(.int .i64 0), (.int .i64 0), (.lst none true .full [])]) [(0, none, v3), (1, none, v5)]).bind fun v6 =>
  (storeA (some 3) (newAt none (newAt none r1.2 (.obj true [(.int .i64 0), (.int .i64 0), (.lst none true .full [])])).2 (.obj true [(.int .i64 0), (.int .i64 0), (.lst none true .full [])])).2 (.ptr (newAt none (newAt none r1.2 (.obj true [(.int .i64 0), (.int .i64 0), (.lst none true .full [])])).2 .resv).1 0) v6).bind fun m7 =>
  (fieldAddrA 2 r1.1).bind fun v8 =>
  (loadA none m7 v8).bind fun v9 =>
  (fieldAddrA 2 r1.1).bind fun v10 =>
  (loadA none m7 v10).bind fun v11 =>
  (lenA false v11).bind fun v12 =>
  (maxA false v12 (.int .i64 4000)).bind fun v13 =>
  (sliceT (some 3) v9 none (some v13) none).bind fun v14 =>
  (lenA false v14).bind fun v15 =>
  L13_3 a1 r1.1 (.ptr (newAt none r1.2 .resv).1 0) (.ptr (newAt none (newAt none r1.2 (.obj true [(.int .i64 0), (.int .i64 0), (.lst none true .full [])])).2 .resv).1 0) v14 v15 (.int .i64 0) m7 (K13_3 (finK cfg.P f13.results.toList)) :=
(AC_eq cfg 13 [a0, a1] m (fn := f13) (c := bodyOf f13) at13 rfl).trans (by kernel_rfl)
theorem L13_3_eq (x1 x2 x4 x5 x21 x22 x23 : AV) (m : Mem) (K : Ex → St → Option (AV × Mem)) : L13_3 x1 x2 x4 x5 x21 x22 x23 m K =
  (binA .other .lss x23 x22).bind fun v1 =>
  ifA v1 (
  (indexAddrA (some 3) x21 x23).bind fun v2 =>
  (loadA (some 3) m v2).bind fun v3 =>
  (storeA (some 3) (newAt none m (.obj true [(.bool false), (.lst none true .full []), (.lst none true .full [])])).2 (.ptr (newAt none m .resv).1 0) v3).bind fun m4 =>
  (fieldAddrA 2 x5).bind fun v5 =>
  (loadA none (reserve m4 1) v5).bind fun v6 =>
  (fieldAddrA 0 (.ptr (newAt none m .resv).1 0)).bind fun v7 =>
  (loadA none (reserve m4 1) v7).bind fun v8 =>
  (fieldAddrA 1 (.ptr (newAt none m .resv).1 0)).bind fun v9 =>
  (loadA none (reserve m4 1) v9).bind fun v10 =>
  (pcall (AP cfg) (some m4.length) (reserve m4 1) 32 [v10, (.int .i64 3)]).bind fun r11 =>
  (fieldAddrA 2 (.ptr (newAt none m .resv).1 0)).bind fun v12 =>
  (loadA none r11.2 v12).bind fun v13 =>
  (pcall (AP cfg) (some m4.length) r11.2 32 [v13, (.int .i64 3)]).bind fun r14 =>
  (buildA (.agg [(.bool false), (.lst none true .full []), (.lst none true .full [])]) [(0, none, v8), (1, none, r11.1), (2, none, r14.1)]).bind fun v15 =>
  (buildSliceA (some 3) [v15]).bind fun v16 =>
  (appA (some m4.length) false 43 (some 3) 56 r14.2 v6 v16).bind fun r17 =>
  (fieldAddrA 2 x5).bind fun v18 =>
  (storeA none r17.2 v18 r17.1).bind fun m19 =>
  (binA .other .add x23 (.int .i64 1)).bind fun v20 =>
  L13_3 x1 x2 x4 x5 x21 x22 v20 m19 K) (
  K (.exit 0) (O13_3 x1 x2 x4 x5 m)) :=
(loopW_eq (execW_lin _) _ _ _).trans (by kernel_rfl)
theorem L13_11_eq (x2 x4 x5 x8 x9 : AV) (m : Mem) (K : Ex → St → Option (AV × Mem)) : L13_11 x2 x4 x5 x8 x9 m K =
  (fieldAddrA 0 x8).bind fun v1 =>
  (loadA none m v1).bind fun v2 =>
  (binA .other .lss x9 v2).bind fun v3 =>
  ifA v3 (
  (fieldAddrA 2 x8).bind fun v4 =>
  (loadA none (reserve m 1) v4).bind fun v5 =>
  (fieldAddrA 2 x5).bind fun v6 =>
  (loadA none (reserve m 1) v6).bind fun v7 =>
  (fieldAddrA 1 x2).bind fun v8 =>
  (loadA none (reserve m 1) v8).bind fun v9 =>
  (binA .other .mul x9 v9).bind fun v10 =>
  (fieldAddrA 1 x2).bind fun v11 =>
  (loadA none (reserve m 1) v11).bind fun v12 =>
  (binA .other .mul x9 v12).bind fun v13 =>
  (fieldAddrA 1 x8).bind fun v14 =>
  (loadA none (reserve m 1) v14).bind fun v15 =>
  (binA .other .add v13 v15).bind fun v16 =>
  (sliceT (some 3) v7 (some v10) (some v16) none).bind fun v17 =>
  (appA (some m.length) false 43 (some 3) 56 (reserve m 1) v5 v17).bind fun r18 =>
  (fieldAddrA 2 x8).bind fun v19 =>
  (storeA none r18.2 v19 r18.1).bind fun m20 =>
  (binA .other .add x9 (.int .i64 1)).bind fun v21 =>
  L13_11 x2 x4 x5 x8 v21 m20 K) (
  K (.exit 2) (O13_11 x4 x8 m)) :=
(loopW_eq (execW_lin _) _ _ _).trans (by kernel_rfl)
theorem K13_3_x0 (x1 x2 x4 x5 : AV) (m : Mem) : K13_3 (finK cfg.P f13.results.toList) (.exit 0) (O13_3 x1 x2 x4 x5 m) =
  (loadA (some 3) m x5).bind fun v1 =>
  (pcall (AP cfg) none m 21 [v1]).bind fun r2 =>
  (unA .not r2.1).bind fun v3 =>
  ifA v3 (
  (loadA (some 3) r2.2 x5).bind fun v4 =>
  (storeA (some 3) r2.2 x4 v4).bind fun m5 =>
  (loadA (some 3) m5 x4).bind fun v6 =>
  some (v6, m5)) (
  (fieldAddrA 0 x2).bind fun v7 =>
  (loadA none r2.2 v7).bind fun v8 =>
  (binA .other .leq v8 x1).bind fun v9 =>
  ifA v9 (
  (fieldAddrA 1 x2).bind fun v10 =>
  (loadA none r2.2 v10).bind fun v11 =>
  (binA .other .leq v11 x1).bind fun v12 =>
  ifA v12 (
  (loadA (some 3) r2.2 x5).bind fun v13 =>
  (storeA (some 3) r2.2 x4 v13).bind fun m14 =>
  (loadA (some 3) m14 x4).bind fun v15 =>
  some (v15, m14)) (
  (fieldAddrA 0 x2).bind fun v16 =>
  (loadA none r2.2 v16).bind fun v17 =>
  (maxA false v17 x1).bind fun v18 =>
  (fieldAddrA 1 x2).bind fun v19 =>
  (loadA none r2.2 v19).bind fun v20 =>
  (maxA false v20 x1).bind fun v21 =>
  (buildA (.agg [(.int .i64 0), (.int .i64 0), (.lst none true .full [])]) [(0, none, v18), (1, none, v21)]).bind fun v22 =>
  (storeA (some 3) (newAt none r2.2 (.obj true [(.int .i64 0), (.int .i64 0), (.lst none true .full [])])).2 (.ptr (newAt none r2.2 .resv).1 0) v22).bind fun m23 =>
  L13_11 x2 x4 x5 (.ptr (newAt none r2.2 .resv).1 0) (.int .i64 0) m23 (K13_11 (finK cfg.P f13.results.toList)))) (
  (fieldAddrA 0 x2).bind fun v24 =>
  (loadA none r2.2 v24).bind fun v25 =>
  (maxA false v25 x1).bind fun v26 =>
  (fieldAddrA 1 x2).bind fun v27 =>
  (loadA none r2.2 v27).bind fun v28 =>
  (maxA false v28 x1).bind fun v29 =>
  (buildA (.agg [(.int .i64 0), (.int .i64 0), (.lst none true .full [])]) [(0, none, v26), (1, none, v29)]).bind fun v30 =>
  (storeA (some 3) (newAt none r2.2 (.obj true [(.int .i64 0), (.int .i64 0), (.lst none true .full [])])).2 (.ptr (newAt none r2.2 .resv).1 0) v30).bind fun m31 =>
  L13_11 x2 x4 x5 (.ptr (newAt none r2.2 .resv).1 0) (.int .i64 0) m31 (K13_11 (finK cfg.P f13.results.toList)))) := by kernel_rfl
theorem K13_11_x2 (x4 x8 : AV) (m : Mem) : K13_11 (finK cfg.P f13.results.toList) (.exit 2) (O13_11 x4 x8 m) =
  (loadA (some 3) m x8).bind fun v1 =>
  (storeA (some 3) m x4 v1).bind fun m2 =>
  (loadA (some 3) m2 x4).bind fun v3 =>
  some (v3, m2) := by kernel_rfl
/-! ### sortilege/sortilegelaw19.same -/
/-! ### sortilege/sortilegelaw19.alive -/
theorem T26 (m : Mem) : AC cfg 26 [] m =
  (pcall (AP cfg) none m 18 [(.int .i64 2)]).bind fun r1 =>
  (extractA r1.1 0).bind fun v2 =>
  (extractA r1.1 1).bind fun v3 =>
  (storeA (some 3) (newAt none r1.2 (.obj true [(.int .i64 0), (.int .i64 0), (.lst none true .full [])])).2 (.ptr (newAt none r1.2 .resv).1 0) v2).bind fun m4 =>
  (binA .other .eql v3 (.int .i64 0)).bind fun v5 =>
  ifA v5 (
  (fieldAddrA 0 (.ptr (newAt none r1.2 .resv).1 0)).bind fun v6 =>
  (loadA none m4 v6).bind fun v7 =>
  (binA .other .eql v7 (.int .i64 2)).bind fun v8 =>
  ifA v8 (
  (fieldAddrA 2 (.ptr (newAt none r1.2 .resv).1 0)).bind fun v9 =>
  (loadA none m4 v9).bind fun v10 =>
  (lenA false v10).bind fun v11 =>
  (binA .other .eql v11 (.int .i64 4)).bind fun v12 =>
  some (v12, m4)) (
  some ((.bool false), m4))) (
  some ((.bool false), m4)) :=
(AC_eq cfg 26 [] m (fn := f26) (c := bodyOf f26) at26 rfl).trans (by kernel_rfl)
/-! ### sortilege/sortilegelaw19.nat -/
theorem T32 (a0 a1 : AV) (m : Mem) : AC cfg 32 [a0, a1] m =
  (lenA false a0).bind fun v1 =>
  (maxA false v1 a1).bind fun v2 =>
  (sliceT none a0 none (some v2) none).bind fun v3 =>
  some (v3, m) :=
(AC_eq cfg 32 [a0, a1] m (fn := f32) (c := bodyOf f32) at32 rfl).trans (by kernel_rfl)
/-! ### sortilege/sortilegelaw19.square -/
theorem T43 (a0 a1 : AV) (m : Mem) : AC cfg 43 [a0, a1] m =
  (boxA none (some 3) m a0).bind fun r1 =>
  (loadA (some 3) (newAt none r1.2 (.obj true [(.int .i64 0), (.int .i64 0), (.lst none true .full [])])).2 r1.1).bind fun v2 =>
  (pcall (AP cfg) none (newAt none r1.2 (.obj true [(.int .i64 0), (.int .i64 0), (.lst none true .full [])])).2 13 [v2, a1]).bind fun r3 =>
  (storeA (some 3) r3.2 r1.1 r3.1).bind fun m4 =>
  (loadA (some 3) m4 r1.1).bind fun v5 =>
  (pcall (AP cfg) none m4 21 [v5]).bind fun r6 =>
  (unA .not r6.1).bind fun v7 =>
  ifA v7 (
  (loadA (some 3) r6.2 r1.1).bind fun v8 =>
  (storeA (some 3) r6.2 (.ptr (newAt none r1.2 .resv).1 0) v8).bind fun m9 =>
  (loadA (some 3) m9 (.ptr (newAt none r1.2 .resv).1 0)).bind fun v10 =>
  some (v10, m9)) (
  (loadA (some 3) r6.2 r1.1).bind fun v11 =>
  (fieldAddrA 0 r1.1).bind fun v12 =>
  (loadA none r6.2 v12).bind fun v13 =>
  (fieldAddrA 1 r1.1).bind fun v14 =>
  (loadA none r6.2 v14).bind fun v15 =>
  (maxA false v13 v15).bind fun v16 =>
  (pcall (AP cfg) none r6.2 13 [v11, v16]).bind fun r17 =>
  (storeA (some 3) r17.2 (.ptr (newAt none r1.2 .resv).1 0) r17.1).bind fun m18 =>
  (loadA (some 3) m18 (.ptr (newAt none r1.2 .resv).1 0)).bind fun v19 =>
  some (v19, m18)) :=
(AC_eq cfg 43 [a0, a1] m (fn := f43) (c := bodyOf f43) at43 rfl).trans (by kernel_rfl)
end Go.Ab

/- At, Make, Zero, Identity; the law's own helpers, in values. -/
set_option linter.unusedVariables false
set_option linter.unusedSimpArgs false
set_option maxRecDepth 100000
namespace Go.Ab
open Go.Proofs.Try

/-! ### The reference's Make -/
/-! ### The reference's Zero and Identity -/
/-! ### same, alive -/
theorem V26 : AP cfg 26 [] = some (.bool true) := by
  obtain ⟨y, f1, f2, f3, f4⟩ := V18 2
  have h0 : sizeE 2 2 = 0 := rfl
  rcases f4 with ⟨h, _⟩ | ⟨_, h1, h2, h3⟩
  · exact absurd h0 h
  have hl : y.lv.es.length = 4 := by rw [h3, cellsF_length]; rfl
  have g0 : ([cM y] : Mem)[0]? = some (cM y) := rfl
  have q1 : binA .other .eql (.int .i64 (4 : Nat)) (.int .i64 4) = some (.bool true) := rfl
  refine AP_ofz _ _ (fz_bool _) rfl (m := [cM y]) ?_
  rw [h0] at f1
  rw [T26, pcI, f1, Option.map_some, Option.bind_some, ex0, Option.bind_some, ex1, Option.bind_some]
  simp only [new_m, new_r, List.length_nil, List.nil_append]
  rw [mstA (x := zM) rfl, Option.bind_some]
  simp only [List.set_cons_zero]
  rw [binA_eql, Option.bind_some, ifA_dec, if_pos rfl, fld0, Option.bind_some, mld0 g0, Option.bind_some, h1, binA_eql, Option.bind_some, ifA_dec, if_pos rfl, fld2, Option.bind_some, mld2 g0, Option.bind_some, len_lv, Option.bind_some, hl, q1]
  rfl

/-! ### At (24) -/
/-! ### At (25) -/
end Go.Ab

/- Inputs cut to size, in values. -/
set_option linter.unusedVariables false
set_option linter.unusedSimpArgs false
set_option maxRecDepth 100000
namespace Go.Ab
open Go.Proofs.Try

/-! ### nat -/
def cutN (x : NV) : NV := ⟨x.z, .no, x.ds.take 3⟩
theorem min_int (a b : Nat) : maxA false (.int .i64 a) (.int .i64 b) = some (.int .i64 (min a b : Nat)) := by
  show some (AV.int .i64 (if (b : Int) < (a : Int) then (b : Int) else (a : Int))) = _
  by_cases h : b < a
  · rw [if_pos (by omega), Nat.min_eq_right (by omega)]
  · rw [if_neg (by omega), Nat.min_eq_left (by omega)]
theorem V32 {x : NV} : AP cfg 32 [x.av, .int .i64 3] = some (cutN x).av := by
  refine AP_ofz _ _ (fz_nv (cutN x)) (noV_nv _) (m := []) ?_
  have h1 : maxA false (.int .i64 x.ds.length) (.int .i64 3) = some (.int .i64 (min x.ds.length 3 : Nat)) := min_int _ 3
  have hs := sliceT_to (z := x.z) (o := x.o) (ds := x.ds) (k := .i64) (i := (min x.ds.length 3 : Nat)) (by omega) (by omega)
  rw [← NV.av, Int.toNat_natCast] at hs
  rw [T32, len_nv, Option.bind_some, h1, Option.bind_some, hs, Option.bind_some]
  have ht : x.ds.take (min x.ds.length 3) = x.ds.take 3 := by
    by_cases h : x.ds.length ≤ 3
    · rw [Nat.min_eq_left h, List.take_of_length_le (Nat.le_refl _), List.take_of_length_le h]
    · rw [Nat.min_eq_right (by omega)]
  rw [ht]
  rfl
/-- What a number of the input is. -/
structure XN (x : NV) : Prop where
  dg : Dg x.ds
  nil : x.z = true → x.ds = []
theorem cutN_ok {x : NV} (h : XN x) : NOk (cutN x) ∧ (cutN x).ds.length ≤ 3 := by
  have hl : (x.ds.take 3).length ≤ 3 := by rw [List.length_take]; omega
  refine ⟨⟨h.dg.take 3, ?_, ?_⟩, hl⟩
  · show (x.ds.take 3).length < 2 ^ 40
    omega
  · intro hz
    show x.ds.take 3 = []
    rw [h.nil hz]; rfl
structure XR (r : RV) : Prop where
  num : XN r.num
  den : XN r.den
  fr : r.fr = r
def cutR (r : RV) : RV := ⟨r.neg, cutN r.num, cutN r.den⟩
theorem cutR_fr (r : RV) : (cutR r).fr = cutR r := rfl
theorem cutR_ok {r : RV} (h : XR r) : ROk 3 (cutR r) := ⟨(cutN_ok h.num).1, (cutN_ok h.den).1, (cutN_ok h.num).2, (cutN_ok h.den).2⟩
structure XM (x : MV) : Prop where
  sh : x.lv.sh = some 3 ∨ x.lv.es = []
  z : x.lv.z = true → x.lv.es = []
  es : ∀ r ∈ x.lv.es, XR r

/-! ### few -/
def headL (l : LV) : LV := ⟨l.sh, l.z, .no, l.es.take 4000⟩
theorem index_lv' {l : LV} {k : Nat} {kk : IntKind} (h : l.sh = some 3 ∨ l.es = []) (hk : k < l.es.length) : indexAddrA (some 3) l.av (.int kk k) = some (.vptr (l.es[k].av).cells) := by
  have hs : l.sh = some 3 := h.resolve_right (fun e => by rw [e] at hk; simp at hk)
  simp [LV.av, indexAddrA, hs, hk]
theorem W13_3 {x : MV} (hx : XM x) (x1 : AV) (K : Ex → St → Option (AV × Mem)) : ∀ (j i : Nat) (m : Mem) (l : LV), i + j = (headL x.lv).es.length → m[0]? = some (cM x) → m[1]? = some (cM zM) → m[2]? = some (cM ⟨x.rows, x.cols, l⟩) → RowAt m l → l.es = ((headL x.lv).es.take i).map cutR →
    ∃ m' l', m'[0]? = some (cM x) ∧ m'[1]? = some (cM zM) ∧ m'[2]? = some (cM ⟨x.rows, x.cols, l'⟩) ∧ RowAt m' l' ∧ l'.es = (headL x.lv).es.map cutR ∧
      L13_3 x1 (.ptr 0 0) (.ptr 1 0) (.ptr 2 0) (headL x.lv).av (.int .i64 (headL x.lv).es.length) (.int .i64 i) m K = K (.exit 0) (O13_3 x1 (.ptr 0 0) (.ptr 1 0) (.ptr 2 0) m') := by
  have hlen : (headL x.lv).es.length ≤ 4000 := by
    show (x.lv.es.take 4000).length ≤ 4000
    rw [List.length_take]; omega
  have hsh : (headL x.lv).sh = some 3 ∨ (headL x.lv).es = [] := by
    rcases hx.sh with h | h
    · exact .inl h
    · right; show x.lv.es.take 4000 = []; rw [h]; rfl
  intro j
  induction j with
  | zero =>
    intro i m l hi h0 h1 h2 h3 h4
    refine ⟨m, l, h0, h1, h2, h3, by rw [h4, List.take_of_length_le (by omega)], ?_⟩
    rw [L13_3_eq, n_lss, Option.bind_some, ifA_dec, if_neg (by omega)]
  | succ j ih =>
    intro i m l hi h0 h1 h2 h3 h4
    have hil : i < (headL x.lv).es.length := by omega
    have hmem : (headL x.lv).es[i] ∈ x.lv.es := List.mem_of_mem_take (List.getElem_mem hil)
    have hr := hx.es _ hmem
    have hn1 : (headL x.lv).es[i].num.fr = (headL x.lv).es[i].num := congrArg RV.num hr.fr
    have hn2 : (headL x.lv).es[i].den.fr = (headL x.lv).es[i].den := congrArg RV.den hr.fr
    have kp := Kp.app m [cR (headL x.lv).es[i]]
    have hb := kp.2 2 true _ h2
    have hll : l.es.length < 5000 := by rw [h4]; simp; omega
    obtain ⟨l', m1, m2, p1, p2, p3, p4, p5, p6⟩ := push (r := cutR (headL x.lv).es[i]) hb (h3.app [cR (headL x.lv).es[i]]) hll
    have kq := kp.trans (Kp.app (m ++ [cR (headL x.lv).es[i]]) [some .resv])
    obtain ⟨m', l'', q0, q1, q2, q3, q4, q5⟩ := ih (i + 1) m2 l' (by omega) (p6.2 0 true _ (by omega) (kp.2 0 true _ h0)) (p6.2 1 true _ (by omega) (kp.2 1 true _ h1)) p4 p5 (by
      rw [p2]
      show l.es ++ _ = _
      rw [h4, List.take_succ_eq_append_getElem hil, List.map_append]; rfl)
    refine ⟨m', l'', q0, q1, q2, q3, q4, ?_⟩
    have g2 := kq.2 2 true _ h2
    have gr : ((m ++ [cR (headL x.lv).es[i]]) ++ [some Ent.resv])[m.length]? = some (cR (headL x.lv).es[i]) := by
      rw [List.getElem?_append_left (by simp)]; exact get_last
    have pcNI : ∀ (mm : Mem) (d : Option Nat) (g : Nat) (y : NV) (n : Int), pcall (AP cfg) d mm g [y.av, .int .i64 n] = (AP cfg g [y.fr.av, .int .i64 n]).map fun v => (v, mm) := fun mm d g y n => pcall2 (fz_nv y) (fz_int _ _)
    have hbld := bld012 (headL x.lv).es[i].neg (cutN (headL x.lv).es[i].num) (cutN (headL x.lv).es[i].den)
    rw [nil_av.symm] at hbld
    have hbs := build_row (cutR_fr (headL x.lv).es[i])
    rw [L13_3_eq, n_lss, Option.bind_some, ifA_dec, if_pos hil, index_lv' hsh hil, Option.bind_some, load_row, Option.bind_some, new_z', new_r, st_last, Option.bind_some, fld2, Option.bind_some]
    rw [res1] at p1 ⊢
    rw [mld2 g2, Option.bind_some, fld0, Option.bind_some, rld0 gr, Option.bind_some, fld1, Option.bind_some, rld1 gr, Option.bind_some, pcNI, hn1, V32, Option.map_some, Option.bind_some, fld2, Option.bind_some, rld2 gr, Option.bind_some, pcNI, hn2, V32, Option.map_some, Option.bind_some, hbld, Option.bind_some]
    rw [show RV.av ⟨(headL x.lv).es[i].neg, cutN (headL x.lv).es[i].num, cutN (headL x.lv).es[i].den⟩ = (cutR (headL x.lv).es[i]).av from rfl, hbs, Option.bind_some, p1, Option.bind_some, Option.bind_some, p3, Option.bind_some, i_add1 (by omega), Option.bind_some]
    exact q5
theorem slice_head (l : LV) (hs : l.sh = some 3 ∨ l.es = []) : sliceT (some 3) l.av none (some (.int .i64 (min l.es.length 4000 : Nat))) none = some (headL l).av := by
  have e1 : (l.es.map RV.av).take (min l.es.length 4000) = (l.es.take 4000).map RV.av := by
    rw [← List.map_take]
    congr 1
    by_cases h : l.es.length ≤ 4000
    · rw [Nat.min_eq_left h, List.take_of_length_le (Nat.le_refl _), List.take_of_length_le h]
    · rw [Nat.min_eq_right (by omega)]
  have e2 : l.sh = some 3 ∨ l.es.map RV.av = [] := hs.elim .inl (fun h => .inr (by rw [h]; rfl))
  have e3 : (0 : Int) ≤ (min l.es.length 4000 : Nat) := by omega
  have e4 : ((min l.es.length 4000 : Nat) : Int) ≤ (l.es.map RV.av).length := by rw [List.length_map]; omega
  simp only [sliceT, LV.av, if_pos e2, sliceA, boundA, e3, e4, and_self, if_true, Option.bind_some, Int.toNat_natCast, e1, List.drop_zero, headL]
end Go.Ab

/- Inputs cut to any size, in values. -/
set_option linter.unusedVariables false
set_option linter.unusedSimpArgs false
set_option maxRecDepth 100000
namespace Go.Ab
open Go.Proofs.Try

theorem idx_lt {m : Mem} {n : Nat} {e : Option Ent} (h : m[n]? = some e) : n < m.length := by
  apply Classical.byContradiction
  intro hc
  rw [List.getElem?_eq_none (by omega)] at h
  cases h
theorem app_mats {m : Mem} {l : LV} {k : Nat} {y : LV} (h : RowAt m l) (hk : m[k]? = some (some .resv)) (hy : y.sh = some 3 ∨ y.es = []) (hlen : (l.es.length + y.es.length) * 56 ≤ roomA) :
    ∃ l' m', appA (some k) false 43 (some 3) 56 m l.av y.av = some (l'.av, m') ∧ RowAt m' l' ∧ l'.es = l.es ++ y.es ∧ Kp m m' := by
  obtain ⟨shy, zy, oy, ys⟩ := y
  cases ys with
  | nil => exact ⟨l, m, rfl, h, by simp, Kp.refl m⟩
  | cons r ys =>
    obtain rfl : shy = some 3 := hy.resolve_right (fun e => by cases e)
    have hkl := idx_lt hk
    rcases h with rfl | ⟨h1, h2, h3, nm, h4, h5⟩
    · have hlen' : (ys.length + 1) * 56 ≤ roomA := by simpa [nilL] using hlen
      refine ⟨⟨some 3, false, .tok k 43, r :: ys⟩, m.set k (some (.tok (r :: ys).length 3)), ?_, .inr ⟨rfl, rfl, by simp, k, rfl, by rw [List.getElem?_set_self hkl]⟩, rfl, by simp, ?_⟩
      · simp [LV.av, nilL, appA, hlen', newAt, Sh.size]
      · intro n bx cs hn
        have hne : k ≠ n := fun e => by rw [← e, hk] at hn; cases hn
        rw [List.getElem?_set_ne hne]; exact hn
    · have hnl := idx_lt h5
      refine ⟨⟨some 3, false, .tok nm 43, l.es ++ r :: ys⟩, m.set nm (some (.tok (l.es.length + (r :: ys).length) 3)), ?_, .inr ⟨rfl, rfl, by simp, nm, rfl, by rw [List.getElem?_set_self hnl]; simp⟩, rfl, by simp, ?_⟩
      · obtain ⟨sh, z, o, es⟩ := l
        simp only at h1 h2 h4
        subst h1; subst h2; subst h4
        have hlen' : (es.length + (ys.length + 1)) * 56 ≤ roomA := by simpa using hlen
        simp [LV.av, appA, hlen', mget h5, Sh.size]
      · intro n bx cs hn
        have hne : nm ≠ n := fun e => by rw [← e, h5] at hn; cases hn
        rw [List.getElem?_set_ne hne]; exact hn
theorem pushs {m : Mem} {n : Nat} {y : MV} {ys : LV} (hb : m[n]? = some (cM y)) (hr : RowAt m y.lv) (hy : ys.sh = some 3 ∨ ys.es = []) (hlen : y.lv.es.length + ys.es.length < 9000) :
    ∃ l' m' m'', appA (some m.length) false 43 (some 3) 56 (m ++ [some .resv]) y.lv.av ys.av = some (l'.av, m') ∧ l'.es = y.lv.es ++ ys.es ∧ storeA none m' (.ptr n 2) l'.av = some m'' ∧ m''[n]? = some (cM ⟨y.rows, y.cols, l'⟩) ∧ RowAt m'' l' ∧ Kn n m m'' := by
  obtain ⟨l', m', h1, h2, h3, h4⟩ := app_mats (y := ys) (hr.app [some .resv]) (k := m.length) get_last hy (by simp only [roomA]; omega)
  have hk := (Kp.app m [some .resv]).trans h4
  have hb' := hk.2 n true _ hb
  refine ⟨l', m', _, h1, h3, mst2 hb', by rw [List.getElem?_set_self (idx_lt hb')], h2.set hb' _, ?_⟩
  refine ⟨by rw [List.length_set]; exact hk.1, fun p bx cs hp hh => ?_⟩
  rw [List.getElem?_set_ne (fun e => hp e.symm)]
  exact hk.2 p bx cs hh
theorem slice_lv {l : LV} {a b : Nat} (hs : l.sh = some 3 ∨ l.es = []) (h1 : a ≤ b) (h2 : b ≤ l.es.length) : sliceT (some 3) l.av (some (.int .i64 a)) (some (.int .i64 b)) none = some (LV.av ⟨l.sh, l.z, .no, (l.es.take b).drop a⟩) := by
  have e1 : ((l.es.map RV.av).take b).drop a = ((l.es.take b).drop a).map RV.av := by rw [List.map_drop, List.map_take]
  have e2 : l.sh = some 3 ∨ l.es.map RV.av = [] := hs.elim .inl (fun h => .inr (by rw [h]; rfl))
  have e3 : (0 : Int) ≤ (b : Nat) := by omega
  have e4 : ((b : Nat) : Int) ≤ (l.es.map RV.av).length := by rw [List.length_map]; omega
  have e5 : (0 : Int) ≤ (a : Nat) ∧ ((a : Nat) : Int) ≤ (b : Nat) := by omega
  simp only [sliceT, LV.av, if_pos e2, sliceA, boundA, e3, e4, e5, and_self, if_true, Option.bind_some, Int.toNat_natCast, e1]

/-- The first rows and columns. -/
def cutE (es : List RV) (cols C : Nat) : Nat → List RV
  | 0 => []
  | i + 1 => cutE es cols C i ++ (es.take (i * cols + C)).drop (i * cols)
theorem cutE_mem {es : List RV} {cols C : Nat} {r : RV} : ∀ {i : Nat}, r ∈ cutE es cols C i → r ∈ es
  | 0, h => by cases h
  | i + 1, h => by
    rcases List.mem_append.1 h with h | h
    · exact cutE_mem h
    · exact List.mem_of_mem_take (List.mem_of_mem_drop h)
theorem cutE_length {es : List RV} {cols C : Nat} (hC : C ≤ cols) : ∀ {i : Nat}, i * cols ≤ es.length → (cutE es cols C i).length = i * C
  | 0, h => by simp [cutE]
  | i + 1, h => by
    have e : (i + 1) * cols = i * cols + cols := Nat.succ_mul i cols
    rw [cutE, List.length_append, cutE_length hC (by omega), List.length_drop, List.length_take, Nat.min_eq_left (by omega), Nat.succ_mul]; omega
theorem rowAt_sh {m : Mem} {l : LV} (h : RowAt m l) : l.sh = some 3 ∨ l.es = [] := by
  rcases h with rfl | ⟨h1, _⟩
  · exact .inr rfl
  · exact .inl h1
theorem W13_11 {rows cols : Nat} {o : LV} {x0 : MV} {R C L : Nat} (hR : R ≤ rows) (hr : rows ≤ 60) (hC : C ≤ cols) (hc : cols ≤ 60) (hlen : o.es.length = rows * cols) (ho : o.sh = some 3 ∨ o.es = []) (hL : 3 ≤ L) (hx : x0.cols = cols)
    (K : Ex → St → Option (AV × Mem)) : ∀ (j i : Nat) (m : Mem) (l : LV), i + j = R → m[0]? = some (cM x0) → m[1]? = some (cM zM) → m[2]? = some (cM ⟨x0.rows, x0.cols, o⟩) → m[L]? = some (cM ⟨R, C, l⟩) → RowAt m l → l.es = cutE o.es cols C i →
    ∃ m' l', m'[1]? = some (cM zM) ∧ m'[L]? = some (cM ⟨R, C, l'⟩) ∧ RowAt m' l' ∧ l'.es = cutE o.es cols C R ∧
      L13_11 (.ptr 0 0) (.ptr 1 0) (.ptr 2 0) (.ptr L 0) (.int .i64 i) m K = K (.exit 2) (O13_11 (.ptr 1 0) (.ptr L 0) m') := by
  intro j
  induction j with
  | zero =>
    intro i m l hi h0 h1 h2 h3 h4 h5
    have hiR : i = R := by omega
    subst hiR
    refine ⟨m, l, h1, h3, h4, h5, ?_⟩
    rw [L13_11_eq, fld0, Option.bind_some, mld0 h3, Option.bind_some, n_lss, Option.bind_some, ifA_dec, if_neg (by omega)]
  | succ j ih =>
    intro i m l hi h0 h1 h2 h3 h4 h5
    have hiR : i < R := by omega
    have hb1 : i * cols + cols ≤ rows * cols := by
      rw [← Nat.succ_mul]
      exact Nat.mul_le_mul_right _ (by omega)
    have hb2 : rows * cols ≤ 3600 := Nat.mul_le_mul hr hc
    have hb3 : i * C ≤ i * cols := Nat.mul_le_mul_left _ hC
    have hll : l.es.length = i * C := by rw [h5, cutE_length hC (by omega)]
    have hsl : ((o.es.take (i * cols + C)).drop (i * cols)).length = C := by
      rw [List.length_drop, List.length_take, Nat.min_eq_left (by omega)]; omega
    obtain ⟨l', m1, m2, p1, p2, p3, p4, p5, p6⟩ := pushs (y := ⟨R, C, l⟩) (ys := ⟨o.sh, o.z, .no, (o.es.take (i * cols + C)).drop (i * cols)⟩) h3 h4 (by
      rcases ho with h | h
      · exact .inl h
      · right; show (o.es.take _).drop _ = []; rw [h]; simp) (by show l.es.length + ((o.es.take (i * cols + C)).drop (i * cols)).length < 9000; omega)
    obtain ⟨m', l'', q1, q2, q3, q4, q5⟩ := ih (i + 1) m2 l' (by omega) (p6.2 0 true _ (by omega) h0) (p6.2 1 true _ (by omega) h1) (p6.2 2 true _ (by omega) h2) p4 p5 (by rw [p2]; show l.es ++ _ = _; rw [h5]; rfl)
    refine ⟨m', l'', q1, q2, q3, q4, ?_⟩
    have kp := Kp.app m [some .resv]
    have g0 := kp.2 0 true _ h0
    have g2 := kp.2 2 true _ h2
    have g3 := kp.2 L true _ h3
    have mulc : binA .other .mul (.int .i64 (i : Nat)) (.int .i64 x0.cols) = some (.int .i64 (i * cols : Nat)) := by
      rw [hx, i_mul60 (by omega) (by omega) (by omega) (by omega), ← Int.natCast_mul]
    have addc : binA .other .add (.int .i64 (i * cols : Nat)) (.int .i64 (C : Nat)) = some (.int .i64 (i * cols + C : Nat)) := i_add (by omega)
    rw [L13_11_eq, fld0, Option.bind_some, mld0 h3, Option.bind_some, n_lss, Option.bind_some, ifA_dec, if_pos hiR, fld2, Option.bind_some, res1, mld2 g3, Option.bind_some, fld2, Option.bind_some, mld2 g2, Option.bind_some,
      fld1, Option.bind_some, mld1 g0, Option.bind_some, mulc, Option.bind_some, Option.bind_some, mld1 g0, Option.bind_some, mulc, Option.bind_some, fld1, Option.bind_some, mld1 g3, Option.bind_some, addc, Option.bind_some,
      slice_lv ho (by omega) (by omega), Option.bind_some, p1, Option.bind_some, Option.bind_some, p3, Option.bind_some, i_add1 (by omega), Option.bind_some]
    exact q5
/-- Cut to n rows and columns. -/
theorem V13 {x : MV} {n : Nat} (hn : n ≤ 60) (hx : XM x) (hfx : x.fr = x) : ∃ y : MV, AP cfg 13 [x.av, .int .i64 n] = some y.av ∧ LOk 3 y.lv ∧ y.lv.es.length ≤ 4000 ∧ y.fr = y ∧ (rightM y = true → y.rows = min x.rows n ∧ y.cols = min x.cols n) := by
  obtain ⟨m', l', q0, q1, q2, q3, q4, q5⟩ := W13_3 hx (.int .i64 n) (K13_3 (finK cfg.P f13.results.toList)) (headL x.lv).es.length 0 [cM x, cM zM, cM ⟨x.rows, x.cols, nilL⟩] nilL (by omega) rfl rfl rfl (.inl rfl) rfl
  have hlen : l'.es.length ≤ 4000 := by
    rw [q4, List.length_map]
    show (x.lv.es.take 4000).length ≤ 4000
    rw [List.length_take]; omega
  have hlo : LOk 3 l' := rowAt_lok q3 (by rw [q4]; intro r hr; obtain ⟨r', _, rfl⟩ := List.mem_map.1 hr; exact cutR_fr _) (by rw [q4]; intro r hr; obtain ⟨r', h', rfl⟩ := List.mem_map.1 hr; exact cutR_ok (hx.es r' (List.mem_of_mem_take h')))
  have hl1 : 1 < m'.length := by
    apply Classical.byContradiction
    intro hc
    rw [List.getElem?_eq_none (by omega)] at q1
    cases q1
  have e1 := V21 (x := (MV.mk x.rows x.cols l').fr) hlo.fr' (k := 3) (by omega) (by show l'.es.length < _; omega)
  have hrf : rightM (MV.mk x.rows x.cols l').fr = rightM ⟨x.rows, x.cols, l'⟩ := rfl
  rw [hrf] at e1
  have a1 : ([cM x, cM zM] : Mem)[0]? = some (cM x) := rfl
  have a2 : ([cM x, cM zM, cM zM] : Mem)[2]? = some (cM zM) := rfl
  have a3 : ([cM x, cM zM, cM ⟨x.rows, x.cols, nilL⟩] : Mem)[0]? = some (cM x) := rfl
  have hmin : maxA false (.int .i64 x.lv.es.length) (.int .i64 4000) = some (.int .i64 (min x.lv.es.length 4000 : Nat)) := min_int _ 4000
  have fin : ((loadA (some 3) m' (.ptr 2 0)).bind fun v4 => (storeA (some 3) m' (.ptr 1 0) v4).bind fun m5 => (loadA (some 3) m5 (.ptr 1 0)).bind fun v6 => some (v6, m5)) = some (MV.av ⟨x.rows, x.cols, l'⟩, m'.set 1 (cM ⟨x.rows, x.cols, l'⟩)) := by
    rw [mldA q2, Option.bind_some, mstA q1, Option.bind_some, mldA (by rw [List.getElem?_set_self hl1])]
    rfl
  have pre : AC cfg 13 [x.av, .int .i64 n] [] = K13_3 (finK cfg.P f13.results.toList) (.exit 0) (O13_3 (.int .i64 n) (.ptr 0 0) (.ptr 1 0) (.ptr 2 0) m') := by
    rw [T13]
    simp only [Option.bind_some, box_mv, new_m, new_r, fld0, fld1, fld2, List.length_nil, List.nil_append, List.length_cons, List.cons_append, Nat.zero_add, Nat.reduceAdd]
    rw [mld0 a1, Option.bind_some, mld1 a1, Option.bind_some, bldM01, Option.bind_some, mstA a2, Option.bind_some]
    simp only [List.set_cons_succ, List.set_cons_zero]
    rw [mld2 a3, Option.bind_some, Option.bind_some, len_lv, Option.bind_some, hmin, Option.bind_some, slice_head _ hx.sh, Option.bind_some, len_lv, Option.bind_some]
    refine Eq.trans ?_ q5
    rfl
  have out : ∀ (z : MV) (mm : Mem), K13_3 (finK cfg.P f13.results.toList) (.exit 0) (O13_3 (.int .i64 n) (.ptr 0 0) (.ptr 1 0) (.ptr 2 0) m') = some (z.av, mm) → AP cfg 13 [x.av, .int .i64 n] = some z.fr.av := fun z mm h => AP_ofz _ _ (fz_mv z) (noV_mv _) (pre.trans h)
  have outl := out ⟨x.rows, x.cols, l'⟩ (m'.set 1 (cM ⟨x.rows, x.cols, l'⟩))
  rw [K13_3_x0, mldA q2, Option.bind_some, pcM, e1, Option.map_some, Option.bind_some, not_b, Option.bind_some] at outl
  cases hb : rightM ⟨x.rows, x.cols, l'⟩ with
  | false =>
    rw [hb, Bool.not_false, ifA_true] at outl
    exact ⟨_, outl fin, hlo.fr', hlen, by simp only [MV.fr, rowAt_fr q3], fun h => absurd (hrf.symm.trans (by rw [hrf]; exact h) : rightM ⟨x.rows, x.cols, l'⟩ = true) (by rw [hb]; decide)⟩
  | true =>
    have hsz : sizeB ⟨x.rows, x.cols, l'⟩ = true := by unfold rightM at hb; rw [Bool.and_eq_true] at hb; exact hb.1
    unfold sizeB at hsz
    obtain ⟨z1, z2, z3, z4, z5⟩ := of_decide_eq_true hsz
    have z1 : 0 ≤ x.rows := z1
    have z2 : x.rows ≤ 60 := z2
    have z3 : 0 ≤ x.cols := z3
    have z4 : x.cols ≤ 60 := z4
    have z5 : (l'.es.length : Int) = x.rows * x.cols := z5
    obtain ⟨rr, hrr⟩ := Int.eq_ofNat_of_zero_le z1
    obtain ⟨cc, hcc⟩ := Int.eq_ofNat_of_zero_le z3
    rw [hb, Bool.not_true, ifA_false, fld0, Option.bind_some, mld0 q0, Option.bind_some, binA_leq, Option.bind_some, ifA_dec] at outl
    have hlen2 : l'.es.length = rr * cc := by
      rw [hrr, hcc] at z5
      rw [← Int.natCast_mul] at z5
      exact Int.ofNat_inj.1 z5
    have hL := idx_lt q2
    obtain ⟨m2, l2, w1, w2, w3, w4, w5⟩ := W13_11 (rows := rr) (cols := cc) (o := l') (x0 := x) (R := min rr n) (C := min cc n) (L := m'.length) (by omega) (by omega) (by omega) (by omega) hlen2 (rowAt_sh q3) (by omega) hcc (K13_11 (finK cfg.P f13.results.toList)) (min rr n) 0 (m' ++ [cM ⟨(min rr n : Nat), (min cc n : Nat), nilL⟩]) nilL (by omega)
      (by rw [List.getElem?_append_left (by omega)]; exact q0) (by rw [List.getElem?_append_left (by omega)]; exact q1) (by rw [List.getElem?_append_left (by omega)]; exact q2) get_last (.inl rfl) rfl
    have fin2 : (loadA none m' (.ptr 0 0)).bind (fun v17 => (maxA false v17 (.int .i64 n)).bind fun v18 => (fieldAddrA 1 (.ptr 0 0)).bind fun v19 => (loadA none m' v19).bind fun v20 => (maxA false v20 (.int .i64 n)).bind fun v21 => (buildA (.agg [(.int .i64 0), (.int .i64 0), (.lst none true .full [])]) [(0, none, v18), (1, none, v21)]).bind fun v22 =>
        (storeA (some 3) (newAt none m' (.obj true [(.int .i64 0), (.int .i64 0), (.lst none true .full [])])).2 (.ptr (newAt none m' .resv).1 0) v22).bind fun m23 => L13_11 (.ptr 0 0) (.ptr 1 0) (.ptr 2 0) (.ptr (newAt none m' .resv).1 0) (.int .i64 0) m23 (K13_11 (finK cfg.P f13.results.toList))) = some (MV.av ⟨(min rr n : Nat), (min cc n : Nat), l2⟩, m2.set 1 (cM ⟨(min rr n : Nat), (min cc n : Nat), l2⟩)) := by
      rw [mld0 q0, Option.bind_some, hrr, min_int, Option.bind_some, fld1, Option.bind_some, mld1 q0, Option.bind_some, hcc, min_int, Option.bind_some, bldM01, Option.bind_some, new_m, new_r]
      rw [mstA (x := zM) get_last, Option.bind_some]
      rw [show (m' ++ [cM zM]).set m'.length (cM ⟨(min rr n : Nat), (min cc n : Nat), nilL⟩) = m' ++ [cM ⟨(min rr n : Nat), (min cc n : Nat), nilL⟩] by simp]
      refine w5.trans ?_
      rw [K13_11_x2, mldA w2, Option.bind_some, mstA w1, Option.bind_some, mldA (by rw [List.getElem?_set_self (idx_lt w1)])]
      rfl
    have hlo2 : LOk 3 l2 := rowAt_lok w3 (by rw [w4]; intro r hr; exact hlo.fr r (cutE_mem hr)) (by rw [w4]; intro r hr; exact hlo.ok r (cutE_mem hr))
    have hlen3 : l2.es.length ≤ 4000 := by
      rw [w4, cutE_length (by omega) (by rw [hlen2]; exact Nat.mul_le_mul_right _ (by omega))]
      have : min rr n * min cc n ≤ 60 * 60 := Nat.mul_le_mul (by omega) (by omega)
      omega
    have done2 : ∀ {R : Prop}, (AP cfg 13 [x.av, .int .i64 n] = some (MV.fr ⟨(min rr n : Nat), (min cc n : Nat), l2⟩).av) → ∃ y : MV, AP cfg 13 [x.av, .int .i64 n] = some y.av ∧ LOk 3 y.lv ∧ y.lv.es.length ≤ 4000 ∧ y.fr = y ∧ (rightM y = true → y.rows = min x.rows n ∧ y.cols = min x.cols n) := by
      intro _ h
      refine ⟨_, h, hlo2.fr', hlen3, by simp only [MV.fr, rowAt_fr w3], fun _ => ⟨?_, ?_⟩⟩
      · show ((min rr n : Nat) : Int) = _; rw [hrr]; omega
      · show ((min cc n : Nat) : Int) = _; rw [hcc]; omega
    have outc := out ⟨(min rr n : Nat), (min cc n : Nat), l2⟩ (m2.set 1 (cM ⟨(min rr n : Nat), (min cc n : Nat), l2⟩))
    rw [K13_3_x0, mldA q2, Option.bind_some, pcM, e1, Option.map_some, Option.bind_some, not_b, Option.bind_some, hb, Bool.not_true, ifA_false, fld0, Option.bind_some, mld0 q0, Option.bind_some, binA_leq, Option.bind_some, ifA_dec] at outc
    by_cases d1 : x.rows ≤ n
    · rw [if_pos d1, fld1, Option.bind_some, mld1 q0, Option.bind_some, binA_leq, Option.bind_some, ifA_dec] at outl outc
      by_cases d2 : x.cols ≤ n
      · rw [if_pos d2] at outl
        exact ⟨_, outl fin, hlo.fr', hlen, by simp only [MV.fr, rowAt_fr q3], fun _ => ⟨by show x.rows = _; omega, by show x.cols = _; omega⟩⟩
      · rw [if_neg d2] at outc
        exact done2 (R := True) (outc fin2)
    · rw [if_neg d1] at outc
      exact done2 (R := True) (outc fin2)
end Go.Ab

/- Inputs made square, in values. -/
set_option linter.unusedVariables false
set_option linter.unusedSimpArgs false
set_option maxRecDepth 100000
namespace Go.Ab
open Go.Proofs.Try

theorem LOk.xm {x : MV} {k : Nat} (h : LOk k x.lv) : XM x :=
  ⟨h.sh, h.z, fun r hr => ⟨⟨(h.ok r hr).num.dg, (h.ok r hr).num.nil⟩, ⟨(h.ok r hr).den.dg, (h.ok r hr).den.nil⟩, h.fr r hr⟩⟩
theorem pcMI {m : Mem} {d : Option Nat} {g : Nat} (x : MV) (a : Int) : pcall (AP cfg) d m g [x.av, .int .i64 a] = (AP cfg g [x.fr.av, .int .i64 a]).map fun v => (v, m) := pcall2 (fz_mv x) (fz_int _ a)
theorem size_of_right {x : MV} (h : rightM x = true) : 0 ≤ x.rows ∧ x.rows ≤ 60 ∧ 0 ≤ x.cols ∧ x.cols ≤ 60 ∧ (x.lv.es.length : Int) = x.rows * x.cols := by
  unfold rightM at h
  rw [Bool.and_eq_true] at h
  exact of_decide_eq_true h.1
theorem V43 {x : MV} {n : Nat} (hn : n ≤ 60) (hx : XM x) (hfx : x.fr = x) : ∃ y : MV, AP cfg 43 [x.av, .int .i64 n] = some y.av ∧ LOk 3 y.lv ∧ y.lv.es.length ≤ 4000 ∧ y.fr = y ∧ (rightM y = true → y.rows = y.cols ∧ y.rows ≤ n) := by
  obtain ⟨y, y1, y2, y3, y4, y5⟩ := V13 hn hx hfx
  have e21 := V21 (x := y) y2 (k := 3) (by omega) (by omega)
  have out : ∀ (z : MV) (mm : Mem), AC cfg 43 [x.av, .int .i64 n] [] = some (z.av, mm) → AP cfg 43 [x.av, .int .i64 n] = some z.fr.av := fun z mm h => AP_ofz _ _ (fz_mv z) (noV_mv _) h
  have start : AC cfg 43 [x.av, .int .i64 n] [] = AC cfg 43 [x.av, .int .i64 n] [] := rfl
  conv at start => rhs; rw [T43, box_mv]
  simp only [Option.bind_some, new_m, new_r, List.length_nil, List.nil_append, List.length_cons, List.cons_append, Nat.zero_add] at start
  rw [mldA (x := x) rfl, Option.bind_some, pcMI, hfx, y1, Option.map_some, Option.bind_some, mstA (x := x) rfl, Option.bind_some] at start
  simp only [List.set_cons_zero] at start
  rw [mldA (x := y) rfl, Option.bind_some, pcM, y4, e21, Option.map_some, Option.bind_some, not_b, Option.bind_some] at start
  cases hb : rightM y with
  | false =>
    rw [hb, Bool.not_false, ifA_true, mldA (x := y) rfl, Option.bind_some, mstA (x := zM) rfl, Option.bind_some] at start
    simp only [List.set_cons_zero, List.set_cons_succ] at start
    rw [mldA (x := y) rfl, Option.bind_some] at start
    have := out _ _ start
    rw [y4] at this
    exact ⟨y, this, y2, y3, y4, fun h => by rw [hb] at h; cases h⟩
  | true =>
    obtain ⟨z1, z2, z3, z4, z5⟩ := size_of_right hb
    obtain ⟨y6, y7⟩ := y5 hb
    obtain ⟨rr, hrr⟩ := Int.eq_ofNat_of_zero_le z1
    obtain ⟨cc, hcc⟩ := Int.eq_ofNat_of_zero_le z3
    obtain ⟨u, u1, u2, u3, u4, u5⟩ := V13 (x := y) (n := min rr cc) (by omega) y2.xm y4
    rw [hb, Bool.not_true, ifA_false, mldA (x := y) rfl, Option.bind_some, fld0, Option.bind_some, mld0 (x := y) rfl, Option.bind_some, fld1, Option.bind_some, mld1 (x := y) rfl, Option.bind_some, hrr, hcc, min_int, Option.bind_some, pcMI, y4, u1, Option.map_some, Option.bind_some, mstA (x := zM) rfl, Option.bind_some] at start
    simp only [List.set_cons_zero, List.set_cons_succ] at start
    rw [mldA (x := u) rfl, Option.bind_some] at start
    have := out _ _ start
    rw [u4] at this
    refine ⟨u, this, u2, u3, u4, fun h => ?_⟩
    obtain ⟨u6, u7⟩ := u5 h
    rw [u6, u7]
    omega
end Go.Ab

/- Compare and Same of fractions, Same of matrices, in values. -/
set_option linter.unusedVariables false
set_option linter.unusedSimpArgs false
set_option maxRecDepth 100000
namespace Go.Ab
open Go.Proofs.Try

def cmpR (a b : RV) : Int := if signR a < signR b then -1 else if signR a > signR b then 1 else signR a * cmpV (a.num.v * b.den.v) (b.num.v * a.den.v)
theorem signR_vals (r : RV) : signR r = -1 ∨ signR r = 0 ∨ signR r = 1 := by
  unfold signR
  split
  · exact .inr (.inl rfl)
  · split
    · exact .inl rfl
    · exact .inr (.inr rfl)
theorem cmpV_vals (a b : Nat) : cmpV a b = -1 ∨ cmpV a b = 0 ∨ cmpV a b = 1 := by
  unfold cmpV
  split
  · exact .inl rfl
  · split
    · exact .inr (.inr rfl)
    · exact .inr (.inl rfl)
theorem cmpV_zero (a b : Nat) : cmpV a b = 0 ↔ a = b := by
  unfold cmpV
  split
  · constructor
    · intro h; cases h
    · intro h; omega
  · split
    · constructor
      · intro h; cases h
      · intro h; omega
    · constructor
      · intro _; omega
      · intro _; rfl
theorem i_mul1 {a b : Int} (ha : a = -1 ∨ a = 0 ∨ a = 1) (hb : b = -1 ∨ b = 0 ∨ b = 1) : binA .other .mul (.int .i64 a) (.int .i64 b) = some (.int .i64 (a * b)) := by
  rcases ha with rfl | rfl | rfl <;> rcases hb with rfl | rfl | rfl <;> rfl
theorem V113 {a b : RV} {k : Nat} (ha : ROk k a) (hb : ROk k b) (fa : a.fr = a) (fb : b.fr = b) (hk1 : 1 ≤ k) (hk : k < 2 ^ 36) : AP cfg 113 [a.av, b.av] = some (.int .i64 (cmpR a b)) := by
  have fan : a.num.fr = a.num := congrArg RV.num fa
  have fad : a.den.fr = a.den := congrArg RV.den fa
  have fbn : b.num.fr = b.num := congrArg RV.num fb
  have fbd : b.den.fr = b.den := congrArg RV.den fb
  have l1 : (digs (a.num.v * b.den.v)).length < 2 ^ 40 := Nat.lt_of_le_of_lt (ln_mul (Nat.le_trans ha.num.v_len ha.ln) (Nat.le_trans hb.den.v_len hb.ld)) (by omega)
  have l2 : (digs (b.num.v * a.den.v)).length < 2 ^ 40 := Nat.lt_of_le_of_lt (ln_mul (Nat.le_trans hb.num.v_len hb.ln) (Nat.le_trans ha.den.v_len ha.ld)) (by omega)
  have e1 := V107 ha.num hb.den
  have e2 := V107 hb.num ha.den
  have e3 := V109 (x := ⟨false, .no, digs (a.num.v * b.den.v)⟩) (y := ⟨false, .no, digs (b.num.v * a.den.v)⟩) (nok_digs l1) (nok_digs l2)
  have v1 : NV.v ⟨false, .no, digs (a.num.v * b.den.v)⟩ = a.num.v * b.den.v := val_digs _
  have v2 : NV.v ⟨false, .no, digs (b.num.v * a.den.v)⟩ = b.num.v * a.den.v := val_digs _
  rw [v1, v2] at e3
  have q1 : ∀ (d : Option Nat) (mm : Mem), pcall (AP cfg) d mm 105 [a.av] = some (.int .i64 (signR a), mm) := fun d mm => by rw [pcR, fa, V105 ha]; rfl
  have q2 : ∀ (d : Option Nat) (mm : Mem), pcall (AP cfg) d mm 105 [b.av] = some (.int .i64 (signR b), mm) := fun d mm => by rw [pcR, fb, V105 hb]; rfl
  have q3 : ∀ (d : Option Nat) (mm : Mem), pcall (AP cfg) d mm 107 [a.num.av, b.den.av] = some (NV.av ⟨false, .no, digs (a.num.v * b.den.v)⟩, mm) := fun d mm => by rw [pcNN, fan, fbd, e1]; rfl
  have q4 : ∀ (d : Option Nat) (mm : Mem), pcall (AP cfg) d mm 107 [b.num.av, a.den.av] = some (NV.av ⟨false, .no, digs (b.num.v * a.den.v)⟩, mm) := fun d mm => by rw [pcNN, fbn, fad, e2]; rfl
  have q5 : ∀ (d : Option Nat) (mm : Mem), pcall (AP cfg) d mm 109 [NV.av ⟨false, .no, digs (a.num.v * b.den.v)⟩, NV.av ⟨false, .no, digs (b.num.v * a.den.v)⟩] = some (.int .i64 (cmpV (a.num.v * b.den.v) (b.num.v * a.den.v)), mm) := fun d mm => by
    rw [pcNN, show NV.fr ⟨false, .no, digs (a.num.v * b.den.v)⟩ = ⟨false, .no, digs (a.num.v * b.den.v)⟩ from rfl, show NV.fr ⟨false, .no, digs (b.num.v * a.den.v)⟩ = ⟨false, .no, digs (b.num.v * a.den.v)⟩ from rfl, e3]; rfl
  refine AP_ofz _ _ (fz_int _ _) rfl (m := [cR a, cR b]) ?_
  rw [T113, box_rv, Option.bind_some, box_rv, Option.bind_some]
  simp only [List.length_nil, List.nil_append, List.length_cons, List.cons_append, Nat.zero_add]
  rw [rldA (x := a) rfl, Option.bind_some, q1, Option.bind_some, rldA (x := b) rfl, Option.bind_some, q2, Option.bind_some, binA_lss, Option.bind_some, ifA_dec]
  unfold cmpR
  by_cases c1 : signR a < signR b
  · rw [if_pos c1, if_pos c1]
  · rw [if_neg c1, if_neg c1, binA_gtr, Option.bind_some, ifA_dec]
    by_cases c2 : signR a > signR b
    · rw [if_pos c2, if_pos c2]
    · rw [if_neg c2, if_neg c2, fld1, Option.bind_some, rld1 (x := a) rfl, Option.bind_some, fld2, Option.bind_some, rld2 (x := b) rfl, Option.bind_some, q3, Option.bind_some, fld1, Option.bind_some, rld1 (x := b) rfl, Option.bind_some, fld2, Option.bind_some, rld2 (x := a) rfl, Option.bind_some, q4, Option.bind_some, q5, Option.bind_some, i_mul1 (signR_vals a) (cmpV_vals _ _), Option.bind_some]
theorem sgn_nat (neg : Bool) (n : Nat) : sgn neg n = if neg then -(n : Int) else n := by cases neg <;> rfl
theorem cmpR_zero (a b : RV) : cmpR a b = 0 ↔ a.q = b.q := by
  have key : ∀ r : RV, (signR r = 0 ∧ r.q = 0) ∨ (r.num.v ≠ 0 ∧ r.den.v ≠ 0 ∧ r.q ≠ 0 ∧ signR r = if r.neg then -1 else 1) := by
    intro r
    by_cases h : r.num.v = 0 ∨ r.den.v = 0
    · left
      refine ⟨by unfold signR; rw [if_pos h], ?_⟩
      rcases h with h | h
      · rw [RV.q, h, qOf_num0]
      · rw [RV.q, h, qOf_den0]
    · right
      refine ⟨fun e => h (.inl e), fun e => h (.inr e), ?_, by unfold signR; rw [if_neg h]⟩
      intro e
      have hd : r.den.v ≠ 0 := fun e => h (.inr e)
      have : sgn r.neg r.num.v = 0 := by
        have e' : mkRat (sgn r.neg r.num.v) r.den.v = 0 := e
        exact (Rat.mkRat_eq_zero hd).1 e'
      have h2 : (sgn r.neg r.num.v).natAbs = 0 := by rw [this]; rfl
      rw [sgn_abs] at h2
      exact h (.inl h2)
  unfold cmpR
  rcases key a with ⟨a1, a2⟩ | ⟨a1, a2, a3, a4⟩
  · rcases key b with ⟨b1, b2⟩ | ⟨b1, b2, b3, b4⟩
    · rw [a1, b1, a2, b2]; simp
    · rw [a1, a2]
      constructor
      · intro h
        rw [b4] at h
        by_cases hb : b.neg = true <;> simp [hb] at h
      · intro h; exact absurd h.symm b3
  · rcases key b with ⟨b1, b2⟩ | ⟨b1, b2, b3, b4⟩
    · rw [b1, b2]
      constructor
      · intro h
        rw [a4] at h
        by_cases hb : a.neg = true <;> simp [hb] at h
      · intro h; exact absurd h a3
    · have hq : a.q = b.q ↔ sgn a.neg a.num.v * (b.den.v : Int) = sgn b.neg b.num.v * (a.den.v : Int) := Rat.mkRat_eq_iff a2 b2
      rw [hq, a4, b4, sgn_nat, sgn_nat]
      have p1 : 0 < a.num.v * b.den.v := Nat.mul_pos (by omega) (by omega)
      have p2 : 0 < b.num.v * a.den.v := Nat.mul_pos (by omega) (by omega)
      have p1' : (a.num.v : Int) * (b.den.v : Int) = ((a.num.v * b.den.v : Nat) : Int) := (Int.natCast_mul _ _).symm
      have p2' : (b.num.v : Int) * (a.den.v : Int) = ((b.num.v * a.den.v : Nat) : Int) := (Int.natCast_mul _ _).symm
      cases a.neg <;> cases b.neg
      · simp only [Bool.false_eq_true, if_false, p1', p2']
        rw [if_neg (by omega), if_neg (by omega), Int.one_mul, cmpV_zero]
        omega
      · simp only [Bool.false_eq_true, if_false, if_true, Int.neg_mul, p1', p2']
        rw [if_neg (by omega), if_pos (by omega)]
        omega
      · simp only [Bool.false_eq_true, if_false, if_true, Int.neg_mul, p1', p2']
        rw [if_pos (by omega)]
        omega
      · simp only [if_true, Int.neg_mul, p1', p2']
        rw [if_neg (by omega), if_neg (by omega), Int.one_mul, Int.neg_eq_zero, cmpV_zero]
        omega
theorem V80 {a b : RV} {k : Nat} (ha : ROk k a) (hb : ROk k b) (fa : a.fr = a) (fb : b.fr = b) (hk1 : 1 ≤ k) (hk : k < 2 ^ 36) : AP cfg 80 [a.av, b.av] = some (.bool (decide (a.q = b.q))) := by
  have e := V113 ha hb fa fb hk1 hk
  refine AP_ofz (.bool (decide (a.q = b.q))) (.bool (decide (a.q = b.q))) (fun _ => rfl) rfl (m := [cR a, cR b]) ?_
  rw [T80, box_rv, Option.bind_some, box_rv, Option.bind_some]
  simp only [List.length_nil, List.nil_append, List.length_cons, List.cons_append, Nat.zero_add]
  rw [rldA (x := a) rfl, Option.bind_some, rldA (x := b) rfl, Option.bind_some, pcRR, fa, fb, e, Option.map_some, Option.bind_some, binA_eql, Option.bind_some]
  rw [decide_eq_decide.2 (cmpR_zero a b)]
theorem W39 {x y : MV} (k : Nat) (hx : LOk k x.lv) (hy : LOk k y.lv) (hk1 : 1 ≤ k) (hk : k < 2 ^ 36) (hlen : x.lv.es.length < 2 ^ 40) (heq : x.lv.es.length = y.lv.es.length) (K : Ex → St → Option (AV × Mem)) : ∀ (j i : Nat), i + j = x.lv.es.length →
    ∃ m', L39_4 (.ptr 0 0) (.ptr 1 0) (.int .i64 x.lv.es.length) (.int .i64 i) [cM x, cM y] K = if (x.lv.es.drop i).map RV.q = (y.lv.es.drop i).map RV.q then K (.exit 0) (O39_4 m') else K .ret (R39_4 (.bool false) m') := by
  have g0 : ([cM x, cM y] : Mem)[0]? = some (cM x) := rfl
  have g1 : ([cM x, cM y] : Mem)[1]? = some (cM y) := rfl
  intro j
  induction j with
  | zero =>
    intro i hi
    refine ⟨[cM x, cM y], ?_⟩
    rw [L39_4_eq, n_lss, Option.bind_some, ifA_dec, if_neg (by omega), List.drop_of_length_le (by omega), List.drop_of_length_le (by omega)]
    rfl
  | succ j ih =>
    intro i hi
    have hil : i < x.lv.es.length := by omega
    have hil' : i < y.lv.es.length := by omega
    have hr := hx.ok x.lv.es[i] (List.getElem_mem hil)
    have hf := hx.fr x.lv.es[i] (List.getElem_mem hil)
    have hr' := hy.ok y.lv.es[i] (List.getElem_mem hil')
    have hf' := hy.fr y.lv.es[i] (List.getElem_mem hil')
    obtain ⟨m', ih⟩ := ih (i + 1) (by omega)
    have e1 := V80 hr hr' hf hf' hk1 hk
    have hd : x.lv.es.drop i = x.lv.es[i] :: x.lv.es.drop (i + 1) := List.drop_eq_getElem_cons hil
    have hd' : y.lv.es.drop i = y.lv.es[i] :: y.lv.es.drop (i + 1) := List.drop_eq_getElem_cons hil'
    rw [hd, hd', List.map_cons, List.map_cons]
    rw [L39_4_eq, n_lss, Option.bind_some, ifA_dec, if_pos hil, fld2, Option.bind_some, mld2 g0, Option.bind_some, index_lv hx hil, Option.bind_some, load_row, Option.bind_some, fld2, Option.bind_some, mld2 g1, Option.bind_some, index_lv hy hil', Option.bind_some, load_row, Option.bind_some, pcRR, hf, hf', e1, Option.map_some, Option.bind_some, not_b, Option.bind_some]
    by_cases hq : x.lv.es[i].q = y.lv.es[i].q
    · refine ⟨m', ?_⟩
      rw [decide_eq_true hq, Bool.not_true, ifA_false, i_add1 (by omega), Option.bind_some, ih]
      simp only [List.cons.injEq, hq, true_and]
    · refine ⟨[cM x, cM y], ?_⟩
      rw [decide_eq_false hq, Bool.not_false, ifA_true, if_neg (fun hc => hq (List.cons.inj hc).1)]
theorem V39 {x y : MV} {k : Nat} (hx : LOk k x.lv) (hy : LOk k y.lv) (hk1 : 1 ≤ k) (hk : k < 2 ^ 36) (hlen : x.lv.es.length < 2 ^ 40) : AP cfg 39 [x.av, y.av] = some (.bool (sameM x y)) := by
  have g0 : ([cM x, cM y] : Mem)[0]? = some (cM x) := rfl
  have g1 : ([cM x, cM y] : Mem)[1]? = some (cM y) := rfl
  have key : ∃ m', AC cfg 39 [x.av, y.av] [] = some (.bool (sameM x y), m') := by
    rw [T39, box_mv]
    simp only [Option.bind_some, box_mv, fld0, fld1, fld2, List.length_nil, List.nil_append, List.length_cons, List.cons_append, Nat.zero_add]
    rw [mld0 g0, Option.bind_some, mld0 g1, Option.bind_some, binA_neq, Option.bind_some, ifA_dec]
    unfold sameM
    by_cases c1 : x.rows = y.rows
    · rw [if_neg (fun hn => hn c1), mld1 g0, Option.bind_some, mld1 g1, Option.bind_some, binA_neq, Option.bind_some, ifA_dec, decide_eq_true c1, Bool.true_and]
      by_cases c2 : x.cols = y.cols
      · rw [if_neg (fun hn => hn c2), mld2 g0, Option.bind_some, len_lv, Option.bind_some, mld2 g1, Option.bind_some, len_lv, Option.bind_some, n_neq, Option.bind_some, ifA_dec, decide_eq_true c2, Bool.true_and]
        by_cases c3 : x.lv.es.length = y.lv.es.length
        · obtain ⟨m', hw⟩ := W39 k hx hy hk1 hk hlen c3 (K39_4 (finK cfg.P f39.results.toList)) x.lv.es.length 0 (by omega)
          rw [if_neg (fun hn => hn c3), Option.bind_some, len_lv, Option.bind_some]
          refine ⟨m', hw.trans ?_⟩
          rw [List.drop_zero, List.drop_zero, K39_4_x0, K39_4_ret]
          split
          · rename_i hh; rw [decide_eq_true hh]
          · rename_i hh; rw [decide_eq_false hh]
        · rw [if_pos c3, decide_eq_false (fun hn => c3 (by have := congrArg List.length hn; simpa using this))]; exact ⟨_, rfl⟩
      · rw [if_pos c2, decide_eq_false c2]; exact ⟨_, rfl⟩
    · rw [if_pos c1, decide_eq_false c1]; exact ⟨_, rfl⟩
  obtain ⟨m', hm⟩ := key
  exact AP_ofz _ _ (fz_bool _) rfl hm
end Go.Ab

/- Cells of matrices by index. -/
set_option linter.unusedVariables false
set_option linter.unusedSimpArgs false
set_option maxRecDepth 100000
namespace Go.Ab
open Go.Proofs.Try

theorem cellsF_get (F : Nat → Nat → RV) (cols : Nat) : ∀ (i p : Nat), p < i * cols → (cellsF F cols i)[p]? = some (F (p / cols) (p % cols))
  | 0, p, h => by simp at h
  | i + 1, p, h => by
    rw [Nat.succ_mul] at h
    unfold cellsF
    by_cases hp : p < i * cols
    · rw [List.getElem?_append_left (by rw [cellsF_length]; exact hp)]
      exact cellsF_get F cols i p hp
    · have hb : p - i * cols < cols := by omega
      have h1 : p = (p - i * cols) + cols * i := by rw [Nat.mul_comm cols i]; omega
      have h2 : p / cols = i := by rw [h1, Nat.add_mul_div_left _ _ (by omega), Nat.div_eq_of_lt hb, Nat.zero_add]
      have h3 : p % cols = p - i * cols := by rw [h1, Nat.add_mul_mod_self_left, Nat.mod_eq_of_lt hb, ← h1]
      rw [List.getElem?_append_right (by rw [cellsF_length]; omega), cellsF_length, h2, h3]
      unfold rowF
      rw [List.getElem?_map, List.getElem?_range hb]
      rfl
theorem map_copyR (es : List RV) : (es.map copyR).map RV.q = es.map RV.q := by
  rw [List.map_map]
  apply List.map_congr_left
  intro r _
  exact copyR_q r
theorem sameM_of {x y : MV} (h1 : x.rows = y.rows) (h2 : x.cols = y.cols) (h3 : x.lv.es.map RV.q = y.lv.es.map RV.q) : sameM x y = true := by
  unfold sameM
  rw [decide_eq_true h1, decide_eq_true h2, decide_eq_true h3]; rfl
theorem sameM_refl (x : MV) : sameM x x = true := sameM_of rfl rfl rfl
end Go.Ab

/- The sum, the multiple and the transpose of matrices, in values. -/
set_option linter.unusedVariables false
set_option linter.unusedSimpArgs false
set_option maxRecDepth 100000
namespace Go.Ab
open Go.Proofs.Try

def qAt (x : MV) (p : Nat) : Rat := (x.lv.es.map RV.q).getD p 0
theorem qAt_get {x : MV} {p : Nat} (h : p < x.lv.es.length) : qAt x p = x.lv.es[p].q := by
  unfold qAt
  rw [List.getD_eq_getElem?_getD, List.getElem?_map, List.getElem?_eq_getElem h]; rfl
theorem sameM_ext {x y : MV} (h1 : x.rows = y.rows) (h2 : x.cols = y.cols) (hl : x.lv.es.length = y.lv.es.length) (h : ∀ p, p < x.lv.es.length → qAt x p = qAt y p) : sameM x y = true := by
  refine sameM_of h1 h2 (List.ext_getElem? fun p => ?_)
  rw [List.getElem?_map, List.getElem?_map]
  by_cases hp : p < x.lv.es.length
  · have := h p hp
    rw [qAt_get hp, qAt_get (by omega)] at this
    rw [List.getElem?_eq_getElem hp, List.getElem?_eq_getElem (by omega), Option.map_some, Option.map_some, this]
  · rw [List.getElem?_eq_none (by omega), List.getElem?_eq_none (by omega)]
/-- What an operation on matrices returns: an error and no matrix, or a matrix by its cells. -/
structure Res (z : MV) (e err : Int) (R C : Nat) (Q : Nat → Rat) (k : Nat) : Prop where
  fr : z.fr = z
  ok : LOk k z.lv
  e : e = err
  bad : err ≠ 0 → z = zM
  rows : err = 0 → z.rows = R
  cols : err = 0 → z.cols = C
  len : err = 0 → z.lv.es.length = R * C
  q : err = 0 → ∀ p, p < R * C → qAt z p = Q p
theorem Res.same {z z' : MV} {e e' err : Int} {R C k k' : Nat} {Q : Nat → Rat} (h : Res z e err R C Q k) (h' : Res z' e' err R C Q k') : e = e' ∧ sameM z z' = true := by
  refine ⟨h.e.trans h'.e.symm, ?_⟩
  by_cases h0 : err = 0
  · exact sameM_ext ((h.rows h0).trans (h'.rows h0).symm) ((h.cols h0).trans (h'.cols h0).symm) ((h.len h0).trans (h'.len h0).symm) (fun p hp => by
      rw [h.len h0] at hp
      rw [h.q h0 p hp, h'.q h0 p hp])
  · rw [h.bad h0, h'.bad h0]
    exact sameM_refl _
theorem Res.bad' {err : Int} {R C k : Nat} {Q : Nat → Rat} (h : err ≠ 0) : Res zM err err R C Q k :=
  ⟨rfl, zM_ok k, rfl, fun _ => rfl, fun h0 => absurd h0 h, fun h0 => absurd h0 h, fun h0 => absurd h0 h, fun h0 => absurd h0 h⟩

/-! ### Boxes handed to a closure -/
def vM (x : MV) : AV := .vptr [.int .i64 x.rows, .int .i64 x.cols, x.lv.av]
theorem frz_ptrM {m : Mem} {n : Nat} {x : MV} (h : m[n]? = some (cM x)) : frz m 8 (.ptr n 0) = some (vM x.fr, []) := by
  have e : frz m 8 (.ptr n 0) = (m.obj? n).bind fun o => if o.1 then (mapF (frz m 7) (o.2.drop 0)).map fun r => (.vptr r.1, r.2) else none := rfl
  rw [e, mobj h]
  simp [mapF, fza_int .i64 x.rows m 6, fza_int .i64 x.cols m 6, fza_lst x.lv.sh x.lv.z x.lv.o (x.lv.es.map RV.av) m 6, MV.fr, LV.fr, LV.av, vM]
theorem pcFill2 {m : Mem} {g : Nat} {a b c d : AV} (k : IntKind) (k' : IntKind) (i j : Int) (ha : frz m 8 a = some (c, [])) (hb : frz m 8 b = some (d, [])) : pcall (AP cfg) none m 58 [.int k i, .int k' j, .fn g [a, b]] = (AP cfg 58 [.int k i, .int k' j, .fn g [c, d]]).map fun v => (v, m) := by
  have e : frz m fuelF (.fn g [a, b]) = some (.fn g [c, d], []) := by
    have e' : frz m fuelF (.fn g [a, b]) = (mapF (frz m 8) [a, b]).map fun r => (.fn g r.1, r.2) := rfl
    rw [e']; simp [mapF, ha, hb]
  simp [pcall, mapF, kill, fz_int k i m, fz_int k' j m, e]
theorem frz_vM {x : MV} (h : x.fr = x) (m : Mem) (k : Nat) : frz m (k + 2) (vM x) = some (vM x, []) := by
  have e : frz m (k + 2) (vM x) = (mapF (frz m (k + 1)) [.int .i64 x.rows, .int .i64 x.cols, x.lv.av]).map fun r => (.vptr r.1, r.2) := rfl
  rw [e]
  have hl : x.lv.fr.av = x.lv.av := by rw [show x.lv.fr = x.lv from congrArg MV.lv h]
  have hl' : AV.lst x.lv.sh x.lv.z x.lv.o.fr (x.lv.es.map RV.av) = x.lv.av := hl
  simp [mapF, fza_int .i64 x.rows m k, fza_int .i64 x.cols m k, LV.av, fza_lst x.lv.sh x.lv.z x.lv.o (x.lv.es.map RV.av) m k, vM]
  exact congrArg (fun y : MV => y.lv.o) h
theorem csz2 {a b : AV} (ha : ∀ m k, frz m (k + 2) a = some (a, [])) (hb : ∀ m k, frz m (k + 2) b = some (b, [])) : ∀ m, mapF (frz m fuelF) [a, b] = some ([a, b], []) := fun m => by
  have e1 : frz m fuelF a = some (a, []) := ha m 7
  have e2 : frz m fuelF b = some (b, []) := hb m 7
  simp [mapF, e1, e2]
/-! ### The closures -/
theorem vMf1 (x : MV) : fieldAddrA 1 (vM x) = some (.vptr [.int .i64 x.cols, x.lv.av]) := rfl
theorem vMf2 (x : MV) : fieldAddrA 2 (vM x) = some (.vptr [x.lv.av]) := rfl
theorem vMl1 (x : MV) (m : Mem) : loadA none m (.vptr [.int .i64 x.cols, x.lv.av]) = some (.int .i64 x.cols) := rfl
theorem vMl2 (x : MV) (m : Mem) : loadA none m (.vptr [x.lv.av]) = some x.lv.av := rfl
theorem at_cell {i j c : Nat} (hi : i ≤ 60) (hc : c ≤ 60) (hj : j ≤ 60) : binA .other .mul (.int .i64 i) (.int .i64 c) = some (.int .i64 (i * c : Nat)) ∧ binA .other .add (.int .i64 (i * c : Nat)) (.int .i64 j) = some (.int .i64 (i * c + j : Nat)) := by
  have : i * c ≤ 60 * 60 := Nat.mul_le_mul hi hc
  refine ⟨?_, i_add (by omega)⟩
  rw [i_mul60 (by omega) (by omega) (by omega) (by omega), ← Int.natCast_mul]
end Go.Ab

/- Add, Scale and Transpose of matrices, in values. -/
set_option linter.unusedVariables false
set_option linter.unusedSimpArgs false
set_option maxRecDepth 100000
namespace Go.Ab
open Go.Proofs.Try

/-- A matrix as an argument. -/
structure IsM (k : Nat) (x : MV) : Prop where
  ok : LOk k x.lv
  fr : x.fr = x
  len : x.lv.es.length ≤ 4000
theorem retM2 {f : Nat} {args : List AV} {z : MV} {e : Int} {mm : Mem} (h : AC cfg f args [] = some (.tup [z.av, .int .i64 e], mm)) (hz : z.fr = z) : AP cfg f args = some (.tup [z.av, .int .i64 e]) :=
  (AP_ofz _ _ (fz_tupM2 z (fza_int _ _)) rfl h).trans (by rw [hz])
theorem qAt_bd {x : MV} {k p : Nat} (h : LOk k x.lv) (hk : 1 ≤ k) : Bd k (qAt x p) := by
  by_cases hp : p < x.lv.es.length
  · rw [qAt_get hp]
    exact (h.ok _ (List.getElem_mem hp)).bd hk
  · unfold qAt
    rw [List.getD_eq_getElem?_getD, List.getElem?_map, List.getElem?_eq_none (by omega)]
    exact Bd_zero hk
theorem choose2 {P : Nat → Nat → RV → Prop} {rows cols : Nat} (h : ∀ i j, i < rows → j < cols → ∃ s, P i j s) : ∃ F : Nat → Nat → RV, ∀ i j, i < rows → j < cols → P i j (F i j) := by
  have h' : ∀ i, ∃ f : Nat → RV, ∀ j, i < rows → j < cols → P i j (f j) := by
    intro i
    have : ∀ j, ∃ s, i < rows → j < cols → P i j s := by
      intro j
      by_cases hc : i < rows ∧ j < cols
      · obtain ⟨s, hs⟩ := h i j hc.1 hc.2
        exact ⟨s, fun _ _ => hs⟩
      · exact ⟨zeroR, fun h1 h2 => absurd ⟨h1, h2⟩ hc⟩
    obtain ⟨f, hf⟩ := Classical.axiomOfChoice this
    exact ⟨f, hf⟩
  obtain ⟨F, hF⟩ := Classical.axiomOfChoice h'
  exact ⟨F, fun i j => hF i j⟩
/-- A matrix filled by a closure whose values are known. -/
theorem fillP {g : Nat} {cs : List AV} {rows cols k : Nat} {Q : Nat → Nat → Rat} {P : RV → Prop} (hi : cfg.inl 58 g = false) (hcs : ∀ m, mapF (frz m fuelF) cs = some (cs, [])) (hr : rows ≤ 60) (hc : cols ≤ 60)
    (h : ∀ i j, i < rows → j < cols → ∃ s : RV, AP cfg g ([.int .i64 i, .int .i64 j] ++ cs) = some s.av ∧ s.q = Q i j ∧ ROk k s ∧ s.fr = s ∧ P s) :
    ∃ y : MV, AP cfg 58 [.int .i64 rows, .int .i64 cols, .fn g cs] = some y.av ∧ y.rows = rows ∧ y.cols = cols ∧ y.lv.es.length = rows * cols ∧ (∀ p, p < rows * cols → qAt y p = Q (p / cols) (p % cols)) ∧ LOk k y.lv ∧ y.fr = y ∧ ∀ r ∈ y.lv.es, P r := by
  obtain ⟨F, hF⟩ := choose2 h
  obtain ⟨y, f1, f2, f3, f4, f5, f6⟩ := V58 (F := F) ⟨hi, hcs, fun i j h1 h2 => (hF i j h1 h2).1, fun i j h1 h2 => (hF i j h1 h2).2.2.2.1, fun i j h1 h2 => (hF i j h1 h2).2.2.1⟩ hr hc
  refine ⟨y, f1, f2, f3, by rw [f4, cellsF_length], fun p hp => ?_, f5, f6, fun r hr => ?_⟩
  · have hcp : 0 < cols := by
      rcases Nat.eq_zero_or_pos cols with h0 | h0
      · rw [h0, Nat.mul_zero] at hp; omega
      · exact h0
    have h1 : p / cols < rows := Nat.div_lt_of_lt_mul (by rw [Nat.mul_comm]; exact hp)
    have h2 : p % cols < cols := Nat.mod_lt _ hcp
    unfold qAt
    rw [List.getD_eq_getElem?_getD, List.getElem?_map, f4, cellsF_get _ _ _ _ hp]
    exact (hF _ _ h1 h2).2.1
  · rw [f4] at hr
    obtain ⟨a, b, h1, h2, rfl⟩ := cellsF_mem hr
    exact (hF a b h1 h2).2.2.2.2
theorem div_mod_mul (p c : Nat) : p / c * c + p % c = p := by rw [Nat.mul_comm]; exact Nat.div_add_mod p c

/-! ### Add -/
theorem cell_lt60 {i j r c : Nat} (hi : i < r) (hj : j < c) : i * c + j < r * c := by
  have : (i + 1) * c ≤ r * c := Nat.mul_le_mul_right _ hi
  rw [Nat.succ_mul] at this
  omega
/-! ### Scale -/
/-! ### Transpose -/
end Go.Ab

/- What the interpreter does, function by function. -/
set_option maxRecDepth 100000
set_option linter.unusedVariables false
namespace Go.Ab
open Go.Proofs.Try
/-! ### sortilege/sortilegeref19.Add -/
/-! ### sortilege/sortilegeref19.Scale -/
/-! ### sortilege/sortilegeref19.Transpose -/
/-! ### sortilege/sortilegeref19.Mul -/
/-! ### sortilege/sortilegeref19.Power -/
/-! ### sortilege/sortilegeref19.times -/
end Go.Ab

/- The reference's Add, Scale and Transpose, in values. -/
set_option linter.unusedVariables false
set_option linter.unusedSimpArgs false
set_option maxRecDepth 100000
namespace Go.Ab
open Go.Proofs.Try

/-! ### A row that is written to, and the matrix that bears it -/
/-- What is known of a row that is being written: all fractions are sound, the first have their values. -/
structure Wr (es : List RV) (L k : Nat) (Q : Nat → Rat) (done : Nat → Prop) : Prop where
  len : es.length = L
  fr : ∀ r ∈ es, r.fr = r
  ok : ∀ r ∈ es, ROk k r
  q : ∀ p, p < L → done p → (es.map RV.q).getD p 0 = Q p
theorem Wr.set {es : List RV} {L k : Nat} {Q : Nat → Rat} {done done' : Nat → Prop} (h : Wr es L k Q done) {p : Nat} {r : RV} (hp : p < L) (hq : done' p → r.q = Q p) (hf : r.fr = r) (hr : ROk k r) (hd : ∀ p', p' ≠ p → done' p' → done p') : Wr (es.set p r) L k Q done' where
  len := by rw [List.length_set]; exact h.len
  fr s hs := by
    rcases List.mem_or_eq_of_mem_set hs with hs | rfl
    · exact h.fr s hs
    · exact hf
  ok s hs := by
    rcases List.mem_or_eq_of_mem_set hs with hs | rfl
    · exact h.ok s hs
    · exact hr
  q p' hp' hd' := by
    by_cases e : p = p'
    · subst e
      rw [List.getD_eq_getElem?_getD, List.getElem?_map, List.getElem?_set_self (by rw [h.len]; exact hp)]
      exact hq hd'
    · rw [List.getD_eq_getElem?_getD, List.getElem?_map, List.getElem?_set_ne e, ← List.getElem?_map, ← List.getD_eq_getElem?_getD]
      exact h.q p' hp' (hd p' (fun e' => e e'.symm) hd')
theorem Wr.zero (L k : Nat) (Q : Nat → Rat) (hk : 1 ≤ k) : Wr (List.replicate L zeroF) L k Q (fun _ => False) :=
  ⟨List.length_replicate, fun r hr => by rw [(List.mem_replicate.1 hr).2]; exact zeroF_fr, fun r hr => by rw [(List.mem_replicate.1 hr).2]; exact zeroF_ok.mono hk, fun _ _ h => h.elim⟩
theorem Wr.mono {es : List RV} {L k : Nat} {Q : Nat → Rat} {done done' : Nat → Prop} (h : Wr es L k Q done) (hd : ∀ p, p < L → done' p → done p) : Wr es L k Q done' := ⟨h.len, h.fr, h.ok, fun p hp hd' => h.q p hp (hd p hp hd')⟩
theorem Wr.res {es : List RV} {R C k : Nat} {Q : Nat → Rat} (h : Wr es (R * C) k Q (fun _ => True)) : Res ⟨R, C, ⟨some 3, false, .no, es⟩⟩ 0 0 R C Q k :=
  ⟨rfl, ⟨.inl rfl, (fun h => absurd (show false = true from h) (by decide)), h.fr, h.ok⟩, rfl, fun h => absurd rfl h, fun _ => rfl, fun _ => rfl, fun _ => h.len, fun _ p hp => h.q p hp trivial⟩
theorem Res.nil {R C k : Nat} {Q : Nat → Rat} (h : R * C = 0) : Res ⟨R, C, nilL⟩ 0 0 R C Q k :=
  ⟨rfl, zM_ok k, rfl, fun h => absurd rfl h, fun _ => rfl, fun _ => rfl, fun _ => h.symm, fun _ p hp => by omega⟩

/-! ### Add -/
end Go.Ab

/- The reference's Scale and Transpose, in values. -/
set_option linter.unusedVariables false
set_option linter.unusedSimpArgs false
set_option maxRecDepth 100000
namespace Go.Ab
open Go.Proofs.Try

/-! ### Scale -/
/-! ### Transpose -/
theorem tr_cell {r i j : Nat} (hi : i < r) : (j * r + i) % r = i ∧ (j * r + i) / r = j := by
  have e : j * r + i = i + r * j := by rw [Nat.mul_comm]; omega
  rw [e]
  refine ⟨by rw [Nat.add_mul_mod_self_left, Nat.mod_eq_of_lt hi], by rw [Nat.add_mul_div_left _ _ (by omega), Nat.div_eq_of_lt hi, Nat.zero_add]⟩
end Go.Ab

/- Small steps of the laws. -/
set_option linter.unusedVariables false
set_option linter.unusedSimpArgs false
set_option maxRecDepth 100000
namespace Go.Ab
open Go.Proofs.Try

theorem P26' {m : Mem} {d : Option Nat} : pcall (AP cfg) d m 26 [] = some (.bool true, m) := by
  rw [pcall0, V26]; rfl
theorem ext0' (a b : AV) : extractA (.tup [a, b]) 0 = some a := rfl
theorem ext1' (a b : AV) : extractA (.tup [a, b]) 1 = some b := rfl
theorem pcMM {m : Mem} {d : Option Nat} {g : Nat} (x y : MV) : pcall (AP cfg) d m g [x.av, y.av] = (AP cfg g [x.fr.av, y.fr.av]).map fun v => (v, m) := pcall2 (fz_mv x) (fz_mv y)
theorem mv_frfr' (x : MV) : x.fr.fr = x.fr := by
  obtain ⟨a, b, ⟨c, d, o, es⟩⟩ := x
  cases o <;> rfl
theorem pcNI {m : Mem} {d : Option Nat} {g : Nat} (x : NV) (n : Int) : pcall (AP cfg) d m g [x.av, .int .i64 n] = (AP cfg g [x.fr.av, .int .i64 n]).map fun v => (v, m) := pcall2 (fz_nv x) (fz_int _ n)
/-- An error has no size to speak of: the bounds may be taken as small. -/
theorem Res.small {z : MV} {e err : Int} {R C k : Nat} {Q : Nat → Rat} (h : Res z e err R C Q k) (hb : err = 0 → R ≤ 60 ∧ C ≤ 60) : ∃ R' C', R' ≤ 60 ∧ C' ≤ 60 ∧ (err = 0 → R' = R ∧ C' = C) := by
  by_cases h0 : err = 0
  · exact ⟨R, C, (hb h0).1, (hb h0).2, fun _ => ⟨rfl, rfl⟩⟩
  · exact ⟨0, 0, by omega, by omega, fun h => absurd h h0⟩
end Go.Ab

/- Products of matrices, in values: sums, and the program's side. -/
set_option linter.unusedVariables false
set_option linter.unusedSimpArgs false
set_option maxRecDepth 100000
namespace Go.Ab
open Go.Proofs.Try

/-! ### Sums -/
def sumN (f : Nat → Rat) : Nat → Rat
  | 0 => 0
  | n + 1 => sumN f n + f n
theorem sumN_congr {f g : Nat → Rat} : ∀ {n : Nat}, (∀ l, l < n → f l = g l) → sumN f n = sumN g n
  | 0, _ => rfl
  | n + 1, h => by rw [sumN, sumN, sumN_congr (fun l hl => h l (by omega)), h n (by omega)]
theorem sumN_zero : ∀ n : Nat, sumN (fun _ => 0) n = 0
  | 0 => rfl
  | n + 1 => by rw [sumN, sumN_zero n, Rat.add_zero]
theorem sumN_add (f g : Nat → Rat) : ∀ n : Nat, sumN (fun l => f l + g l) n = sumN f n + sumN g n
  | 0 => by simp only [sumN, Rat.add_zero]
  | n + 1 => by
    rw [sumN, sumN_add f g n, sumN, sumN, Rat.add_assoc, Rat.add_assoc]
    congr 1
    rw [← Rat.add_assoc, ← Rat.add_assoc, Rat.add_comm (sumN g n) (f n)]
theorem sumN_mulL (c : Rat) (f : Nat → Rat) : ∀ n : Nat, sumN (fun l => c * f l) n = c * sumN f n
  | 0 => by simp only [sumN, Rat.mul_zero]
  | n + 1 => by rw [sumN, sumN_mulL c f n, sumN, Rat.mul_add]
theorem sumN_mulR (c : Rat) (f : Nat → Rat) : ∀ n : Nat, sumN (fun l => f l * c) n = sumN f n * c
  | 0 => by simp only [sumN, Rat.zero_mul]
  | n + 1 => by rw [sumN, sumN_mulR c f n, sumN, Rat.add_mul]
theorem sumN_swap (f : Nat → Nat → Rat) (m : Nat) : ∀ n : Nat, sumN (fun i => sumN (f i) m) n = sumN (fun j => sumN (fun i => f i j) n) m
  | 0 => (sumN_zero m).symm
  | n + 1 => by rw [sumN, sumN_swap f m n, ← sumN_add]; rfl
theorem sumN_one {f : Nat → Rat} {p : Nat} : ∀ {n : Nat}, (∀ l, l < n → l ≠ p → f l = 0) → sumN f n = if p < n then f p else 0
  | 0, _ => rfl
  | n + 1, h => by
    rw [sumN, sumN_one (fun l hl => h l (by omega))]
    by_cases c : p < n
    · rw [if_pos c, if_pos (by omega), h n (by omega) (by omega), Rat.add_zero]
    · rw [if_neg c, Rat.zero_add]
      by_cases c2 : p = n
      · rw [if_pos (by omega), c2]
      · rw [if_neg (by omega), h n (by omega) (fun e => c2 e.symm)]

/-! ### The product of a row and a column -/
def dotQ (x y : MV) (c d i j : Nat) (l : Nat) : Rat := sumN (fun l => qAt x (i * c + l) * qAt y (l * d + j)) l
theorem Can.num0 {x : MV} {k p : Nat} (h : LOk k x.lv) (hp : p < x.lv.es.length) (h0 : x.lv.es[p].num.ds.length = 0) : qAt x p = 0 := by
  rw [qAt_get hp, RV.q]
  have : x.lv.es[p].num.v = 0 := by
    unfold NV.v
    rw [List.length_eq_zero_iff.1 h0]; rfl
  rw [this, qOf_num0]
theorem res2' (m : Mem) : reserve m 2 = m ++ [some .resv, some .resv] := rfl
theorem newB0 (m : Mem) (a b : Option Ent) (e : Ent) : newAt (some m.length) (m ++ [a, b]) e = (m.length, m ++ [some e, b]) := by
  simp [newAt]
theorem newB1 (m : Mem) (a b : Option Ent) (e : Ent) : newAt (some (m.length + 1)) (m ++ [a, b]) e = (m.length + 1, m ++ [a, some e]) := by
  simp [newAt]
theorem getB0 (m : Mem) (a b : Option Ent) : (m ++ [a, b])[m.length]? = some a := by simp
theorem getB1 (m : Mem) (a b : Option Ent) : (m ++ [a, b])[m.length + 1]? = some b := by simp
theorem setB0 (m : Mem) (a b e : Option Ent) : (m ++ [a, b]).set m.length e = m ++ [e, b] := by simp
theorem setB1 (m : Mem) (a b e : Option Ent) : (m ++ [a, b]).set (m.length + 1) e = m ++ [a, e] := by simp
theorem zR_obj : some (Ent.obj true [(.bool false), (.lst none true .full []), (.lst none true .full [])]) = cR zR := rfl
theorem gtr0 (x : NV) : binA .other .gtr (.int .i64 x.ds.length) (.int .i64 0) = some (.bool (decide (x.ds.length > 0))) := by
  rw [binA_gtr]; congr 2; exact decide_eq_decide.2 (by omega)
theorem W104 {x y : MV} {k K i j c d r : Nat} (hx : LOk k x.lv) (hy : LOk k y.lv) (hk1 : 1 ≤ k) (hkK : 1 ≤ K) (hK : K + (k + k) < 2 ^ 36) (hxc : x.cols = c) (hyd : y.cols = d) (hi : i < r) (hj : j < d) (hr : r ≤ 60) (hc : c ≤ 60) (hd : d ≤ 60) (hlx : x.lv.es.length = r * c) (hly : y.lv.es.length = c * d)
    (hB : ∀ l, l ≤ c → Bd K (dotQ x y c d i j l)) (Kt : Ex → St → Option (AV × Mem)) : ∀ (n l : Nat) (m : Mem) (s : RV), l + n = c → m[0]? = some (cR zR) → m[1]? = some (cR s) → s.fr = s → ROk K s ∧ rightR s = true → s.q = dotQ x y c d i j l →
    ∃ m' s', m'[0]? = some (cR zR) ∧ m'[1]? = some (cR s') ∧ s'.fr = s' ∧ (ROk K s' ∧ rightR s' = true) ∧ s'.q = dotQ x y c d i j c ∧
      L104_3 (.int .i64 i) (.int .i64 j) (vM x) (vM y) (.ptr 0 0) (.ptr 1 0) (.int .i64 c) (.int .i64 l) m Kt = Kt (.exit 0) (O104_3 (.ptr 0 0) (.ptr 1 0) m') := by
  intro n
  induction n with
  | zero =>
    intro l m s hl h0 h1 h2 h3 h4
    obtain rfl : l = c := by omega
    refine ⟨m, s, h0, h1, h2, h3, h4, ?_⟩
    rw [L104_3_eq, n_lss, Option.bind_some, ifA_dec, if_neg (by omega)]
  | succ n ih =>
    intro l m s hl h0 h1 h2 h3 h4
    have hlc : l < c := by omega
    obtain ⟨a1, a2⟩ := at_cell (i := i) (c := c) (j := l) (by omega) hc (by omega)
    obtain ⟨b1, b2⟩ := at_cell (i := l) (c := d) (j := j) (by omega) hd (by omega)
    have p1 : i * c + l < x.lv.es.length := by rw [hlx]; exact cell_lt60 hi hlc
    have p2 : l * d + j < y.lv.es.length := by rw [hly]; exact cell_lt60 hlc hj
    have f1 := hx.fr _ (List.getElem_mem p1)
    have f2 := hy.fr _ (List.getElem_mem p2)
    have r1 := hx.ok _ (List.getElem_mem p1)
    have r2 := hy.ok _ (List.getElem_mem p2)
    have hm0 := idx_lt h0
    have hm1 := idx_lt h1
    have hstep : dotQ x y c d i j (l + 1) = dotQ x y c d i j l + qAt x (i * c + l) * qAt y (l * d + j) := rfl
    have g0 : ∀ e e' : Option Ent, (m ++ [e, e'])[0]? = some (cR zR) := fun e e' => by rw [List.getElem?_append_left hm0]; exact h0
    have g1 : ∀ e e' : Option Ent, (m ++ [e, e'])[1]? = some (cR s) := fun e e' => by rw [List.getElem?_append_left hm1]; exact h1
    have lv2 : loadA none (m ++ [some .resv, some .resv]) (.vptr [.int .i64 (c : Int), x.lv.av]) = some (.int .i64 (c : Int)) := rfl
    have lw2 : loadA none (m ++ [some .resv, some .resv]) (.vptr [.int .i64 (d : Int), y.lv.av]) = some (.int .i64 (d : Int)) := rfl
    have skip : qAt x (i * c + l) * qAt y (l * d + j) = 0 → ∃ m' s', m'[0]? = some (cR zR) ∧ m'[1]? = some (cR s') ∧ s'.fr = s' ∧ (ROk K s' ∧ rightR s' = true) ∧ s'.q = dotQ x y c d i j c ∧
      L104_3 (.int .i64 i) (.int .i64 j) (vM x) (vM y) (.ptr 0 0) (.ptr 1 0) (.int .i64 c) (.int .i64 (l + 1 : Nat)) (m ++ [cR x.lv.es[i * c + l], cR y.lv.es[l * d + j]]) Kt = Kt (.exit 0) (O104_3 (.ptr 0 0) (.ptr 1 0) m') := by
      intro hz
      exact ih (l + 1) (m ++ [cR x.lv.es[i * c + l], cR y.lv.es[l * d + j]]) s (by omega) (g0 _ _) (g1 _ _) h2 h3 (by rw [hstep, hz, Rat.add_zero]; exact h4)
    have pre : ∀ R : Option (AV × Mem), (ifA (.bool (decide (x.lv.es[i * c + l].num.ds.length > 0)))
        (ifA (.bool (decide (y.lv.es[l * d + j].num.ds.length > 0)))
          ((loadA (some 3) (m ++ [cR x.lv.es[i * c + l], cR y.lv.es[l * d + j]]) (.ptr 1 0)).bind fun v28 =>
            (pcall (AP cfg) (some (m ++ [cR x.lv.es[i * c + l], cR y.lv.es[l * d + j]]).length) (m ++ [cR x.lv.es[i * c + l], cR y.lv.es[l * d + j]]) 78 [x.lv.es[i * c + l].av, y.lv.es[l * d + j].av]).bind fun r31 =>
            (pcall (AP cfg) (some (m ++ [cR x.lv.es[i * c + l], cR y.lv.es[l * d + j]]).length) r31.2 75 [v28, r31.1]).bind fun r32 =>
            (storeA (some 3) r32.2 (.ptr 1 0) r32.1).bind fun m33 =>
            L104_3 (.int .i64 i) (.int .i64 j) (vM x) (vM y) (.ptr 0 0) (.ptr 1 0) (.int .i64 c) (.int .i64 (l + 1 : Nat)) m33 Kt)
          (L104_3 (.int .i64 i) (.int .i64 j) (vM x) (vM y) (.ptr 0 0) (.ptr 1 0) (.int .i64 c) (.int .i64 (l + 1 : Nat)) (m ++ [cR x.lv.es[i * c + l], cR y.lv.es[l * d + j]]) Kt))
        (L104_3 (.int .i64 i) (.int .i64 j) (vM x) (vM y) (.ptr 0 0) (.ptr 1 0) (.int .i64 c) (.int .i64 (l + 1 : Nat)) (m ++ [cR x.lv.es[i * c + l], cR y.lv.es[l * d + j]]) Kt)) = R →
        L104_3 (.int .i64 i) (.int .i64 j) (vM x) (vM y) (.ptr 0 0) (.ptr 1 0) (.int .i64 c) (.int .i64 l) m Kt = R := by
      intro R hR
      rw [L104_3_eq, n_lss, Option.bind_some, ifA_dec, if_pos hlc, vMf2, Option.bind_some, vMl2, Option.bind_some, vMf1, Option.bind_some, hxc, res2', lv2, Option.bind_some, a1, Option.bind_some, a2, Option.bind_some, index_lv hx p1, Option.bind_some, load_row, Option.bind_some,
        vMf2, Option.bind_some, vMl2, Option.bind_some, vMf1, Option.bind_some, hyd, lw2, Option.bind_some, b1, Option.bind_some, b2, Option.bind_some, index_lv hy p2, Option.bind_some, load_row, Option.bind_some,
        newB0, newB0, newB1, newB1, zR_obj, rstA (x := zR) (getB0 _ _ _), Option.bind_some, setB0, rstA (x := zR) (getB1 _ _ _), Option.bind_some, setB1]
      rw [show namesV (.vptr [y.lv.av]) (.ptr m.length 0) = true from rfl, ifB, show namesV (.vptr [.int .i64 (d : Int), y.lv.av]) (.ptr m.length 0) = true from rfl, ifB, show namesV (.vptr y.lv.es[l * d + j].av.cells) (.ptr m.length 0) = true from rfl, ifB]
      rw [fld1, Option.bind_some, rld1 (getB0 _ _ _), Option.bind_some, len_nv, Option.bind_some, gtr0, Option.bind_some, fld1, Option.bind_some, rld1 (getB1 _ _ _), Option.bind_some, len_nv, Option.bind_some, gtr0, Option.bind_some, rldA (getB0 _ _ _), rldA (getB1 _ _ _), i_add1 (by omega)]
      exact hR
    by_cases z1 : x.lv.es[i * c + l].num.ds.length > 0
    · by_cases z2 : y.lv.es[l * d + j].num.ds.length > 0
      · obtain ⟨t, t1, t2, t3⟩ := V78 r1 r2 hk1 (by omega)
        have bt : Bd (k + k) (x.lv.es[i * c + l].q * y.lv.es[l * d + j].q) := Bd_mul (r1.bd hk1) (r2.bd hk1) hk1
        obtain ⟨u, u1, u2, u3⟩ := V75 (k := K + (k + k)) (h3.1.mono (by omega)) ((t2.ok bt (by omega)).mono (by omega)) (by omega) (by omega)
        have hq : s.q + t.q = dotQ x y c d i j (l + 1) := by rw [hstep, h4, t2.q, qAt_get p1, qAt_get p2]
        rw [hq] at u2
        obtain ⟨m', s', w⟩ := ih (l + 1) ((m ++ [cR x.lv.es[i * c + l], cR y.lv.es[l * d + j]]).set 1 (cR u)) u (by omega) (by rw [List.getElem?_set_ne (by omega)]; exact g0 _ _) (by rw [List.getElem?_set_self (Nat.lt_of_lt_of_le hm1 (by simp))]) u3 ⟨u2.ok (hB (l + 1) (by omega)) (by omega), can_rightR u2⟩ u2.q
        refine ⟨m', s', w.1, w.2.1, w.2.2.1, w.2.2.2.1, w.2.2.2.2.1, pre _ ?_⟩
        rw [ifA_dec, if_pos z1, ifA_dec, if_pos z2, rldA (g1 _ _), Option.bind_some, pcRR, f1, f2, t1, Option.map_some, Option.bind_some, pcRR, h2, t3, u1, Option.map_some, Option.bind_some, rstA (g1 _ _), Option.bind_some]
        exact w.2.2.2.2.2
      · obtain ⟨m', s', w⟩ := skip (by rw [Can.num0 hy p2 (by omega), Rat.mul_zero])
        refine ⟨m', s', w.1, w.2.1, w.2.2.1, w.2.2.2.1, w.2.2.2.2.1, pre _ ?_⟩
        rw [ifA_dec, if_pos z1, ifA_dec, if_neg z2]
        exact w.2.2.2.2.2
    · obtain ⟨m', s', w⟩ := skip (by rw [Can.num0 hx p1 (by omega), Rat.zero_mul])
      refine ⟨m', s', w.1, w.2.1, w.2.2.1, w.2.2.2.1, w.2.2.2.2.1, pre _ ?_⟩
      rw [ifA_dec, if_neg z1]
      exact w.2.2.2.2.2
theorem V104 {x y : MV} {k K i j c d r : Nat} (hx : LOk k x.lv) (hy : LOk k y.lv) (hk1 : 1 ≤ k) (hkK : 1 ≤ K) (hK : K + (k + k) < 2 ^ 36) (hxc : x.cols = c) (hyd : y.cols = d) (hi : i < r) (hj : j < d) (hr : r ≤ 60) (hc : c ≤ 60) (hd : d ≤ 60) (hlx : x.lv.es.length = r * c) (hly : y.lv.es.length = c * d)
    (hB : ∀ l, l ≤ c → Bd K (dotQ x y c d i j l)) : ∃ s : RV, AP cfg 104 [.int .i64 i, .int .i64 j, vM x, vM y] = some s.av ∧ s.q = dotQ x y c d i j c ∧ ROk K s ∧ s.fr = s ∧ rightR s = true := by
  obtain ⟨m', s, q0, q1, q2, q3, q4, q5⟩ := W104 hx hy hk1 hkK hK hxc hyd hi hj hr hc hd hlx hly hB (K104_3 (finK cfg.P f104.results.toList)) c 0 [cR zR, cR zeroR] zeroR (by omega) rfl rfl rfl ⟨zeroR_ok.mono (by omega), can_rightR can_zero⟩ can_zero.q
  refine ⟨s, (AP_ofz _ _ (fz_rv s) (noV_rv _) (m := m'.set 0 (cR s)) ?_).trans (by rw [q2]), q4, q3.1, q2, q3.2⟩
  rw [T104]
  simp only [new_z', new_r, List.length_nil, List.nil_append]
  rw [pc0, V60, Option.map_some, Option.bind_some]
  simp only [new_z', new_r, List.length_cons, List.length_nil, List.cons_append, List.nil_append, Nat.zero_add, Nat.reduceAdd]
  rw [rstA (x := zR) rfl, Option.bind_some]
  simp only [List.set_cons_zero, List.set_cons_succ]
  rw [vMf1, Option.bind_some, vMl1, Option.bind_some, hxc]
  refine Eq.trans ?_ (q5.trans ?_)
  · rfl
  rw [K104_3_x0, rldA q1, Option.bind_some, rstA q0, Option.bind_some, rldA (by rw [List.getElem?_set_self (idx_lt q0)])]
  rfl
/-- The product's cell. -/
def mulQ (x y : MV) (c d p : Nat) : Rat := dotQ x y c d (p / d) (p % d) c
theorem V73 {x y : MV} {k K r c d : Nat} (hx : IsM k x) (hy : IsM k y) (hk1 : 1 ≤ k) (hkK : 1 ≤ K) (hK : K + (k + k) < 2 ^ 36) (hxr : x.rows = r) (hxc : x.cols = c) (hyd : y.cols = d) (hr : r ≤ 60) (hc : c ≤ 60) (hd : d ≤ 60) (hlx : x.lv.es.length = r * c) (hly : y.lv.es.length = c * d)
    (hB : ∀ i j l, i < r → j < d → l ≤ c → Bd K (dotQ x y c d i j l)) : ∃ z : MV, AP cfg 73 [x.av, y.av] = some z.av ∧ Res z 0 0 r d (mulQ x y c d) K ∧ ∀ t ∈ z.lv.es, rightR t = true := by
  obtain ⟨z, f1, f2, f3, f4, f5, f6, f7, f8⟩ := fillP (P := fun s => rightR s = true) (g := 104) (cs := [vM x, vM y]) (rows := r) (cols := d) (k := K) (Q := fun i j => dotQ x y c d i j c) rfl (csz2 (frz_vM hx.fr) (frz_vM hy.fr)) hr hd
    (fun i j hi hj => V104 hx.ok hy.ok hk1 hkK hK hxc hyd hi hj hr hc hd hlx hly (fun l hl => hB i j l hi hj hl))
  refine ⟨z, (AP_ofz _ _ (fz_mv z) (noV_mv _) (m := [cM x, cM y, cM z]) ?_).trans (by rw [f7]), ⟨f7, f6, rfl, fun h => absurd rfl h, fun _ => f2, fun _ => f3, fun _ => f4, fun _ p hp => f5 p hp⟩, f8⟩
  rw [T73, box_mv, Option.bind_some, box_mv, Option.bind_some]
  simp only [new_m, new_r, List.length_nil, List.nil_append, List.length_cons, List.cons_append, Nat.zero_add, Nat.reduceAdd]
  rw [fld0, Option.bind_some, mld0 (x := x) rfl, Option.bind_some, fld1, Option.bind_some, mld1 (x := y) rfl, Option.bind_some, hxr, hyd, pcFill2 _ _ _ _ (frz_ptrM (x := x) rfl) (frz_ptrM (x := y) rfl), hx.fr, hy.fr, f1, Option.map_some, Option.bind_some, mstA (x := zM) rfl, Option.bind_some]
  simp only [List.set_cons_zero, List.set_cons_succ]
  rw [mldA (x := z) rfl]
  rfl
end Go.Ab

/- Products of matrices, in values: the reference's side. -/
set_option linter.unusedVariables false
set_option linter.unusedSimpArgs false
set_option maxRecDepth 100000
namespace Go.Ab
open Go.Proofs.Try

theorem Wr.congr {es : List RV} {L k : Nat} {Q Q' : Nat → Rat} (h : Wr es L k Q (fun _ => True)) (hq : ∀ p, p < L → Q' p = Q p) : Wr es L k Q' (fun _ => True) := ⟨h.len, h.fr, h.ok, fun p hp _ => by rw [h.q p hp trivial, hq p hp]⟩
theorem Wr.get {es : List RV} {L k : Nat} {Q : Nat → Rat} (h : Wr es L k Q (fun _ => True)) {p : Nat} (hp : p < es.length) : es[p].q = Q p := by
  have := h.q p (by rw [← h.len]; exact hp) trivial
  rw [List.getD_eq_getElem?_getD, List.getElem?_map, List.getElem?_eq_getElem hp] at this
  exact this
theorem row_col {i j d : Nat} (hj : j < d) : (i * d + j) / d = i ∧ (i * d + j) % d = j := by
  obtain ⟨a, b⟩ := tr_cell (r := d) (i := j) (j := i) hj
  exact ⟨b, a⟩

section
variable {x y : MV} {k K r c d : Nat}
end

/-! ### Mul -/
def mulE (x y : MV) : Int := if rightM x = true ∧ rightM y = true then if x.cols = y.rows then 0 else 30 else 1
/-- A bound for the sums of products. -/
theorem dot_bd {x y : MV} {k c d i j : Nat} (hx : LOk k x.lv) (hy : LOk k y.lv) (hk1 : 1 ≤ k) : ∀ l : Nat, Bd (1 + l * (k + k + 1)) (dotQ x y c d i j l)
  | 0 => Bd_zero (by omega)
  | l + 1 => by
    have h := Bd_add (dot_bd (c := c) (d := d) (i := i) (j := j) hx hy hk1 l) (Bd_mul (qAt_bd (p := i * c + l) hx hk1) (qAt_bd (p := l * d + j) hy hk1) hk1) (by omega)
    have e : 1 + (l + 1) * (k + k + 1) = 1 + l * (k + k + 1) + (k + k) + 1 := by rw [Nat.succ_mul]; omega
    rw [e]
    exact h
theorem right_len {x : MV} (h : rightM x = true) : ∃ r c : Nat, x.rows = r ∧ x.cols = c ∧ r ≤ 60 ∧ c ≤ 60 ∧ x.lv.es.length = r * c := by
  obtain ⟨z1, z2, z3, z4, z5⟩ := size_of_right h
  obtain ⟨r, hr⟩ := Int.eq_ofNat_of_zero_le z1
  obtain ⟨c, hc⟩ := Int.eq_ofNat_of_zero_le z3
  refine ⟨r, c, hr, hc, by omega, by omega, ?_⟩
  rw [hr, hc, ← Int.natCast_mul] at z5
  exact Int.ofNat_inj.1 z5
theorem right_of {z : MV} {r c : Nat} (h1 : z.rows = r) (h2 : z.cols = c) (h3 : r ≤ 60) (h4 : c ≤ 60) (h5 : z.lv.es.length = r * c) (h6 : ∀ t ∈ z.lv.es, rightR t = true) : rightM z = true := by
  unfold rightM sizeB
  rw [Bool.and_eq_true]
  refine ⟨decide_eq_true ⟨by omega, by omega, by omega, by omega, ?_⟩, List.all_eq_true.2 h6⟩
  rw [h1, h2, h5, Int.natCast_mul]
theorem V41g {x y : MV} {k K : Nat} (hx : IsM k x) (hy : IsM k y) (hk1 : 1 ≤ k) (hkK : 1 ≤ K) (hK : K + (k + k) < 2 ^ 36) (hB : mulE x y = 0 → ∀ i j l, i < x.rows.toNat → j < y.cols.toNat → l ≤ x.cols.toNat → Bd K (dotQ x y x.cols.toNat y.cols.toNat i j l)) :
    ∃ z e, AP cfg 41 [x.av, y.av] = some (.tup [z.av, .int .i64 e]) ∧ Res z e (mulE x y) x.rows.toNat y.cols.toNat (mulQ x y x.cols.toNat y.cols.toNat) K ∧ (mulE x y = 0 → rightM z = true) := by
  have e20 := V20 hx.ok (by omega) (by have := hx.len; omega)
  have e20' := V20 hy.ok (by omega) (by have := hy.len; omega)
  have gx : ∀ e : Mem, (cM x :: e)[0]? = some (cM x) := fun _ => rfl
  have gy : ∀ e : Mem, (cM x :: cM y :: e)[1]? = some (cM y) := fun _ => rfl
  have start : AC cfg 41 [x.av, y.av] [] = AC cfg 41 [x.av, y.av] [] := rfl
  conv at start => rhs; rw [T41, box_mv, Option.bind_some, box_mv, Option.bind_some]
  simp only [new_m, new_r, List.length_nil, List.nil_append, List.length_cons, List.cons_append, Nat.zero_add, Nat.reduceAdd] at start
  rw [mldA (gx _), Option.bind_some, pcM, hx.fr, e20, Option.map_some, Option.bind_some, not_b, Option.bind_some] at start
  revert hB
  unfold mulE
  intro hB
  cases hbx : rightM x with
  | false =>
    rw [hbx, Bool.not_false, ifA_true, bldM, Option.bind_some, mstA (x := zM) rfl, Option.bind_some] at start
    simp only [List.set_cons_zero, List.set_cons_succ] at start
    rw [mldA (x := zM) rfl, Option.bind_some] at start
    rw [if_neg (fun h => by cases h.1)]
    exact ⟨zM, 1, retM2 start rfl, Res.bad' (by decide), fun h => absurd h (by decide)⟩
  | true =>
    rw [hbx, Bool.not_true, ifA_false, mldA (gy _), Option.bind_some, pcM, hy.fr, e20', Option.map_some, Option.bind_some, not_b, Option.bind_some] at start
    cases hby : rightM y with
    | false =>
      rw [hby, Bool.not_false, ifA_true, bldM, Option.bind_some, mstA (x := zM) rfl, Option.bind_some] at start
      simp only [List.set_cons_zero, List.set_cons_succ] at start
      rw [mldA (x := zM) rfl, Option.bind_some] at start
      rw [if_neg (fun h => by cases h.2)]
      exact ⟨zM, 1, retM2 start rfl, Res.bad' (by decide), fun h => absurd h (by decide)⟩
    | true =>
      rw [hby, Bool.not_true, ifA_false, fld1, Option.bind_some, mld1 (gx _), Option.bind_some, fld0, Option.bind_some, mld0 (gy _), Option.bind_some, binA_neq, Option.bind_some, ifA_dec] at start
      rw [if_pos ⟨rfl, rfl⟩]
      by_cases c1 : x.cols = y.rows
      · obtain ⟨r, c, hr, hc, r6, c6, hlx⟩ := right_len hbx
        obtain ⟨c', d, hc', hd, _, d6, hly⟩ := right_len hby
        obtain rfl : c = c' := by rw [c1, hc'] at hc; omega
        have hB := hB (by rw [hbx, hby, if_pos ⟨rfl, rfl⟩, if_pos c1])
        rw [hr, hc, hd] at hB
        obtain ⟨z, f1, f2, f3⟩ := V73 hx hy hk1 hkK hK hr hc hd r6 c6 d6 hlx hly hB
        rw [if_neg (fun h => h c1), mldA (gx _), Option.bind_some, mldA (gy _), Option.bind_some, pcall2 (fz_mv x) (fz_mv y), hx.fr, hy.fr, f1, Option.map_some, Option.bind_some, mstA (x := zM) rfl, Option.bind_some] at start
        simp only [List.set_cons_zero, List.set_cons_succ] at start
        rw [mldA (x := z) rfl, Option.bind_some] at start
        rw [if_pos c1, hr, hc, hd]
        exact ⟨z, 0, retM2 start f2.fr, f2, fun _ => right_of (f2.rows rfl) (f2.cols rfl) r6 d6 (f2.len rfl) f3⟩
      · rw [if_pos c1, bldM, Option.bind_some, mstA (x := zM) rfl, Option.bind_some] at start
        simp only [List.set_cons_zero, List.set_cons_succ] at start
        rw [mldA (x := zM) rfl, Option.bind_some] at start
        rw [if_neg c1]
        exact ⟨zM, 30, retM2 start rfl, Res.bad' (by decide), fun h => absurd h (by decide)⟩
end Go.Ab

/- Powers of matrices: plain sums, and how great their fractions can be. -/
set_option linter.unusedVariables false
set_option linter.unusedSimpArgs false
set_option maxRecDepth 100000
namespace Go.Ab
open Go.Proofs.Try

/-! ### Matrices as functions -/
abbrev MF := Nat → Nat → Rat
def mulF (n : Nat) (A B : MF) : MF := fun i j => sumN (fun l => A i l * B l j) n
def idF : MF := fun i j => if i = j then 1 else 0
def powF (n : Nat) (A : MF) : Nat → MF
  | 0 => idF
  | e + 1 => mulF n (powF n A e) A
theorem mulF_assoc (n : Nat) (A B C : MF) (i j : Nat) : mulF n A (mulF n B C) i j = mulF n (mulF n A B) C i j := by
  unfold mulF
  have h1 : ∀ l, l < n → A i l * sumN (fun m => B l m * C m j) n = sumN (fun m => A i l * (B l m * C m j)) n := fun l _ => (sumN_mulL _ _ n).symm
  have h2 : ∀ m, m < n → sumN (fun l => A i l * B l m) n * C m j = sumN (fun l => A i l * B l m * C m j) n := fun m _ => (sumN_mulR _ _ n).symm
  rw [sumN_congr h1, sumN_congr h2, sumN_swap]
  refine sumN_congr fun m _ => sumN_congr fun l _ => ?_
  rw [Rat.mul_assoc]
theorem mulF_id (n : Nat) (A : MF) {i j : Nat} (hj : j < n) : mulF n A idF i j = A i j := by
  unfold mulF
  rw [sumN_one (p := j) (fun l _ hl => by unfold idF; rw [if_neg hl, Rat.mul_zero]), if_pos hj]
  unfold idF
  rw [if_pos rfl, Rat.mul_one]
theorem id_mulF (n : Nat) (A : MF) {i j : Nat} (hi : i < n) : mulF n idF A i j = A i j := by
  unfold mulF
  rw [sumN_one (p := i) (fun l _ hl => by unfold idF; rw [if_neg (fun e => hl e.symm), Rat.zero_mul]), if_pos hi]
  unfold idF
  rw [if_pos rfl, Rat.one_mul]
theorem mulF_congr {n : Nat} {A A' B B' : MF} (hA : ∀ i j, i < n → j < n → A i j = A' i j) (hB : ∀ i j, i < n → j < n → B i j = B' i j) {i j : Nat} (hi : i < n) (hj : j < n) : mulF n A B i j = mulF n A' B' i j := by
  unfold mulF
  exact sumN_congr fun l hl => by rw [hA i l hi hl, hB l j hl hj]
theorem pow_add (n : Nat) (A : MF) (a : Nat) : ∀ (b : Nat) {i j : Nat}, i < n → j < n → mulF n (powF n A a) (powF n A b) i j = powF n A (a + b) i j
  | 0, i, j, hi, hj => by
    rw [Nat.add_zero, powF, mulF_id n _ hj]
  | b + 1, i, j, hi, hj => by
    show mulF n (powF n A a) (mulF n (powF n A b) A) i j = mulF n (powF n A (a + b)) A i j
    rw [mulF_assoc]
    exact mulF_congr (fun i j hi hj => pow_add n A a b hi hj) (fun _ _ _ _ => rfl) hi hj
theorem pow_one (n : Nat) (A : MF) {i j : Nat} (hi : i < n) : powF n A 1 i j = A i j := id_mulF n A hi

/-! ### Fractions over one denominator -/
def Ud (D M : Nat) (q : Rat) : Prop := ∃ z : Int, z.natAbs ≤ M ∧ q = mkRat z D
theorem Ud.mono {D M M' : Nat} {q : Rat} (h : Ud D M q) (hM : M ≤ M') : Ud D M' q := by
  obtain ⟨z, h1, h2⟩ := h
  exact ⟨z, Nat.le_trans h1 hM, h2⟩
theorem Ud.zero (D M : Nat) : Ud D M 0 := ⟨0, Nat.zero_le _, (Rat.zero_mkRat D).symm⟩
theorem Ud.add {D M M' : Nat} {p q : Rat} (hD : D ≠ 0) (hp : Ud D M p) (hq : Ud D M' q) : Ud D (M + M') (p + q) := by
  obtain ⟨z, h1, rfl⟩ := hp
  obtain ⟨w, h3, rfl⟩ := hq
  refine ⟨z + w, by omega, ?_⟩
  rw [Rat.mkRat_add_mkRat _ _ hD hD, ← Int.add_mul, Rat.mkRat_mul_right hD]
theorem Ud.mul {D D' M M' : Nat} {p q : Rat} (hp : Ud D M p) (hq : Ud D' M' q) : Ud (D * D') (M * M') (p * q) := by
  obtain ⟨z, h1, rfl⟩ := hp
  obtain ⟨w, h3, rfl⟩ := hq
  refine ⟨z * w, by rw [Int.natAbs_mul]; exact Nat.mul_le_mul h1 h3, ?_⟩
  rw [Rat.mkRat_mul_mkRat]
theorem Ud.sum {D M : Nat} {f : Nat → Rat} (hD : D ≠ 0) : ∀ {n : Nat}, (∀ l, l < n → Ud D M (f l)) → Ud D (n * M) (sumN f n)
  | 0, _ => Ud.zero _ _
  | n + 1, h => by
    rw [sumN, Nat.succ_mul]
    exact (Ud.sum hD (fun l hl => h l (by omega))).add hD (h n (by omega))
theorem Ud.bd {D M k : Nat} {q : Rat} (h : Ud D M q) (hk : 1 ≤ k) (h1 : (digs D).length ≤ k) (h2 : (digs M).length ≤ k) : Bd k q := by
  obtain ⟨z, h3, rfl⟩ := h
  have e : mkRat z D = qOf (decide (z < 0)) z.natAbs D := by
    unfold qOf
    congr 1
    rw [sgn_nat]
    by_cases hz : z < 0
    · rw [decide_eq_true hz, if_pos rfl]; omega
    · rw [decide_eq_false hz, if_neg (by decide)]; omega
  rw [e]
  exact Bd_qOf (Nat.le_trans (digs_mono h3) h2) h1 hk
theorem pow_ud {n D M : Nat} {A : MF} (hD : D ≠ 0) (hA : ∀ i j, i < n → j < n → Ud D M (A i j)) : ∀ (e : Nat) {i j : Nat}, i < n → j < n → Ud (D ^ e) ((n * M) ^ e) (powF n A e i j)
  | 0, i, j, hi, hj => by
    rw [Nat.pow_zero, Nat.pow_zero]
    show Ud 1 1 (if i = j then 1 else 0)
    by_cases h : i = j
    · rw [if_pos h]; exact ⟨1, Nat.le_refl _, rfl⟩
    · rw [if_neg h]; exact Ud.zero _ _
  | e + 1, i, j, hi, hj => by
    have h := Ud.sum (f := fun l => powF n A e i l * A l j) (M := (n * M) ^ e * M) (Nat.mul_ne_zero (Nat.ne_of_gt (Nat.pow_pos (Nat.pos_of_ne_zero hD))) hD) (n := n) (fun l hl => (pow_ud hD hA e hi hl).mul (hA l j hl hj))
    rw [Nat.pow_succ, Nat.pow_succ, show (n * M) ^ e * (n * M) = n * ((n * M) ^ e * M) by rw [Nat.mul_comm n M, ← Nat.mul_assoc, Nat.mul_comm]]
    exact h
/-- All that a power needs: the sums on the way are short. -/
def PowB (K n : Nat) (A : MF) (N : Nat) : Prop := ∀ a b i j l, a + b ≤ N → i < n → j < n → l ≤ n → Bd K (sumN (fun l => powF n A a i l * powF n A b l j) l)
theorem pow_bd {n D M K N : Nat} {A : MF} (hD : D ≠ 0) (hn : 1 ≤ n) (hM : 1 ≤ M) (hA : ∀ i j, i < n → j < n → Ud D M (A i j)) (hk : 1 ≤ K) (h1 : (digs (D ^ N)).length ≤ K) (h2 : (digs (n * (n * M) ^ N)).length ≤ K) : PowB K n A N := by
  intro a b i j l hab hi hj hl
  have hp : 0 < D ^ a * D ^ b := Nat.mul_pos (Nat.pow_pos (Nat.pos_of_ne_zero hD)) (Nat.pow_pos (Nat.pos_of_ne_zero hD))
  have h := Ud.sum (f := fun l => powF n A a i l * powF n A b l j) (M := (n * M) ^ a * (n * M) ^ b) (Nat.ne_of_gt hp) (n := l) (fun l' hl' => (pow_ud hD hA a hi (by omega)).mul (pow_ud hD hA b (by omega) hj))
  refine h.bd hk ?_ ?_
  · rw [← Nat.pow_add]
    exact Nat.le_trans (digs_mono (Nat.pow_le_pow_right (Nat.pos_of_ne_zero hD) hab)) h1
  · rw [← Nat.pow_add]
    exact Nat.le_trans (digs_mono (Nat.mul_le_mul hl (Nat.pow_le_pow_right (Nat.mul_pos hn hM) hab))) h2
theorem PowB.mono {K n N N' : Nat} {A : MF} (h : PowB K n A N) (hN : N' ≤ N) : PowB K n A N' := fun a b i j l hab => h a b i j l (by omega)
theorem PowB.one {K n N : Nat} {A : MF} (h : PowB K n A N) {e i j : Nat} (he : e ≤ N) (hi : i < n) (hj : j < n) : Bd K (powF n A e i j) := by
  have := h e 0 i j n (by omega) hi hj (Nat.le_refl _)
  have e2 : sumN (fun l => powF n A e i l * powF n A 0 l j) n = powF n A e i j := mulF_id n (powF n A e) hj
  rw [e2] at this
  exact this
end Go.Ab

/- Powers of matrices, in values. -/
set_option linter.unusedVariables false
set_option linter.unusedSimpArgs false
set_option maxRecDepth 100000
namespace Go.Ab
open Go.Proofs.Try

theorem i_and1 {n : Nat} (h : n ≤ 200) : binA .other .and (.int .i64 n) (.int .i64 1) = some (.int .i64 (n % 2 : Nat)) := by
  have e : binA .other .and (.int .i64 n) (.int .i64 1) = some (.int .i64 (IntKind.wrap .i64 ((BitVec.ofInt 64 n &&& BitVec.ofInt 64 1).toNat : Nat))) := rfl
  have e2 : (BitVec.ofInt 64 (n : Int) &&& BitVec.ofInt 64 1).toNat = n % 2 := by
    rw [BitVec.toNat_and, BitVec.toNat_ofInt, BitVec.toNat_ofInt]
    have h1 : (((n : Nat) : Int) % ((2 ^ 64 : Nat) : Int)).toNat = n := by omega
    have h2 : ((1 : Int) % ((2 ^ 64 : Nat) : Int)).toNat = 1 := by omega
    rw [h1, h2, Nat.and_one_is_mod]
  rw [e, e2, wrap_i64 (by omega) (by omega)]
theorem i_shr1 {n : Nat} : binA .other .shr (.int .i64 n) (.int .u64 1) = some (.int .i64 (n / 2 : Nat)) := by
  rw [binA_shr _ _ _ _ _ (by omega)]
  have e : ((n : Nat) : Int).fdiv (2 ^ (min (Int.toNat 1) IntKind.i64.bits)) = ((n / 2 : Nat) : Int) := by
    show ((n : Nat) : Int).fdiv 2 = _
    rw [Int.fdiv_eq_ediv_of_nonneg _ (by decide)]
    omega
  rw [e]
theorem i_gtr {a b : Nat} : binA .other .gtr (.int .i64 a) (.int .i64 b) = some (.bool (decide (a > b))) := by
  rw [binA_gtr]; congr 2; exact decide_eq_decide.2 (by omega)
theorem i_gtr0 {a : Nat} : binA .other .gtr (.int .i64 a) (.int .i64 0) = some (.bool (decide (a > 0))) := i_gtr (b := 0)
theorem i_gtr1 {a : Nat} : binA .other .gtr (.int .i64 a) (.int .i64 1) = some (.bool (decide (a > 1))) := i_gtr (b := 1)

def ent (x : MV) (n : Nat) : MF := fun i j => qAt x (i * n + j)
/-- The matrix is a power. -/
structure PM (K n : Nat) (A : MF) (e : Nat) (z : MV) : Prop where
  fr : z.fr = z
  ok : LOk K z.lv
  rows : z.rows = n
  cols : z.cols = n
  len : z.lv.es.length = n * n
  q : ∀ i j, i < n → j < n → ent z n i j = powF n A e i j
theorem PM.isM {K n e : Nat} {A : MF} {z : MV} (h : PM K n A e z) (hn : n ≤ 60) : IsM K z := ⟨h.ok, h.fr, by rw [h.len]; have := Nat.mul_le_mul hn hn; omega⟩
theorem dot_ent (x y : MV) (n i j l : Nat) : dotQ x y n n i j l = sumN (fun l => ent x n i l * ent y n l j) l := rfl
theorem PM.dot_bd {K n a b N : Nat} {A : MF} {x y : MV} (hx : PM K n A a x) (hy : PM K n A b y) (hP : PowB K n A N) (hab : a + b ≤ N) : ∀ i j l, i < n → j < n → l ≤ n → Bd K (dotQ x y n n i j l) := by
  intro i j l hi hj hl
  rw [dot_ent, sumN_congr (fun l' hl' => by rw [hx.q i l' hi (by omega), hy.q l' j (by omega) hj])]
  exact hP a b i j l hab hi hj hl
theorem PM.res {K n a b : Nat} {A : MF} {x y z : MV} (hx : PM K n A a x) (hy : PM K n A b y) (h : Res z 0 0 n n (mulQ x y n n) K) : PM K n A (a + b) z where
  fr := h.fr
  ok := h.ok
  rows := h.rows rfl
  cols := h.cols rfl
  len := h.len rfl
  q i j hi hj := by
    obtain ⟨e1, e2⟩ := row_col (i := i) hj
    show qAt z (i * n + j) = _
    rw [h.q rfl _ (cell_lt60 hi hj), mulQ, e1, e2, dot_ent, sumN_congr (fun l' hl' => by rw [hx.q i l' hi hl', hy.q l' j hl' hj])]
    exact pow_add n A a b hi hj
/-- .. and valid. -/
def PR (K n : Nat) (A : MF) (e : Nat) (z : MV) : Prop := PM K n A e z ∧ ∀ t ∈ z.lv.es, rightR t = true
theorem PR.mul73 {K n a b N : Nat} {A : MF} {x y : MV} (hx : PR K n A a x) (hy : PR K n A b y) (hP : PowB K n A N) (hab : a + b ≤ N) (hn : n ≤ 60) (hK1 : 1 ≤ K) (hK : K < 2 ^ 34) : ∃ z, AP cfg 73 [x.av, y.av] = some z.av ∧ PR K n A (a + b) z := by
  obtain ⟨z, z1, z2, z3⟩ := V73 (K := K) (hx.1.isM hn) (hy.1.isM hn) hK1 hK1 (by omega) hx.1.rows hx.1.cols hy.1.cols hn hn hn hx.1.len hy.1.len (hx.1.dot_bd hy.1 hP hab)
  exact ⟨z, z1, hx.1.res hy.1 z2, z3⟩
theorem W30 {x0 : MV} {K n N : Nat} {A : MF} (hP : PowB K n A N) (hN : N ≤ 200) (hn : n ≤ 60) (hK1 : 1 ≤ K) (hK : K < 2 ^ 34) (Kt : Ex → St → Option (AV × Mem)) : ∀ (f r a b : Nat) (out sq : MV), r ≤ f → PR K n A a out → PR K n A b sq → a + b * r ≤ N → r ≤ N →
    ∃ out' sq', PR K n A (a + b * r) out' ∧ L30_10 (.int .i64 r) (.ptr 1 0) (.ptr 2 0) (.ptr 3 0) [cM x0, cM zM, cM out, cM sq] Kt = Kt (.exit 1) (O30_10 (.ptr 1 0) (.ptr 2 0) [cM x0, cM zM, cM out', cM sq']) := by
  intro f
  induction f with
  | zero =>
    intro r a b out sq hr ho hs hab hrN
    obtain rfl : r = 0 := by omega
    refine ⟨out, sq, ho, ?_⟩
    rw [L30_10_eq, i_gtr0, Option.bind_some, ifA_dec, if_neg (by omega)]
  | succ f ih =>
    intro r a b out sq hr ho hs hab hrN
    by_cases h0 : r > 0
    · have hmod : r % 2 < 2 := Nat.mod_lt _ (by omega)
      have hdm := Nat.div_add_mod r 2
      by_cases ho1 : r % 2 = 1
      · have hb : b ≤ b * r := Nat.le_mul_of_pos_right _ h0
        obtain ⟨o, o1, o2⟩ := ho.mul73 hs hP (by omega) hn hK1 hK
        by_cases hr1 : r > 1
        · have hb2 : b * 2 ≤ b * r := Nat.mul_le_mul_left _ hr1
          obtain ⟨s, s1, s2⟩ := hs.mul73 hs hP (by omega) hn hK1 hK
          have he : a + b + (b + b) * (r / 2) = a + b * r := by
            have : b * r = b * (2 * (r / 2) + 1) := by rw [← ho1, hdm]
            rw [this, Nat.mul_add, Nat.mul_one, Nat.add_mul, ← Nat.mul_assoc, Nat.mul_comm b 2, Nat.mul_assoc, Nat.two_mul]
            omega
          obtain ⟨out', sq', w1, w2⟩ := ih (r / 2) (a + b) (b + b) o s (by omega) o2 s2 (by omega) (by omega)
          rw [he] at w1
          refine ⟨out', sq', w1, ?_⟩
          rw [L30_10_eq, i_gtr0, Option.bind_some, ifA_dec, if_pos h0, i_and1 (by omega), Option.bind_some, n_eql1, Option.bind_some, ifA_dec, if_pos ho1, mldA (x := out) rfl, Option.bind_some, mldA (x := sq) rfl, Option.bind_some, pcall2 (fz_mv out) (fz_mv sq), ho.1.fr, hs.1.fr, o1, Option.map_some, Option.bind_some, mstA (x := out) rfl, Option.bind_some]
          simp only [List.set_cons_zero, List.set_cons_succ]
          rw [i_gtr1, Option.bind_some, ifA_dec, if_pos hr1, mldA (x := sq) rfl, Option.bind_some, Option.bind_some, pcall2 (fz_mv sq) (fz_mv sq), hs.1.fr, s1, Option.map_some, Option.bind_some, mstA (x := sq) rfl, Option.bind_some]
          simp only [List.set_cons_zero, List.set_cons_succ]
          rw [i_shr1, Option.bind_some]
          exact w2
        · obtain rfl : r = 1 := by omega
          obtain ⟨out', sq', w1, w2⟩ := ih 0 (a + b) b o sq (by omega) o2 hs (by omega) (by omega)
          refine ⟨out', sq', by rw [Nat.mul_one]; exact w1, ?_⟩
          rw [L30_10_eq, i_gtr0, Option.bind_some, ifA_dec, if_pos h0, i_and1 (by omega), Option.bind_some, n_eql1, Option.bind_some, ifA_dec, if_pos ho1, mldA (x := out) rfl, Option.bind_some, mldA (x := sq) rfl, Option.bind_some, pcall2 (fz_mv out) (fz_mv sq), ho.1.fr, hs.1.fr, o1, Option.map_some, Option.bind_some, mstA (x := out) rfl, Option.bind_some]
          simp only [List.set_cons_zero, List.set_cons_succ]
          rw [i_gtr1, Option.bind_some, ifA_dec, if_neg hr1, i_shr1, Option.bind_some]
          exact w2
      · have hr1 : r > 1 := by omega
        have hb2 : b * 2 ≤ b * r := Nat.mul_le_mul_left _ hr1
        obtain ⟨s, s1, s2⟩ := hs.mul73 hs hP (by omega) hn hK1 hK
        have he : a + (b + b) * (r / 2) = a + b * r := by
          have : b * r = b * (2 * (r / 2)) := by rw [show 2 * (r / 2) = r by omega]
          rw [this, Nat.add_mul, ← Nat.mul_assoc, Nat.mul_comm b 2, Nat.mul_assoc, Nat.two_mul]
        obtain ⟨out', sq', w1, w2⟩ := ih (r / 2) a (b + b) out s (by omega) ho s2 (by omega) (by omega)
        rw [he] at w1
        refine ⟨out', sq', w1, ?_⟩
        rw [L30_10_eq, i_gtr0, Option.bind_some, ifA_dec, if_pos h0, i_and1 (by omega), Option.bind_some, n_eql1, Option.bind_some, ifA_dec, if_neg ho1, i_gtr1, Option.bind_some, ifA_dec, if_pos hr1, mldA (x := sq) rfl, Option.bind_some, Option.bind_some, pcall2 (fz_mv sq) (fz_mv sq), hs.1.fr, s1, Option.map_some, Option.bind_some, mstA (x := sq) rfl, Option.bind_some]
        simp only [List.set_cons_zero, List.set_cons_succ]
        rw [i_shr1, Option.bind_some]
        exact w2
    · obtain rfl : r = 0 := by omega
      refine ⟨out, sq, ho, ?_⟩
      rw [L30_10_eq, i_gtr0, Option.bind_some, ifA_dec, if_neg (by omega)]
end Go.Ab

/- Power, in values: both sides. -/
set_option linter.unusedVariables false
set_option linter.unusedSimpArgs false
set_option maxRecDepth 100000
namespace Go.Ab
open Go.Proofs.Try

def powE (x : MV) (n : Int) : Int := if rightM x = true then if x.rows = x.cols then if n < 0 then 1 else if n > 200 then 2 else 0 else 30 else 1
def powQ (x : MV) (s N p : Nat) : Rat := powF s (ent x s) N (p / s) (p % s)
theorem PM.toRes {K n N : Nat} {x z : MV} (h : PM K n (ent x n) N z) : Res z 0 0 n n (powQ x n N) K :=
  ⟨h.fr, h.ok, rfl, fun h => absurd rfl h, fun _ => h.rows, fun _ => h.cols, fun _ => h.len, fun _ p hp => by
    have h0 : 0 < n := by
      rcases Nat.eq_zero_or_pos n with h0 | h0
      · rw [h0, Nat.mul_zero] at hp; omega
      · exact h0
    have h1 : p / n < n := Nat.div_lt_of_lt_mul hp
    have h2 : p % n < n := Nat.mod_lt _ h0
    have := h.q (p / n) (p % n) h1 h2
    unfold ent at this
    rw [div_mod_mul] at this
    exact this⟩
theorem PM.copy {K n : Nat} {x y : MV} (hx : IsM K x) (hr : x.rows = n) (hc : x.cols = n) (hl : x.lv.es.length = n * n) (h1 : y.rows = x.rows) (h2 : y.cols = x.cols) (h3 : y.lv.es = x.lv.es.map copyR) (h4 : LOk K y.lv) (h5 : y.fr = y) : PM K n (ent x n) 1 y :=
  ⟨h5, h4, h1.trans hr, h2.trans hc, by rw [h3, List.length_map, hl], fun i j hi hj => by
    rw [pow_one n _ hi]
    unfold ent qAt
    rw [h3, map_copyR]⟩
theorem ent_unit {n : Nat} {y : MV} (h : y.lv.es = cellsF unitR n n) {i j : Nat} (hi : i < n) (hj : j < n) : ent y n i j = idF i j := by
  obtain ⟨e1, e2⟩ := row_col (i := i) hj
  unfold ent qAt
  rw [List.getD_eq_getElem?_getD, List.getElem?_map, h, cellsF_get _ _ _ _ (cell_lt60 hi hj), e1, e2]
  show (unitR i j).q = _
  unfold unitR idF
  by_cases c : i = j
  · rw [if_pos c, if_pos c, can_one.q]
  · rw [if_neg c, if_neg c, can_zero.q]
theorem right_cells {x : MV} (h : rightM x = true) : ∀ u ∈ x.lv.es, rightR u = true := by
  unfold rightM at h
  rw [Bool.and_eq_true] at h
  exact List.all_eq_true.1 h.2
theorem V30 {x : MV} {k K : Nat} {n : Int} (hx : IsM k x) (hk1 : 1 ≤ k) (hkK : k ≤ K) (hK : K < 2 ^ 34) (hP : powE x n = 0 → PowB K x.rows.toNat (ent x x.rows.toNat) n.toNat) :
    ∃ z e, AP cfg 30 [x.av, .int .i64 n] = some (.tup [z.av, .int .i64 e]) ∧ Res z e (powE x n) x.rows.toNat x.rows.toNat (powQ x x.rows.toNat n.toNat) K ∧ (powE x n = 0 → rightM z = true) := by
  have e20 := V20 hx.ok (by omega) (by have := hx.len; omega)
  have gx : ∀ e : Mem, (cM x :: e)[0]? = some (cM x) := fun _ => rfl
  have start : AC cfg 30 [x.av, .int .i64 n] [] = AC cfg 30 [x.av, .int .i64 n] [] := rfl
  conv at start => rhs; rw [T30, box_mv, Option.bind_some]
  simp only [new_m, new_r, List.length_nil, List.nil_append, List.length_cons, List.cons_append, Nat.zero_add, Nat.reduceAdd] at start
  rw [mldA (gx _), Option.bind_some, pcM, hx.fr, e20, Option.map_some, Option.bind_some, not_b, Option.bind_some] at start
  revert hP
  unfold powE
  intro hP
  cases hbx : rightM x with
  | false =>
    rw [hbx, Bool.not_false, ifA_true, bldM, Option.bind_some, mstA (x := zM) rfl, Option.bind_some] at start
    simp only [List.set_cons_zero, List.set_cons_succ] at start
    rw [mldA (x := zM) rfl, Option.bind_some] at start
    rw [if_neg (by decide)]
    exact ⟨zM, 1, retM2 start rfl, Res.bad' (by decide), fun h => absurd h (by decide)⟩
  | true =>
    rw [hbx, if_pos rfl] at hP
    rw [hbx, Bool.not_true, ifA_false, fld0, Option.bind_some, mld0 (gx _), Option.bind_some, fld1, Option.bind_some, mld1 (gx _), Option.bind_some, binA_neq, Option.bind_some, ifA_dec] at start
    rw [if_pos rfl]
    by_cases c1 : x.rows = x.cols
    · rw [if_neg (fun h => h c1), binA_lss, Option.bind_some, ifA_dec] at start
      rw [if_pos c1] at hP
      rw [if_pos c1]
      by_cases c2 : n < 0
      · rw [if_pos c2, bldM, Option.bind_some, mstA (x := zM) rfl, Option.bind_some] at start
        simp only [List.set_cons_zero, List.set_cons_succ] at start
        rw [mldA (x := zM) rfl, Option.bind_some] at start
        rw [if_pos c2]
        exact ⟨zM, 1, retM2 start rfl, Res.bad' (by decide), fun h => absurd h (by decide)⟩
      · rw [if_neg c2, binA_gtr, Option.bind_some, ifA_dec] at start
        rw [if_neg c2] at hP
        rw [if_neg c2]
        by_cases c3 : n > 200
        · rw [if_pos c3, bldM, Option.bind_some, mstA (x := zM) rfl, Option.bind_some] at start
          simp only [List.set_cons_zero, List.set_cons_succ] at start
          rw [mldA (x := zM) rfl, Option.bind_some] at start
          rw [if_pos c3]
          exact ⟨zM, 2, retM2 start rfl, Res.bad' (by decide), fun h => absurd h (by decide)⟩
        · rw [if_neg c3] at start hP
          rw [if_neg c3]
          have hP := hP rfl
          obtain ⟨r, c, hr, hc, r6, c6, hlx⟩ := right_len hbx
          obtain rfl : r = c := by rw [c1, hc] at hr; omega
          obtain ⟨N, rfl⟩ := Int.eq_ofNat_of_zero_le (show 0 ≤ n by omega)
          have hrn : x.rows.toNat = r := by rw [hr]; rfl
          have hNn : ((N : Nat) : Int).toNat = N := rfl
          rw [hrn, hNn] at hP
          rw [hrn, hNn]
          obtain ⟨o, o1, o2, o3, o4, o5, o6⟩ := V58 (fill62 r r) r6 r6
          obtain ⟨s, s1, s2, s3, s4, s5, s6⟩ := V56 hx.ok (by have := hx.len; omega)
          have po : PR K r (ent x r) 0 o := ⟨⟨o6, o5.mono (by omega), o2, o3, by rw [o4, cellsF_length], fun i j hi hj => ent_unit o4 hi hj⟩, fun t ht => by
            rw [o4] at ht
            obtain ⟨a, b, _, _, rfl⟩ := cellsF_mem ht
            unfold unitR
            split
            · exact can_rightR can_one
            · exact can_rightR can_zero⟩
          have ps : PR K r (ent x r) 1 s := ⟨PM.copy ⟨hx.ok.mono hkK, hx.fr, hx.len⟩ hr hc hlx s2 s3 s4 (s5.mono hkK) s6, fun t ht => by
            rw [s4] at ht
            obtain ⟨u, hu, rfl⟩ := List.mem_map.1 ht
            rw [copyR_right]
            exact right_cells hbx u hu⟩
          obtain ⟨out', sq', w1, w2⟩ := W30 (x0 := x) hP (by omega) r6 (by omega) hK (K30_10 (finK cfg.P f30.results.toList)) N N 0 1 o s (Nat.le_refl _) po ps (by omega) (Nat.le_refl _)
          rw [Nat.one_mul, Nat.zero_add] at w1
          dsimp only at start
          rw [Option.bind_some, show reserve [cM x, cM zM] 2 = [cM x, cM zM, some .resv, some .resv] from rfl, mld0 (gx _), Option.bind_some, Option.bind_some, mld0 (gx _), Option.bind_some, hr, pcall3 (fz_int _ _) (fz_int _ _) (fz_fn0 62), o1, Option.map_some, Option.bind_some, mldA (gx _), Option.bind_some, pcM, hx.fr, s1, Option.map_some, Option.bind_some] at start
          have n1 : ∀ (a b e e' : Option Ent) (en : Ent), newAt (some 2) [a, b, e, e'] en = (2, [a, b, some en, e']) := fun _ _ _ _ _ => rfl
          have n2 : ∀ (a b e e' : Option Ent) (en : Ent), newAt (some 3) [a, b, e, e'] en = (3, [a, b, e, some en]) := fun _ _ _ _ _ => rfl
          have ze : some (Ent.obj true [.int .i64 0, .int .i64 0, .lst none true .full []]) = cM zM := rfl
          simp only [List.length_nil, List.length_cons, Nat.zero_add, Nat.reduceAdd, n1, n2, ze] at start
          rw [mstA (x := zM) rfl, Option.bind_some] at start
          simp only [List.set_cons_zero, List.set_cons_succ] at start
          rw [mstA (x := zM) rfl, Option.bind_some] at start
          simp only [List.set_cons_zero, List.set_cons_succ] at start
          have start := start.trans w2
          rw [K30_10_x1, mldA (x := out') rfl, Option.bind_some, mstA (x := zM) rfl, Option.bind_some] at start
          simp only [List.set_cons_zero, List.set_cons_succ] at start
          rw [mldA (x := out') rfl, Option.bind_some] at start
          exact ⟨out', 0, retM2 start w1.1.fr, w1.1.toRes, fun _ => right_of w1.1.rows w1.1.cols r6 r6 w1.1.len w1.2⟩
    · rw [if_pos c1, bldM, Option.bind_some, mstA (x := zM) rfl, Option.bind_some] at start
      simp only [List.set_cons_zero, List.set_cons_succ] at start
      rw [mldA (x := zM) rfl, Option.bind_some] at start
      rw [if_neg c1]
      exact ⟨zM, 30, retM2 start rfl, Res.bad' (by decide), fun h => absurd h (by decide)⟩
end Go.Ab

/- How long the fractions of a power can be. -/
set_option linter.unusedVariables false
set_option linter.unusedSimpArgs false
set_option maxRecDepth 100000
namespace Go.Ab
open Go.Proofs.Try

theorem lt_of_digs {n k : Nat} (h : (digs n).length ≤ k) : n < 4294967296 ^ k := by
  have h1 := val_lt (dg_digs n)
  rw [val_digs] at h1
  exact Nat.lt_of_lt_of_le h1 (Nat.pow_le_pow_right (by omega) h)
theorem Ud.scale {D M d : Nat} {q : Rat} (h : Ud D M q) (hd : d ≠ 0) : Ud (D * d) (M * d) q := by
  obtain ⟨z, h1, rfl⟩ := h
  refine ⟨z * d, ?_, ?_⟩
  · rw [Int.natAbs_mul, Int.natAbs_natCast]
    exact Nat.mul_le_mul_right _ h1
  · rw [Rat.mkRat_mul_right hd]
theorem comm_den {k : Nat} (f : Nat → Rat) : ∀ L : Nat, (∀ p, p < L → Bd k (f p)) → ∃ D, D ≠ 0 ∧ D ≤ 4294967296 ^ (k * L) ∧ ∀ p, p < L → Ud D (4294967296 ^ (k * L)) (f p)
  | 0, _ => ⟨1, by omega, by rw [Nat.mul_zero, Nat.pow_zero]; exact Nat.le_refl _, fun p hp => by omega⟩
  | L + 1, h => by
    obtain ⟨D, d0, d1, d2⟩ := comm_den f L (fun p hp => h p (by omega))
    obtain ⟨b1, b2⟩ := h L (by omega)
    have n1 := Nat.le_of_lt (lt_of_digs b1)
    have n2 := Nat.le_of_lt (lt_of_digs b2)
    have e : 4294967296 ^ (k * (L + 1)) = 4294967296 ^ (k * L) * 4294967296 ^ k := by rw [Nat.mul_succ, Nat.pow_add]
    have hd : (f L).den ≠ 0 := (f L).den_nz
    refine ⟨D * (f L).den, Nat.mul_ne_zero d0 hd, by rw [e]; exact Nat.mul_le_mul d1 n2, fun p hp => ?_⟩
    rw [e]
    by_cases hpL : p < L
    · exact ((d2 p hpL).scale hd).mono (Nat.mul_le_mul_left _ n2)
    · obtain rfl : p = L := by omega
      have hs : Ud (f p).den (f p).num.natAbs (f p) := ⟨(f p).num, Nat.le_refl _, (Rat.mkRat_self (f p)).symm⟩
      have := hs.scale d0
      rw [Nat.mul_comm (f p).den D] at this
      refine this.mono ?_
      rw [Nat.mul_comm]
      exact Nat.mul_le_mul d1 n1
theorem powB_gen {x : MV} {k n N : Nat} (hx : LOk k x.lv) (hk : 1 ≤ k) (hn : n ≤ 60) (hN : N ≤ 200) (hk3 : k ≤ 1000) : PowB (2 ^ 30) n (ent x n) N := by
  by_cases h0 : n = 0
  · intro a b i j l _ hi
    omega
  have hL : n * n ≤ 3600 := Nat.mul_le_mul hn hn
  obtain ⟨D, d0, d1, d2⟩ := comm_den (k := k) (fun p => qAt x p) (n * n) (fun p _ => qAt_bd hx hk)
  have hkL : k * (n * n) ≤ 3600000 := Nat.le_trans (Nat.mul_le_mul hk3 hL) (by omega)
  generalize k * (n * n) = E at d1 d2 hkL
  have hEN : E * N ≤ 720000000 := Nat.le_trans (Nat.mul_le_mul hkL hN) (by omega)
  refine pow_bd (D := D) (M := 4294967296 ^ E) d0 (by omega) (Nat.pow_pos (by omega)) (fun i j hi hj => d2 _ (cell_lt60 hi hj)) (by omega) ?_ ?_
  · have h1 : D ^ N ≤ 4294967296 ^ (E * N) := by
      rw [Nat.pow_mul]
      exact Nat.pow_le_pow_left d1 N
    have h2 : D ^ N < 4294967296 ^ (E * N + 1) := Nat.lt_of_le_of_lt h1 (Nat.pow_lt_pow_right (by omega) (by omega))
    exact Nat.le_trans (digs_length_le h2) (by omega)
  · have hn32 : n ≤ 4294967296 := by omega
    have h1 : n * (n * 4294967296 ^ E) ^ N ≤ 4294967296 * (4294967296 ^ (1 + E)) ^ N := by
      refine Nat.mul_le_mul hn32 (Nat.pow_le_pow_left ?_ N)
      rw [Nat.pow_add, Nat.pow_one]
      exact Nat.mul_le_mul_right _ hn32
    have e : 4294967296 * (4294967296 ^ (1 + E)) ^ N = 4294967296 ^ (1 + (1 + E) * N) := by
      rw [← Nat.pow_mul, Nat.pow_add 4294967296 1, Nat.pow_one]
    have hEN2 : (1 + E) * N ≤ 720000200 := by rw [Nat.add_mul]; omega
    rw [e] at h1
    have h2 : n * (n * 4294967296 ^ E) ^ N < 4294967296 ^ (1 + (1 + E) * N + 1) := Nat.lt_of_le_of_lt h1 (Nat.pow_lt_pow_right (by omega) (by omega))
    exact Nat.le_trans (digs_length_le h2) (by omega)
theorem powB_of {x : MV} {k : Nat} {n : Int} (hx : IsM k x) (hk : 1 ≤ k) (hk3 : k ≤ 1000) (h : powE x n = 0) : PowB (2 ^ 30) x.rows.toNat (ent x x.rows.toNat) n.toNat := by
  unfold powE at h
  by_cases c0 : rightM x = true
  · rw [if_pos c0] at h
    by_cases c1 : x.rows = x.cols
    · rw [if_pos c1] at h
      by_cases c2 : n < 0
      · rw [if_pos c2] at h; cases h
      · rw [if_neg c2] at h
        by_cases c3 : n > 200
        · rw [if_pos c3] at h; cases h
        · obtain ⟨z1, z2, _⟩ := size_of_right c0
          exact powB_gen hx.ok hk (by omega) (by omega) hk3
    · rw [if_neg c1] at h; cases h
  · rw [if_neg c0] at h; cases h
end Go.Ab

/- What the interpreter does, function by function. -/
set_option maxRecDepth 100000
set_option linter.unusedVariables false
namespace Go.Ab
open Go.Proofs.Try
/-! ### sortilege/sortilegelaw19.MatrixAdds -/
/-! ### sortilege/sortilegelaw19.MatrixMuls -/
/-! ### sortilege/sortilegelaw19.MatrixPowers -/
noncomputable abbrev C7_0_0 (K : Ex → St → Option (AV × Mem)) : Ex → St → Option (AV × Mem) := seqK (fun st => execW cfg 7 (AP cfg) (AC cfg) (c2 (bodyOf f7)) st K) K
noncomputable abbrev C7_0 (K : Ex → St → Option (AV × Mem)) : Ex → St → Option (AV × Mem) := (C7_0_0 K)
noncomputable def P7_0_1 (a0 : AV) (a1 : AV) (a2 : AV) (m : Mem) (K : Ex → St → Option (AV × Mem)) : Option (AV × Mem) := runOps cfg 7 (AP cfg) (AC cfg) none (opsOf (c1 (bodyOf f7))) [0, 1] ⟨[a0, a1, a2, .any, .any, .any, .any, .any, .any, .any, .any, .any, .any, .any, .any, .any, .any, .any, .any, .any, .any, .any, .any, .any, .any, .any, .any, .any, .any, .any, .any, .any, .any, .any, .any, .any, .any, .any, .any, .any, .any, .any, .any, .any, .any, .any, .any, .any, .any, .any, .any, .any, .any, .any, .any, .any, .any, .any, .any, .any, .any, .any, .any, .any, .any, .any, .any, .any, .any], m⟩ ((C7_0 K) .normal)
noncomputable abbrev C7_1_0 (K : Ex → St → Option (AV × Mem)) : Ex → St → Option (AV × Mem) := seqK (fun st => execW cfg 7 (AP cfg) (AC cfg) (c2 (c2 (bodyOf f7))) st K) K
noncomputable abbrev C7_1 (K : Ex → St → Option (AV × Mem)) : Ex → St → Option (AV × Mem) := (C7_1_0 K)
noncomputable def P7_1_2 (a0 : AV) (a1 : AV) (a2 : AV) (r1 : AV × Mem) (K : Ex → St → Option (AV × Mem)) : Option (AV × Mem) := runOps cfg 7 (AP cfg) (AC cfg) none (opsOf (c1 (c2 (bodyOf f7)))) [0, 1, 2] ⟨[a0, a1, a2, r1.1, .any, .any, (.bool false), .any, .any, .any, .any, .any, .any, .any, .any, .any, .any, .any, .any, .any, .any, .any, .any, .any, .any, .any, .any, .any, .any, .any, .any, .any, .any, .any, .any, .any, .any, .any, .any, .any, .any, .any, .any, .any, .any, .any, .any, .any, .any, .any, .any, .any, .any, .any, .any, .any, .any, .any, .any, .any, .any, .any, .any, .any, .any, .any, .any, .any, .any], r1.2⟩ ((C7_1 K) .normal)
noncomputable abbrev C7_2_0 (K : Ex → St → Option (AV × Mem)) : Ex → St → Option (AV × Mem) := seqK (fun st => execW cfg 7 (AP cfg) (AC cfg) (c2 (c2 (c2 (bodyOf f7)))) st K) K
noncomputable abbrev C7_2_1 (K : Ex → St → Option (AV × Mem)) : Ex → St → Option (AV × Mem) := seqK (fun st => execW cfg 7 (AP cfg) (AC cfg) (c2 (c1 (c2 (c2 (bodyOf f7))))) st (C7_2_0 K)) (C7_2_0 K)
noncomputable abbrev C7_2 (K : Ex → St → Option (AV × Mem)) : Ex → St → Option (AV × Mem) := (C7_2_1 K)
noncomputable def P7_2_3 (a0 : AV) (a1 : AV) (a2 : AV) (m4 : Mem) (r1 : AV × Mem) (r3 : AV × Mem) (v2 : AV) (K : Ex → St → Option (AV × Mem)) : Option (AV × Mem) := runOps cfg 7 (AP cfg) (AC cfg) none (opsOf (c1 (c1 (c2 (c2 (bodyOf f7)))))) [0, 1, 2] ⟨[a0, a1, a2, r1.1, .any, .any, (.bool false), .any, .any, .any, .any, .any, .any, .any, .any, v2, r3.1, .any, .any, .any, .any, .any, .any, .any, .any, .any, .any, .any, .any, .any, .any, .any, .any, .any, .any, .any, .any, .any, .any, .any, .any, .any, .any, .any, .any, .any, .any, .any, .any, .any, .any, .any, .any, .any, .any, .any, .any, .any, .any, .any, .any, .any, .any, .any, .any, .any, .any, .any, .any], m4⟩ ((C7_2 K) .normal)
noncomputable abbrev C7_3_0 (K : Ex → St → Option (AV × Mem)) : Ex → St → Option (AV × Mem) := seqK (fun st => execW cfg 7 (AP cfg) (AC cfg) (c2 (c2 (c2 (bodyOf f7)))) st K) K
noncomputable abbrev C7_3_1 (K : Ex → St → Option (AV × Mem)) : Ex → St → Option (AV × Mem) := seqK (fun st => execW cfg 7 (AP cfg) (AC cfg) (c2 (c1 (c2 (c1 (c2 (c2 (bodyOf f7))))))) st (C7_3_0 K)) (C7_3_0 K)
noncomputable abbrev C7_3 (K : Ex → St → Option (AV × Mem)) : Ex → St → Option (AV × Mem) := (C7_3_1 K)
noncomputable def P7_3_4 (a0 : AV) (a1 : AV) (a2 : AV) (r1 : AV × Mem) (r3 : AV × Mem) (r6 : AV × Mem) (v2 : AV) (v5 : AV) (v7 : AV) (K : Ex → St → Option (AV × Mem)) : Option (AV × Mem) := runOps cfg 7 (AP cfg) (AC cfg) none (opsOf (c1 (c1 (c2 (c1 (c2 (c2 (bodyOf f7)))))))) [0, 1] ⟨[a0, a1, a2, r1.1, .any, .any, (.bool false), .any, .any, .any, .any, .any, .any, .any, .any, v2, r3.1, v5, r6.1, v7, .any, .any, .any, .any, .any, .any, .any, .any, .any, .any, .any, .any, .any, .any, .any, .any, .any, .any, .any, .any, .any, .any, .any, .any, .any, .any, .any, .any, .any, .any, .any, .any, .any, .any, .any, .any, .any, .any, .any, .any, .any, .any, .any, .any, .any, .any, .any, .any, .any], r6.2⟩ ((C7_3 K) .normal)
noncomputable abbrev C7_4_0 (K : Ex → St → Option (AV × Mem)) : Ex → St → Option (AV × Mem) := seqK (fun st => execW cfg 7 (AP cfg) (AC cfg) (c2 (c2 (c2 (c2 (bodyOf f7))))) st K) K
noncomputable abbrev C7_4 (K : Ex → St → Option (AV × Mem)) : Ex → St → Option (AV × Mem) := (C7_4_0 K)
noncomputable def P7_4_5 (a0 : AV) (a1 : AV) (a2 : AV) (r1 : AV × Mem) (r3 : AV × Mem) (r6 : AV × Mem) (v2 : AV) (v5 : AV) (v7 : AV) (K : Ex → St → Option (AV × Mem)) : Option (AV × Mem) := runOps cfg 7 (AP cfg) (AC cfg) none (opsOf (c1 (c2 (c2 (c2 (bodyOf f7)))))) [0, 1, 2, 3, 4, 5, 6, 7, 8, 9] ⟨[a0, a1, a2, r1.1, .any, .any, (.bool false), .any, .any, .any, .any, .any, .any, .any, .any, v2, r3.1, v5, r6.1, v7, .any, .any, .any, .any, .any, .any, .any, .any, .any, .any, .any, .any, .any, .any, .any, .any, .any, .any, .any, .any, .any, .any, .any, .any, .any, .any, .any, .any, .any, .any, .any, .any, .any, .any, .any, .any, .any, .any, .any, .any, .any, .any, .any, .any, .any, .any, .any, .any, .any], r6.2⟩ ((C7_4 K) .normal)
noncomputable def P7_4_6 (a0 : AV) (a1 : AV) (a2 : AV) (r1 : AV × Mem) (r3 : AV × Mem) (r6 : AV × Mem) (v2 : AV) (v5 : AV) (v7 : AV) (v8 : AV) (v9 : AV) (v10 : AV) (v11 : AV) (K : Ex → St → Option (AV × Mem)) : Option (AV × Mem) := runOps cfg 7 (AP cfg) (AC cfg) none (opsOf (c1 (c2 (c2 (c2 (bodyOf f7)))))) [6, 7, 8, 9] ⟨[a0, a1, a2, r1.1, .any, .any, (.bool false), .any, .any, .any, .any, .any, .any, .any, .any, v2, r3.1, v5, r6.1, v7, .any, a1, v8, v9, v10, a2, v11, .any, .any, .any, .any, .any, .any, .any, .any, .any, .any, .any, .any, .any, .any, .any, .any, .any, .any, .any, .any, .any, .any, .any, .any, .any, .any, .any, .any, .any, .any, .any, .any, .any, .any, .any, .any, .any, .any, .any, .any, .any, .any], r6.2⟩ ((C7_4 K) .normal)
noncomputable abbrev C7_5_0 (K : Ex → St → Option (AV × Mem)) : Ex → St → Option (AV × Mem) := seqK (fun st => execW cfg 7 (AP cfg) (AC cfg) (c2 (c2 (c2 (c2 (c2 (bodyOf f7)))))) st K) K
noncomputable abbrev C7_5 (K : Ex → St → Option (AV × Mem)) : Ex → St → Option (AV × Mem) := (C7_5_0 K)
noncomputable def P7_5_7 (a0 : AV) (a1 : AV) (a2 : AV) (r1 : AV × Mem) (r3 : AV × Mem) (r6 : AV × Mem) (v2 : AV) (v5 : AV) (v7 : AV) (v8 : AV) (v9 : AV) (v10 : AV) (v11 : AV) (v12 : AV) (v13 : AV) (K : Ex → St → Option (AV × Mem)) : Option (AV × Mem) := runOps cfg 7 (AP cfg) (AC cfg) none (opsOf (c1 (c2 (c2 (c2 (c2 (bodyOf f7))))))) [0, 1, 2, 3, 4, 5, 6, 7, 8] ⟨[a0, v10, v13, r1.1, .any, .any, (.bool false), .any, .any, .any, .any, .any, .any, .any, .any, v2, r3.1, v5, r6.1, v7, .any, a1, v8, v9, v10, a2, v11, v12, v13, .any, .any, .any, .any, .any, .any, .any, .any, .any, .any, .any, .any, .any, .any, .any, .any, .any, .any, .any, .any, .any, .any, .any, .any, .any, .any, .any, .any, .any, .any, .any, .any, .any, .any, .any, .any, .any, .any, .any, .any], r6.2⟩ ((C7_5 K) .normal)
noncomputable def P7_5_8 (a0 : AV) (a1 : AV) (a2 : AV) (r1 : AV × Mem) (r3 : AV × Mem) (r6 : AV × Mem) (r15 : AV × Mem) (v2 : AV) (v5 : AV) (v7 : AV) (v8 : AV) (v9 : AV) (v10 : AV) (v11 : AV) (v12 : AV) (v13 : AV) (v14 : AV) (v16 : AV) (v17 : AV) (K : Ex → St → Option (AV × Mem)) : Option (AV × Mem) := runOps cfg 7 (AP cfg) (AC cfg) none (opsOf (c1 (c2 (c2 (c2 (c2 (bodyOf f7))))))) [6, 7, 8] ⟨[a0, v10, v13, r1.1, .any, .any, (.bool false), .any, .any, .any, .any, .any, .any, .any, .any, v2, r3.1, v5, r6.1, v7, .any, a1, v8, v9, v10, a2, v11, v12, v13, r15.1, v14, v10, r15.1, v16, v17, .any, .any, .any, .any, .any, .any, .any, .any, .any, .any, .any, .any, .any, .any, .any, .any, .any, .any, .any, .any, .any, .any, .any, .any, .any, .any, .any, .any, .any, .any, .any, .any, .any, .any], r15.2⟩ ((C7_5 K) .normal)
noncomputable abbrev C7_6_0 (K : Ex → St → Option (AV × Mem)) : Ex → St → Option (AV × Mem) := seqK (fun st => execW cfg 7 (AP cfg) (AC cfg) (c2 (c2 (c2 (c2 (c2 (c2 (bodyOf f7))))))) st K) K
noncomputable abbrev C7_6 (K : Ex → St → Option (AV × Mem)) : Ex → St → Option (AV × Mem) := (C7_6_0 K)
noncomputable def P7_6_9 (a0 : AV) (a1 : AV) (a2 : AV) (m18 : Mem) (r1 : AV × Mem) (r3 : AV × Mem) (r6 : AV × Mem) (r15 : AV × Mem) (v2 : AV) (v5 : AV) (v7 : AV) (v8 : AV) (v9 : AV) (v10 : AV) (v11 : AV) (v12 : AV) (v13 : AV) (v14 : AV) (v16 : AV) (v17 : AV) (K : Ex → St → Option (AV × Mem)) : Option (AV × Mem) := runOps cfg 7 (AP cfg) (AC cfg) none (opsOf (c1 (c2 (c2 (c2 (c2 (c2 (bodyOf f7)))))))) [0, 1, 2, 3, 4, 5, 6, 7, 8] ⟨[a0, v10, v13, r1.1, .any, .any, (.bool false), (.ptr (newAt none r15.2 .resv).1 0), v17, .any, .any, .any, .any, .any, .any, v2, r3.1, v5, r6.1, v7, .any, a1, v8, v9, v10, a2, v11, v12, v13, r15.1, v14, v10, r15.1, v16, v17, .any, .any, .any, .any, .any, .any, .any, .any, .any, .any, .any, .any, .any, .any, .any, .any, .any, .any, .any, .any, .any, .any, .any, .any, .any, .any, .any, .any, .any, .any, .any, .any, .any, .any], m18⟩ ((C7_6 K) .normal)
noncomputable def P7_6_10 (a0 : AV) (a1 : AV) (a2 : AV) (r1 : AV × Mem) (r3 : AV × Mem) (r6 : AV × Mem) (r15 : AV × Mem) (r20 : AV × Mem) (v2 : AV) (v5 : AV) (v7 : AV) (v8 : AV) (v9 : AV) (v10 : AV) (v11 : AV) (v12 : AV) (v13 : AV) (v14 : AV) (v16 : AV) (v17 : AV) (v19 : AV) (v21 : AV) (v22 : AV) (K : Ex → St → Option (AV × Mem)) : Option (AV × Mem) := runOps cfg 7 (AP cfg) (AC cfg) none (opsOf (c1 (c2 (c2 (c2 (c2 (c2 (bodyOf f7)))))))) [6, 7, 8] ⟨[a0, v10, v13, r1.1, .any, .any, (.bool false), (.ptr (newAt none r15.2 .resv).1 0), v17, .any, .any, .any, .any, .any, .any, v2, r3.1, v5, r6.1, v7, .any, a1, v8, v9, v10, a2, v11, v12, v13, r15.1, v14, v10, r15.1, v16, v17, r20.1, v19, v13, r20.1, v21, v22, .any, .any, .any, .any, .any, .any, .any, .any, .any, .any, .any, .any, .any, .any, .any, .any, .any, .any, .any, .any, .any, .any, .any, .any, .any, .any, .any, .any], r20.2⟩ ((C7_6 K) .normal)
noncomputable abbrev C7_7_0 (K : Ex → St → Option (AV × Mem)) : Ex → St → Option (AV × Mem) := seqK (fun st => execW cfg 7 (AP cfg) (AC cfg) (c2 (c2 (c2 (c2 (c2 (c2 (c2 (bodyOf f7)))))))) st K) K
noncomputable abbrev C7_7 (K : Ex → St → Option (AV × Mem)) : Ex → St → Option (AV × Mem) := (C7_7_0 K)
noncomputable def P7_7_11 (a0 : AV) (a1 : AV) (a2 : AV) (m23 : Mem) (r1 : AV × Mem) (r3 : AV × Mem) (r6 : AV × Mem) (r15 : AV × Mem) (r20 : AV × Mem) (v2 : AV) (v5 : AV) (v7 : AV) (v8 : AV) (v9 : AV) (v10 : AV) (v11 : AV) (v12 : AV) (v13 : AV) (v14 : AV) (v16 : AV) (v17 : AV) (v19 : AV) (v21 : AV) (v22 : AV) (K : Ex → St → Option (AV × Mem)) : Option (AV × Mem) := runOps cfg 7 (AP cfg) (AC cfg) none (opsOf (c1 (c2 (c2 (c2 (c2 (c2 (c2 (bodyOf f7))))))))) [0, 1, 2, 3, 4, 5, 6, 7, 8, 9, 10] ⟨[a0, v10, v13, r1.1, .any, .any, (.bool false), (.ptr (newAt none r15.2 .resv).1 0), v17, (.ptr (newAt none r20.2 .resv).1 0), v22, .any, .any, .any, .any, v2, r3.1, v5, r6.1, v7, .any, a1, v8, v9, v10, a2, v11, v12, v13, r15.1, v14, v10, r15.1, v16, v17, r20.1, v19, v13, r20.1, v21, v22, .any, .any, .any, .any, .any, .any, .any, .any, .any, .any, .any, .any, .any, .any, .any, .any, .any, .any, .any, .any, .any, .any, .any, .any, .any, .any, .any, .any], m23⟩ ((C7_7 K) .normal)
noncomputable def P7_7_12 (a0 : AV) (a1 : AV) (a2 : AV) (r1 : AV × Mem) (r3 : AV × Mem) (r6 : AV × Mem) (r15 : AV × Mem) (r20 : AV × Mem) (r26 : AV × Mem) (v2 : AV) (v5 : AV) (v7 : AV) (v8 : AV) (v9 : AV) (v10 : AV) (v11 : AV) (v12 : AV) (v13 : AV) (v14 : AV) (v16 : AV) (v17 : AV) (v19 : AV) (v21 : AV) (v22 : AV) (v24 : AV) (v25 : AV) (K : Ex → St → Option (AV × Mem)) : Option (AV × Mem) := runOps cfg 7 (AP cfg) (AC cfg) none (opsOf (c1 (c2 (c2 (c2 (c2 (c2 (c2 (bodyOf f7))))))))) [6, 7, 8, 9, 10] ⟨[a0, v10, v13, r1.1, .any, .any, (.bool false), (.ptr (newAt none r15.2 .resv).1 0), v17, (.ptr (newAt none r20.2 .resv).1 0), v22, .any, .any, .any, .any, v2, r3.1, v5, r6.1, v7, .any, a1, v8, v9, v10, a2, v11, v12, v13, r15.1, v14, v10, r15.1, v16, v17, r20.1, v19, v13, r20.1, v21, v22, r26.1, v24, v10, v13, v25, r26.1, .any, .any, .any, .any, .any, .any, .any, .any, .any, .any, .any, .any, .any, .any, .any, .any, .any, .any, .any, .any, .any, .any], r26.2⟩ ((C7_7 K) .normal)
noncomputable abbrev C7_8_0 (K : Ex → St → Option (AV × Mem)) : Ex → St → Option (AV × Mem) := seqK (fun st => execW cfg 7 (AP cfg) (AC cfg) (c2 (c2 (c2 (c2 (c2 (c2 (c2 (c2 (bodyOf f7))))))))) st K) K
noncomputable abbrev C7_8 (K : Ex → St → Option (AV × Mem)) : Ex → St → Option (AV × Mem) := (C7_8_0 K)
noncomputable def P7_8_13 (a0 : AV) (a1 : AV) (a2 : AV) (m29 : Mem) (r1 : AV × Mem) (r3 : AV × Mem) (r6 : AV × Mem) (r15 : AV × Mem) (r20 : AV × Mem) (r26 : AV × Mem) (v2 : AV) (v5 : AV) (v7 : AV) (v8 : AV) (v9 : AV) (v10 : AV) (v11 : AV) (v12 : AV) (v13 : AV) (v14 : AV) (v16 : AV) (v17 : AV) (v19 : AV) (v21 : AV) (v22 : AV) (v24 : AV) (v25 : AV) (v27 : AV) (v28 : AV) (K : Ex → St → Option (AV × Mem)) : Option (AV × Mem) := runOps cfg 7 (AP cfg) (AC cfg) none (opsOf (c1 (c2 (c2 (c2 (c2 (c2 (c2 (c2 (bodyOf f7)))))))))) [0, 1, 2, 3, 4, 5, 6, 7, 8] ⟨[a0, v10, v13, r1.1, .any, .any, (.bool false), (.ptr (newAt none r15.2 .resv).1 0), v17, (.ptr (newAt none r20.2 .resv).1 0), v22, (.ptr (newAt none r26.2 .resv).1 0), v28, .any, .any, v2, r3.1, v5, r6.1, v7, .any, a1, v8, v9, v10, a2, v11, v12, v13, r15.1, v14, v10, r15.1, v16, v17, r20.1, v19, v13, r20.1, v21, v22, r26.1, v24, v10, v13, v25, r26.1, v27, v28, .any, .any, .any, .any, .any, .any, .any, .any, .any, .any, .any, .any, .any, .any, .any, .any, .any, .any, .any, .any], m29⟩ ((C7_8 K) .normal)
noncomputable def P7_8_14 (a0 : AV) (a1 : AV) (a2 : AV) (r1 : AV × Mem) (r3 : AV × Mem) (r6 : AV × Mem) (r15 : AV × Mem) (r20 : AV × Mem) (r26 : AV × Mem) (r32 : AV × Mem) (v2 : AV) (v5 : AV) (v7 : AV) (v8 : AV) (v9 : AV) (v10 : AV) (v11 : AV) (v12 : AV) (v13 : AV) (v14 : AV) (v16 : AV) (v17 : AV) (v19 : AV) (v21 : AV) (v22 : AV) (v24 : AV) (v25 : AV) (v27 : AV) (v28 : AV) (v30 : AV) (v31 : AV) (v33 : AV) (v34 : AV) (K : Ex → St → Option (AV × Mem)) : Option (AV × Mem) := runOps cfg 7 (AP cfg) (AC cfg) none (opsOf (c1 (c2 (c2 (c2 (c2 (c2 (c2 (c2 (bodyOf f7)))))))))) [6, 7, 8] ⟨[a0, v10, v13, r1.1, .any, .any, (.bool false), (.ptr (newAt none r15.2 .resv).1 0), v17, (.ptr (newAt none r20.2 .resv).1 0), v22, (.ptr (newAt none r26.2 .resv).1 0), v28, .any, .any, v2, r3.1, v5, r6.1, v7, .any, a1, v8, v9, v10, a2, v11, v12, v13, r15.1, v14, v10, r15.1, v16, v17, r20.1, v19, v13, r20.1, v21, v22, r26.1, v24, v10, v13, v25, r26.1, v27, v28, r32.1, v30, v31, r32.1, v33, v34, .any, .any, .any, .any, .any, .any, .any, .any, .any, .any, .any, .any, .any, .any], r32.2⟩ ((C7_8 K) .normal)
noncomputable abbrev C7_9_0 (K : Ex → St → Option (AV × Mem)) : Ex → St → Option (AV × Mem) := seqK (fun st => execW cfg 7 (AP cfg) (AC cfg) (c2 (c2 (c2 (c2 (c2 (c2 (c2 (c2 (c2 (bodyOf f7)))))))))) st K) K
noncomputable abbrev C7_9 (K : Ex → St → Option (AV × Mem)) : Ex → St → Option (AV × Mem) := (C7_9_0 K)
noncomputable def P7_9_15 (a0 : AV) (a1 : AV) (a2 : AV) (m35 : Mem) (r1 : AV × Mem) (r3 : AV × Mem) (r6 : AV × Mem) (r15 : AV × Mem) (r20 : AV × Mem) (r26 : AV × Mem) (r32 : AV × Mem) (v2 : AV) (v5 : AV) (v7 : AV) (v8 : AV) (v9 : AV) (v10 : AV) (v11 : AV) (v12 : AV) (v13 : AV) (v14 : AV) (v16 : AV) (v17 : AV) (v19 : AV) (v21 : AV) (v22 : AV) (v24 : AV) (v25 : AV) (v27 : AV) (v28 : AV) (v30 : AV) (v31 : AV) (v33 : AV) (v34 : AV) (K : Ex → St → Option (AV × Mem)) : Option (AV × Mem) := runOps cfg 7 (AP cfg) (AC cfg) none (opsOf (c1 (c2 (c2 (c2 (c2 (c2 (c2 (c2 (c2 (bodyOf f7))))))))))) [0, 1, 2, 3, 4, 5, 6, 7, 8, 9, 10, 11, 12, 13, 14] ⟨[a0, v10, v13, r1.1, .any, .any, (.bool false), (.ptr (newAt none r15.2 .resv).1 0), v17, (.ptr (newAt none r20.2 .resv).1 0), v22, (.ptr (newAt none r26.2 .resv).1 0), v28, (.ptr (newAt none r32.2 .resv).1 0), v34, v2, r3.1, v5, r6.1, v7, .any, a1, v8, v9, v10, a2, v11, v12, v13, r15.1, v14, v10, r15.1, v16, v17, r20.1, v19, v13, r20.1, v21, v22, r26.1, v24, v10, v13, v25, r26.1, v27, v28, r32.1, v30, v31, r32.1, v33, v34, .any, .any, .any, .any, .any, .any, .any, .any, .any, .any, .any, .any, .any, .any], m35⟩ ((C7_9 K) .normal)
noncomputable def P7_9_16 (a0 : AV) (a1 : AV) (a2 : AV) (m35 : Mem) (r1 : AV × Mem) (r3 : AV × Mem) (r6 : AV × Mem) (r15 : AV × Mem) (r20 : AV × Mem) (r26 : AV × Mem) (r32 : AV × Mem) (v2 : AV) (v5 : AV) (v7 : AV) (v8 : AV) (v9 : AV) (v10 : AV) (v11 : AV) (v12 : AV) (v13 : AV) (v14 : AV) (v16 : AV) (v17 : AV) (v19 : AV) (v21 : AV) (v22 : AV) (v24 : AV) (v25 : AV) (v27 : AV) (v28 : AV) (v30 : AV) (v31 : AV) (v33 : AV) (v34 : AV) (v36 : AV) (v37 : AV) (K : Ex → St → Option (AV × Mem)) : Option (AV × Mem) := runOps cfg 7 (AP cfg) (AC cfg) none (opsOf (c1 (c2 (c2 (c2 (c2 (c2 (c2 (c2 (c2 (bodyOf f7))))))))))) [6, 7, 8, 9, 10, 11, 12, 13, 14] ⟨[a0, v10, v13, r1.1, .any, .any, (.bool false), (.ptr (newAt none r15.2 .resv).1 0), v17, (.ptr (newAt none r20.2 .resv).1 0), v22, (.ptr (newAt none r26.2 .resv).1 0), v28, (.ptr (newAt none r32.2 .resv).1 0), v34, v2, r3.1, v5, r6.1, v7, .any, a1, v8, v9, v10, a2, v11, v12, v13, r15.1, v14, v10, r15.1, v16, v17, r20.1, v19, v13, r20.1, v21, v22, r26.1, v24, v10, v13, v25, r26.1, v27, v28, r32.1, v30, v31, r32.1, v33, v34, v28, v36, (.bool true), v34, v37, v37, .any, .any, .any, .any, .any, .any, .any, .any], m35⟩ ((C7_9 K) .normal)
noncomputable def P7_9_17 (a0 : AV) (a1 : AV) (a2 : AV) (m35 : Mem) (r1 : AV × Mem) (r3 : AV × Mem) (r6 : AV × Mem) (r15 : AV × Mem) (r20 : AV × Mem) (r26 : AV × Mem) (r32 : AV × Mem) (v2 : AV) (v5 : AV) (v7 : AV) (v8 : AV) (v9 : AV) (v10 : AV) (v11 : AV) (v12 : AV) (v13 : AV) (v14 : AV) (v16 : AV) (v17 : AV) (v19 : AV) (v21 : AV) (v22 : AV) (v24 : AV) (v25 : AV) (v27 : AV) (v28 : AV) (v30 : AV) (v31 : AV) (v33 : AV) (v34 : AV) (v36 : AV) (K : Ex → St → Option (AV × Mem)) : Option (AV × Mem) := runOps cfg 7 (AP cfg) (AC cfg) none (opsOf (c1 (c2 (c2 (c2 (c2 (c2 (c2 (c2 (c2 (bodyOf f7))))))))))) [6, 7, 8, 9, 10, 11, 12, 13, 14] ⟨[a0, v10, v13, r1.1, .any, .any, (.bool false), (.ptr (newAt none r15.2 .resv).1 0), v17, (.ptr (newAt none r20.2 .resv).1 0), v22, (.ptr (newAt none r26.2 .resv).1 0), v28, (.ptr (newAt none r32.2 .resv).1 0), v34, v2, r3.1, v5, r6.1, v7, .any, a1, v8, v9, v10, a2, v11, v12, v13, r15.1, v14, v10, r15.1, v16, v17, r20.1, v19, v13, r20.1, v21, v22, r26.1, v24, v10, v13, v25, r26.1, v27, v28, r32.1, v30, v31, r32.1, v33, v34, v28, v36, (.bool false), (.tup []), (.tup []), (.bool false), .any, .any, .any, .any, .any, .any, .any, .any], m35⟩ ((C7_9 K) .normal)
noncomputable def P7_9_18 (a0 : AV) (a1 : AV) (a2 : AV) (r1 : AV × Mem) (r3 : AV × Mem) (r6 : AV × Mem) (r15 : AV × Mem) (r20 : AV × Mem) (r26 : AV × Mem) (r32 : AV × Mem) (r40 : AV × Mem) (v2 : AV) (v5 : AV) (v7 : AV) (v8 : AV) (v9 : AV) (v10 : AV) (v11 : AV) (v12 : AV) (v13 : AV) (v14 : AV) (v16 : AV) (v17 : AV) (v19 : AV) (v21 : AV) (v22 : AV) (v24 : AV) (v25 : AV) (v27 : AV) (v28 : AV) (v30 : AV) (v31 : AV) (v33 : AV) (v34 : AV) (v36 : AV) (v37 : AV) (v38 : AV) (v39 : AV) (K : Ex → St → Option (AV × Mem)) : Option (AV × Mem) := runOps cfg 7 (AP cfg) (AC cfg) none (opsOf (c1 (c2 (c2 (c2 (c2 (c2 (c2 (c2 (c2 (bodyOf f7))))))))))) [12, 13, 14] ⟨[a0, v10, v13, r1.1, .any, .any, (.bool false), (.ptr (newAt none r15.2 .resv).1 0), v17, (.ptr (newAt none r20.2 .resv).1 0), v22, (.ptr (newAt none r26.2 .resv).1 0), v28, (.ptr (newAt none r32.2 .resv).1 0), v34, v2, r3.1, v5, r6.1, v7, .any, a1, v8, v9, v10, a2, v11, v12, v13, r15.1, v14, v10, r15.1, v16, v17, r20.1, v19, v13, r20.1, v21, v22, r26.1, v24, v10, v13, v25, r26.1, v27, v28, r32.1, v30, v31, r32.1, v33, v34, v28, v36, (.bool true), v34, v37, v37, (.bool true), v38, v39, r40.1, r40.1, r40.1, .any, .any], r40.2⟩ ((C7_9 K) .normal)
noncomputable def P7_9_19 (a0 : AV) (a1 : AV) (a2 : AV) (m35 : Mem) (r1 : AV × Mem) (r3 : AV × Mem) (r6 : AV × Mem) (r15 : AV × Mem) (r20 : AV × Mem) (r26 : AV × Mem) (r32 : AV × Mem) (v2 : AV) (v5 : AV) (v7 : AV) (v8 : AV) (v9 : AV) (v10 : AV) (v11 : AV) (v12 : AV) (v13 : AV) (v14 : AV) (v16 : AV) (v17 : AV) (v19 : AV) (v21 : AV) (v22 : AV) (v24 : AV) (v25 : AV) (v27 : AV) (v28 : AV) (v30 : AV) (v31 : AV) (v33 : AV) (v34 : AV) (v36 : AV) (v37 : AV) (K : Ex → St → Option (AV × Mem)) : Option (AV × Mem) := runOps cfg 7 (AP cfg) (AC cfg) none (opsOf (c1 (c2 (c2 (c2 (c2 (c2 (c2 (c2 (c2 (bodyOf f7))))))))))) [12, 13, 14] ⟨[a0, v10, v13, r1.1, .any, .any, (.bool false), (.ptr (newAt none r15.2 .resv).1 0), v17, (.ptr (newAt none r20.2 .resv).1 0), v22, (.ptr (newAt none r26.2 .resv).1 0), v28, (.ptr (newAt none r32.2 .resv).1 0), v34, v2, r3.1, v5, r6.1, v7, .any, a1, v8, v9, v10, a2, v11, v12, v13, r15.1, v14, v10, r15.1, v16, v17, r20.1, v19, v13, r20.1, v21, v22, r26.1, v24, v10, v13, v25, r26.1, v27, v28, r32.1, v30, v31, r32.1, v33, v34, v28, v36, (.bool true), v34, v37, v37, (.bool false), (.tup []), (.tup []), (.tup []), (.bool false), (.bool false), .any, .any], m35⟩ ((C7_9 K) .normal)
theorem E7 (a0 a1 a2 : AV) (m : Mem) (K : Ex → St → Option (AV × Mem)) : execW cfg 7 (AP cfg) (AC cfg) (bodyOf f7) ⟨[a0, a1, a2, .any, .any, .any, .any, .any, .any, .any, .any, .any, .any, .any, .any, .any, .any, .any, .any, .any, .any, .any, .any, .any, .any, .any, .any, .any, .any, .any, .any, .any, .any, .any, .any, .any, .any, .any, .any, .any, .any, .any, .any, .any, .any, .any, .any, .any, .any, .any, .any, .any, .any, .any, .any, .any, .any, .any, .any, .any, .any, .any, .any, .any, .any, .any, .any, .any, .any], m⟩ K =
  P7_0_1 a0 a1 a2 m K := by kernel_rfl
theorem T7 (a0 a1 a2 : AV) (m : Mem) : AC cfg 7 [a0, a1, a2] m =
  P7_0_1 a0 a1 a2 m (finK cfg.P f7.results.toList) :=
(AC_eq cfg 7 [a0, a1, a2] m (fn := f7) (c := bodyOf f7) at7 rfl).trans (E7 a0 a1 a2 m _)
theorem P7_0_1_a (a0 : AV) (a1 : AV) (a2 : AV) (m : Mem) (K1 : St → Option (AV × Mem)) : runOps cfg 7 (AP cfg) (AC cfg) none (opsOf (c1 (bodyOf f7))) [0, 1] ⟨[a0, a1, a2, .any, .any, .any, .any, .any, .any, .any, .any, .any, .any, .any, .any, .any, .any, .any, .any, .any, .any, .any, .any, .any, .any, .any, .any, .any, .any, .any, .any, .any, .any, .any, .any, .any, .any, .any, .any, .any, .any, .any, .any, .any, .any, .any, .any, .any, .any, .any, .any, .any, .any, .any, .any, .any, .any, .any, .any, .any, .any, .any, .any, .any, .any, .any, .any, .any, .any], m⟩ K1 =
  (boxA none (some 3) m a0).bind fun r1 =>
  K1 ⟨[a0, a1, a2, r1.1, .any, .any, (.bool false), .any, .any, .any, .any, .any, .any, .any, .any, .any, .any, .any, .any, .any, .any, .any, .any, .any, .any, .any, .any, .any, .any, .any, .any, .any, .any, .any, .any, .any, .any, .any, .any, .any, .any, .any, .any, .any, .any, .any, .any, .any, .any, .any, .any, .any, .any, .any, .any, .any, .any, .any, .any, .any, .any, .any, .any, .any, .any, .any, .any, .any, .any], r1.2⟩ := by kernel_rfl
theorem P7_0_1_eq (a0 : AV) (a1 : AV) (a2 : AV) (m : Mem) (K : Ex → St → Option (AV × Mem)) : P7_0_1 a0 a1 a2 m K =
  (boxA none (some 3) m a0).bind fun r1 =>
  P7_1_2 a0 a1 a2 r1 K :=
((P7_0_1_a a0 a1 a2 m (C7_0 K .normal))).trans (by kernel_rfl)
theorem P7_1_2_a (a0 : AV) (a1 : AV) (a2 : AV) (r1 : AV × Mem) (K1 : St → Option (AV × Mem)) : runOps cfg 7 (AP cfg) (AC cfg) none (opsOf (c1 (c2 (bodyOf f7)))) [0, 1, 2] ⟨[a0, a1, a2, r1.1, .any, .any, (.bool false), .any, .any, .any, .any, .any, .any, .any, .any, .any, .any, .any, .any, .any, .any, .any, .any, .any, .any, .any, .any, .any, .any, .any, .any, .any, .any, .any, .any, .any, .any, .any, .any, .any, .any, .any, .any, .any, .any, .any, .any, .any, .any, .any, .any, .any, .any, .any, .any, .any, .any, .any, .any, .any, .any, .any, .any, .any, .any, .any, .any, .any, .any], r1.2⟩ K1 =
  (loadA (some 3) r1.2 r1.1).bind fun v2 =>
  (pcall (AP cfg) none r1.2 43 [v2, (.int .i64 4)]).bind fun r3 =>
  (storeA (some 3) r3.2 r1.1 r3.1).bind fun m4 =>
  K1 ⟨[a0, a1, a2, r1.1, .any, .any, (.bool false), .any, .any, .any, .any, .any, .any, .any, .any, v2, r3.1, .any, .any, .any, .any, .any, .any, .any, .any, .any, .any, .any, .any, .any, .any, .any, .any, .any, .any, .any, .any, .any, .any, .any, .any, .any, .any, .any, .any, .any, .any, .any, .any, .any, .any, .any, .any, .any, .any, .any, .any, .any, .any, .any, .any, .any, .any, .any, .any, .any, .any, .any, .any], m4⟩ := by kernel_rfl
theorem P7_1_2_eq (a0 : AV) (a1 : AV) (a2 : AV) (r1 : AV × Mem) (K : Ex → St → Option (AV × Mem)) : P7_1_2 a0 a1 a2 r1 K =
  (loadA (some 3) r1.2 r1.1).bind fun v2 =>
  (pcall (AP cfg) none r1.2 43 [v2, (.int .i64 4)]).bind fun r3 =>
  (storeA (some 3) r3.2 r1.1 r3.1).bind fun m4 =>
  P7_2_3 a0 a1 a2 m4 r1 r3 v2 K :=
((P7_1_2_a a0 a1 a2 r1 (C7_1 K .normal))).trans (by kernel_rfl)
theorem P7_2_3_a (a0 : AV) (a1 : AV) (a2 : AV) (m4 : Mem) (r1 : AV × Mem) (r3 : AV × Mem) (v2 : AV) (K1 : St → Option (AV × Mem)) : runOps cfg 7 (AP cfg) (AC cfg) none (opsOf (c1 (c1 (c2 (c2 (bodyOf f7)))))) [0, 1, 2] ⟨[a0, a1, a2, r1.1, .any, .any, (.bool false), .any, .any, .any, .any, .any, .any, .any, .any, v2, r3.1, .any, .any, .any, .any, .any, .any, .any, .any, .any, .any, .any, .any, .any, .any, .any, .any, .any, .any, .any, .any, .any, .any, .any, .any, .any, .any, .any, .any, .any, .any, .any, .any, .any, .any, .any, .any, .any, .any, .any, .any, .any, .any, .any, .any, .any, .any, .any, .any, .any, .any, .any, .any], m4⟩ K1 =
  (loadA (some 3) m4 r1.1).bind fun v5 =>
  (pcall (AP cfg) none m4 21 [v5]).bind fun r6 =>
  (unA .not r6.1).bind fun v7 =>
  K1 ⟨[a0, a1, a2, r1.1, .any, .any, (.bool false), .any, .any, .any, .any, .any, .any, .any, .any, v2, r3.1, v5, r6.1, v7, .any, .any, .any, .any, .any, .any, .any, .any, .any, .any, .any, .any, .any, .any, .any, .any, .any, .any, .any, .any, .any, .any, .any, .any, .any, .any, .any, .any, .any, .any, .any, .any, .any, .any, .any, .any, .any, .any, .any, .any, .any, .any, .any, .any, .any, .any, .any, .any, .any], r6.2⟩ := by kernel_rfl
theorem P7_2_3_eq (a0 : AV) (a1 : AV) (a2 : AV) (m4 : Mem) (r1 : AV × Mem) (r3 : AV × Mem) (v2 : AV) (K : Ex → St → Option (AV × Mem)) : P7_2_3 a0 a1 a2 m4 r1 r3 v2 K =
  (loadA (some 3) m4 r1.1).bind fun v5 =>
  (pcall (AP cfg) none m4 21 [v5]).bind fun r6 =>
  (unA .not r6.1).bind fun v7 =>
  ifA v7 (
  P7_3_4 a0 a1 a2 r1 r3 r6 v2 v5 v7 K) (
  P7_4_5 a0 a1 a2 r1 r3 r6 v2 v5 v7 K) :=
((P7_2_3_a a0 a1 a2 m4 r1 r3 v2 (C7_2 K .normal))).trans (by kernel_rfl)
theorem P7_3_4_a (a0 : AV) (a1 : AV) (a2 : AV) (r1 : AV × Mem) (r3 : AV × Mem) (r6 : AV × Mem) (v2 : AV) (v5 : AV) (v7 : AV) (K1 : St → Option (AV × Mem)) : runOps cfg 7 (AP cfg) (AC cfg) none (opsOf (c1 (c1 (c2 (c1 (c2 (c2 (bodyOf f7)))))))) [0, 1] ⟨[a0, a1, a2, r1.1, .any, .any, (.bool false), .any, .any, .any, .any, .any, .any, .any, .any, v2, r3.1, v5, r6.1, v7, .any, .any, .any, .any, .any, .any, .any, .any, .any, .any, .any, .any, .any, .any, .any, .any, .any, .any, .any, .any, .any, .any, .any, .any, .any, .any, .any, .any, .any, .any, .any, .any, .any, .any, .any, .any, .any, .any, .any, .any, .any, .any, .any, .any, .any, .any, .any, .any, .any], r6.2⟩ K1 =
  (pcall (AP cfg) none r6.2 26 []).bind fun r8 =>
  K1 ⟨[a0, a1, a2, r1.1, .any, .any, r8.1, .any, .any, .any, .any, .any, .any, .any, .any, v2, r3.1, v5, r6.1, v7, r8.1, .any, .any, .any, .any, .any, .any, .any, .any, .any, .any, .any, .any, .any, .any, .any, .any, .any, .any, .any, .any, .any, .any, .any, .any, .any, .any, .any, .any, .any, .any, .any, .any, .any, .any, .any, .any, .any, .any, .any, .any, .any, .any, .any, .any, .any, .any, .any, .any], r8.2⟩ := by kernel_rfl
theorem P7_3_4_eq (a0 : AV) (a1 : AV) (a2 : AV) (r1 : AV × Mem) (r3 : AV × Mem) (r6 : AV × Mem) (v2 : AV) (v5 : AV) (v7 : AV) (K : Ex → St → Option (AV × Mem)) : P7_3_4 a0 a1 a2 r1 r3 r6 v2 v5 v7 K =
  (pcall (AP cfg) none r6.2 26 []).bind fun r8 =>
  K .ret ⟨[a0, a1, a2, r1.1, .any, .any, r8.1, .any, .any, .any, .any, .any, .any, .any, .any, v2, r3.1, v5, r6.1, v7, r8.1, .any, .any, .any, .any, .any, .any, .any, .any, .any, .any, .any, .any, .any, .any, .any, .any, .any, .any, .any, .any, .any, .any, .any, .any, .any, .any, .any, .any, .any, .any, .any, .any, .any, .any, .any, .any, .any, .any, .any, .any, .any, .any, .any, .any, .any, .any, .any, .any], r8.2⟩ :=
((P7_3_4_a a0 a1 a2 r1 r3 r6 v2 v5 v7 (C7_3 K .normal))).trans (by kernel_rfl)
theorem P7_4_5_a (a0 : AV) (a1 : AV) (a2 : AV) (r1 : AV × Mem) (r3 : AV × Mem) (r6 : AV × Mem) (v2 : AV) (v5 : AV) (v7 : AV) (K1 : St → Option (AV × Mem)) : runOps cfg 7 (AP cfg) (AC cfg) none (opsOf (c1 (c2 (c2 (c2 (bodyOf f7)))))) [0, 1, 2, 3, 4, 5] ⟨[a0, a1, a2, r1.1, .any, .any, (.bool false), .any, .any, .any, .any, .any, .any, .any, .any, v2, r3.1, v5, r6.1, v7, .any, .any, .any, .any, .any, .any, .any, .any, .any, .any, .any, .any, .any, .any, .any, .any, .any, .any, .any, .any, .any, .any, .any, .any, .any, .any, .any, .any, .any, .any, .any, .any, .any, .any, .any, .any, .any, .any, .any, .any, .any, .any, .any, .any, .any, .any, .any, .any, .any], r6.2⟩ K1 =
  (binA .other .rem a1 (.int .i64 9)).bind fun v8 =>
  (binA .other .add v8 (.int .i64 9)).bind fun v9 =>
  (binA .other .rem v9 (.int .i64 9)).bind fun v10 =>
  (binA .other .rem a2 (.int .i64 9)).bind fun v11 =>
  K1 ⟨[a0, a1, a2, r1.1, .any, .any, (.bool false), .any, .any, .any, .any, .any, .any, .any, .any, v2, r3.1, v5, r6.1, v7, .any, a1, v8, v9, v10, a2, v11, .any, .any, .any, .any, .any, .any, .any, .any, .any, .any, .any, .any, .any, .any, .any, .any, .any, .any, .any, .any, .any, .any, .any, .any, .any, .any, .any, .any, .any, .any, .any, .any, .any, .any, .any, .any, .any, .any, .any, .any, .any, .any], r6.2⟩ := by kernel_rfl
theorem P7_4_5_eq (a0 : AV) (a1 : AV) (a2 : AV) (r1 : AV × Mem) (r3 : AV × Mem) (r6 : AV × Mem) (v2 : AV) (v5 : AV) (v7 : AV) (K : Ex → St → Option (AV × Mem)) : P7_4_5 a0 a1 a2 r1 r3 r6 v2 v5 v7 K =
  (binA .other .rem a1 (.int .i64 9)).bind fun v8 =>
  (binA .other .add v8 (.int .i64 9)).bind fun v9 =>
  (binA .other .rem v9 (.int .i64 9)).bind fun v10 =>
  (binA .other .rem a2 (.int .i64 9)).bind fun v11 =>
  P7_4_6 a0 a1 a2 r1 r3 r6 v2 v5 v7 v8 v9 v10 v11 K :=
((runOps_app none _ [0, 1, 2, 3, 4, 5] [6, 7, 8, 9] _ _).trans (P7_4_5_a a0 a1 a2 r1 r3 r6 v2 v5 v7 (fun st => runOps cfg 7 (AP cfg) (AC cfg) none (opsOf (c1 (c2 (c2 (c2 (bodyOf f7)))))) [6, 7, 8, 9] st (C7_4 K .normal)))).trans (by kernel_rfl)
theorem P7_4_6_a (a0 : AV) (a1 : AV) (a2 : AV) (r1 : AV × Mem) (r3 : AV × Mem) (r6 : AV × Mem) (v2 : AV) (v5 : AV) (v7 : AV) (v8 : AV) (v9 : AV) (v10 : AV) (v11 : AV) (K1 : St → Option (AV × Mem)) : runOps cfg 7 (AP cfg) (AC cfg) none (opsOf (c1 (c2 (c2 (c2 (bodyOf f7)))))) [6, 7, 8, 9] ⟨[a0, a1, a2, r1.1, .any, .any, (.bool false), .any, .any, .any, .any, .any, .any, .any, .any, v2, r3.1, v5, r6.1, v7, .any, a1, v8, v9, v10, a2, v11, .any, .any, .any, .any, .any, .any, .any, .any, .any, .any, .any, .any, .any, .any, .any, .any, .any, .any, .any, .any, .any, .any, .any, .any, .any, .any, .any, .any, .any, .any, .any, .any, .any, .any, .any, .any, .any, .any, .any, .any, .any, .any], r6.2⟩ K1 =
  (binA .other .add v11 (.int .i64 9)).bind fun v12 =>
  (binA .other .rem v12 (.int .i64 9)).bind fun v13 =>
  K1 ⟨[a0, v10, v13, r1.1, .any, .any, (.bool false), .any, .any, .any, .any, .any, .any, .any, .any, v2, r3.1, v5, r6.1, v7, .any, a1, v8, v9, v10, a2, v11, v12, v13, .any, .any, .any, .any, .any, .any, .any, .any, .any, .any, .any, .any, .any, .any, .any, .any, .any, .any, .any, .any, .any, .any, .any, .any, .any, .any, .any, .any, .any, .any, .any, .any, .any, .any, .any, .any, .any, .any, .any, .any], r6.2⟩ := by kernel_rfl
theorem P7_4_6_eq (a0 : AV) (a1 : AV) (a2 : AV) (r1 : AV × Mem) (r3 : AV × Mem) (r6 : AV × Mem) (v2 : AV) (v5 : AV) (v7 : AV) (v8 : AV) (v9 : AV) (v10 : AV) (v11 : AV) (K : Ex → St → Option (AV × Mem)) : P7_4_6 a0 a1 a2 r1 r3 r6 v2 v5 v7 v8 v9 v10 v11 K =
  (binA .other .add v11 (.int .i64 9)).bind fun v12 =>
  (binA .other .rem v12 (.int .i64 9)).bind fun v13 =>
  P7_5_7 a0 a1 a2 r1 r3 r6 v2 v5 v7 v8 v9 v10 v11 v12 v13 K :=
((P7_4_6_a a0 a1 a2 r1 r3 r6 v2 v5 v7 v8 v9 v10 v11 (C7_4 K .normal))).trans (by kernel_rfl)
theorem P7_5_7_a (a0 : AV) (a1 : AV) (a2 : AV) (r1 : AV × Mem) (r3 : AV × Mem) (r6 : AV × Mem) (v2 : AV) (v5 : AV) (v7 : AV) (v8 : AV) (v9 : AV) (v10 : AV) (v11 : AV) (v12 : AV) (v13 : AV) (K1 : St → Option (AV × Mem)) : runOps cfg 7 (AP cfg) (AC cfg) none (opsOf (c1 (c2 (c2 (c2 (c2 (bodyOf f7))))))) [0, 1, 2, 3, 4, 5] ⟨[a0, v10, v13, r1.1, .any, .any, (.bool false), .any, .any, .any, .any, .any, .any, .any, .any, v2, r3.1, v5, r6.1, v7, .any, a1, v8, v9, v10, a2, v11, v12, v13, .any, .any, .any, .any, .any, .any, .any, .any, .any, .any, .any, .any, .any, .any, .any, .any, .any, .any, .any, .any, .any, .any, .any, .any, .any, .any, .any, .any, .any, .any, .any, .any, .any, .any, .any, .any, .any, .any, .any, .any], r6.2⟩ K1 =
  (loadA (some 3) r6.2 r1.1).bind fun v14 =>
  (pcall (AP cfg) none r6.2 30 [v14, v10]).bind fun r15 =>
  (extractA r15.1 0).bind fun v16 =>
  (extractA r15.1 1).bind fun v17 =>
  K1 ⟨[a0, v10, v13, r1.1, .any, .any, (.bool false), .any, .any, .any, .any, .any, .any, .any, .any, v2, r3.1, v5, r6.1, v7, .any, a1, v8, v9, v10, a2, v11, v12, v13, r15.1, v14, v10, r15.1, v16, v17, .any, .any, .any, .any, .any, .any, .any, .any, .any, .any, .any, .any, .any, .any, .any, .any, .any, .any, .any, .any, .any, .any, .any, .any, .any, .any, .any, .any, .any, .any, .any, .any, .any, .any], r15.2⟩ := by kernel_rfl
theorem P7_5_7_eq (a0 : AV) (a1 : AV) (a2 : AV) (r1 : AV × Mem) (r3 : AV × Mem) (r6 : AV × Mem) (v2 : AV) (v5 : AV) (v7 : AV) (v8 : AV) (v9 : AV) (v10 : AV) (v11 : AV) (v12 : AV) (v13 : AV) (K : Ex → St → Option (AV × Mem)) : P7_5_7 a0 a1 a2 r1 r3 r6 v2 v5 v7 v8 v9 v10 v11 v12 v13 K =
  (loadA (some 3) r6.2 r1.1).bind fun v14 =>
  (pcall (AP cfg) none r6.2 30 [v14, v10]).bind fun r15 =>
  (extractA r15.1 0).bind fun v16 =>
  (extractA r15.1 1).bind fun v17 =>
  P7_5_8 a0 a1 a2 r1 r3 r6 r15 v2 v5 v7 v8 v9 v10 v11 v12 v13 v14 v16 v17 K :=
((runOps_app none _ [0, 1, 2, 3, 4, 5] [6, 7, 8] _ _).trans (P7_5_7_a a0 a1 a2 r1 r3 r6 v2 v5 v7 v8 v9 v10 v11 v12 v13 (fun st => runOps cfg 7 (AP cfg) (AC cfg) none (opsOf (c1 (c2 (c2 (c2 (c2 (bodyOf f7))))))) [6, 7, 8] st (C7_5 K .normal)))).trans (by kernel_rfl)
theorem P7_5_8_a (a0 : AV) (a1 : AV) (a2 : AV) (r1 : AV × Mem) (r3 : AV × Mem) (r6 : AV × Mem) (r15 : AV × Mem) (v2 : AV) (v5 : AV) (v7 : AV) (v8 : AV) (v9 : AV) (v10 : AV) (v11 : AV) (v12 : AV) (v13 : AV) (v14 : AV) (v16 : AV) (v17 : AV) (K1 : St → Option (AV × Mem)) : runOps cfg 7 (AP cfg) (AC cfg) none (opsOf (c1 (c2 (c2 (c2 (c2 (bodyOf f7))))))) [6, 7, 8] ⟨[a0, v10, v13, r1.1, .any, .any, (.bool false), .any, .any, .any, .any, .any, .any, .any, .any, v2, r3.1, v5, r6.1, v7, .any, a1, v8, v9, v10, a2, v11, v12, v13, r15.1, v14, v10, r15.1, v16, v17, .any, .any, .any, .any, .any, .any, .any, .any, .any, .any, .any, .any, .any, .any, .any, .any, .any, .any, .any, .any, .any, .any, .any, .any, .any, .any, .any, .any, .any, .any, .any, .any, .any, .any], r15.2⟩ K1 =
  (storeA (some 3) (newAt none r15.2 (.obj true [(.int .i64 0), (.int .i64 0), (.lst none true .full [])])).2 (.ptr (newAt none r15.2 .resv).1 0) v16).bind fun m18 =>
  K1 ⟨[a0, v10, v13, r1.1, .any, .any, (.bool false), (.ptr (newAt none r15.2 .resv).1 0), v17, .any, .any, .any, .any, .any, .any, v2, r3.1, v5, r6.1, v7, .any, a1, v8, v9, v10, a2, v11, v12, v13, r15.1, v14, v10, r15.1, v16, v17, .any, .any, .any, .any, .any, .any, .any, .any, .any, .any, .any, .any, .any, .any, .any, .any, .any, .any, .any, .any, .any, .any, .any, .any, .any, .any, .any, .any, .any, .any, .any, .any, .any, .any], m18⟩ := by kernel_rfl
theorem P7_5_8_eq (a0 : AV) (a1 : AV) (a2 : AV) (r1 : AV × Mem) (r3 : AV × Mem) (r6 : AV × Mem) (r15 : AV × Mem) (v2 : AV) (v5 : AV) (v7 : AV) (v8 : AV) (v9 : AV) (v10 : AV) (v11 : AV) (v12 : AV) (v13 : AV) (v14 : AV) (v16 : AV) (v17 : AV) (K : Ex → St → Option (AV × Mem)) : P7_5_8 a0 a1 a2 r1 r3 r6 r15 v2 v5 v7 v8 v9 v10 v11 v12 v13 v14 v16 v17 K =
  (storeA (some 3) (newAt none r15.2 (.obj true [(.int .i64 0), (.int .i64 0), (.lst none true .full [])])).2 (.ptr (newAt none r15.2 .resv).1 0) v16).bind fun m18 =>
  P7_6_9 a0 a1 a2 m18 r1 r3 r6 r15 v2 v5 v7 v8 v9 v10 v11 v12 v13 v14 v16 v17 K :=
((P7_5_8_a a0 a1 a2 r1 r3 r6 r15 v2 v5 v7 v8 v9 v10 v11 v12 v13 v14 v16 v17 (C7_5 K .normal))).trans (by kernel_rfl)
theorem P7_6_9_a (a0 : AV) (a1 : AV) (a2 : AV) (m18 : Mem) (r1 : AV × Mem) (r3 : AV × Mem) (r6 : AV × Mem) (r15 : AV × Mem) (v2 : AV) (v5 : AV) (v7 : AV) (v8 : AV) (v9 : AV) (v10 : AV) (v11 : AV) (v12 : AV) (v13 : AV) (v14 : AV) (v16 : AV) (v17 : AV) (K1 : St → Option (AV × Mem)) : runOps cfg 7 (AP cfg) (AC cfg) none (opsOf (c1 (c2 (c2 (c2 (c2 (c2 (bodyOf f7)))))))) [0, 1, 2, 3, 4, 5] ⟨[a0, v10, v13, r1.1, .any, .any, (.bool false), (.ptr (newAt none r15.2 .resv).1 0), v17, .any, .any, .any, .any, .any, .any, v2, r3.1, v5, r6.1, v7, .any, a1, v8, v9, v10, a2, v11, v12, v13, r15.1, v14, v10, r15.1, v16, v17, .any, .any, .any, .any, .any, .any, .any, .any, .any, .any, .any, .any, .any, .any, .any, .any, .any, .any, .any, .any, .any, .any, .any, .any, .any, .any, .any, .any, .any, .any, .any, .any, .any, .any], m18⟩ K1 =
  (loadA (some 3) m18 r1.1).bind fun v19 =>
  (pcall (AP cfg) none m18 30 [v19, v13]).bind fun r20 =>
  (extractA r20.1 0).bind fun v21 =>
  (extractA r20.1 1).bind fun v22 =>
  K1 ⟨[a0, v10, v13, r1.1, .any, .any, (.bool false), (.ptr (newAt none r15.2 .resv).1 0), v17, .any, .any, .any, .any, .any, .any, v2, r3.1, v5, r6.1, v7, .any, a1, v8, v9, v10, a2, v11, v12, v13, r15.1, v14, v10, r15.1, v16, v17, r20.1, v19, v13, r20.1, v21, v22, .any, .any, .any, .any, .any, .any, .any, .any, .any, .any, .any, .any, .any, .any, .any, .any, .any, .any, .any, .any, .any, .any, .any, .any, .any, .any, .any, .any], r20.2⟩ := by kernel_rfl
theorem P7_6_9_eq (a0 : AV) (a1 : AV) (a2 : AV) (m18 : Mem) (r1 : AV × Mem) (r3 : AV × Mem) (r6 : AV × Mem) (r15 : AV × Mem) (v2 : AV) (v5 : AV) (v7 : AV) (v8 : AV) (v9 : AV) (v10 : AV) (v11 : AV) (v12 : AV) (v13 : AV) (v14 : AV) (v16 : AV) (v17 : AV) (K : Ex → St → Option (AV × Mem)) : P7_6_9 a0 a1 a2 m18 r1 r3 r6 r15 v2 v5 v7 v8 v9 v10 v11 v12 v13 v14 v16 v17 K =
  (loadA (some 3) m18 r1.1).bind fun v19 =>
  (pcall (AP cfg) none m18 30 [v19, v13]).bind fun r20 =>
  (extractA r20.1 0).bind fun v21 =>
  (extractA r20.1 1).bind fun v22 =>
  P7_6_10 a0 a1 a2 r1 r3 r6 r15 r20 v2 v5 v7 v8 v9 v10 v11 v12 v13 v14 v16 v17 v19 v21 v22 K :=
((runOps_app none _ [0, 1, 2, 3, 4, 5] [6, 7, 8] _ _).trans (P7_6_9_a a0 a1 a2 m18 r1 r3 r6 r15 v2 v5 v7 v8 v9 v10 v11 v12 v13 v14 v16 v17 (fun st => runOps cfg 7 (AP cfg) (AC cfg) none (opsOf (c1 (c2 (c2 (c2 (c2 (c2 (bodyOf f7)))))))) [6, 7, 8] st (C7_6 K .normal)))).trans (by kernel_rfl)
theorem P7_6_10_a (a0 : AV) (a1 : AV) (a2 : AV) (r1 : AV × Mem) (r3 : AV × Mem) (r6 : AV × Mem) (r15 : AV × Mem) (r20 : AV × Mem) (v2 : AV) (v5 : AV) (v7 : AV) (v8 : AV) (v9 : AV) (v10 : AV) (v11 : AV) (v12 : AV) (v13 : AV) (v14 : AV) (v16 : AV) (v17 : AV) (v19 : AV) (v21 : AV) (v22 : AV) (K1 : St → Option (AV × Mem)) : runOps cfg 7 (AP cfg) (AC cfg) none (opsOf (c1 (c2 (c2 (c2 (c2 (c2 (bodyOf f7)))))))) [6, 7, 8] ⟨[a0, v10, v13, r1.1, .any, .any, (.bool false), (.ptr (newAt none r15.2 .resv).1 0), v17, .any, .any, .any, .any, .any, .any, v2, r3.1, v5, r6.1, v7, .any, a1, v8, v9, v10, a2, v11, v12, v13, r15.1, v14, v10, r15.1, v16, v17, r20.1, v19, v13, r20.1, v21, v22, .any, .any, .any, .any, .any, .any, .any, .any, .any, .any, .any, .any, .any, .any, .any, .any, .any, .any, .any, .any, .any, .any, .any, .any, .any, .any, .any, .any], r20.2⟩ K1 =
  (storeA (some 3) (newAt none r20.2 (.obj true [(.int .i64 0), (.int .i64 0), (.lst none true .full [])])).2 (.ptr (newAt none r20.2 .resv).1 0) v21).bind fun m23 =>
  K1 ⟨[a0, v10, v13, r1.1, .any, .any, (.bool false), (.ptr (newAt none r15.2 .resv).1 0), v17, (.ptr (newAt none r20.2 .resv).1 0), v22, .any, .any, .any, .any, v2, r3.1, v5, r6.1, v7, .any, a1, v8, v9, v10, a2, v11, v12, v13, r15.1, v14, v10, r15.1, v16, v17, r20.1, v19, v13, r20.1, v21, v22, .any, .any, .any, .any, .any, .any, .any, .any, .any, .any, .any, .any, .any, .any, .any, .any, .any, .any, .any, .any, .any, .any, .any, .any, .any, .any, .any, .any], m23⟩ := by kernel_rfl
theorem P7_6_10_eq (a0 : AV) (a1 : AV) (a2 : AV) (r1 : AV × Mem) (r3 : AV × Mem) (r6 : AV × Mem) (r15 : AV × Mem) (r20 : AV × Mem) (v2 : AV) (v5 : AV) (v7 : AV) (v8 : AV) (v9 : AV) (v10 : AV) (v11 : AV) (v12 : AV) (v13 : AV) (v14 : AV) (v16 : AV) (v17 : AV) (v19 : AV) (v21 : AV) (v22 : AV) (K : Ex → St → Option (AV × Mem)) : P7_6_10 a0 a1 a2 r1 r3 r6 r15 r20 v2 v5 v7 v8 v9 v10 v11 v12 v13 v14 v16 v17 v19 v21 v22 K =
  (storeA (some 3) (newAt none r20.2 (.obj true [(.int .i64 0), (.int .i64 0), (.lst none true .full [])])).2 (.ptr (newAt none r20.2 .resv).1 0) v21).bind fun m23 =>
  P7_7_11 a0 a1 a2 m23 r1 r3 r6 r15 r20 v2 v5 v7 v8 v9 v10 v11 v12 v13 v14 v16 v17 v19 v21 v22 K :=
((P7_6_10_a a0 a1 a2 r1 r3 r6 r15 r20 v2 v5 v7 v8 v9 v10 v11 v12 v13 v14 v16 v17 v19 v21 v22 (C7_6 K .normal))).trans (by kernel_rfl)
theorem P7_7_11_a (a0 : AV) (a1 : AV) (a2 : AV) (m23 : Mem) (r1 : AV × Mem) (r3 : AV × Mem) (r6 : AV × Mem) (r15 : AV × Mem) (r20 : AV × Mem) (v2 : AV) (v5 : AV) (v7 : AV) (v8 : AV) (v9 : AV) (v10 : AV) (v11 : AV) (v12 : AV) (v13 : AV) (v14 : AV) (v16 : AV) (v17 : AV) (v19 : AV) (v21 : AV) (v22 : AV) (K1 : St → Option (AV × Mem)) : runOps cfg 7 (AP cfg) (AC cfg) none (opsOf (c1 (c2 (c2 (c2 (c2 (c2 (c2 (bodyOf f7))))))))) [0, 1, 2, 3, 4, 5] ⟨[a0, v10, v13, r1.1, .any, .any, (.bool false), (.ptr (newAt none r15.2 .resv).1 0), v17, (.ptr (newAt none r20.2 .resv).1 0), v22, .any, .any, .any, .any, v2, r3.1, v5, r6.1, v7, .any, a1, v8, v9, v10, a2, v11, v12, v13, r15.1, v14, v10, r15.1, v16, v17, r20.1, v19, v13, r20.1, v21, v22, .any, .any, .any, .any, .any, .any, .any, .any, .any, .any, .any, .any, .any, .any, .any, .any, .any, .any, .any, .any, .any, .any, .any, .any, .any, .any, .any, .any], m23⟩ K1 =
  (loadA (some 3) m23 r1.1).bind fun v24 =>
  (binA .other .add v10 v13).bind fun v25 =>
  (pcall (AP cfg) none m23 30 [v24, v25]).bind fun r26 =>
  K1 ⟨[a0, v10, v13, r1.1, .any, .any, (.bool false), (.ptr (newAt none r15.2 .resv).1 0), v17, (.ptr (newAt none r20.2 .resv).1 0), v22, .any, .any, .any, .any, v2, r3.1, v5, r6.1, v7, .any, a1, v8, v9, v10, a2, v11, v12, v13, r15.1, v14, v10, r15.1, v16, v17, r20.1, v19, v13, r20.1, v21, v22, r26.1, v24, v10, v13, v25, r26.1, .any, .any, .any, .any, .any, .any, .any, .any, .any, .any, .any, .any, .any, .any, .any, .any, .any, .any, .any, .any, .any, .any], r26.2⟩ := by kernel_rfl
theorem P7_7_11_eq (a0 : AV) (a1 : AV) (a2 : AV) (m23 : Mem) (r1 : AV × Mem) (r3 : AV × Mem) (r6 : AV × Mem) (r15 : AV × Mem) (r20 : AV × Mem) (v2 : AV) (v5 : AV) (v7 : AV) (v8 : AV) (v9 : AV) (v10 : AV) (v11 : AV) (v12 : AV) (v13 : AV) (v14 : AV) (v16 : AV) (v17 : AV) (v19 : AV) (v21 : AV) (v22 : AV) (K : Ex → St → Option (AV × Mem)) : P7_7_11 a0 a1 a2 m23 r1 r3 r6 r15 r20 v2 v5 v7 v8 v9 v10 v11 v12 v13 v14 v16 v17 v19 v21 v22 K =
  (loadA (some 3) m23 r1.1).bind fun v24 =>
  (binA .other .add v10 v13).bind fun v25 =>
  (pcall (AP cfg) none m23 30 [v24, v25]).bind fun r26 =>
  P7_7_12 a0 a1 a2 r1 r3 r6 r15 r20 r26 v2 v5 v7 v8 v9 v10 v11 v12 v13 v14 v16 v17 v19 v21 v22 v24 v25 K :=
((runOps_app none _ [0, 1, 2, 3, 4, 5] [6, 7, 8, 9, 10] _ _).trans (P7_7_11_a a0 a1 a2 m23 r1 r3 r6 r15 r20 v2 v5 v7 v8 v9 v10 v11 v12 v13 v14 v16 v17 v19 v21 v22 (fun st => runOps cfg 7 (AP cfg) (AC cfg) none (opsOf (c1 (c2 (c2 (c2 (c2 (c2 (c2 (bodyOf f7))))))))) [6, 7, 8, 9, 10] st (C7_7 K .normal)))).trans (by kernel_rfl)
theorem P7_7_12_a (a0 : AV) (a1 : AV) (a2 : AV) (r1 : AV × Mem) (r3 : AV × Mem) (r6 : AV × Mem) (r15 : AV × Mem) (r20 : AV × Mem) (r26 : AV × Mem) (v2 : AV) (v5 : AV) (v7 : AV) (v8 : AV) (v9 : AV) (v10 : AV) (v11 : AV) (v12 : AV) (v13 : AV) (v14 : AV) (v16 : AV) (v17 : AV) (v19 : AV) (v21 : AV) (v22 : AV) (v24 : AV) (v25 : AV) (K1 : St → Option (AV × Mem)) : runOps cfg 7 (AP cfg) (AC cfg) none (opsOf (c1 (c2 (c2 (c2 (c2 (c2 (c2 (bodyOf f7))))))))) [6, 7, 8, 9, 10] ⟨[a0, v10, v13, r1.1, .any, .any, (.bool false), (.ptr (newAt none r15.2 .resv).1 0), v17, (.ptr (newAt none r20.2 .resv).1 0), v22, .any, .any, .any, .any, v2, r3.1, v5, r6.1, v7, .any, a1, v8, v9, v10, a2, v11, v12, v13, r15.1, v14, v10, r15.1, v16, v17, r20.1, v19, v13, r20.1, v21, v22, r26.1, v24, v10, v13, v25, r26.1, .any, .any, .any, .any, .any, .any, .any, .any, .any, .any, .any, .any, .any, .any, .any, .any, .any, .any, .any, .any, .any, .any], r26.2⟩ K1 =
  (extractA r26.1 0).bind fun v27 =>
  (extractA r26.1 1).bind fun v28 =>
  (storeA (some 3) (newAt none r26.2 (.obj true [(.int .i64 0), (.int .i64 0), (.lst none true .full [])])).2 (.ptr (newAt none r26.2 .resv).1 0) v27).bind fun m29 =>
  K1 ⟨[a0, v10, v13, r1.1, .any, .any, (.bool false), (.ptr (newAt none r15.2 .resv).1 0), v17, (.ptr (newAt none r20.2 .resv).1 0), v22, (.ptr (newAt none r26.2 .resv).1 0), v28, .any, .any, v2, r3.1, v5, r6.1, v7, .any, a1, v8, v9, v10, a2, v11, v12, v13, r15.1, v14, v10, r15.1, v16, v17, r20.1, v19, v13, r20.1, v21, v22, r26.1, v24, v10, v13, v25, r26.1, v27, v28, .any, .any, .any, .any, .any, .any, .any, .any, .any, .any, .any, .any, .any, .any, .any, .any, .any, .any, .any, .any], m29⟩ := by kernel_rfl
theorem P7_7_12_eq (a0 : AV) (a1 : AV) (a2 : AV) (r1 : AV × Mem) (r3 : AV × Mem) (r6 : AV × Mem) (r15 : AV × Mem) (r20 : AV × Mem) (r26 : AV × Mem) (v2 : AV) (v5 : AV) (v7 : AV) (v8 : AV) (v9 : AV) (v10 : AV) (v11 : AV) (v12 : AV) (v13 : AV) (v14 : AV) (v16 : AV) (v17 : AV) (v19 : AV) (v21 : AV) (v22 : AV) (v24 : AV) (v25 : AV) (K : Ex → St → Option (AV × Mem)) : P7_7_12 a0 a1 a2 r1 r3 r6 r15 r20 r26 v2 v5 v7 v8 v9 v10 v11 v12 v13 v14 v16 v17 v19 v21 v22 v24 v25 K =
  (extractA r26.1 0).bind fun v27 =>
  (extractA r26.1 1).bind fun v28 =>
  (storeA (some 3) (newAt none r26.2 (.obj true [(.int .i64 0), (.int .i64 0), (.lst none true .full [])])).2 (.ptr (newAt none r26.2 .resv).1 0) v27).bind fun m29 =>
  P7_8_13 a0 a1 a2 m29 r1 r3 r6 r15 r20 r26 v2 v5 v7 v8 v9 v10 v11 v12 v13 v14 v16 v17 v19 v21 v22 v24 v25 v27 v28 K :=
((P7_7_12_a a0 a1 a2 r1 r3 r6 r15 r20 r26 v2 v5 v7 v8 v9 v10 v11 v12 v13 v14 v16 v17 v19 v21 v22 v24 v25 (C7_7 K .normal))).trans (by kernel_rfl)
theorem P7_8_13_a (a0 : AV) (a1 : AV) (a2 : AV) (m29 : Mem) (r1 : AV × Mem) (r3 : AV × Mem) (r6 : AV × Mem) (r15 : AV × Mem) (r20 : AV × Mem) (r26 : AV × Mem) (v2 : AV) (v5 : AV) (v7 : AV) (v8 : AV) (v9 : AV) (v10 : AV) (v11 : AV) (v12 : AV) (v13 : AV) (v14 : AV) (v16 : AV) (v17 : AV) (v19 : AV) (v21 : AV) (v22 : AV) (v24 : AV) (v25 : AV) (v27 : AV) (v28 : AV) (K1 : St → Option (AV × Mem)) : runOps cfg 7 (AP cfg) (AC cfg) none (opsOf (c1 (c2 (c2 (c2 (c2 (c2 (c2 (c2 (bodyOf f7)))))))))) [0, 1, 2, 3, 4, 5] ⟨[a0, v10, v13, r1.1, .any, .any, (.bool false), (.ptr (newAt none r15.2 .resv).1 0), v17, (.ptr (newAt none r20.2 .resv).1 0), v22, (.ptr (newAt none r26.2 .resv).1 0), v28, .any, .any, v2, r3.1, v5, r6.1, v7, .any, a1, v8, v9, v10, a2, v11, v12, v13, r15.1, v14, v10, r15.1, v16, v17, r20.1, v19, v13, r20.1, v21, v22, r26.1, v24, v10, v13, v25, r26.1, v27, v28, .any, .any, .any, .any, .any, .any, .any, .any, .any, .any, .any, .any, .any, .any, .any, .any, .any, .any, .any, .any], m29⟩ K1 =
  (loadA (some 3) m29 (.ptr (newAt none r15.2 .resv).1 0)).bind fun v30 =>
  (loadA (some 3) m29 (.ptr (newAt none r20.2 .resv).1 0)).bind fun v31 =>
  (pcall (AP cfg) none m29 41 [v30, v31]).bind fun r32 =>
  (extractA r32.1 0).bind fun v33 =>
  (extractA r32.1 1).bind fun v34 =>
  K1 ⟨[a0, v10, v13, r1.1, .any, .any, (.bool false), (.ptr (newAt none r15.2 .resv).1 0), v17, (.ptr (newAt none r20.2 .resv).1 0), v22, (.ptr (newAt none r26.2 .resv).1 0), v28, .any, .any, v2, r3.1, v5, r6.1, v7, .any, a1, v8, v9, v10, a2, v11, v12, v13, r15.1, v14, v10, r15.1, v16, v17, r20.1, v19, v13, r20.1, v21, v22, r26.1, v24, v10, v13, v25, r26.1, v27, v28, r32.1, v30, v31, r32.1, v33, v34, .any, .any, .any, .any, .any, .any, .any, .any, .any, .any, .any, .any, .any, .any], r32.2⟩ := by kernel_rfl
theorem P7_8_13_eq (a0 : AV) (a1 : AV) (a2 : AV) (m29 : Mem) (r1 : AV × Mem) (r3 : AV × Mem) (r6 : AV × Mem) (r15 : AV × Mem) (r20 : AV × Mem) (r26 : AV × Mem) (v2 : AV) (v5 : AV) (v7 : AV) (v8 : AV) (v9 : AV) (v10 : AV) (v11 : AV) (v12 : AV) (v13 : AV) (v14 : AV) (v16 : AV) (v17 : AV) (v19 : AV) (v21 : AV) (v22 : AV) (v24 : AV) (v25 : AV) (v27 : AV) (v28 : AV) (K : Ex → St → Option (AV × Mem)) : P7_8_13 a0 a1 a2 m29 r1 r3 r6 r15 r20 r26 v2 v5 v7 v8 v9 v10 v11 v12 v13 v14 v16 v17 v19 v21 v22 v24 v25 v27 v28 K =
  (loadA (some 3) m29 (.ptr (newAt none r15.2 .resv).1 0)).bind fun v30 =>
  (loadA (some 3) m29 (.ptr (newAt none r20.2 .resv).1 0)).bind fun v31 =>
  (pcall (AP cfg) none m29 41 [v30, v31]).bind fun r32 =>
  (extractA r32.1 0).bind fun v33 =>
  (extractA r32.1 1).bind fun v34 =>
  P7_8_14 a0 a1 a2 r1 r3 r6 r15 r20 r26 r32 v2 v5 v7 v8 v9 v10 v11 v12 v13 v14 v16 v17 v19 v21 v22 v24 v25 v27 v28 v30 v31 v33 v34 K :=
((runOps_app none _ [0, 1, 2, 3, 4, 5] [6, 7, 8] _ _).trans (P7_8_13_a a0 a1 a2 m29 r1 r3 r6 r15 r20 r26 v2 v5 v7 v8 v9 v10 v11 v12 v13 v14 v16 v17 v19 v21 v22 v24 v25 v27 v28 (fun st => runOps cfg 7 (AP cfg) (AC cfg) none (opsOf (c1 (c2 (c2 (c2 (c2 (c2 (c2 (c2 (bodyOf f7)))))))))) [6, 7, 8] st (C7_8 K .normal)))).trans (by kernel_rfl)
theorem P7_8_14_a (a0 : AV) (a1 : AV) (a2 : AV) (r1 : AV × Mem) (r3 : AV × Mem) (r6 : AV × Mem) (r15 : AV × Mem) (r20 : AV × Mem) (r26 : AV × Mem) (r32 : AV × Mem) (v2 : AV) (v5 : AV) (v7 : AV) (v8 : AV) (v9 : AV) (v10 : AV) (v11 : AV) (v12 : AV) (v13 : AV) (v14 : AV) (v16 : AV) (v17 : AV) (v19 : AV) (v21 : AV) (v22 : AV) (v24 : AV) (v25 : AV) (v27 : AV) (v28 : AV) (v30 : AV) (v31 : AV) (v33 : AV) (v34 : AV) (K1 : St → Option (AV × Mem)) : runOps cfg 7 (AP cfg) (AC cfg) none (opsOf (c1 (c2 (c2 (c2 (c2 (c2 (c2 (c2 (bodyOf f7)))))))))) [6, 7, 8] ⟨[a0, v10, v13, r1.1, .any, .any, (.bool false), (.ptr (newAt none r15.2 .resv).1 0), v17, (.ptr (newAt none r20.2 .resv).1 0), v22, (.ptr (newAt none r26.2 .resv).1 0), v28, .any, .any, v2, r3.1, v5, r6.1, v7, .any, a1, v8, v9, v10, a2, v11, v12, v13, r15.1, v14, v10, r15.1, v16, v17, r20.1, v19, v13, r20.1, v21, v22, r26.1, v24, v10, v13, v25, r26.1, v27, v28, r32.1, v30, v31, r32.1, v33, v34, .any, .any, .any, .any, .any, .any, .any, .any, .any, .any, .any, .any, .any, .any], r32.2⟩ K1 =
  (storeA (some 3) (newAt none r32.2 (.obj true [(.int .i64 0), (.int .i64 0), (.lst none true .full [])])).2 (.ptr (newAt none r32.2 .resv).1 0) v33).bind fun m35 =>
  K1 ⟨[a0, v10, v13, r1.1, .any, .any, (.bool false), (.ptr (newAt none r15.2 .resv).1 0), v17, (.ptr (newAt none r20.2 .resv).1 0), v22, (.ptr (newAt none r26.2 .resv).1 0), v28, (.ptr (newAt none r32.2 .resv).1 0), v34, v2, r3.1, v5, r6.1, v7, .any, a1, v8, v9, v10, a2, v11, v12, v13, r15.1, v14, v10, r15.1, v16, v17, r20.1, v19, v13, r20.1, v21, v22, r26.1, v24, v10, v13, v25, r26.1, v27, v28, r32.1, v30, v31, r32.1, v33, v34, .any, .any, .any, .any, .any, .any, .any, .any, .any, .any, .any, .any, .any, .any], m35⟩ := by kernel_rfl
theorem P7_8_14_eq (a0 : AV) (a1 : AV) (a2 : AV) (r1 : AV × Mem) (r3 : AV × Mem) (r6 : AV × Mem) (r15 : AV × Mem) (r20 : AV × Mem) (r26 : AV × Mem) (r32 : AV × Mem) (v2 : AV) (v5 : AV) (v7 : AV) (v8 : AV) (v9 : AV) (v10 : AV) (v11 : AV) (v12 : AV) (v13 : AV) (v14 : AV) (v16 : AV) (v17 : AV) (v19 : AV) (v21 : AV) (v22 : AV) (v24 : AV) (v25 : AV) (v27 : AV) (v28 : AV) (v30 : AV) (v31 : AV) (v33 : AV) (v34 : AV) (K : Ex → St → Option (AV × Mem)) : P7_8_14 a0 a1 a2 r1 r3 r6 r15 r20 r26 r32 v2 v5 v7 v8 v9 v10 v11 v12 v13 v14 v16 v17 v19 v21 v22 v24 v25 v27 v28 v30 v31 v33 v34 K =
  (storeA (some 3) (newAt none r32.2 (.obj true [(.int .i64 0), (.int .i64 0), (.lst none true .full [])])).2 (.ptr (newAt none r32.2 .resv).1 0) v33).bind fun m35 =>
  P7_9_15 a0 a1 a2 m35 r1 r3 r6 r15 r20 r26 r32 v2 v5 v7 v8 v9 v10 v11 v12 v13 v14 v16 v17 v19 v21 v22 v24 v25 v27 v28 v30 v31 v33 v34 K :=
((P7_8_14_a a0 a1 a2 r1 r3 r6 r15 r20 r26 r32 v2 v5 v7 v8 v9 v10 v11 v12 v13 v14 v16 v17 v19 v21 v22 v24 v25 v27 v28 v30 v31 v33 v34 (C7_8 K .normal))).trans (by kernel_rfl)
theorem P7_9_15_a (a0 : AV) (a1 : AV) (a2 : AV) (m35 : Mem) (r1 : AV × Mem) (r3 : AV × Mem) (r6 : AV × Mem) (r15 : AV × Mem) (r20 : AV × Mem) (r26 : AV × Mem) (r32 : AV × Mem) (v2 : AV) (v5 : AV) (v7 : AV) (v8 : AV) (v9 : AV) (v10 : AV) (v11 : AV) (v12 : AV) (v13 : AV) (v14 : AV) (v16 : AV) (v17 : AV) (v19 : AV) (v21 : AV) (v22 : AV) (v24 : AV) (v25 : AV) (v27 : AV) (v28 : AV) (v30 : AV) (v31 : AV) (v33 : AV) (v34 : AV) (K1 : St → Option (AV × Mem)) : runOps cfg 7 (AP cfg) (AC cfg) none (opsOf (c1 (c2 (c2 (c2 (c2 (c2 (c2 (c2 (c2 (bodyOf f7))))))))))) [0, 1, 2, 3, 4, 5] ⟨[a0, v10, v13, r1.1, .any, .any, (.bool false), (.ptr (newAt none r15.2 .resv).1 0), v17, (.ptr (newAt none r20.2 .resv).1 0), v22, (.ptr (newAt none r26.2 .resv).1 0), v28, (.ptr (newAt none r32.2 .resv).1 0), v34, v2, r3.1, v5, r6.1, v7, .any, a1, v8, v9, v10, a2, v11, v12, v13, r15.1, v14, v10, r15.1, v16, v17, r20.1, v19, v13, r20.1, v21, v22, r26.1, v24, v10, v13, v25, r26.1, v27, v28, r32.1, v30, v31, r32.1, v33, v34, .any, .any, .any, .any, .any, .any, .any, .any, .any, .any, .any, .any, .any, .any], m35⟩ K1 =
  (binA .other .eql v28 (.int .i64 0)).bind fun v36 =>
  ifA v36 (
  (binA .other .eql v34 (.int .i64 0)).bind fun v37 =>
  K1 ⟨[a0, v10, v13, r1.1, .any, .any, (.bool false), (.ptr (newAt none r15.2 .resv).1 0), v17, (.ptr (newAt none r20.2 .resv).1 0), v22, (.ptr (newAt none r26.2 .resv).1 0), v28, (.ptr (newAt none r32.2 .resv).1 0), v34, v2, r3.1, v5, r6.1, v7, .any, a1, v8, v9, v10, a2, v11, v12, v13, r15.1, v14, v10, r15.1, v16, v17, r20.1, v19, v13, r20.1, v21, v22, r26.1, v24, v10, v13, v25, r26.1, v27, v28, r32.1, v30, v31, r32.1, v33, v34, v28, v36, (.bool true), v34, v37, v37, .any, .any, .any, .any, .any, .any, .any, .any], m35⟩) (
  K1 ⟨[a0, v10, v13, r1.1, .any, .any, (.bool false), (.ptr (newAt none r15.2 .resv).1 0), v17, (.ptr (newAt none r20.2 .resv).1 0), v22, (.ptr (newAt none r26.2 .resv).1 0), v28, (.ptr (newAt none r32.2 .resv).1 0), v34, v2, r3.1, v5, r6.1, v7, .any, a1, v8, v9, v10, a2, v11, v12, v13, r15.1, v14, v10, r15.1, v16, v17, r20.1, v19, v13, r20.1, v21, v22, r26.1, v24, v10, v13, v25, r26.1, v27, v28, r32.1, v30, v31, r32.1, v33, v34, v28, v36, (.bool false), (.tup []), (.tup []), (.bool false), .any, .any, .any, .any, .any, .any, .any, .any], m35⟩) := by kernel_rfl
theorem P7_9_15_eq (a0 : AV) (a1 : AV) (a2 : AV) (m35 : Mem) (r1 : AV × Mem) (r3 : AV × Mem) (r6 : AV × Mem) (r15 : AV × Mem) (r20 : AV × Mem) (r26 : AV × Mem) (r32 : AV × Mem) (v2 : AV) (v5 : AV) (v7 : AV) (v8 : AV) (v9 : AV) (v10 : AV) (v11 : AV) (v12 : AV) (v13 : AV) (v14 : AV) (v16 : AV) (v17 : AV) (v19 : AV) (v21 : AV) (v22 : AV) (v24 : AV) (v25 : AV) (v27 : AV) (v28 : AV) (v30 : AV) (v31 : AV) (v33 : AV) (v34 : AV) (K : Ex → St → Option (AV × Mem)) : P7_9_15 a0 a1 a2 m35 r1 r3 r6 r15 r20 r26 r32 v2 v5 v7 v8 v9 v10 v11 v12 v13 v14 v16 v17 v19 v21 v22 v24 v25 v27 v28 v30 v31 v33 v34 K =
  (binA .other .eql v28 (.int .i64 0)).bind fun v36 =>
  ifA v36 (
  (binA .other .eql v34 (.int .i64 0)).bind fun v37 =>
  P7_9_16 a0 a1 a2 m35 r1 r3 r6 r15 r20 r26 r32 v2 v5 v7 v8 v9 v10 v11 v12 v13 v14 v16 v17 v19 v21 v22 v24 v25 v27 v28 v30 v31 v33 v34 v36 v37 K) (
  P7_9_17 a0 a1 a2 m35 r1 r3 r6 r15 r20 r26 r32 v2 v5 v7 v8 v9 v10 v11 v12 v13 v14 v16 v17 v19 v21 v22 v24 v25 v27 v28 v30 v31 v33 v34 v36 K) :=
((runOps_app none _ [0, 1, 2, 3, 4, 5] [6, 7, 8, 9, 10, 11, 12, 13, 14] _ _).trans (P7_9_15_a a0 a1 a2 m35 r1 r3 r6 r15 r20 r26 r32 v2 v5 v7 v8 v9 v10 v11 v12 v13 v14 v16 v17 v19 v21 v22 v24 v25 v27 v28 v30 v31 v33 v34 (fun st => runOps cfg 7 (AP cfg) (AC cfg) none (opsOf (c1 (c2 (c2 (c2 (c2 (c2 (c2 (c2 (c2 (bodyOf f7))))))))))) [6, 7, 8, 9, 10, 11, 12, 13, 14] st (C7_9 K .normal)))).trans (by kernel_rfl)
theorem P7_9_16_a (a0 : AV) (a1 : AV) (a2 : AV) (m35 : Mem) (r1 : AV × Mem) (r3 : AV × Mem) (r6 : AV × Mem) (r15 : AV × Mem) (r20 : AV × Mem) (r26 : AV × Mem) (r32 : AV × Mem) (v2 : AV) (v5 : AV) (v7 : AV) (v8 : AV) (v9 : AV) (v10 : AV) (v11 : AV) (v12 : AV) (v13 : AV) (v14 : AV) (v16 : AV) (v17 : AV) (v19 : AV) (v21 : AV) (v22 : AV) (v24 : AV) (v25 : AV) (v27 : AV) (v28 : AV) (v30 : AV) (v31 : AV) (v33 : AV) (v34 : AV) (v36 : AV) (v37 : AV) (K1 : St → Option (AV × Mem)) : runOps cfg 7 (AP cfg) (AC cfg) none (opsOf (c1 (c2 (c2 (c2 (c2 (c2 (c2 (c2 (c2 (bodyOf f7))))))))))) [6, 7, 8, 9, 10, 11] ⟨[a0, v10, v13, r1.1, .any, .any, (.bool false), (.ptr (newAt none r15.2 .resv).1 0), v17, (.ptr (newAt none r20.2 .resv).1 0), v22, (.ptr (newAt none r26.2 .resv).1 0), v28, (.ptr (newAt none r32.2 .resv).1 0), v34, v2, r3.1, v5, r6.1, v7, .any, a1, v8, v9, v10, a2, v11, v12, v13, r15.1, v14, v10, r15.1, v16, v17, r20.1, v19, v13, r20.1, v21, v22, r26.1, v24, v10, v13, v25, r26.1, v27, v28, r32.1, v30, v31, r32.1, v33, v34, v28, v36, (.bool true), v34, v37, v37, .any, .any, .any, .any, .any, .any, .any, .any], m35⟩ K1 =
  ifA v37 (
  (loadA (some 3) m35 (.ptr (newAt none r26.2 .resv).1 0)).bind fun v38 =>
  (loadA (some 3) m35 (.ptr (newAt none r32.2 .resv).1 0)).bind fun v39 =>
  (pcall (AP cfg) none m35 39 [v38, v39]).bind fun r40 =>
  K1 ⟨[a0, v10, v13, r1.1, .any, .any, (.bool false), (.ptr (newAt none r15.2 .resv).1 0), v17, (.ptr (newAt none r20.2 .resv).1 0), v22, (.ptr (newAt none r26.2 .resv).1 0), v28, (.ptr (newAt none r32.2 .resv).1 0), v34, v2, r3.1, v5, r6.1, v7, .any, a1, v8, v9, v10, a2, v11, v12, v13, r15.1, v14, v10, r15.1, v16, v17, r20.1, v19, v13, r20.1, v21, v22, r26.1, v24, v10, v13, v25, r26.1, v27, v28, r32.1, v30, v31, r32.1, v33, v34, v28, v36, (.bool true), v34, v37, v37, (.bool true), v38, v39, r40.1, r40.1, r40.1, .any, .any], r40.2⟩) (
  K1 ⟨[a0, v10, v13, r1.1, .any, .any, (.bool false), (.ptr (newAt none r15.2 .resv).1 0), v17, (.ptr (newAt none r20.2 .resv).1 0), v22, (.ptr (newAt none r26.2 .resv).1 0), v28, (.ptr (newAt none r32.2 .resv).1 0), v34, v2, r3.1, v5, r6.1, v7, .any, a1, v8, v9, v10, a2, v11, v12, v13, r15.1, v14, v10, r15.1, v16, v17, r20.1, v19, v13, r20.1, v21, v22, r26.1, v24, v10, v13, v25, r26.1, v27, v28, r32.1, v30, v31, r32.1, v33, v34, v28, v36, (.bool true), v34, v37, v37, (.bool false), (.tup []), (.tup []), (.tup []), (.bool false), (.bool false), .any, .any], m35⟩) := by kernel_rfl
theorem P7_9_16_eq (a0 : AV) (a1 : AV) (a2 : AV) (m35 : Mem) (r1 : AV × Mem) (r3 : AV × Mem) (r6 : AV × Mem) (r15 : AV × Mem) (r20 : AV × Mem) (r26 : AV × Mem) (r32 : AV × Mem) (v2 : AV) (v5 : AV) (v7 : AV) (v8 : AV) (v9 : AV) (v10 : AV) (v11 : AV) (v12 : AV) (v13 : AV) (v14 : AV) (v16 : AV) (v17 : AV) (v19 : AV) (v21 : AV) (v22 : AV) (v24 : AV) (v25 : AV) (v27 : AV) (v28 : AV) (v30 : AV) (v31 : AV) (v33 : AV) (v34 : AV) (v36 : AV) (v37 : AV) (K : Ex → St → Option (AV × Mem)) : P7_9_16 a0 a1 a2 m35 r1 r3 r6 r15 r20 r26 r32 v2 v5 v7 v8 v9 v10 v11 v12 v13 v14 v16 v17 v19 v21 v22 v24 v25 v27 v28 v30 v31 v33 v34 v36 v37 K =
  ifA v37 (
  (loadA (some 3) m35 (.ptr (newAt none r26.2 .resv).1 0)).bind fun v38 =>
  (loadA (some 3) m35 (.ptr (newAt none r32.2 .resv).1 0)).bind fun v39 =>
  (pcall (AP cfg) none m35 39 [v38, v39]).bind fun r40 =>
  P7_9_18 a0 a1 a2 r1 r3 r6 r15 r20 r26 r32 r40 v2 v5 v7 v8 v9 v10 v11 v12 v13 v14 v16 v17 v19 v21 v22 v24 v25 v27 v28 v30 v31 v33 v34 v36 v37 v38 v39 K) (
  P7_9_19 a0 a1 a2 m35 r1 r3 r6 r15 r20 r26 r32 v2 v5 v7 v8 v9 v10 v11 v12 v13 v14 v16 v17 v19 v21 v22 v24 v25 v27 v28 v30 v31 v33 v34 v36 v37 K) :=
((runOps_app none _ [6, 7, 8, 9, 10, 11] [12, 13, 14] _ _).trans (P7_9_16_a a0 a1 a2 m35 r1 r3 r6 r15 r20 r26 r32 v2 v5 v7 v8 v9 v10 v11 v12 v13 v14 v16 v17 v19 v21 v22 v24 v25 v27 v28 v30 v31 v33 v34 v36 v37 (fun st => runOps cfg 7 (AP cfg) (AC cfg) none (opsOf (c1 (c2 (c2 (c2 (c2 (c2 (c2 (c2 (c2 (bodyOf f7))))))))))) [12, 13, 14] st (C7_9 K .normal)))).trans (by kernel_rfl)
theorem P7_9_18_a (a0 : AV) (a1 : AV) (a2 : AV) (r1 : AV × Mem) (r3 : AV × Mem) (r6 : AV × Mem) (r15 : AV × Mem) (r20 : AV × Mem) (r26 : AV × Mem) (r32 : AV × Mem) (r40 : AV × Mem) (v2 : AV) (v5 : AV) (v7 : AV) (v8 : AV) (v9 : AV) (v10 : AV) (v11 : AV) (v12 : AV) (v13 : AV) (v14 : AV) (v16 : AV) (v17 : AV) (v19 : AV) (v21 : AV) (v22 : AV) (v24 : AV) (v25 : AV) (v27 : AV) (v28 : AV) (v30 : AV) (v31 : AV) (v33 : AV) (v34 : AV) (v36 : AV) (v37 : AV) (v38 : AV) (v39 : AV) (K1 : St → Option (AV × Mem)) : runOps cfg 7 (AP cfg) (AC cfg) none (opsOf (c1 (c2 (c2 (c2 (c2 (c2 (c2 (c2 (c2 (bodyOf f7))))))))))) [12, 13, 14] ⟨[a0, v10, v13, r1.1, .any, .any, (.bool false), (.ptr (newAt none r15.2 .resv).1 0), v17, (.ptr (newAt none r20.2 .resv).1 0), v22, (.ptr (newAt none r26.2 .resv).1 0), v28, (.ptr (newAt none r32.2 .resv).1 0), v34, v2, r3.1, v5, r6.1, v7, .any, a1, v8, v9, v10, a2, v11, v12, v13, r15.1, v14, v10, r15.1, v16, v17, r20.1, v19, v13, r20.1, v21, v22, r26.1, v24, v10, v13, v25, r26.1, v27, v28, r32.1, v30, v31, r32.1, v33, v34, v28, v36, (.bool true), v34, v37, v37, (.bool true), v38, v39, r40.1, r40.1, r40.1, .any, .any], r40.2⟩ K1 =
  ifA r40.1 (
  (pcall (AP cfg) none r40.2 26 []).bind fun r41 =>
  K1 ⟨[a0, v10, v13, r1.1, .any, .any, r41.1, (.ptr (newAt none r15.2 .resv).1 0), v17, (.ptr (newAt none r20.2 .resv).1 0), v22, (.ptr (newAt none r26.2 .resv).1 0), v28, (.ptr (newAt none r32.2 .resv).1 0), v34, v2, r3.1, v5, r6.1, v7, .any, a1, v8, v9, v10, a2, v11, v12, v13, r15.1, v14, v10, r15.1, v16, v17, r20.1, v19, v13, r20.1, v21, v22, r26.1, v24, v10, v13, v25, r26.1, v27, v28, r32.1, v30, v31, r32.1, v33, v34, v28, v36, (.bool true), v34, v37, v37, (.bool true), v38, v39, r40.1, r40.1, (.bool true), r41.1, r41.1], r41.2⟩) (
  K1 ⟨[a0, v10, v13, r1.1, .any, .any, (.bool false), (.ptr (newAt none r15.2 .resv).1 0), v17, (.ptr (newAt none r20.2 .resv).1 0), v22, (.ptr (newAt none r26.2 .resv).1 0), v28, (.ptr (newAt none r32.2 .resv).1 0), v34, v2, r3.1, v5, r6.1, v7, .any, a1, v8, v9, v10, a2, v11, v12, v13, r15.1, v14, v10, r15.1, v16, v17, r20.1, v19, v13, r20.1, v21, v22, r26.1, v24, v10, v13, v25, r26.1, v27, v28, r32.1, v30, v31, r32.1, v33, v34, v28, v36, (.bool true), v34, v37, v37, (.bool true), v38, v39, r40.1, r40.1, (.bool false), (.tup []), (.bool false)], r40.2⟩) := by kernel_rfl
theorem P7_9_18_eq (a0 : AV) (a1 : AV) (a2 : AV) (r1 : AV × Mem) (r3 : AV × Mem) (r6 : AV × Mem) (r15 : AV × Mem) (r20 : AV × Mem) (r26 : AV × Mem) (r32 : AV × Mem) (r40 : AV × Mem) (v2 : AV) (v5 : AV) (v7 : AV) (v8 : AV) (v9 : AV) (v10 : AV) (v11 : AV) (v12 : AV) (v13 : AV) (v14 : AV) (v16 : AV) (v17 : AV) (v19 : AV) (v21 : AV) (v22 : AV) (v24 : AV) (v25 : AV) (v27 : AV) (v28 : AV) (v30 : AV) (v31 : AV) (v33 : AV) (v34 : AV) (v36 : AV) (v37 : AV) (v38 : AV) (v39 : AV) (K : Ex → St → Option (AV × Mem)) : P7_9_18 a0 a1 a2 r1 r3 r6 r15 r20 r26 r32 r40 v2 v5 v7 v8 v9 v10 v11 v12 v13 v14 v16 v17 v19 v21 v22 v24 v25 v27 v28 v30 v31 v33 v34 v36 v37 v38 v39 K =
  ifA r40.1 (
  (pcall (AP cfg) none r40.2 26 []).bind fun r41 =>
  K .ret ⟨[a0, v10, v13, r1.1, .any, .any, r41.1, (.ptr (newAt none r15.2 .resv).1 0), v17, (.ptr (newAt none r20.2 .resv).1 0), v22, (.ptr (newAt none r26.2 .resv).1 0), v28, (.ptr (newAt none r32.2 .resv).1 0), v34, v2, r3.1, v5, r6.1, v7, .any, a1, v8, v9, v10, a2, v11, v12, v13, r15.1, v14, v10, r15.1, v16, v17, r20.1, v19, v13, r20.1, v21, v22, r26.1, v24, v10, v13, v25, r26.1, v27, v28, r32.1, v30, v31, r32.1, v33, v34, v28, v36, (.bool true), v34, v37, v37, (.bool true), v38, v39, r40.1, r40.1, (.bool true), r41.1, r41.1], r41.2⟩) (
  K .ret ⟨[a0, v10, v13, r1.1, .any, .any, (.bool false), (.ptr (newAt none r15.2 .resv).1 0), v17, (.ptr (newAt none r20.2 .resv).1 0), v22, (.ptr (newAt none r26.2 .resv).1 0), v28, (.ptr (newAt none r32.2 .resv).1 0), v34, v2, r3.1, v5, r6.1, v7, .any, a1, v8, v9, v10, a2, v11, v12, v13, r15.1, v14, v10, r15.1, v16, v17, r20.1, v19, v13, r20.1, v21, v22, r26.1, v24, v10, v13, v25, r26.1, v27, v28, r32.1, v30, v31, r32.1, v33, v34, v28, v36, (.bool true), v34, v37, v37, (.bool true), v38, v39, r40.1, r40.1, (.bool false), (.tup []), (.bool false)], r40.2⟩) :=
((P7_9_18_a a0 a1 a2 r1 r3 r6 r15 r20 r26 r32 r40 v2 v5 v7 v8 v9 v10 v11 v12 v13 v14 v16 v17 v19 v21 v22 v24 v25 v27 v28 v30 v31 v33 v34 v36 v37 v38 v39 (C7_9 K .normal))).trans (by kernel_rfl)
end Go.Ab

/- The law of the product of powers in values. -/
set_option linter.unusedVariables false
set_option linter.unusedSimpArgs false
set_option maxRecDepth 100000
namespace Go.Ab
open Go.Proofs.Try

theorem i_rem9 (a : Int) : binA .other .rem (.int .i64 a) (.int .i64 9) = some (.int .i64 (a.tmod 9)) := rfl
theorem Res.pm {K n N : Nat} {x z : MV} {e : Int} (h : Res z e 0 n n (powQ x n N) K) : PM K n (ent x n) N z :=
  ⟨h.fr, h.ok, h.rows rfl, h.cols rfl, h.len rfl, fun i j hi hj => by
    obtain ⟨e1, e2⟩ := row_col (i := i) hj
    show qAt z (i * n + j) = _
    rw [h.q rfl _ (cell_lt60 hi hj), powQ, e1, e2]⟩
theorem tmod9 (n : Int) : -9 < n.tmod 9 ∧ n.tmod 9 < 9 := by
  have h1 := Int.tmod_lt_of_pos n (b := 9) (by decide)
  have h2 := Int.tmod_lt_of_pos (-n) (b := 9) (by decide)
  rw [Int.neg_tmod] at h2
  omega
theorem exp9 (n : Int) : ∃ N : Nat, N ≤ 8 ∧ binA .other .rem (.int .i64 n) (.int .i64 9) = some (.int .i64 (n.tmod 9)) ∧ binA .other .add (.int .i64 (n.tmod 9)) (.int .i64 9) = some (.int .i64 (n.tmod 9 + 9)) ∧ binA .other .rem (.int .i64 (n.tmod 9 + 9)) (.int .i64 9) = some (.int .i64 (N : Int)) := by
  obtain ⟨h1, h2⟩ := tmod9 n
  obtain ⟨h3, h4⟩ := tmod9 (n.tmod 9 + 9)
  have h5 : 0 ≤ (n.tmod 9 + 9).tmod 9 := Int.tmod_nonneg _ (by omega)
  obtain ⟨N, hN⟩ := Int.eq_ofNat_of_zero_le h5
  refine ⟨N, by omega, i_rem9 n, by rw [binA_add, wrap_i64 (by omega) (by omega)], ?_⟩
  rw [← hN]
  exact i_rem9 _
theorem MatrixPowers_law {a : MV} (ha : XM a.fr) (n k : Int) : ∃ m', AC cfg 7 [a.av, .int .i64 n, .int .i64 k] [] = some (.bool true, m') := by
  obtain ⟨x, x1, x2, x3, x4, x5⟩ := V43 (n := 4) (by omega) ha (mv_frfr' a)
  have ix : IsM 3 x := ⟨x2, x4, x3⟩
  have e21 := V21 x2 (k := 3) (by omega) (by omega)
  have pre : AC cfg 7 [a.av, .int .i64 n, .int .i64 k] [] = AC cfg 7 [a.av, .int .i64 n, .int .i64 k] [] := rfl
  conv at pre => rhs; rw [T7, P7_0_1_eq, box_mv, Option.bind_some]
  simp only [List.length_nil, List.length_cons, List.nil_append, List.cons_append, Nat.zero_add, Nat.reduceAdd, new_m, new_r] at pre
  rw [P7_1_2_eq] at pre
  simp only [List.length_nil, List.length_cons, List.nil_append, List.cons_append, Nat.zero_add, Nat.reduceAdd, new_m, new_r] at pre
  rw [mldA (x := a) rfl, Option.bind_some, pcMI, show ((4 : Int)) = ((4 : Nat) : Int) from rfl, x1, Option.map_some, Option.bind_some, mstA (x := a) rfl, Option.bind_some] at pre
  simp only [List.set_cons_succ, List.set_cons_zero] at pre
  rw [P7_2_3_eq, mldA (x := x) rfl, Option.bind_some, pcM, x4, e21, Option.map_some, Option.bind_some, not_b, Option.bind_some] at pre
  cases hb : rightM x with
  | false =>
    rw [hb, Bool.not_false, ifA_true, P7_3_4_eq, P26', Option.bind_some] at pre
    exact ⟨_, pre⟩
  | true =>
    rw [hb, Bool.not_true, ifA_false] at pre
    obtain ⟨hsq, _⟩ := x5 hb
    obtain ⟨r, c, hr, hc, r6, c6, hlx⟩ := right_len hb
    have hrn : x.rows.toNat = r := by rw [hr]; rfl
    obtain ⟨N, hN, n1, n2, n3⟩ := exp9 n
    obtain ⟨M, hM, m1, m2, m3⟩ := exp9 k
    have pe : ∀ E : Nat, E ≤ 16 → powE x (E : Int) = 0 := by
      intro E hE
      unfold powE
      rw [if_pos hb, if_pos hsq, if_neg (by omega), if_neg (by omega)]
    obtain ⟨u, e, u1, u2, u3⟩ := V30 (K := 2 ^ 30) (n := (N : Int)) ix (by omega) (by omega) (by omega) (powB_of ix (by omega) (by omega))
    obtain ⟨v, f, v1, v2, v3⟩ := V30 (K := 2 ^ 30) (n := (M : Int)) ix (by omega) (by omega) (by omega) (powB_of ix (by omega) (by omega))
    obtain ⟨w, g, w1, w2, w3⟩ := V30 (K := 2 ^ 30) (n := ((N + M : Nat) : Int)) ix (by omega) (by omega) (by omega) (powB_of ix (by omega) (by omega))
    have hu := u3 (pe N (by omega))
    have hv := v3 (pe M (by omega))
    rw [pe N (by omega), hrn] at u2
    rw [pe M (by omega), hrn] at v2
    rw [pe (N + M) (by omega), hrn] at w2
    have pu : PM (2 ^ 30) r (ent x r) N u := Res.pm u2
    have pv : PM (2 ^ 30) r (ent x r) M v := Res.pm v2
    have pw : PM (2 ^ 30) r (ent x r) (N + M) w := Res.pm w2
    have hP : PowB (2 ^ 30) r (ent x r) (N + M) := powB_gen x2 (by omega) r6 (by omega) (by omega)
    have hur : u.rows.toNat = r := by rw [pu.rows]; rfl
    have huc : u.cols.toNat = r := by rw [pu.cols]; rfl
    have hvc : v.cols.toNat = r := by rw [pv.cols]; rfl
    have hme : mulE u v = 0 := by
      unfold mulE
      rw [if_pos ⟨hu, hv⟩, if_pos (by rw [pu.cols, pv.rows])]
    obtain ⟨z, h, z1, z2, _⟩ := V41g (K := 2 ^ 30) (pu.isM r6) (pv.isM r6) (by omega) (by omega) (by omega) (fun _ => by
      rw [hur, huc, hvc]
      exact pu.dot_bd pv hP (Nat.le_refl _))
    rw [hme, hur, huc, hvc] at z2
    have pz : PM (2 ^ 30) r (ent x r) (N + M) z := pu.res pv ⟨z2.fr, z2.ok, rfl, fun h => absurd rfl h, fun _ => z2.rows rfl, fun _ => z2.cols rfl, fun _ => z2.len rfl, fun _ => z2.q rfl⟩
    have hsame : sameM w z = true := (pw.toRes.same pz.toRes).2
    have e39 := V39 pw.ok pz.ok (by omega) (by omega) (by rw [pw.len]; have := Nat.mul_le_mul r6 r6; omega)
    have hg : g = 0 := w2.e
    have hh : h = 0 := z2.e
    have addN : binA .other .add (.int .i64 (N : Int)) (.int .i64 (M : Int)) = some (.int .i64 ((N + M : Nat) : Int)) := i_add (by omega)
    rw [P7_4_5_eq, n1, Option.bind_some, n2, Option.bind_some, n3, Option.bind_some, m1, Option.bind_some, P7_4_6_eq, m2, Option.bind_some, m3, Option.bind_some] at pre
    rw [P7_5_7_eq] at pre
    simp only [List.length_nil, List.length_cons, List.nil_append, List.cons_append, Nat.zero_add, Nat.reduceAdd, new_m, new_r] at pre
    rw [mldA (x := x) rfl, Option.bind_some, pcMI, x4, u1, Option.map_some, Option.bind_some, ext0', Option.bind_some, ext1', Option.bind_some, P7_5_8_eq] at pre
    simp only [List.length_nil, List.length_cons, List.nil_append, List.cons_append, Nat.zero_add, Nat.reduceAdd, new_m, new_r] at pre
    rw [mstA (x := zM) rfl, Option.bind_some] at pre
    simp only [List.set_cons_succ, List.set_cons_zero] at pre
    rw [P7_6_9_eq] at pre
    simp only [List.length_nil, List.length_cons, List.nil_append, List.cons_append, Nat.zero_add, Nat.reduceAdd, new_m, new_r] at pre
    rw [mldA (x := x) rfl, Option.bind_some, pcMI, x4, v1, Option.map_some, Option.bind_some, ext0', Option.bind_some, ext1', Option.bind_some, P7_6_10_eq] at pre
    simp only [List.length_nil, List.length_cons, List.nil_append, List.cons_append, Nat.zero_add, Nat.reduceAdd, new_m, new_r] at pre
    rw [mstA (x := zM) rfl, Option.bind_some] at pre
    simp only [List.set_cons_succ, List.set_cons_zero] at pre
    rw [P7_7_11_eq] at pre
    simp only [List.length_nil, List.length_cons, List.nil_append, List.cons_append, Nat.zero_add, Nat.reduceAdd, new_m, new_r] at pre
    rw [mldA (x := x) rfl, Option.bind_some, addN, Option.bind_some, pcMI, x4, w1, Option.map_some, Option.bind_some, P7_7_12_eq, ext0', Option.bind_some, ext1', Option.bind_some] at pre
    simp only [List.length_nil, List.length_cons, List.nil_append, List.cons_append, Nat.zero_add, Nat.reduceAdd, new_m, new_r] at pre
    rw [mstA (x := zM) rfl, Option.bind_some] at pre
    simp only [List.set_cons_succ, List.set_cons_zero] at pre
    rw [P7_8_13_eq] at pre
    simp only [List.length_nil, List.length_cons, List.nil_append, List.cons_append, Nat.zero_add, Nat.reduceAdd, new_m, new_r] at pre
    rw [mldA (x := u) rfl, Option.bind_some, mldA (x := v) rfl, Option.bind_some, pcMM, pu.fr, pv.fr, z1, Option.map_some, Option.bind_some, ext0', Option.bind_some, ext1', Option.bind_some, P7_8_14_eq] at pre
    simp only [List.length_nil, List.length_cons, List.nil_append, List.cons_append, Nat.zero_add, Nat.reduceAdd, new_m, new_r] at pre
    rw [mstA (x := zM) rfl, Option.bind_some] at pre
    simp only [List.set_cons_succ, List.set_cons_zero] at pre
    rw [P7_9_15_eq, hg, hh, binA_eql, Option.bind_some, decide_eq_true rfl, ifA_true, Option.bind_some, P7_9_16_eq, ifA_true] at pre
    simp only [List.length_nil, List.length_cons, List.nil_append, List.cons_append, Nat.zero_add, Nat.reduceAdd, new_m, new_r] at pre
    rw [mldA (x := w) rfl, Option.bind_some, mldA (x := z) rfl, Option.bind_some, pcMM, pw.fr, pz.fr, e39, hsame, Option.map_some, Option.bind_some, P7_9_18_eq, ifA_true, P26', Option.bind_some] at pre
    exact ⟨_, pre⟩
end Go.Ab

/- Arguments that can be read as data, as values of the interpreter. -/
set_option linter.unusedVariables false
set_option linter.unusedSimpArgs false
set_option maxRecDepth 100000
namespace Go.Ab
open Go.Proofs Go.Proofs.Try Go.RowKit

def g0 : G := ⟨fun _ _ => False, fun _ => False, fun _ => none, fun _ _ => none⟩
theorem get_nil (nm : Nat) : Mem.get ([] : Mem) nm = none := by simp [Mem.get]
theorem memR0 (w : World) : MemR w.heap.size w g0 [] where
  obj nm bx cs h := by rw [get_nil] at h; cases h
  tok nm n sz h := by rw [get_nil] at h; cases h
  resv nm h := ⟨rfl, fun _ => rfl⟩
  fresh nm h := ⟨rfl, fun _ => rfl⟩
  inj nm nm' b h := by unfold blk at h; rw [get_nil] at h; cases h
  wrLt b off h := h.elim
  boxLt b h := h.elim
theorem cfgOk : CfgOk cfg where
  name g fn h := by
    have hall : (Try.prog.funcs.toList.all fun fn => !(fn.name == "runtime.NumGoroutine")) = true := by kernel_rfl
    have hm : fn ∈ Try.prog.funcs.toList := by
      rw [Array.mem_toList_iff]
      exact Array.mem_of_getElem? h
    have := List.all_eq_true.1 hall fn hm
    simpa using this
  lib g h hh := by cases hh
/-- A law that answers true in values answers true on the machine, and turns nothing that was there. -/
theorem law_calls {f : Nat} {args : List AV} {vs : Array Value} {W : World} (h : ∃ m', AC cfg f args [] = some (.bool true, m')) (hl : args.length = vs.size) (hv : ∀ j, j < args.length → V W g0 (args.getD j .any) (vs.getD j undef)) :
    Calls Try.prog f vs W fun e W' => e = .returned (.bool true) ∧ Below W.heap.size W W' := by
  obtain ⟨m', hm'⟩ := h
  refine ((AC_sound cfgOk f args [] _ _ hm').1 W.heap.size W g0 vs (memR0 W) (Nat.le_refl _) hl hv).mono ?_
  rintro e W' ⟨v', g', rfl, hs, _, hv'⟩
  cases hv'
  exact ⟨rfl, hs.below⟩

/-! ### Types -/
theorem u3 : Try.prog.underlying 3 = some (.int .i64) := by kernel_rfl
theorem u4 : Try.prog.underlying 4 = some .bool := by kernel_rfl
theorem u116 : Try.prog.underlying 116 = some (.int .u32) := by kernel_rfl
theorem u41 : Try.prog.underlying 41 = some (.slice 116) := by kernel_rfl
theorem u22 : Try.prog.underlying 22 = some (.slice 43) := by kernel_rfl
theorem c3 : Try.prog.cellsOf 3 = 1 := by kernel_rfl
theorem c4 : Try.prog.cellsOf 4 = 1 := by kernel_rfl
theorem c22 : Try.prog.cellsOf 22 = 1 := by kernel_rfl
theorem c24 : Try.prog.cellsOf 24 = 3 := by kernel_rfl
theorem c41 : Try.prog.cellsOf 41 = 1 := by kernel_rfl
theorem c43 : Try.prog.cellsOf 43 = 3 := by kernel_rfl
theorem c116 : Try.prog.cellsOf 116 = 1 := by kernel_rfl
noncomputable def fieldsOf (t : Nat) : Array Field := match Try.prog.underlying t with
  | some (.struct fs) => fs
  | _ => #[]
theorem u43 : Try.prog.underlying 43 = some (.struct (fieldsOf 43)) := by kernel_rfl
theorem u24 : Try.prog.underlying 24 = some (.struct (fieldsOf 24)) := by kernel_rfl
theorem f43 : (fieldsOf 43).toList.map (fun f => (f.type, f.offset)) = [(4, 0), (41, 1), (41, 2)] := by kernel_rfl
theorem f24 : (fieldsOf 24).toList.map (fun f => (f.type, f.offset)) = [(3, 0), (3, 1), (22, 2)] := by kernel_rfl

/-! ### Cells -/
theorem cells_get {w : World} {a : Addr} {n : Nat} {cs : List Value} (h : w.cells? 0 a n = some cs) : cs.length = n ∧ ∀ j, j < n → w.cell? (a.add j) = cs[j]? := by
  unfold World.cells? at h
  rw [if_pos (Nat.zero_le _)] at h
  refine ⟨by simpa using mapM_some_length h, fun j hj => mapM_some_get h j j (by simp [hj])⟩
theorem cell_spot {w : World} {a : Addr} {u : Value} (h : w.cell? a = some u) : a.spot = none := World.cell?_spot h
theorem add_mk {a : Addr} (h : a.spot = none) (j : Nat) : a.add j = ⟨a.block, a.off + j, none⟩ := by
  obtain ⟨b, o, s⟩ := a
  subst h
  exact Addr_add b o j
theorem three {α : Type} {cs : List α} (h : cs.length = 3) : ∃ a b c, cs = [a, b, c] := by
  match cs, h with
  | [a, b, c], _ => exact ⟨a, b, c, rfl⟩

section
variable {H : Type} {enc : TypeId × Value → H} {W : World} {fuel : Nat} {cs : List Value} {x : DataW H × List MemPlace}

theorem field_read {t : Nat} (ht : Try.prog.underlying t = some (.struct (fieldsOf t))) (h : DataW.trod enc Try.prog W 0 (fun _ => true) true fuel t cs = some x) {t' off i : Nat} (hi : ((fieldsOf t).toList.map (fun f => (f.type, f.offset)))[i]? = some (t', off)) :
    ∃ n y, DataW.trod enc Try.prog W 0 (fun _ => true) true n t' ((cs.drop off).take (Try.prog.cellsOf t')) = some y := by
  obtain ⟨xs, n, rfl, _, _, hl, hf⟩ := DataW.trod_struct ht h
  rw [List.getElem?_map, Option.map_eq_some_iff] at hi
  obtain ⟨f, h1, h2⟩ := hi
  obtain ⟨rfl, rfl⟩ := Prod.mk.inj h2
  have hfi : (fieldsOf t)[i]? = some f := by rw [← h1, Array.getElem?_toList]
  have := hf i f hfi
  have hlt : i < xs.length := by
    rw [hl]
    obtain ⟨h, _⟩ := Array.getElem?_eq_some_iff.1 hfi
    exact h
  rw [List.getElem?_eq_getElem hlt] at this
  exact ⟨n, _, this⟩

theorem u32_at {a : Addr} {i : Nat} (h : (W.cells? 0 (a.add (i * Try.prog.cellsOf 116)) (Try.prog.cellsOf 116)).bind (DataW.trod enc Try.prog W 0 (fun _ => true) true fuel 116) = some x) : ∃ d : Nat, d < 4294967296 ∧ W.cell? (a.add i) = some (.int .u32 d) := by
  rw [c116, Nat.mul_one] at h
  obtain ⟨cs, h1, h2⟩ := Option.bind_eq_some_iff.1 h
  obtain ⟨n, rfl, _, hw⟩ := DataW.trod_int u116 h2
  have h3 := (cells_get h1).2 0 (by omega)
  have hw2 : 0 ≤ n ∧ n ≤ 4294967295 := by
    simp only [Lit.wf, Bool.and_eq_true, decide_eq_true_eq] at hw
    exact hw
  refine ⟨n.toNat, by omega, ?_⟩
  rw [Int.toNat_of_nonneg hw2.1]
  exact h3

/-- A number. -/
theorem nat_read (h : DataW.trod enc Try.prog W 0 (fun _ => true) true fuel 41 cs = some x) : ∃ v, ∃ y : NV, cs = [v] ∧ V W g0 y.av v ∧ XN y ∧ y.o = .no := by
  rcases DataW.trod_slice u41 h with ⟨rfl, _⟩ | ⟨a, len, cap, elems, rest, n, _, rfl, _, _, hl, hm, he, hel, hre, _⟩
  · exact ⟨_, ⟨true, .no, []⟩, rfl, .nils none .no (.inr rfl), ⟨fun i => by simp, fun _ => rfl⟩, rfl⟩
  · obtain ⟨hrl, hre⟩ := hre rfl
    have cell : ∀ i, ∃ d : Nat, i < cap → d < 4294967296 ∧ W.cell? (a.add i) = some (.int .u32 d) := by
      intro i
      by_cases hi : i < cap
      · by_cases hi2 : i < len
        · have h1 := hel i hi2
          rw [List.getElem?_eq_getElem (by omega)] at h1
          obtain ⟨d, hd⟩ := u32_at h1
          exact ⟨d, fun _ => hd⟩
        · have h1 := hre (i - len) (by omega)
          rw [List.getElem?_eq_getElem (by omega), show len + (i - len) = i by omega] at h1
          obtain ⟨d, hd⟩ := u32_at h1
          exact ⟨d, fun _ => hd⟩
      · exact ⟨0, fun h => absurd h hi⟩
    obtain ⟨f, hf⟩ := Classical.axiomOfChoice cell
    have hsp : cap = 0 ∨ a.spot = none := by
      by_cases h0 : cap = 0
      · exact .inl h0
      · exact .inr (cell_spot (hf 0 (by omega)).2)
    have hfl : flat (((List.range len).map f).map dg) = ((List.range len).map f).map dg := by
      generalize (List.range len).map f = l
      induction l with
      | nil => rfl
      | cons d l ih =>
        show (dg d).cells ++ flat (l.map dg) = _
        rw [ih]; rfl
    have hlen : (((List.range len).map f).map dg).length = len := by simp
    refine ⟨_, ⟨false, .no, (List.range len).map f⟩, rfl, ?_, ⟨fun i => ?_, fun h => by cases h⟩, rfl⟩
    · have hV := V.lst (w := W) (g := g0) none .no (((List.range len).map f).map dg) a cap (fun j => .int .u32 (f j)) hsp (by rw [hlen]; exact hl) hm
        (fun e he => by
          obtain ⟨d, _, rfl⟩ := List.mem_map.1 he
          exact ⟨rfl, rfl⟩)
        (fun j hj => by
          rw [hfl, hlen] at hj
          refine ⟨?_, fun h => h, fun h => h⟩
          have := (hf j (by omega)).2
          rw [add_mk (hsp.resolve_left (by omega))] at this
          exact this)
        (fun j hj => by
          rw [hfl, hlen] at hj
          rw [hfl, List.getD_eq_getElem?_getD, List.getElem?_map, List.getElem?_map, List.getElem?_range hj]
          exact .int _ _) trivial
      rw [hlen] at hV
      exact hV
    · show ((List.range len).map f).getD i 0 < _
      rw [List.getD_eq_getElem?_getD, List.getElem?_map]
      by_cases hi : i < len
      · rw [List.getElem?_range hi]
        exact (hf i (by omega)).1
      · rw [List.getElem?_eq_none (by simp; omega)]
        exact (by omega : 0 < 4294967296)

/-- A fraction. -/
theorem ratio_read (h : DataW.trod enc Try.prog W 0 (fun _ => true) true fuel 43 cs = some x) : ∃ c0 c1 c2, ∃ r : RV, cs = [c0, c1, c2] ∧ V W g0 (.bool r.neg) c0 ∧ V W g0 r.num.av c1 ∧ V W g0 r.den.av c2 ∧ XR r ∧ r.num.o = .no ∧ r.den.o = .no := by
  have hlen : cs.length = 3 := by
    obtain ⟨_, _, _, _, h1, _⟩ := DataW.trod_struct u43 h
    rw [h1, c43]
  obtain ⟨c0, c1, c2, rfl⟩ := three hlen
  obtain ⟨n0, y0, h0⟩ := field_read u43 h (t' := 4) (off := 0) (i := 0) (by rw [f43]; rfl)
  obtain ⟨n1, y1, h1⟩ := field_read u43 h (t' := 41) (off := 1) (i := 1) (by rw [f43]; rfl)
  obtain ⟨n2, y2, h2⟩ := field_read u43 h (t' := 41) (off := 2) (i := 2) (by rw [f43]; rfl)
  rw [c4] at h0
  rw [c41] at h1 h2
  obtain ⟨b, e0, _⟩ := DataW.trod_bool u4 h0
  obtain ⟨v1, z1, e1, q1, q2, q3⟩ := nat_read h1
  obtain ⟨v2, z2, e2, r1, r2, r3⟩ := nat_read h2
  simp only [List.drop_zero, List.drop_succ_cons, List.take_succ_cons, List.take_zero, List.cons.injEq, and_true] at e0 e1 e2
  subst e0; subst e1; subst e2
  refine ⟨_, _, _, ⟨b, z1, z2⟩, rfl, .bool b, q1, r1, ⟨q2, r2, ?_⟩, q3, r3⟩
  obtain ⟨a1, o1, d1⟩ := z1
  obtain ⟨a2, o2, d2⟩ := z2
  subst q3; subst r3
  rfl

theorem flat3 : ∀ (es : List RV) (j : Nat), j < es.length * 3 → (flat (es.map RV.av)).getD j .any = ((es.getD (j / 3) ⟨false, ⟨true, .no, []⟩, ⟨true, .no, []⟩⟩).av.cells).getD (j % 3) .any
  | [], j, h => by simp at h
  | r :: es, 0, h => rfl
  | r :: es, 1, h => rfl
  | r :: es, 2, h => rfl
  | r :: es, j + 3, h => by
    have ih := flat3 es j (by simp only [List.length_cons] at h; omega)
    have e1 : (j + 3) / 3 = j / 3 + 1 := by omega
    have e2 : (j + 3) % 3 = j % 3 := by omega
    rw [e1, e2, List.getD_cons_succ, ← ih]
    rfl
theorem flat3_len (es : List RV) : (flat (es.map RV.av)).length = es.length * 3 := by
  induction es with
  | nil => rfl
  | cons r es ih =>
    show (_ :: _ :: _ :: flat (es.map RV.av)).length = _
    rw [List.length_cons, List.length_cons, List.length_cons, ih, List.length_cons]; omega

theorem ratio_at {a : Addr} {i : Nat} (ha : i = 0 ∨ a.spot = none) (h : (W.cells? 0 (a.add (i * Try.prog.cellsOf 43)) (Try.prog.cellsOf 43)).bind (DataW.trod enc Try.prog W 0 (fun _ => true) true fuel 43) = some x) :
    a.spot = none ∧ ∃ r : RV, (XR r ∧ r.num.o = .no ∧ r.den.o = .no) ∧ ∀ j, j < 3 → ∃ u, W.cell? ⟨a.block, a.off + (i * 3 + j), none⟩ = some u ∧ V W g0 (r.av.cells.getD j .any) u := by
  rw [c43] at h
  obtain ⟨cs, h1, h2⟩ := Option.bind_eq_some_iff.1 h
  obtain ⟨c0, c1, c2, r, rfl, v0, v1, v2, xr, o1, o2⟩ := ratio_read h2
  have h3 := (cells_get h1).2
  have hs : a.spot = none := by
    rcases ha with rfl | ha
    · rw [Nat.zero_mul] at h3
      exact cell_spot (h3 0 (by omega))
    · exact ha
  refine ⟨hs, r, ⟨xr, o1, o2⟩, fun j hj => ?_⟩
  have h4 := h3 j hj
  rw [add_mk hs, Addr_add, Nat.add_assoc] at h4
  match j, hj with
  | 0, _ => exact ⟨c0, h4, v0⟩
  | 1, _ => exact ⟨c1, h4, v1⟩
  | 2, _ => exact ⟨c2, h4, v2⟩

theorem sh_rv {r : RV} (h1 : r.num.o = .no) (h2 : r.den.o = .no) : shOk (some 3) r.av = true ∧ pl r.av = true := by
  obtain ⟨b, ⟨a1, o1, d1⟩, ⟨a2, o2, d2⟩⟩ := r
  subst h1; subst h2
  exact ⟨rfl, rfl⟩

/-- A row of fractions. -/
theorem row_read (h : DataW.trod enc Try.prog W 0 (fun _ => true) true fuel 22 cs = some x) : ∃ v, ∃ l : LV, cs = [v] ∧ V W g0 l.av v ∧ (l.sh = some 3 ∨ l.es = []) ∧ (l.z = true → l.es = []) ∧ (∀ r ∈ l.es, XR r) ∧ l.o = .no := by
  rcases DataW.trod_slice u22 h with ⟨rfl, _⟩ | ⟨a, len, cap, elems, rest, n, _, rfl, _, _, hl, hm, he, hel, hre, _⟩
  · exact ⟨_, ⟨some 3, true, .no, []⟩, rfl, .nils _ .no (.inr rfl), .inl rfl, fun _ => rfl, (fun r hr => by cases hr), rfl⟩
  · obtain ⟨hrl, hre⟩ := hre rfl
    have raw : ∀ i, i < cap → ∃ y, (W.cells? 0 (a.add (i * Try.prog.cellsOf 43)) (Try.prog.cellsOf 43)).bind (DataW.trod enc Try.prog W 0 (fun _ => true) true n 43) = some y := by
      intro i hi
      by_cases hi2 : i < len
      · have h1 := hel i hi2
        rw [List.getElem?_eq_getElem (by omega)] at h1
        exact ⟨_, h1⟩
      · have h1 := hre (i - len) (by omega)
        rw [List.getElem?_eq_getElem (by omega), show len + (i - len) = i by omega] at h1
        exact ⟨_, h1⟩
    have hsp : cap = 0 ∨ a.spot = none := by
      by_cases h0 : cap = 0
      · exact .inl h0
      · obtain ⟨y, hy⟩ := raw 0 (by omega)
        exact .inr (ratio_at (.inl rfl) hy).1
    have cell : ∀ i, ∃ r : RV, i < cap → (XR r ∧ r.num.o = .no ∧ r.den.o = .no) ∧ ∀ j, j < 3 → ∃ u, W.cell? ⟨a.block, a.off + (i * 3 + j), none⟩ = some u ∧ V W g0 (r.av.cells.getD j .any) u := by
      intro i
      by_cases hi : i < cap
      · obtain ⟨y, hy⟩ := raw i hi
        obtain ⟨r, hr⟩ := (ratio_at (.inr (hsp.resolve_left (by omega))) hy).2
        exact ⟨r, fun _ => hr⟩
      · exact ⟨⟨false, ⟨true, .no, []⟩, ⟨true, .no, []⟩⟩, fun h => absurd h hi⟩
    obtain ⟨f, hf⟩ := Classical.axiomOfChoice cell
    have hlen : (((List.range len).map f).map RV.av).length = len := by simp
    have hlen0 : ((List.range len).map f).length = len := by simp
    have hget : ∀ j, j < len * 3 → ((List.range len).map f).getD (j / 3) ⟨false, ⟨true, .no, []⟩, ⟨true, .no, []⟩⟩ = f (j / 3) := by
      intro j hj
      rw [List.getD_eq_getElem?_getD, List.getElem?_map, List.getElem?_range (by omega)]
      rfl
    have hmem : ∀ r ∈ (List.range len).map f, XR r ∧ r.num.o = .no ∧ r.den.o = .no := by
      intro r hr
      obtain ⟨i, hi, rfl⟩ := List.mem_map.1 hr
      exact (hf i (by have := List.mem_range.1 hi; omega)).1
    have hcl : ∀ j, j < len * 3 → ∃ u, W.cell? ⟨a.block, a.off + j, none⟩ = some u ∧ V W g0 ((flat (((List.range len).map f).map RV.av)).getD j .any) u := by
      intro j hj
      rw [flat3 _ j (by rw [hlen0]; exact hj), hget j hj]
      have h1 := (hf (j / 3) (by omega)).2 (j % 3) (by omega)
      rw [show j / 3 * 3 + j % 3 = j by omega] at h1
      exact h1
    have hus : ∀ j, ∃ u, j < len * 3 → W.cell? ⟨a.block, a.off + j, none⟩ = some u ∧ V W g0 ((flat (((List.range len).map f).map RV.av)).getD j .any) u := by
      intro j
      by_cases hj : j < len * 3
      · obtain ⟨u, hu⟩ := hcl j hj
        exact ⟨u, fun _ => hu⟩
      · exact ⟨undef, fun h => absurd h hj⟩
    obtain ⟨us, hus⟩ := Classical.axiomOfChoice hus
    refine ⟨_, ⟨some 3, false, .no, (List.range len).map f⟩, rfl, ?_, .inl rfl, (fun h => by cases h), fun r hr => (hmem r hr).1, rfl⟩
    have hV := V.lst (w := W) (g := g0) (some 3) .no (((List.range len).map f).map RV.av) a cap us hsp (by rw [hlen]; exact hl) hm
      (fun e he => by
        obtain ⟨r, hr, rfl⟩ := List.mem_map.1 he
        exact sh_rv (hmem r hr).2.1 (hmem r hr).2.2)
      (fun j hj => by
        rw [flat3_len, hlen0] at hj
        exact ⟨(hus j hj).1, fun h => h, fun h => h⟩)
      (fun j hj => by
        rw [flat3_len, hlen0] at hj
        exact (hus j hj).2) trivial
    rw [hlen] at hV
    exact hV

/-- A matrix. -/
theorem mat_read {v : Value} {d : DataW H} {ps : List MemPlace} (hv : ∃ cs, v = .agg cs) (h : DataW.Trod enc Try.prog W 0 (fun _ => true) true 24 v d ps) : ∃ y : MV, V W g0 y.av v ∧ XM y ∧ y.fr = y := by
  obtain ⟨cs, rfl⟩ := hv
  obtain ⟨fuel, h⟩ := h
  have hlen : cs.toList.length = 3 := by
    obtain ⟨_, _, _, _, h1, _⟩ := DataW.trod_struct u24 h
    rw [c24] at h1
    exact h1
  have h : DataW.trod enc Try.prog W 0 (fun _ => true) true fuel 24 cs.toList = some (d, ps) := h
  obtain ⟨v0, v1, v2, hcs⟩ := three hlen
  obtain rfl : cs = #[v0, v1, v2] := by
    cases cs
    simp_all
  obtain ⟨n0, y0, h0⟩ := field_read u24 h (t' := 3) (off := 0) (i := 0) (by rw [f24]; rfl)
  obtain ⟨n1, y1, h1⟩ := field_read u24 h (t' := 3) (off := 1) (i := 1) (by rw [f24]; rfl)
  obtain ⟨n2, y2, h2⟩ := field_read u24 h (t' := 22) (off := 2) (i := 2) (by rw [f24]; rfl)
  rw [c3] at h0 h1
  rw [c22] at h2
  obtain ⟨a, e0, _⟩ := DataW.trod_int u3 h0
  obtain ⟨b, e1, _⟩ := DataW.trod_int u3 h1
  obtain ⟨v, l, e2, q1, q2, q3, q4, q5⟩ := row_read h2
  simp only [List.drop_zero, List.drop_succ_cons, List.take_succ_cons, List.take_zero, List.cons.injEq, and_true] at e0 e1 e2
  subst e0; subst e1; subst e2
  refine ⟨⟨a, b, l⟩, .agg _ _ rfl fun j hj => ?_, ⟨q2, q3, q4⟩, ?_⟩
  · match j, hj with
    | 0, _ => exact .int _ _
    | 1, _ => exact .int _ _
    | 2, _ => exact q1
  · obtain ⟨sh, z, o, es⟩ := l
    subst q5
    rfl
theorem okWide_agg {base : Nat} {t : Nat} {v : Value} {fs : Array Field} (ht : Try.prog.underlying t = some (.struct fs)) (h : Value.okWide Try.prog W .any base t v) : ∃ cs, v = .agg cs := by
  simp only [Value.okWide, ht] at h
  obtain ⟨cs, h, _⟩ := h
  exact ⟨cs, h⟩
end
end Go.Ab
