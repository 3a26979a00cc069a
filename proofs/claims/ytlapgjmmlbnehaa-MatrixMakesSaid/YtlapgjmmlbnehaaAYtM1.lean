/- Right, At and Same of both matrix packages, in values. -/
import Derived.Test.YtlapgjmmlbnehaaAYtM0
import Derived.Test.YtlapgjmmlbnehaaAYtRv
import Derived.Test.YtlapgjmmlbnehaaAYtMa
import Derived.Test.YtlapgjmmlbnehaaAYtMb
set_option linter.unusedVariables false
set_option linter.unusedSimpArgs false
set_option maxRecDepth 100000
namespace Go.Ab
open Go.Proofs.Try

theorem st_last {m : Mem} {x r : RV} : storeA (some 3) (m ++ [cR x]) (.ptr m.length 0) r.av = some (m ++ [cR r]) := by
  rw [rstA (get_last : (m ++ [cR x])[m.length]? = some (cR x)), List.set_append_right _ _ (Nat.le_refl _), Nat.sub_self, List.set_cons_zero]
theorem ld_last {m : Mem} {r : RV} : loadA (some 3) (m ++ [cR r]) (.ptr m.length 0) = some r.av := rldA get_last
theorem new_z' (m : Mem) : newAt none m (.obj true [.bool false, .lst none true .full [], .lst none true .full []]) = (m.length, m ++ [cR zR]) := rfl
def sizeB (x : MV) : Bool := decide (0 ≤ x.rows ∧ x.rows ≤ 60 ∧ 0 ≤ x.cols ∧ x.cols ≤ 60 ∧ (x.lv.es.length : Int) = x.rows * x.cols)
def rightM (x : MV) : Bool := sizeB x && x.lv.es.all rightR
theorem mul60 {a b : Int} (h1 : 0 ≤ a) (h2 : a ≤ 60) (h3 : 0 ≤ b) (h4 : b ≤ 60) : 0 ≤ a * b ∧ a * b ≤ 3600 := by
  obtain ⟨x, rfl⟩ := Int.eq_ofNat_of_zero_le h1
  obtain ⟨y, rfl⟩ := Int.eq_ofNat_of_zero_le h3
  have : x * y ≤ 60 * 60 := Nat.mul_le_mul (by omega) (by omega)
  rw [← Int.natCast_mul]
  omega
theorem i_mul60 {a b : Int} (h1 : 0 ≤ a) (h2 : a ≤ 60) (h3 : 0 ≤ b) (h4 : b ≤ 60) : binA .other .mul (.int .i64 a) (.int .i64 b) = some (.int .i64 (a * b)) := by
  obtain ⟨k1, k2⟩ := mul60 h1 h2 h3 h4
  rw [binA_mul, wrap_i64 (by omega) (by omega)]

/-! ### Right (20) -/
theorem W20 (l : LV) (k : Nat) (hl : LOk k l) (hk : k < 2 ^ 38) (hlen : l.es.length < 2 ^ 40) (K : Ex → St → Option (AV × Mem)) : ∀ (j i : Nat) (m : Mem), i + j = l.es.length →
    ∃ m', L20_4 l.av (.int .i64 l.es.length) (.int .i64 i) m K = if (l.es.drop i).all rightR = true then K (.exit 0) (O20_4 m') else K .ret (R20_4 (.bool false) m') := by
  intro j
  induction j with
  | zero =>
    intro i m hi
    refine ⟨m, ?_⟩
    rw [L20_4_eq, n_lss, Option.bind_some, ifA_dec, if_neg (by omega), List.drop_of_length_le (by omega)]
    rfl
  | succ j ih =>
    intro i m hi
    have hil : i < l.es.length := by omega
    have hr := hl.ok l.es[i] (List.getElem_mem hil)
    have hf := hl.fr l.es[i] (List.getElem_mem hil)
    obtain ⟨m', ih⟩ := ih (i + 1) (m ++ [cR l.es[i]]) (by omega)
    have e1 := V64 hr
    have hd : l.es.drop i = l.es[i] :: l.es.drop (i + 1) := List.drop_eq_getElem_cons hil
    rw [hd, List.all_cons]
    rw [L20_4_eq, n_lss, Option.bind_some, ifA_dec, if_pos hil, index_lv hl hil, Option.bind_some, load_row, Option.bind_some, new_z', new_r, st_last, Option.bind_some, ld_last, Option.bind_some, pcR, hf, e1, Option.map_some, Option.bind_some, not_b, Option.bind_some]
    cases hb : rightR l.es[i] with
    | false => exact ⟨_, rfl⟩
    | true =>
      refine ⟨m', ?_⟩
      rw [Bool.not_true, ifA_false, i_add1 (by omega), Option.bind_some, ih, Bool.true_and]
theorem V20 {x : MV} {k : Nat} (h : LOk k x.lv) (hk : k < 2 ^ 38) (hlen : x.lv.es.length < 2 ^ 40) : AP cfg 20 [x.av] = some (.bool (rightM x)) := by
  have g : ([cM x] : Mem)[0]? = some (cM x) := rfl
  have key : ∃ m', AC cfg 20 [x.av] [] = some (.bool (rightM x), m') := by
    rw [T20, box_mv]
    simp only [Option.bind_some, fld0, fld1, fld2, List.length_nil, List.nil_append]
    rw [mld0 g, Option.bind_some, binA_lss, Option.bind_some, ifA_dec]
    unfold rightM sizeB
    by_cases c1 : x.rows < 0
    · rw [if_pos c1, decide_eq_false (by omega)]; exact ⟨_, rfl⟩
    rw [if_neg c1, Option.bind_some, binA_gtr, Option.bind_some, ifA_dec]
    by_cases c2 : x.rows > 60
    · rw [if_pos c2, decide_eq_false (by omega)]; exact ⟨_, rfl⟩
    rw [if_neg c2, mld1 g, Option.bind_some, binA_lss, Option.bind_some, ifA_dec]
    by_cases c3 : x.cols < 0
    · rw [if_pos c3, decide_eq_false (by omega)]; exact ⟨_, rfl⟩
    rw [if_neg c3, Option.bind_some, binA_gtr, Option.bind_some, ifA_dec]
    by_cases c4 : x.cols > 60
    · rw [if_pos c4, decide_eq_false (by omega)]; exact ⟨_, rfl⟩
    rw [if_neg c4, mld2 g, Option.bind_some, len_lv, Option.bind_some, Option.bind_some, Option.bind_some, i_mul60 (by omega) (by omega) (by omega) (by omega), Option.bind_some, binA_neq, Option.bind_some, ifA_dec]
    by_cases c5 : (x.lv.es.length : Int) = x.rows * x.cols
    · obtain ⟨m', hw⟩ := W20 x.lv k h hk hlen (K20_4 (finK cfg.P f20.results.toList)) x.lv.es.length 0 [cM x] (by omega)
      rw [if_neg (fun hn => hn c5), Option.bind_some, len_lv, Option.bind_some]
      refine ⟨m', hw.trans ?_⟩
      rw [decide_eq_true ⟨by omega, by omega, by omega, by omega, c5⟩, Bool.true_and, List.drop_zero, K20_4_x0, K20_4_ret]
      cases x.lv.es.all rightR <;> rfl
    · rw [if_pos c5, decide_eq_false (fun hn => c5 hn.2.2.2.2)]; exact ⟨_, rfl⟩
  obtain ⟨m', hm⟩ := key
  exact AP_ofz _ _ (fz_bool _) rfl hm

/-! ### Right (21) -/
theorem W21 (l : LV) (k : Nat) (hl : LOk k l) (hk : k < 2 ^ 38) (hlen : l.es.length < 2 ^ 40) (K : Ex → St → Option (AV × Mem)) : ∀ (j i : Nat) (m : Mem), i + j = l.es.length →
    ∃ m', L21_4 l.av (.int .i64 l.es.length) (.int .i64 i) m K = if (l.es.drop i).all rightR = true then K (.exit 0) (O21_4 m') else K .ret (R21_4 (.bool false) m') := by
  intro j
  induction j with
  | zero =>
    intro i m hi
    refine ⟨m, ?_⟩
    rw [L21_4_eq, n_lss, Option.bind_some, ifA_dec, if_neg (by omega), List.drop_of_length_le (by omega)]
    rfl
  | succ j ih =>
    intro i m hi
    have hil : i < l.es.length := by omega
    have hr := hl.ok l.es[i] (List.getElem_mem hil)
    have hf := hl.fr l.es[i] (List.getElem_mem hil)
    obtain ⟨m', ih⟩ := ih (i + 1) (m ++ [cR l.es[i]]) (by omega)
    have e1 := V65 hr hk
    have hd : l.es.drop i = l.es[i] :: l.es.drop (i + 1) := List.drop_eq_getElem_cons hil
    rw [hd, List.all_cons]
    rw [L21_4_eq, n_lss, Option.bind_some, ifA_dec, if_pos hil, index_lv hl hil, Option.bind_some, load_row, Option.bind_some, new_z', new_r, st_last, Option.bind_some, ld_last, Option.bind_some, pcR, hf, e1, Option.map_some, Option.bind_some, not_b, Option.bind_some]
    cases hb : rightR l.es[i] with
    | false => exact ⟨_, rfl⟩
    | true =>
      refine ⟨m', ?_⟩
      rw [Bool.not_true, ifA_false, i_add1 (by omega), Option.bind_some, ih, Bool.true_and]
theorem V21 {x : MV} {k : Nat} (h : LOk k x.lv) (hk : k < 2 ^ 38) (hlen : x.lv.es.length < 2 ^ 40) : AP cfg 21 [x.av] = some (.bool (rightM x)) := by
  have g : ([cM x] : Mem)[0]? = some (cM x) := rfl
  have key : ∃ m', AC cfg 21 [x.av] [] = some (.bool (rightM x), m') := by
    rw [T21, box_mv]
    simp only [Option.bind_some, fld0, fld1, fld2, List.length_nil, List.nil_append]
    rw [mld0 g, Option.bind_some, binA_lss, Option.bind_some, ifA_dec]
    unfold rightM sizeB
    by_cases c1 : x.rows < 0
    · rw [if_pos c1, decide_eq_false (by omega)]; exact ⟨_, rfl⟩
    rw [if_neg c1, Option.bind_some, binA_gtr, Option.bind_some, ifA_dec]
    by_cases c2 : x.rows > 60
    · rw [if_pos c2, decide_eq_false (by omega)]; exact ⟨_, rfl⟩
    rw [if_neg c2, mld1 g, Option.bind_some, binA_lss, Option.bind_some, ifA_dec]
    by_cases c3 : x.cols < 0
    · rw [if_pos c3, decide_eq_false (by omega)]; exact ⟨_, rfl⟩
    rw [if_neg c3, Option.bind_some, binA_gtr, Option.bind_some, ifA_dec]
    by_cases c4 : x.cols > 60
    · rw [if_pos c4, decide_eq_false (by omega)]; exact ⟨_, rfl⟩
    rw [if_neg c4, mld2 g, Option.bind_some, len_lv, Option.bind_some, Option.bind_some, Option.bind_some, i_mul60 (by omega) (by omega) (by omega) (by omega), Option.bind_some, binA_neq, Option.bind_some, ifA_dec]
    by_cases c5 : (x.lv.es.length : Int) = x.rows * x.cols
    · obtain ⟨m', hw⟩ := W21 x.lv k h hk hlen (K21_4 (finK cfg.P f21.results.toList)) x.lv.es.length 0 [cM x] (by omega)
      rw [if_neg (fun hn => hn c5), Option.bind_some, len_lv, Option.bind_some]
      refine ⟨m', hw.trans ?_⟩
      rw [decide_eq_true ⟨by omega, by omega, by omega, by omega, c5⟩, Bool.true_and, List.drop_zero, K21_4_x0, K21_4_ret]
      cases x.lv.es.all rightR <;> rfl
    · rw [if_pos c5, decide_eq_false (fun hn => c5 hn.2.2.2.2)]; exact ⟨_, rfl⟩
  obtain ⟨m', hm⟩ := key
  exact AP_ofz _ _ (fz_bool _) rfl hm

/-! ### Same (40) -/
def sameM (x y : MV) : Bool := decide (x.rows = y.rows) && (decide (x.cols = y.cols) && decide (x.lv.es.map RV.q = y.lv.es.map RV.q))
theorem W40 {x y : MV} (k : Nat) (hx : LOk k x.lv) (hy : LOk k y.lv) (hk1 : 1 ≤ k) (hk : k < 2 ^ 36) (hlen : x.lv.es.length < 2 ^ 40) (heq : x.lv.es.length = y.lv.es.length) (K : Ex → St → Option (AV × Mem)) : ∀ (j i : Nat), i + j = x.lv.es.length →
    ∃ m', L40_4 (.ptr 0 0) (.ptr 1 0) (.int .i64 x.lv.es.length) (.int .i64 i) [cM x, cM y] K = if (x.lv.es.drop i).map RV.q = (y.lv.es.drop i).map RV.q then K (.exit 0) (O40_4 m') else K .ret (R40_4 (.bool false) m') := by
  have g0 : ([cM x, cM y] : Mem)[0]? = some (cM x) := rfl
  have g1 : ([cM x, cM y] : Mem)[1]? = some (cM y) := rfl
  intro j
  induction j with
  | zero =>
    intro i hi
    refine ⟨[cM x, cM y], ?_⟩
    rw [L40_4_eq, n_lss, Option.bind_some, ifA_dec, if_neg (by omega), List.drop_of_length_le (by omega), List.drop_of_length_le (by omega)]
    rfl
  | succ j ih =>
    intro i hi
    have hil : i < x.lv.es.length := by omega
    have hil' : i < y.lv.es.length := by omega
    have hr := hx.ok x.lv.es[i] (List.getElem_mem hil)
    have hf := hx.fr x.lv.es[i] (List.getElem_mem hil)
    have hr' := hy.ok y.lv.es[i] (List.getElem_mem hil')
    have hf' := hy.fr y.lv.es[i] (List.getElem_mem hil')
    obtain ⟨m', ih⟩ := ih (i + 1) (by omega)
    have e1 := V23 hr hr' hk1 hk
    have hd : x.lv.es.drop i = x.lv.es[i] :: x.lv.es.drop (i + 1) := List.drop_eq_getElem_cons hil
    have hd' : y.lv.es.drop i = y.lv.es[i] :: y.lv.es.drop (i + 1) := List.drop_eq_getElem_cons hil'
    rw [hd, hd', List.map_cons, List.map_cons]
    rw [L40_4_eq, n_lss, Option.bind_some, ifA_dec, if_pos hil, fld2, Option.bind_some, mld2 g0, Option.bind_some, index_lv hx hil, Option.bind_some, load_row, Option.bind_some, fld2, Option.bind_some, mld2 g1, Option.bind_some, index_lv hy hil', Option.bind_some, load_row, Option.bind_some, pcRR, hf, hf', e1, Option.map_some, Option.bind_some, not_b, Option.bind_some]
    by_cases hq : x.lv.es[i].q = y.lv.es[i].q
    · refine ⟨m', ?_⟩
      rw [decide_eq_true hq, Bool.not_true, ifA_false, i_add1 (by omega), Option.bind_some, ih]
      simp only [List.cons.injEq, hq, true_and]
    · refine ⟨[cM x, cM y], ?_⟩
      rw [decide_eq_false hq, Bool.not_false, ifA_true, if_neg (fun hc => hq (List.cons.inj hc).1)]
theorem V40 {x y : MV} {k : Nat} (hx : LOk k x.lv) (hy : LOk k y.lv) (hk1 : 1 ≤ k) (hk : k < 2 ^ 36) (hlen : x.lv.es.length < 2 ^ 40) : AP cfg 40 [x.av, y.av] = some (.bool (sameM x y)) := by
  have g0 : ([cM x, cM y] : Mem)[0]? = some (cM x) := rfl
  have g1 : ([cM x, cM y] : Mem)[1]? = some (cM y) := rfl
  have key : ∃ m', AC cfg 40 [x.av, y.av] [] = some (.bool (sameM x y), m') := by
    rw [T40, box_mv]
    simp only [Option.bind_some, box_mv, fld0, fld1, fld2, List.length_nil, List.nil_append, List.length_cons, List.cons_append, Nat.zero_add]
    rw [mld0 g0, Option.bind_some, mld0 g1, Option.bind_some, binA_neq, Option.bind_some, ifA_dec]
    unfold sameM
    by_cases c1 : x.rows = y.rows
    · rw [if_neg (fun hn => hn c1), mld1 g0, Option.bind_some, mld1 g1, Option.bind_some, binA_neq, Option.bind_some, ifA_dec, decide_eq_true c1, Bool.true_and]
      by_cases c2 : x.cols = y.cols
      · rw [if_neg (fun hn => hn c2), mld2 g0, Option.bind_some, len_lv, Option.bind_some, mld2 g1, Option.bind_some, len_lv, Option.bind_some, n_neq, Option.bind_some, ifA_dec, decide_eq_true c2, Bool.true_and]
        by_cases c3 : x.lv.es.length = y.lv.es.length
        · obtain ⟨m', hw⟩ := W40 k hx hy hk1 hk hlen c3 (K40_4 (finK cfg.P f40.results.toList)) x.lv.es.length 0 (by omega)
          rw [if_neg (fun hn => hn c3), Option.bind_some, len_lv, Option.bind_some]
          refine ⟨m', hw.trans ?_⟩
          rw [List.drop_zero, List.drop_zero, K40_4_x0, K40_4_ret]
          split
          · rename_i hh; rw [decide_eq_true hh]
          · rename_i hh; rw [decide_eq_false hh]
        · rw [if_pos c3, decide_eq_false (fun hn => c3 (by have := congrArg List.length hn; simpa using this))]; exact ⟨_, rfl⟩
      · rw [if_pos c2, decide_eq_false c2]; exact ⟨_, rfl⟩
    · rw [if_pos c1, decide_eq_false c1]; exact ⟨_, rfl⟩
  obtain ⟨m', hm⟩ := key
  exact AP_ofz _ _ (fz_bool _) rfl hm
end Go.Ab
