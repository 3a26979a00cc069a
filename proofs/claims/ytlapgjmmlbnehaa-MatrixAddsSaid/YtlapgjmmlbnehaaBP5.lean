/- The reference's Scale and Transpose, in values. -/
import Derived.Test.YtlapgjmmlbnehaaBP4
import Derived.Test.YtlapgjmmlbnehaaBP1
import Derived.ProofKit
import Derived.OpenShut
import Derived.ChangeArms
import Derived.KernelRfl
set_option linter.unusedVariables false
set_option linter.unusedSimpArgs false
set_option maxRecDepth 100000
namespace Go.Ab
open Go.Proofs.Try

/-! ### Scale -/
theorem W36 {x : MV} {t : RV} {k r c : Nat} (hx : LOk k x.lv) (ht : ROk k t) (ft : t.fr = t) (hk1 : 1 ≤ k) (hk : k < 2 ^ 36) (hlx : x.lv.es.length = r * c) (hL : r * c ≤ 3600) (K : Ex → St → Option (AV × Mem)) : ∀ (j i : Nat) (es : List RV), i + j = r * c → Wr es (r * c) (k + k) (fun p => qAt x p * t.q) (fun p => p < i) →
    ∃ es', Wr es' (r * c) (k + k) (fun p => qAt x p * t.q) (fun _ => True) ∧
      L36_5 (.ptr 0 0) (.ptr 1 0) (.ptr 2 0) (.ptr 4 0) (.int .i64 (r * c : Nat)) (.int .i64 i) [cM x, cR t, cM zM, cA es, cB r c 3 (r * c)] K = K (.exit 0) (O36_5 (.ptr 2 0) (.ptr 4 0) [cM x, cR t, cM zM, cA es', cB r c 3 (r * c)]) := by
  intro j
  induction j with
  | zero =>
    intro i es hi hw
    refine ⟨es, hw.mono (fun p hp _ => by omega), ?_⟩
    rw [L36_5_eq, n_lss, Option.bind_some, ifA_dec, if_neg (by omega)]
  | succ j ih =>
    intro i es hi hw
    have hil : i < r * c := by omega
    have h1 : i < x.lv.es.length := by omega
    obtain ⟨s, s1, s2, s3⟩ := V29 (hx.ok _ (List.getElem_mem h1)) ht hk1 hk
    have f1 := hx.fr _ (List.getElem_mem h1)
    have hbd : Bd (k + k) (x.lv.es[i].q * t.q) := Bd_mul ((hx.ok _ (List.getElem_mem h1)).bd hk1) (ht.bd hk1) hk1
    obtain ⟨es', w1, w2⟩ := ih (i + 1) (es.set i s) (by omega) (hw.set hil (fun _ => by rw [s2.q, qAt_get h1]) s3 (s2.ok hbd (by omega)) (fun p' hne (hp : p' < i + 1) => by show p' < i; omega))
    refine ⟨es', w1, ?_⟩
    have hld : loadA none [cM x, cR t, cM zM, cA es, cB r c 3 (r * c)] (.ptr 4 2) = some (.arr 3 0 (r * c) (some 3)) := rfl
    rw [L36_5_eq, n_lss, Option.bind_some, ifA_dec, if_pos hil, fld2, Option.bind_some, hld, Option.bind_some, fld2, Option.bind_some, mld2 (x := x) rfl, Option.bind_some, index_lv hx h1, Option.bind_some, load_row, Option.bind_some, rldA (x := t) rfl, Option.bind_some,
      pcRR, f1, ft, s1, Option.map_some, Option.bind_some, arr_index hil, Option.bind_some, arr_store (es := es) rfl (by rw [hw.len]; exact hil) s3, Option.bind_some, i_add1 (by omega), Option.bind_some]
    exact w2
theorem V36 {x : MV} {t : RV} {k : Nat} (hx : IsM k x) (ht : ROk k t) (ft : t.fr = t) (hk1 : 1 ≤ k) (hk : k < 2 ^ 36) :
    ∃ z e, AP cfg 36 [x.av, t.av] = some (.tup [z.av, .int .i64 e]) ∧ Res z e (scaleE x t) x.rows.toNat x.cols.toNat (fun p => qAt x p * t.q) (k + k) := by
  have e20 := V21 hx.ok (by omega) (by have := hx.len; omega)
  have e65 := V65 ht (by omega)
  have gx : ∀ e : Mem, (cM x :: e)[0]? = some (cM x) := fun _ => rfl
  have gy : ∀ e : Mem, (cM x :: cR t :: e)[1]? = some (cR t) := fun _ => rfl
  have start : AC cfg 36 [x.av, t.av] [] = AC cfg 36 [x.av, t.av] [] := rfl
  conv at start => rhs; rw [T36, box_mv, Option.bind_some, box_rv, Option.bind_some]
  simp only [new_m, new_r, List.length_nil, List.nil_append, List.length_cons, List.cons_append, Nat.zero_add, Nat.reduceAdd] at start
  rw [mldA (gx _), Option.bind_some, pcM, hx.fr, e20, Option.map_some, Option.bind_some, not_b, Option.bind_some] at start
  unfold scaleE
  cases hbx : rightM x with
  | false =>
    rw [hbx, Bool.not_false, ifA_true, bldM, Option.bind_some, mstA (x := zM) rfl, Option.bind_some] at start
    simp only [List.set_cons_zero, List.set_cons_succ] at start
    rw [mldA (x := zM) rfl, Option.bind_some] at start
    rw [if_neg (fun h => by cases h.1)]
    exact ⟨zM, 1, retM2 start rfl, Res.bad' (by decide)⟩
  | true =>
    rw [hbx, Bool.not_true, ifA_false, rldA (gy _), Option.bind_some, pcR, ft, e65, Option.map_some, Option.bind_some, not_b, Option.bind_some] at start
    cases hby : rightR t with
    | false =>
      rw [hby, Bool.not_false, ifA_true, bldM, Option.bind_some, mstA (x := zM) rfl, Option.bind_some] at start
      simp only [List.set_cons_zero, List.set_cons_succ] at start
      rw [mldA (x := zM) rfl, Option.bind_some] at start
      rw [if_neg (fun h => by cases h.2)]
      exact ⟨zM, 1, retM2 start rfl, Res.bad' (by decide)⟩
    | true =>
      obtain ⟨z1, z2, z3, z4, z5⟩ := size_of_right hbx
      obtain ⟨r, hr⟩ := Int.eq_ofNat_of_zero_le z1
      obtain ⟨c, hc⟩ := Int.eq_ofNat_of_zero_le z3
      have hlx : x.lv.es.length = r * c := by
        rw [hr, hc, ← Int.natCast_mul] at z5
        exact Int.ofNat_inj.1 z5
      have hL : r * c ≤ 3600 := Nat.mul_le_mul (by omega : r ≤ 60) (by omega : c ≤ 60)
      rw [hby, Bool.not_true, ifA_false, fld0, Option.bind_some, mld0 (gx _), Option.bind_some, fld1, Option.bind_some, mld1 (gx _), Option.bind_some, hr, hc] at start
      rw [if_pos ⟨rfl, rfl⟩, hr, hc]
      rcases thaw61 (a := r) (b := c) (by omega) (by omega) [cM x, cR t, cM zM] with ⟨h0, h1⟩ | ⟨h0, h1⟩
      · rw [h1, Option.bind_some] at start
        simp only [new_m, new_r, List.length_nil, List.nil_append, List.length_cons, List.cons_append, Nat.zero_add, Nat.reduceAdd] at start
        rw [mstA (x := zM) rfl, Option.bind_some] at start
        simp only [List.set_cons_zero, List.set_cons_succ] at start
        rw [fld2, Option.bind_some, mld2 (x := x) rfl, Option.bind_some, len_lv, Option.bind_some, hlx, h0, L36_5_eq, show (AV.int .i64 0) = .int .i64 ((0 : Nat) : Int) from rfl, n_lss, Option.bind_some, ifA_dec, if_neg (by omega), K36_5_x0, mldA (x := ⟨r, c, nilL⟩) rfl, Option.bind_some, mstA (x := zM) rfl, Option.bind_some] at start
        simp only [List.set_cons_zero, List.set_cons_succ] at start
        rw [mldA (x := ⟨r, c, nilL⟩) rfl, Option.bind_some] at start
        exact ⟨⟨r, c, nilL⟩, 0, retM2 start rfl, Res.nil h0⟩
      · obtain ⟨es', w1, w2⟩ := W36 hx.ok ht ft hk1 hk hlx hL (K36_5 (finK cfg.P f36.results.toList)) (r * c) 0 (List.replicate (r * c) zeroF) (by omega) ((Wr.zero (r * c) (k + k) _ (by omega)).mono (fun p _ h => by omega))
        rw [h1, Option.bind_some] at start
        simp only [new_m, new_r, List.length_nil, List.nil_append, List.length_cons, List.cons_append, Nat.zero_add, Nat.reduceAdd] at start
        rw [bldMz _ (x := zM) rfl _ _ _ rfl, Option.bind_some] at start
        simp only [List.set_cons_zero, List.set_cons_succ] at start
        rw [fld2, Option.bind_some, mld2 (x := x) rfl, Option.bind_some, len_lv, Option.bind_some, hlx] at start
        have start := start.trans w2
        have l1 : ∀ e : Option Ent, loadA (some 3) [cM x, cR t, cM zM, e, cB r c 3 (r * c)] (.ptr 4 0) = some (.agg [.int .i64 r, .int .i64 c, .arr 3 0 (r * c) (some 3)]) := fun _ => rfl
        rw [K36_5_x0, l1, Option.bind_some, bldMz _ (x := zM) rfl _ _ _ rfl, Option.bind_some] at start
        simp only [List.set_cons_zero, List.set_cons_succ] at start
        have l2 : ∀ e e' : Option Ent, loadA (some 3) [cM x, cR t, some (.obj true [.int .i64 r, .int .i64 c, .arr 3 0 (r * c) (some 3)]), e, e'] (.ptr 2 0) = some (.agg [.int .i64 r, .int .i64 c, .arr 3 0 (r * c) (some 3)]) := fun _ _ => rfl
        rw [l2, Option.bind_some] at start
        have hf := frz_tup (m := [cM x, cR t, some (.obj true [.int .i64 r, .int .i64 c, .arr 3 0 (r * c) (some 3)]), cA es', cB r c 3 (r * c)]) (nR := 3) (es := es') r c 0 rfl w1.fr
        rw [w1.len] at hf
        exact ⟨_, 0, AP_of start hf (by rfl), w1.res⟩

/-! ### Transpose -/
def trQ (x : MV) (r c p : Nat) : Rat := qAt x (p % r * c + p / r)
theorem tr_cell {r i j : Nat} (hi : i < r) : (j * r + i) % r = i ∧ (j * r + i) / r = j := by
  have e : j * r + i = i + r * j := by rw [Nat.mul_comm]; omega
  rw [e]
  refine ⟨by rw [Nat.add_mul_mod_self_left, Nat.mod_eq_of_lt hi], by rw [Nat.add_mul_div_left _ _ (by omega), Nat.div_eq_of_lt hi, Nat.zero_add]⟩
theorem W38_8 {x : MV} {k r c i : Nat} (hx : LOk k x.lv) (hr : x.rows = r) (hc : x.cols = c) (hr6 : r ≤ 60) (hc6 : c ≤ 60) (hlx : x.lv.es.length = r * c) (hi : i < r) (K : Ex → St → Option (AV × Mem)) : ∀ (n j : Nat) (es : List RV), j + n = c → Wr es (c * r) k (trQ x r c) (fun p => p % r < i ∨ p % r = i ∧ p / r < j) →
    ∃ es', Wr es' (c * r) k (trQ x r c) (fun p => p % r < i + 1) ∧
      L38_8 (.ptr 0 0) (.ptr 1 0) (.ptr 3 0) (.int .i64 i) (.int .i64 j) [cM x, cM zM, cA es, cB c r 2 (c * r)] K = K (.exit 2) (O38_8 (.ptr 0 0) (.ptr 1 0) (.ptr 3 0) (.int .i64 i) [cM x, cM zM, cA es', cB c r 2 (c * r)]) := by
  intro n
  induction n with
  | zero =>
    intro j es hj hw
    refine ⟨es, hw.mono (fun p hp h => ?_), ?_⟩
    · have : p / r < c := Nat.div_lt_of_lt_mul (by rw [Nat.mul_comm]; exact hp)
      have h : p % r < i + 1 := h
      show p % r < i ∨ p % r = i ∧ p / r < j
      omega
    · rw [L38_8_eq, fld1, Option.bind_some, mld1 (x := x) rfl, Option.bind_some, hc, n_lss, Option.bind_some, ifA_dec, if_neg (by omega)]
  | succ n ih =>
    intro j es hj hw
    have hjc : j < c := by omega
    have hlt := cell_lt60 hi hjc
    have hlt' : j * r + i < c * r := cell_lt60 hjc hi
    have h1 : i * c + j < x.lv.es.length := by omega
    obtain ⟨t1, t2⟩ := tr_cell (j := j) hi
    have f1 := hx.fr _ (List.getElem_mem h1)
    obtain ⟨es', w1, w2⟩ := ih (j + 1) (es.set (j * r + i) x.lv.es[i * c + j]) (by omega) (hw.set hlt' (fun _ => by rw [trQ, t1, t2, qAt_get h1]) f1 (hx.ok _ (List.getElem_mem h1)) (fun p' hne hp => by
      have hp : p' % r < i ∨ p' % r = i ∧ p' / r < j + 1 := hp
      show p' % r < i ∨ p' % r = i ∧ p' / r < j
      rcases hp with hp | ⟨hp, hp2⟩
      · exact .inl hp
      · by_cases he : p' / r = j
        · exfalso
          apply hne
          have := Nat.div_add_mod p' r
          rw [he, hp, Nat.mul_comm] at this
          exact this.symm
        · exact .inr ⟨hp, by omega⟩))
    refine ⟨es', w1, ?_⟩
    have hld : loadA none [cM x, cM zM, cA es, cB c r 2 (c * r)] (.ptr 3 2) = some (.arr 2 0 (c * r) (some 3)) := rfl
    obtain ⟨a1, a2⟩ := at_cell (i := j) (c := r) (j := i) (by omega) hr6 (by omega)
    obtain ⟨b1, b2⟩ := at_cell (i := i) (c := c) (j := j) (by omega) hc6 (by omega)
    rw [L38_8_eq, fld1, Option.bind_some, mld1 (x := x) rfl, Option.bind_some, hc, n_lss, Option.bind_some, ifA_dec, if_pos hjc, fld2, Option.bind_some, hld, Option.bind_some, fld0, Option.bind_some, mld0 (x := x) rfl, Option.bind_some, hr, a1, Option.bind_some, a2, Option.bind_some,
      fld2, Option.bind_some, mld2 (x := x) rfl, Option.bind_some, Option.bind_some, mld1 (x := x) rfl, Option.bind_some, hc, b1, Option.bind_some, b2, Option.bind_some, index_lv hx h1, Option.bind_some, load_row, Option.bind_some, arr_index hlt', Option.bind_some, arr_store (es := es) rfl (by rw [hw.len]; exact hlt') f1, Option.bind_some, i_add1 (by omega), Option.bind_some]
    exact w2
theorem W38_5 {x : MV} {k r c : Nat} (hx : LOk k x.lv) (hr : x.rows = r) (hc : x.cols = c) (hr6 : r ≤ 60) (hc6 : c ≤ 60) (hlx : x.lv.es.length = r * c) (K : Ex → St → Option (AV × Mem)) : ∀ (n i : Nat) (es : List RV), i + n = r → Wr es (c * r) k (trQ x r c) (fun p => p % r < i) →
    ∃ es', Wr es' (c * r) k (trQ x r c) (fun _ => True) ∧
      L38_5 (.ptr 0 0) (.ptr 1 0) (.ptr 3 0) (.int .i64 i) [cM x, cM zM, cA es, cB c r 2 (c * r)] K = K (.exit 0) (O38_5 (.ptr 1 0) (.ptr 3 0) [cM x, cM zM, cA es', cB c r 2 (c * r)]) := by
  intro n
  induction n with
  | zero =>
    intro i es hi hw
    refine ⟨es, hw.mono (fun p hp _ => ?_), ?_⟩
    · show p % r < i
      have h0 : 0 < r := by
        rcases Nat.eq_zero_or_pos r with h | h
        · rw [h, Nat.mul_zero] at hp; omega
        · exact h
      have := Nat.mod_lt p h0
      omega
    · rw [L38_5_eq, fld0, Option.bind_some, mld0 (x := x) rfl, Option.bind_some, hr, n_lss, Option.bind_some, ifA_dec, if_neg (by omega)]
  | succ n ih =>
    intro i es hi hw
    have hir : i < r := by omega
    obtain ⟨es1, a1, a2⟩ := W38_8 hx hr hc hr6 hc6 hlx hir (K38_8 K) c 0 es (by omega) (hw.mono (fun p hp h => by
      have h : p % r < i ∨ p % r = i ∧ p / r < 0 := h
      show p % r < i
      exact h.elim id fun h => absurd h.2 (Nat.not_lt_zero _)))
    obtain ⟨es', w1, w2⟩ := ih (i + 1) es1 (by omega) a1
    refine ⟨es', w1, ?_⟩
    rw [L38_5_eq, fld0, Option.bind_some, mld0 (x := x) rfl, Option.bind_some, hr, n_lss, Option.bind_some, ifA_dec, if_pos hir]
    refine Eq.trans ?_ (a2.trans ?_)
    · rfl
    rw [K38_8_x2, i_add1 (by omega), Option.bind_some]
    exact w2
theorem V38 {x : MV} {k : Nat} (hx : IsM k x) (hk1 : 1 ≤ k) (hk : k < 2 ^ 36) :
    ∃ z e, AP cfg 38 [x.av] = some (.tup [z.av, .int .i64 e]) ∧ Res z e (transE x) x.cols.toNat x.rows.toNat (fun p => qAt x (p % x.rows.toNat * x.cols.toNat + p / x.rows.toNat)) k := by
  have e20 := V21 hx.ok (by omega) (by have := hx.len; omega)
  have gx : ∀ e : Mem, (cM x :: e)[0]? = some (cM x) := fun _ => rfl
  have start : AC cfg 38 [x.av] [] = AC cfg 38 [x.av] [] := rfl
  conv at start => rhs; rw [T38, box_mv, Option.bind_some]
  simp only [new_m, new_r, List.length_nil, List.nil_append, List.length_cons, List.cons_append, Nat.zero_add, Nat.reduceAdd] at start
  rw [mldA (gx _), Option.bind_some, pcM, hx.fr, e20, Option.map_some, Option.bind_some, not_b, Option.bind_some] at start
  unfold transE
  cases hbx : rightM x with
  | false =>
    rw [hbx, Bool.not_false, ifA_true, bldM, Option.bind_some, mstA (x := zM) rfl, Option.bind_some] at start
    simp only [List.set_cons_zero, List.set_cons_succ] at start
    rw [mldA (x := zM) rfl, Option.bind_some] at start
    rw [if_neg (by decide)]
    exact ⟨zM, 1, retM2 start rfl, Res.bad' (by decide)⟩
  | true =>
    obtain ⟨z1, z2, z3, z4, z5⟩ := size_of_right hbx
    obtain ⟨r, hr⟩ := Int.eq_ofNat_of_zero_le z1
    obtain ⟨c, hc⟩ := Int.eq_ofNat_of_zero_le z3
    have hlx : x.lv.es.length = r * c := by
      rw [hr, hc, ← Int.natCast_mul] at z5
      exact Int.ofNat_inj.1 z5
    rw [hbx, Bool.not_true, ifA_false, fld1, Option.bind_some, mld1 (gx _), Option.bind_some, fld0, Option.bind_some, mld0 (gx _), Option.bind_some] at start
    rw [if_pos rfl]
    have hrn : x.rows.toNat = r := by rw [hr]; rfl
    have hcn : x.cols.toNat = c := by rw [hc]; rfl
    rw [hrn, hcn]
    rw [hr, hc] at start
    rcases thaw61 (a := c) (b := r) (by omega) (by omega) [cM x, cM zM] with ⟨h0, h1⟩ | ⟨h0, h1⟩
    · rw [h1, Option.bind_some] at start
      simp only [new_m, new_r, List.length_nil, List.nil_append, List.length_cons, List.cons_append, Nat.zero_add, Nat.reduceAdd] at start
      rw [mstA (x := zM) rfl, Option.bind_some] at start
      simp only [List.set_cons_zero, List.set_cons_succ] at start
      have w2 : ∀ (n i : Nat), i + n = r → L38_5 (.ptr 0 0) (.ptr 1 0) (.ptr 2 0) (.int .i64 i) [cM x, cM zM, cM ⟨c, r, nilL⟩] (K38_5 (finK cfg.P f38.results.toList)) = K38_5 (finK cfg.P f38.results.toList) (.exit 0) (O38_5 (.ptr 1 0) (.ptr 2 0) [cM x, cM zM, cM ⟨c, r, nilL⟩]) := by
        intro n
        induction n with
        | zero =>
          intro i hi
          rw [L38_5_eq, fld0, Option.bind_some, mld0 (x := x) rfl, Option.bind_some, hr, n_lss, Option.bind_some, ifA_dec, if_neg (by omega)]
        | succ n ih =>
          intro i hi
          have hc0 : c = 0 := by
            rcases Nat.mul_eq_zero.1 h0 with h | h
            · exact h
            · omega
          rw [L38_5_eq, fld0, Option.bind_some, mld0 (x := x) rfl, Option.bind_some, hr, n_lss, Option.bind_some, ifA_dec, if_pos (by omega), L38_8_eq, fld1, Option.bind_some, mld1 (x := x) rfl, Option.bind_some, hc, hc0, show (AV.int .i64 0) = .int .i64 ((0 : Nat) : Int) from rfl, n_lss, Option.bind_some, ifA_dec, if_neg (by omega), K38_8_x2, i_add1 (by omega), Option.bind_some]
          have := ih (i + 1) (by omega)
          rw [hc0] at this
          exact this
      have start := start.trans (w2 r 0 (by omega))
      rw [K38_5_x0, mldA (x := ⟨c, r, nilL⟩) rfl, Option.bind_some, mstA (x := zM) rfl, Option.bind_some] at start
      simp only [List.set_cons_zero, List.set_cons_succ] at start
      rw [mldA (x := ⟨c, r, nilL⟩) rfl, Option.bind_some] at start
      exact ⟨⟨c, r, nilL⟩, 0, retM2 start rfl, Res.nil h0⟩
    · obtain ⟨es', w1, w2⟩ := W38_5 hx.ok hr hc (by omega) (by omega) hlx (K38_5 (finK cfg.P f38.results.toList)) r 0 (List.replicate (c * r) zeroF) (by omega) ((Wr.zero (c * r) k _ hk1).mono (fun p _ h => by
        have h : p % r < 0 := h
        omega))
      rw [h1, Option.bind_some] at start
      simp only [new_m, new_r, List.length_nil, List.nil_append, List.length_cons, List.cons_append, Nat.zero_add, Nat.reduceAdd] at start
      rw [bldMz _ (x := zM) rfl _ _ _ rfl, Option.bind_some] at start
      simp only [List.set_cons_zero, List.set_cons_succ] at start
      have start := start.trans w2
      have l1 : ∀ e : Option Ent, loadA (some 3) [cM x, cM zM, e, cB c r 2 (c * r)] (.ptr 3 0) = some (.agg [.int .i64 c, .int .i64 r, .arr 2 0 (c * r) (some 3)]) := fun _ => rfl
      rw [K38_5_x0, l1, Option.bind_some, bldMz _ (x := zM) rfl _ _ _ rfl, Option.bind_some] at start
      simp only [List.set_cons_zero, List.set_cons_succ] at start
      have l2 : ∀ e e' : Option Ent, loadA (some 3) [cM x, some (.obj true [.int .i64 c, .int .i64 r, .arr 2 0 (c * r) (some 3)]), e, e'] (.ptr 1 0) = some (.agg [.int .i64 c, .int .i64 r, .arr 2 0 (c * r) (some 3)]) := fun _ _ => rfl
      rw [l2, Option.bind_some] at start
      have hf := frz_tup (m := [cM x, some (.obj true [.int .i64 c, .int .i64 r, .arr 2 0 (c * r) (some 3)]), cA es', cB c r 2 (c * r)]) (nR := 2) (es := es') c r 0 rfl w1.fr
      rw [w1.len] at hf
      exact ⟨_, 0, AP_of start hf (by rfl), w1.res⟩
end Go.Ab

/- What the interpreter does, function by function. -/
set_option maxRecDepth 100000
set_option linter.unusedVariables false
namespace Go.Ab
open Go.Proofs.Try
/-! ### sortilege/sortilegelaw19.MatrixAdds -/
noncomputable abbrev C5_0_0 (K : Ex → St → Option (AV × Mem)) : Ex → St → Option (AV × Mem) := seqK (fun st => execW cfg 5 (AP cfg) (AC cfg) (c2 (bodyOf f5)) st K) K
noncomputable abbrev C5_0 (K : Ex → St → Option (AV × Mem)) : Ex → St → Option (AV × Mem) := (C5_0_0 K)
noncomputable def P5_0_1 (a0 : AV) (a1 : AV) (a2 : AV) (m : Mem) (K : Ex → St → Option (AV × Mem)) : Option (AV × Mem) := runOps cfg 5 (AP cfg) (AC cfg) none (opsOf (c1 (bodyOf f5))) [0, 1, 2, 3] ⟨[a0, a1, a2, .any, .any, .any, .any, .any, .any, .any, .any, .any, .any, .any, .any, .any, .any, .any, .any, .any, .any, .any, .any, .any, .any, .any, .any, .any, .any, .any, .any, .any, .any, .any, .any, .any, .any, .any, .any, .any, .any, .any, .any, .any, .any, .any, .any, .any, .any, .any, .any, .any, .any, .any, .any, .any, .any, .any, .any, .any, .any, .any, .any, .any, .any, .any, .any, .any, .any, .any, .any, .any, .any, .any, .any, .any, .any, .any, .any, .any, .any, .any, .any, .any, .any, .any, .any, .any, .any, .any, .any, .any, .any, .any, .any, .any, .any], m⟩ ((C5_0 K) .normal)
noncomputable abbrev C5_1_0 (K : Ex → St → Option (AV × Mem)) : Ex → St → Option (AV × Mem) := seqK (fun st => execW cfg 5 (AP cfg) (AC cfg) (c2 (c2 (bodyOf f5))) st K) K
noncomputable abbrev C5_1 (K : Ex → St → Option (AV × Mem)) : Ex → St → Option (AV × Mem) := (C5_1_0 K)
noncomputable def P5_1_2 (a0 : AV) (a1 : AV) (a2 : AV) (r1 : AV × Mem) (r2 : AV × Mem) (r3 : AV × Mem) (K : Ex → St → Option (AV × Mem)) : Option (AV × Mem) := runOps cfg 5 (AP cfg) (AC cfg) (some (r3.2).length) (opsOf (c1 (c2 (bodyOf f5)))) [0, 1, 2, 3, 4, 5] ⟨[a0, a1, a2, r1.1, r2.1, r3.1, (.bool false), .any, .any, .any, .any, .any, .any, .any, .any, .any, .any, .any, .any, .any, .any, .any, .any, .any, .any, .any, .any, .any, .any, .any, .any, .any, .any, .any, .any, .any, .any, .any, .any, .any, .any, .any, .any, .any, .any, .any, .any, .any, .any, .any, .any, .any, .any, .any, .any, .any, .any, .any, .any, .any, .any, .any, .any, .any, .any, .any, .any, .any, .any, .any, .any, .any, .any, .any, .any, .any, .any, .any, .any, .any, .any, .any, .any, .any, .any, .any, .any, .any, .any, .any, .any, .any, .any, .any, .any, .any, .any], r3.2⟩ ((C5_1 K) .normal)
noncomputable abbrev C5_2_0 (K : Ex → St → Option (AV × Mem)) : Ex → St → Option (AV × Mem) := seqK (fun st => execW cfg 5 (AP cfg) (AC cfg) (c2 (c2 (c2 (bodyOf f5)))) st K) K
noncomputable abbrev C5_2 (K : Ex → St → Option (AV × Mem)) : Ex → St → Option (AV × Mem) := (C5_2_0 K)
noncomputable def P5_2_3 (a0 : AV) (a1 : AV) (a2 : AV) (m9 : Mem) (r1 : AV × Mem) (r2 : AV × Mem) (r3 : AV × Mem) (r5 : AV × Mem) (r7 : AV × Mem) (v4 : AV) (v6 : AV) (K : Ex → St → Option (AV × Mem)) : Option (AV × Mem) := runOps cfg 5 (AP cfg) (AC cfg) (some (m9).length) (opsOf (c1 (c2 (c2 (bodyOf f5))))) [0, 1, 2, 3, 4, 5, 6, 7, 8, 9] ⟨[a0, a1, a2, r1.1, r2.1, r3.1, (.bool false), .any, .any, .any, .any, .any, .any, .any, .any, .any, .any, .any, .any, v4, r5.1, v6, r7.1, .any, .any, .any, .any, .any, .any, .any, .any, .any, .any, .any, .any, .any, .any, .any, .any, .any, .any, .any, .any, .any, .any, .any, .any, .any, .any, .any, .any, .any, .any, .any, .any, .any, .any, .any, .any, .any, .any, .any, .any, .any, .any, .any, .any, .any, .any, .any, .any, .any, .any, .any, .any, .any, .any, .any, .any, .any, .any, .any, .any, .any, .any, .any, .any, .any, .any, .any, .any, .any, .any, .any, .any, .any, .any], m9⟩ ((C5_2 K) .normal)
noncomputable def P5_2_4 (a0 : AV) (a1 : AV) (a2 : AV) (m9 : Mem) (r1 : AV × Mem) (r2 : AV × Mem) (r3 : AV × Mem) (r5 : AV × Mem) (r7 : AV × Mem) (r14 : AV × Mem) (v4 : AV) (v6 : AV) (v10 : AV) (v11 : AV) (v12 : AV) (v13 : AV) (v15 : AV) (K : Ex → St → Option (AV × Mem)) : Option (AV × Mem) := runOps cfg 5 (AP cfg) (AC cfg) (some (m9).length) (opsOf (c1 (c2 (c2 (bodyOf f5))))) [6, 7, 8, 9] ⟨[a0, a1, a2, r1.1, r2.1, r3.1, (.bool false), .any, .any, .any, .any, .any, .any, .any, .any, .any, .any, .any, .any, v4, r5.1, v6, r7.1, v10, v11, v12, v13, r14.1, v15, .any, .any, .any, .any, .any, .any, .any, .any, .any, .any, .any, .any, .any, .any, .any, .any, .any, .any, .any, .any, .any, .any, .any, .any, .any, .any, .any, .any, .any, .any, .any, .any, .any, .any, .any, .any, .any, .any, .any, .any, .any, .any, .any, .any, .any, .any, .any, .any, .any, .any, .any, .any, .any, .any, .any, .any, .any, .any, .any, .any, .any, .any, .any, .any, .any, .any, .any, .any], r14.2⟩ ((C5_2 K) .normal)
noncomputable abbrev C5_3_0 (K : Ex → St → Option (AV × Mem)) : Ex → St → Option (AV × Mem) := seqK (fun st => execW cfg 5 (AP cfg) (AC cfg) (c2 (c2 (c2 (c2 (bodyOf f5))))) st K) K
noncomputable abbrev C5_3 (K : Ex → St → Option (AV × Mem)) : Ex → St → Option (AV × Mem) := (C5_3_0 K)
noncomputable def P5_3_5 (a0 : AV) (a1 : AV) (a2 : AV) (m19 : Mem) (r1 : AV × Mem) (r2 : AV × Mem) (r3 : AV × Mem) (r5 : AV × Mem) (r7 : AV × Mem) (r14 : AV × Mem) (r17 : AV × Mem) (v4 : AV) (v6 : AV) (v10 : AV) (v11 : AV) (v12 : AV) (v13 : AV) (v15 : AV) (v16 : AV) (v18 : AV) (K : Ex → St → Option (AV × Mem)) : Option (AV × Mem) := runOps cfg 5 (AP cfg) (AC cfg) none (opsOf (c1 (c2 (c2 (c2 (bodyOf f5)))))) [0, 1, 2, 3, 4, 5, 6, 7, 8] ⟨[a0, a1, a2, r1.1, r2.1, r3.1, (.bool false), .any, .any, .any, .any, .any, .any, .any, .any, .any, .any, .any, .any, v4, r5.1, v6, r7.1, v10, v11, v12, v13, r14.1, v15, v16, r17.1, v18, .any, .any, .any, .any, .any, .any, .any, .any, .any, .any, .any, .any, .any, .any, .any, .any, .any, .any, .any, .any, .any, .any, .any, .any, .any, .any, .any, .any, .any, .any, .any, .any, .any, .any, .any, .any, .any, .any, .any, .any, .any, .any, .any, .any, .any, .any, .any, .any, .any, .any, .any, .any, .any, .any, .any, .any, .any, .any, .any, .any, .any, .any, .any, .any, .any], m19⟩ ((C5_3 K) .normal)
noncomputable def P5_3_6 (a0 : AV) (a1 : AV) (a2 : AV) (r1 : AV × Mem) (r2 : AV × Mem) (r3 : AV × Mem) (r5 : AV × Mem) (r7 : AV × Mem) (r14 : AV × Mem) (r17 : AV × Mem) (r22 : AV × Mem) (v4 : AV) (v6 : AV) (v10 : AV) (v11 : AV) (v12 : AV) (v13 : AV) (v15 : AV) (v16 : AV) (v18 : AV) (v20 : AV) (v21 : AV) (v23 : AV) (v24 : AV) (K : Ex → St → Option (AV × Mem)) : Option (AV × Mem) := runOps cfg 5 (AP cfg) (AC cfg) none (opsOf (c1 (c2 (c2 (c2 (bodyOf f5)))))) [6, 7, 8] ⟨[a0, a1, a2, r1.1, r2.1, r3.1, (.bool false), .any, .any, .any, .any, .any, .any, .any, .any, .any, .any, .any, .any, v4, r5.1, v6, r7.1, v10, v11, v12, v13, r14.1, v15, v16, r17.1, v18, r22.1, v20, v21, r22.1, v23, v24, .any, .any, .any, .any, .any, .any, .any, .any, .any, .any, .any, .any, .any, .any, .any, .any, .any, .any, .any, .any, .any, .any, .any, .any, .any, .any, .any, .any, .any, .any, .any, .any, .any, .any, .any, .any, .any, .any, .any, .any, .any, .any, .any, .any, .any, .any, .any, .any, .any, .any, .any, .any, .any, .any, .any, .any, .any, .any, .any], r22.2⟩ ((C5_3 K) .normal)
noncomputable abbrev C5_4_0 (K : Ex → St → Option (AV × Mem)) : Ex → St → Option (AV × Mem) := seqK (fun st => execW cfg 5 (AP cfg) (AC cfg) (c2 (c2 (c2 (c2 (c2 (bodyOf f5)))))) st K) K
noncomputable abbrev C5_4 (K : Ex → St → Option (AV × Mem)) : Ex → St → Option (AV × Mem) := (C5_4_0 K)
noncomputable def P5_4_7 (a0 : AV) (a1 : AV) (a2 : AV) (m25 : Mem) (r1 : AV × Mem) (r2 : AV × Mem) (r3 : AV × Mem) (r5 : AV × Mem) (r7 : AV × Mem) (r14 : AV × Mem) (r17 : AV × Mem) (r22 : AV × Mem) (v4 : AV) (v6 : AV) (v10 : AV) (v11 : AV) (v12 : AV) (v13 : AV) (v15 : AV) (v16 : AV) (v18 : AV) (v20 : AV) (v21 : AV) (v23 : AV) (v24 : AV) (K : Ex → St → Option (AV × Mem)) : Option (AV × Mem) := runOps cfg 5 (AP cfg) (AC cfg) none (opsOf (c1 (c2 (c2 (c2 (c2 (bodyOf f5))))))) [0, 1, 2, 3, 4, 5, 6, 7, 8] ⟨[a0, a1, a2, r1.1, r2.1, r3.1, (.bool false), (.ptr (newAt none r22.2 .resv).1 0), v24, .any, .any, .any, .any, .any, .any, .any, .any, .any, .any, v4, r5.1, v6, r7.1, v10, v11, v12, v13, r14.1, v15, v16, r17.1, v18, r22.1, v20, v21, r22.1, v23, v24, .any, .any, .any, .any, .any, .any, .any, .any, .any, .any, .any, .any, .any, .any, .any, .any, .any, .any, .any, .any, .any, .any, .any, .any, .any, .any, .any, .any, .any, .any, .any, .any, .any, .any, .any, .any, .any, .any, .any, .any, .any, .any, .any, .any, .any, .any, .any, .any, .any, .any, .any, .any, .any, .any, .any, .any, .any, .any, .any], m25⟩ ((C5_4 K) .normal)
noncomputable def P5_4_8 (a0 : AV) (a1 : AV) (a2 : AV) (r1 : AV × Mem) (r2 : AV × Mem) (r3 : AV × Mem) (r5 : AV × Mem) (r7 : AV × Mem) (r14 : AV × Mem) (r17 : AV × Mem) (r22 : AV × Mem) (r28 : AV × Mem) (v4 : AV) (v6 : AV) (v10 : AV) (v11 : AV) (v12 : AV) (v13 : AV) (v15 : AV) (v16 : AV) (v18 : AV) (v20 : AV) (v21 : AV) (v23 : AV) (v24 : AV) (v26 : AV) (v27 : AV) (v29 : AV) (v30 : AV) (K : Ex → St → Option (AV × Mem)) : Option (AV × Mem) := runOps cfg 5 (AP cfg) (AC cfg) none (opsOf (c1 (c2 (c2 (c2 (c2 (bodyOf f5))))))) [6, 7, 8] ⟨[a0, a1, a2, r1.1, r2.1, r3.1, (.bool false), (.ptr (newAt none r22.2 .resv).1 0), v24, .any, .any, .any, .any, .any, .any, .any, .any, .any, .any, v4, r5.1, v6, r7.1, v10, v11, v12, v13, r14.1, v15, v16, r17.1, v18, r22.1, v20, v21, r22.1, v23, v24, r28.1, v26, v27, r28.1, v29, v30, .any, .any, .any, .any, .any, .any, .any, .any, .any, .any, .any, .any, .any, .any, .any, .any, .any, .any, .any, .any, .any, .any, .any, .any, .any, .any, .any, .any, .any, .any, .any, .any, .any, .any, .any, .any, .any, .any, .any, .any, .any, .any, .any, .any, .any, .any, .any, .any, .any, .any, .any, .any, .any], r28.2⟩ ((C5_4 K) .normal)
noncomputable abbrev C5_5_0 (K : Ex → St → Option (AV × Mem)) : Ex → St → Option (AV × Mem) := seqK (fun st => execW cfg 5 (AP cfg) (AC cfg) (c2 (c2 (c2 (c2 (c2 (c2 (bodyOf f5))))))) st K) K
noncomputable abbrev C5_5 (K : Ex → St → Option (AV × Mem)) : Ex → St → Option (AV × Mem) := (C5_5_0 K)
noncomputable def P5_5_9 (a0 : AV) (a1 : AV) (a2 : AV) (m31 : Mem) (r1 : AV × Mem) (r2 : AV × Mem) (r3 : AV × Mem) (r5 : AV × Mem) (r7 : AV × Mem) (r14 : AV × Mem) (r17 : AV × Mem) (r22 : AV × Mem) (r28 : AV × Mem) (v4 : AV) (v6 : AV) (v10 : AV) (v11 : AV) (v12 : AV) (v13 : AV) (v15 : AV) (v16 : AV) (v18 : AV) (v20 : AV) (v21 : AV) (v23 : AV) (v24 : AV) (v26 : AV) (v27 : AV) (v29 : AV) (v30 : AV) (K : Ex → St → Option (AV × Mem)) : Option (AV × Mem) := runOps cfg 5 (AP cfg) (AC cfg) none (opsOf (c1 (c2 (c2 (c2 (c2 (c2 (bodyOf f5)))))))) [0, 1, 2, 3, 4, 5, 6, 7, 8] ⟨[a0, a1, a2, r1.1, r2.1, r3.1, (.bool false), (.ptr (newAt none r22.2 .resv).1 0), v24, (.ptr (newAt none r28.2 .resv).1 0), v30, .any, .any, .any, .any, .any, .any, .any, .any, v4, r5.1, v6, r7.1, v10, v11, v12, v13, r14.1, v15, v16, r17.1, v18, r22.1, v20, v21, r22.1, v23, v24, r28.1, v26, v27, r28.1, v29, v30, .any, .any, .any, .any, .any, .any, .any, .any, .any, .any, .any, .any, .any, .any, .any, .any, .any, .any, .any, .any, .any, .any, .any, .any, .any, .any, .any, .any, .any, .any, .any, .any, .any, .any, .any, .any, .any, .any, .any, .any, .any, .any, .any, .any, .any, .any, .any, .any, .any, .any, .any, .any, .any], m31⟩ ((C5_5 K) .normal)
noncomputable def P5_5_10 (a0 : AV) (a1 : AV) (a2 : AV) (r1 : AV × Mem) (r2 : AV × Mem) (r3 : AV × Mem) (r5 : AV × Mem) (r7 : AV × Mem) (r14 : AV × Mem) (r17 : AV × Mem) (r22 : AV × Mem) (r28 : AV × Mem) (r34 : AV × Mem) (v4 : AV) (v6 : AV) (v10 : AV) (v11 : AV) (v12 : AV) (v13 : AV) (v15 : AV) (v16 : AV) (v18 : AV) (v20 : AV) (v21 : AV) (v23 : AV) (v24 : AV) (v26 : AV) (v27 : AV) (v29 : AV) (v30 : AV) (v32 : AV) (v33 : AV) (v35 : AV) (v36 : AV) (K : Ex → St → Option (AV × Mem)) : Option (AV × Mem) := runOps cfg 5 (AP cfg) (AC cfg) none (opsOf (c1 (c2 (c2 (c2 (c2 (c2 (bodyOf f5)))))))) [6, 7, 8] ⟨[a0, a1, a2, r1.1, r2.1, r3.1, (.bool false), (.ptr (newAt none r22.2 .resv).1 0), v24, (.ptr (newAt none r28.2 .resv).1 0), v30, .any, .any, .any, .any, .any, .any, .any, .any, v4, r5.1, v6, r7.1, v10, v11, v12, v13, r14.1, v15, v16, r17.1, v18, r22.1, v20, v21, r22.1, v23, v24, r28.1, v26, v27, r28.1, v29, v30, r34.1, v32, v33, r34.1, v35, v36, .any, .any, .any, .any, .any, .any, .any, .any, .any, .any, .any, .any, .any, .any, .any, .any, .any, .any, .any, .any, .any, .any, .any, .any, .any, .any, .any, .any, .any, .any, .any, .any, .any, .any, .any, .any, .any, .any, .any, .any, .any, .any, .any, .any, .any, .any, .any], r34.2⟩ ((C5_5 K) .normal)
noncomputable abbrev C5_6_0 (K : Ex → St → Option (AV × Mem)) : Ex → St → Option (AV × Mem) := seqK (fun st => execW cfg 5 (AP cfg) (AC cfg) (c2 (c2 (c2 (c2 (c2 (c2 (c2 (bodyOf f5)))))))) st K) K
noncomputable abbrev C5_6 (K : Ex → St → Option (AV × Mem)) : Ex → St → Option (AV × Mem) := (C5_6_0 K)
noncomputable def P5_6_11 (a0 : AV) (a1 : AV) (a2 : AV) (m37 : Mem) (r1 : AV × Mem) (r2 : AV × Mem) (r3 : AV × Mem) (r5 : AV × Mem) (r7 : AV × Mem) (r14 : AV × Mem) (r17 : AV × Mem) (r22 : AV × Mem) (r28 : AV × Mem) (r34 : AV × Mem) (v4 : AV) (v6 : AV) (v10 : AV) (v11 : AV) (v12 : AV) (v13 : AV) (v15 : AV) (v16 : AV) (v18 : AV) (v20 : AV) (v21 : AV) (v23 : AV) (v24 : AV) (v26 : AV) (v27 : AV) (v29 : AV) (v30 : AV) (v32 : AV) (v33 : AV) (v35 : AV) (v36 : AV) (K : Ex → St → Option (AV × Mem)) : Option (AV × Mem) := runOps cfg 5 (AP cfg) (AC cfg) none (opsOf (c1 (c2 (c2 (c2 (c2 (c2 (c2 (bodyOf f5))))))))) [0, 1, 2, 3, 4, 5, 6, 7, 8] ⟨[a0, a1, a2, r1.1, r2.1, r3.1, (.bool false), (.ptr (newAt none r22.2 .resv).1 0), v24, (.ptr (newAt none r28.2 .resv).1 0), v30, (.ptr (newAt none r34.2 .resv).1 0), v36, .any, .any, .any, .any, .any, .any, v4, r5.1, v6, r7.1, v10, v11, v12, v13, r14.1, v15, v16, r17.1, v18, r22.1, v20, v21, r22.1, v23, v24, r28.1, v26, v27, r28.1, v29, v30, r34.1, v32, v33, r34.1, v35, v36, .any, .any, .any, .any, .any, .any, .any, .any, .any, .any, .any, .any, .any, .any, .any, .any, .any, .any, .any, .any, .any, .any, .any, .any, .any, .any, .any, .any, .any, .any, .any, .any, .any, .any, .any, .any, .any, .any, .any, .any, .any, .any, .any, .any, .any, .any, .any], m37⟩ ((C5_6 K) .normal)
noncomputable def P5_6_12 (a0 : AV) (a1 : AV) (a2 : AV) (r1 : AV × Mem) (r2 : AV × Mem) (r3 : AV × Mem) (r5 : AV × Mem) (r7 : AV × Mem) (r14 : AV × Mem) (r17 : AV × Mem) (r22 : AV × Mem) (r28 : AV × Mem) (r34 : AV × Mem) (r40 : AV × Mem) (v4 : AV) (v6 : AV) (v10 : AV) (v11 : AV) (v12 : AV) (v13 : AV) (v15 : AV) (v16 : AV) (v18 : AV) (v20 : AV) (v21 : AV) (v23 : AV) (v24 : AV) (v26 : AV) (v27 : AV) (v29 : AV) (v30 : AV) (v32 : AV) (v33 : AV) (v35 : AV) (v36 : AV) (v38 : AV) (v39 : AV) (v41 : AV) (v42 : AV) (K : Ex → St → Option (AV × Mem)) : Option (AV × Mem) := runOps cfg 5 (AP cfg) (AC cfg) none (opsOf (c1 (c2 (c2 (c2 (c2 (c2 (c2 (bodyOf f5))))))))) [6, 7, 8] ⟨[a0, a1, a2, r1.1, r2.1, r3.1, (.bool false), (.ptr (newAt none r22.2 .resv).1 0), v24, (.ptr (newAt none r28.2 .resv).1 0), v30, (.ptr (newAt none r34.2 .resv).1 0), v36, .any, .any, .any, .any, .any, .any, v4, r5.1, v6, r7.1, v10, v11, v12, v13, r14.1, v15, v16, r17.1, v18, r22.1, v20, v21, r22.1, v23, v24, r28.1, v26, v27, r28.1, v29, v30, r34.1, v32, v33, r34.1, v35, v36, r40.1, v38, v39, r40.1, v41, v42, .any, .any, .any, .any, .any, .any, .any, .any, .any, .any, .any, .any, .any, .any, .any, .any, .any, .any, .any, .any, .any, .any, .any, .any, .any, .any, .any, .any, .any, .any, .any, .any, .any, .any, .any, .any, .any, .any, .any, .any, .any], r40.2⟩ ((C5_6 K) .normal)
noncomputable abbrev C5_7_0 (K : Ex → St → Option (AV × Mem)) : Ex → St → Option (AV × Mem) := seqK (fun st => execW cfg 5 (AP cfg) (AC cfg) (c2 (c2 (c2 (c2 (c2 (c2 (c2 (c2 (bodyOf f5))))))))) st K) K
noncomputable abbrev C5_7 (K : Ex → St → Option (AV × Mem)) : Ex → St → Option (AV × Mem) := (C5_7_0 K)
noncomputable def P5_7_13 (a0 : AV) (a1 : AV) (a2 : AV) (m43 : Mem) (r1 : AV × Mem) (r2 : AV × Mem) (r3 : AV × Mem) (r5 : AV × Mem) (r7 : AV × Mem) (r14 : AV × Mem) (r17 : AV × Mem) (r22 : AV × Mem) (r28 : AV × Mem) (r34 : AV × Mem) (r40 : AV × Mem) (v4 : AV) (v6 : AV) (v10 : AV) (v11 : AV) (v12 : AV) (v13 : AV) (v15 : AV) (v16 : AV) (v18 : AV) (v20 : AV) (v21 : AV) (v23 : AV) (v24 : AV) (v26 : AV) (v27 : AV) (v29 : AV) (v30 : AV) (v32 : AV) (v33 : AV) (v35 : AV) (v36 : AV) (v38 : AV) (v39 : AV) (v41 : AV) (v42 : AV) (K : Ex → St → Option (AV × Mem)) : Option (AV × Mem) := runOps cfg 5 (AP cfg) (AC cfg) none (opsOf (c1 (c2 (c2 (c2 (c2 (c2 (c2 (c2 (bodyOf f5)))))))))) [0, 1, 2, 3, 4, 5, 6, 7] ⟨[a0, a1, a2, r1.1, r2.1, r3.1, (.bool false), (.ptr (newAt none r22.2 .resv).1 0), v24, (.ptr (newAt none r28.2 .resv).1 0), v30, (.ptr (newAt none r34.2 .resv).1 0), v36, (.ptr (newAt none r40.2 .resv).1 0), v42, .any, .any, .any, .any, v4, r5.1, v6, r7.1, v10, v11, v12, v13, r14.1, v15, v16, r17.1, v18, r22.1, v20, v21, r22.1, v23, v24, r28.1, v26, v27, r28.1, v29, v30, r34.1, v32, v33, r34.1, v35, v36, r40.1, v38, v39, r40.1, v41, v42, .any, .any, .any, .any, .any, .any, .any, .any, .any, .any, .any, .any, .any, .any, .any, .any, .any, .any, .any, .any, .any, .any, .any, .any, .any, .any, .any, .any, .any, .any, .any, .any, .any, .any, .any, .any, .any, .any, .any, .any, .any], m43⟩ ((C5_7 K) .normal)
noncomputable def P5_7_14 (a0 : AV) (a1 : AV) (a2 : AV) (r1 : AV × Mem) (r2 : AV × Mem) (r3 : AV × Mem) (r5 : AV × Mem) (r7 : AV × Mem) (r14 : AV × Mem) (r17 : AV × Mem) (r22 : AV × Mem) (r28 : AV × Mem) (r34 : AV × Mem) (r40 : AV × Mem) (r45 : AV × Mem) (v4 : AV) (v6 : AV) (v10 : AV) (v11 : AV) (v12 : AV) (v13 : AV) (v15 : AV) (v16 : AV) (v18 : AV) (v20 : AV) (v21 : AV) (v23 : AV) (v24 : AV) (v26 : AV) (v27 : AV) (v29 : AV) (v30 : AV) (v32 : AV) (v33 : AV) (v35 : AV) (v36 : AV) (v38 : AV) (v39 : AV) (v41 : AV) (v42 : AV) (v44 : AV) (v46 : AV) (v47 : AV) (K : Ex → St → Option (AV × Mem)) : Option (AV × Mem) := runOps cfg 5 (AP cfg) (AC cfg) none (opsOf (c1 (c2 (c2 (c2 (c2 (c2 (c2 (c2 (bodyOf f5)))))))))) [6, 7] ⟨[a0, a1, a2, r1.1, r2.1, r3.1, (.bool false), (.ptr (newAt none r22.2 .resv).1 0), v24, (.ptr (newAt none r28.2 .resv).1 0), v30, (.ptr (newAt none r34.2 .resv).1 0), v36, (.ptr (newAt none r40.2 .resv).1 0), v42, (.ptr (newAt none r45.2 .resv).1 0), .any, .any, .any, v4, r5.1, v6, r7.1, v10, v11, v12, v13, r14.1, v15, v16, r17.1, v18, r22.1, v20, v21, r22.1, v23, v24, r28.1, v26, v27, r28.1, v29, v30, r34.1, v32, v33, r34.1, v35, v36, r40.1, v38, v39, r40.1, v41, v42, r45.1, v44, r45.1, v46, v47, .any, .any, .any, .any, .any, .any, .any, .any, .any, .any, .any, .any, .any, .any, .any, .any, .any, .any, .any, .any, .any, .any, .any, .any, .any, .any, .any, .any, .any, .any, .any, .any, .any, .any, .any, .any], (newAt none r45.2 (.obj true [(.int .i64 0), (.int .i64 0), (.lst none true .full [])])).2⟩ ((C5_7 K) .normal)
noncomputable abbrev C5_8_0 (K : Ex → St → Option (AV × Mem)) : Ex → St → Option (AV × Mem) := seqK (fun st => execW cfg 5 (AP cfg) (AC cfg) (c2 (c2 (c2 (c2 (c2 (c2 (c2 (c2 (c2 (bodyOf f5)))))))))) st K) K
noncomputable abbrev C5_8 (K : Ex → St → Option (AV × Mem)) : Ex → St → Option (AV × Mem) := (C5_8_0 K)
noncomputable def P5_8_15 (a0 : AV) (a1 : AV) (a2 : AV) (m48 : Mem) (r1 : AV × Mem) (r2 : AV × Mem) (r3 : AV × Mem) (r5 : AV × Mem) (r7 : AV × Mem) (r14 : AV × Mem) (r17 : AV × Mem) (r22 : AV × Mem) (r28 : AV × Mem) (r34 : AV × Mem) (r40 : AV × Mem) (r45 : AV × Mem) (v4 : AV) (v6 : AV) (v10 : AV) (v11 : AV) (v12 : AV) (v13 : AV) (v15 : AV) (v16 : AV) (v18 : AV) (v20 : AV) (v21 : AV) (v23 : AV) (v24 : AV) (v26 : AV) (v27 : AV) (v29 : AV) (v30 : AV) (v32 : AV) (v33 : AV) (v35 : AV) (v36 : AV) (v38 : AV) (v39 : AV) (v41 : AV) (v42 : AV) (v44 : AV) (v46 : AV) (v47 : AV) (K : Ex → St → Option (AV × Mem)) : Option (AV × Mem) := runOps cfg 5 (AP cfg) (AC cfg) none (opsOf (c1 (c2 (c2 (c2 (c2 (c2 (c2 (c2 (c2 (bodyOf f5))))))))))) [0, 1, 2, 3, 4, 5, 6, 7] ⟨[a0, a1, a2, r1.1, r2.1, r3.1, (.bool false), (.ptr (newAt none r22.2 .resv).1 0), v24, (.ptr (newAt none r28.2 .resv).1 0), v30, (.ptr (newAt none r34.2 .resv).1 0), v36, (.ptr (newAt none r40.2 .resv).1 0), v42, (.ptr (newAt none r45.2 .resv).1 0), v47, .any, .any, v4, r5.1, v6, r7.1, v10, v11, v12, v13, r14.1, v15, v16, r17.1, v18, r22.1, v20, v21, r22.1, v23, v24, r28.1, v26, v27, r28.1, v29, v30, r34.1, v32, v33, r34.1, v35, v36, r40.1, v38, v39, r40.1, v41, v42, r45.1, v44, r45.1, v46, v47, .any, .any, .any, .any, .any, .any, .any, .any, .any, .any, .any, .any, .any, .any, .any, .any, .any, .any, .any, .any, .any, .any, .any, .any, .any, .any, .any, .any, .any, .any, .any, .any, .any, .any, .any, .any], m48⟩ ((C5_8 K) .normal)
noncomputable def P5_8_16 (a0 : AV) (a1 : AV) (a2 : AV) (r1 : AV × Mem) (r2 : AV × Mem) (r3 : AV × Mem) (r5 : AV × Mem) (r7 : AV × Mem) (r14 : AV × Mem) (r17 : AV × Mem) (r22 : AV × Mem) (r28 : AV × Mem) (r34 : AV × Mem) (r40 : AV × Mem) (r45 : AV × Mem) (r50 : AV × Mem) (v4 : AV) (v6 : AV) (v10 : AV) (v11 : AV) (v12 : AV) (v13 : AV) (v15 : AV) (v16 : AV) (v18 : AV) (v20 : AV) (v21 : AV) (v23 : AV) (v24 : AV) (v26 : AV) (v27 : AV) (v29 : AV) (v30 : AV) (v32 : AV) (v33 : AV) (v35 : AV) (v36 : AV) (v38 : AV) (v39 : AV) (v41 : AV) (v42 : AV) (v44 : AV) (v46 : AV) (v47 : AV) (v49 : AV) (v51 : AV) (v52 : AV) (K : Ex → St → Option (AV × Mem)) : Option (AV × Mem) := runOps cfg 5 (AP cfg) (AC cfg) none (opsOf (c1 (c2 (c2 (c2 (c2 (c2 (c2 (c2 (c2 (bodyOf f5))))))))))) [6, 7] ⟨[a0, a1, a2, r1.1, r2.1, r3.1, (.bool false), (.ptr (newAt none r22.2 .resv).1 0), v24, (.ptr (newAt none r28.2 .resv).1 0), v30, (.ptr (newAt none r34.2 .resv).1 0), v36, (.ptr (newAt none r40.2 .resv).1 0), v42, (.ptr (newAt none r45.2 .resv).1 0), v47, (.ptr (newAt none r50.2 .resv).1 0), .any, v4, r5.1, v6, r7.1, v10, v11, v12, v13, r14.1, v15, v16, r17.1, v18, r22.1, v20, v21, r22.1, v23, v24, r28.1, v26, v27, r28.1, v29, v30, r34.1, v32, v33, r34.1, v35, v36, r40.1, v38, v39, r40.1, v41, v42, r45.1, v44, r45.1, v46, v47, r50.1, v49, r50.1, v51, v52, .any, .any, .any, .any, .any, .any, .any, .any, .any, .any, .any, .any, .any, .any, .any, .any, .any, .any, .any, .any, .any, .any, .any, .any, .any, .any, .any, .any, .any, .any, .any], (newAt none r50.2 (.obj true [(.int .i64 0), (.int .i64 0), (.lst none true .full [])])).2⟩ ((C5_8 K) .normal)
noncomputable abbrev C5_9_0 (K : Ex → St → Option (AV × Mem)) : Ex → St → Option (AV × Mem) := seqK (fun st => execW cfg 5 (AP cfg) (AC cfg) (c2 (c2 (c2 (c2 (c2 (c2 (c2 (c2 (c2 (c2 (bodyOf f5))))))))))) st K) K
noncomputable abbrev C5_9 (K : Ex → St → Option (AV × Mem)) : Ex → St → Option (AV × Mem) := (C5_9_0 K)
noncomputable def P5_9_17 (a0 : AV) (a1 : AV) (a2 : AV) (m53 : Mem) (r1 : AV × Mem) (r2 : AV × Mem) (r3 : AV × Mem) (r5 : AV × Mem) (r7 : AV × Mem) (r14 : AV × Mem) (r17 : AV × Mem) (r22 : AV × Mem) (r28 : AV × Mem) (r34 : AV × Mem) (r40 : AV × Mem) (r45 : AV × Mem) (r50 : AV × Mem) (v4 : AV) (v6 : AV) (v10 : AV) (v11 : AV) (v12 : AV) (v13 : AV) (v15 : AV) (v16 : AV) (v18 : AV) (v20 : AV) (v21 : AV) (v23 : AV) (v24 : AV) (v26 : AV) (v27 : AV) (v29 : AV) (v30 : AV) (v32 : AV) (v33 : AV) (v35 : AV) (v36 : AV) (v38 : AV) (v39 : AV) (v41 : AV) (v42 : AV) (v44 : AV) (v46 : AV) (v47 : AV) (v49 : AV) (v51 : AV) (v52 : AV) (K : Ex → St → Option (AV × Mem)) : Option (AV × Mem) := runOps cfg 5 (AP cfg) (AC cfg) (some (m53).length) (opsOf (c1 (c2 (c2 (c2 (c2 (c2 (c2 (c2 (c2 (c2 (bodyOf f5)))))))))))) [0, 1, 2, 3, 4, 5, 6, 7, 8, 9, 10, 11, 12, 13, 14, 15, 16, 17, 18, 19, 20, 21, 22, 23, 24, 25, 26, 27, 28, 29, 30, 31] ⟨[a0, a1, a2, r1.1, r2.1, r3.1, (.bool false), (.ptr (newAt none r22.2 .resv).1 0), v24, (.ptr (newAt none r28.2 .resv).1 0), v30, (.ptr (newAt none r34.2 .resv).1 0), v36, (.ptr (newAt none r40.2 .resv).1 0), v42, (.ptr (newAt none r45.2 .resv).1 0), v47, (.ptr (newAt none r50.2 .resv).1 0), v52, v4, r5.1, v6, r7.1, v10, v11, v12, v13, r14.1, v15, v16, r17.1, v18, r22.1, v20, v21, r22.1, v23, v24, r28.1, v26, v27, r28.1, v29, v30, r34.1, v32, v33, r34.1, v35, v36, r40.1, v38, v39, r40.1, v41, v42, r45.1, v44, r45.1, v46, v47, r50.1, v49, r50.1, v51, v52, .any, .any, .any, .any, .any, .any, .any, .any, .any, .any, .any, .any, .any, .any, .any, .any, .any, .any, .any, .any, .any, .any, .any, .any, .any, .any, .any, .any, .any, .any, .any], m53⟩ ((C5_9 K) .normal)
noncomputable def P5_9_18 (a0 : AV) (a1 : AV) (a2 : AV) (m53 : Mem) (r1 : AV × Mem) (r2 : AV × Mem) (r3 : AV × Mem) (r5 : AV × Mem) (r7 : AV × Mem) (r14 : AV × Mem) (r17 : AV × Mem) (r22 : AV × Mem) (r28 : AV × Mem) (r34 : AV × Mem) (r40 : AV × Mem) (r45 : AV × Mem) (r50 : AV × Mem) (r56 : AV × Mem) (v4 : AV) (v6 : AV) (v10 : AV) (v11 : AV) (v12 : AV) (v13 : AV) (v15 : AV) (v16 : AV) (v18 : AV) (v20 : AV) (v21 : AV) (v23 : AV) (v24 : AV) (v26 : AV) (v27 : AV) (v29 : AV) (v30 : AV) (v32 : AV) (v33 : AV) (v35 : AV) (v36 : AV) (v38 : AV) (v39 : AV) (v41 : AV) (v42 : AV) (v44 : AV) (v46 : AV) (v47 : AV) (v49 : AV) (v51 : AV) (v52 : AV) (v54 : AV) (v55 : AV) (K : Ex → St → Option (AV × Mem)) : Option (AV × Mem) := runOps cfg 5 (AP cfg) (AC cfg) (some (m53).length) (opsOf (c1 (c2 (c2 (c2 (c2 (c2 (c2 (c2 (c2 (c2 (bodyOf f5)))))))))))) [6, 7, 8, 9, 10, 11, 12, 13, 14, 15, 16, 17, 18, 19, 20, 21, 22, 23, 24, 25, 26, 27, 28, 29, 30, 31] ⟨[a0, a1, a2, r1.1, r2.1, r3.1, (.bool false), (.ptr (newAt none r22.2 .resv).1 0), v24, (.ptr (newAt none r28.2 .resv).1 0), v30, (.ptr (newAt none r34.2 .resv).1 0), v36, (.ptr (newAt none r40.2 .resv).1 0), v42, (.ptr (newAt none r45.2 .resv).1 0), v47, (.ptr (newAt none r50.2 .resv).1 0), v52, v4, r5.1, v6, r7.1, v10, v11, v12, v13, r14.1, v15, v16, r17.1, v18, r22.1, v20, v21, r22.1, v23, v24, r28.1, v26, v27, r28.1, v29, v30, r34.1, v32, v33, r34.1, v35, v36, r40.1, v38, v39, r40.1, v41, v42, r45.1, v44, r45.1, v46, v47, r50.1, v49, r50.1, v51, v52, v54, v24, v55, v30, r56.1, r56.1, .any, .any, .any, .any, .any, .any, .any, .any, .any, .any, .any, .any, .any, .any, .any, .any, .any, .any, .any, .any, .any, .any, .any, .any, .any], r56.2⟩ ((C5_9 K) .normal)
noncomputable def P5_9_19 (a0 : AV) (a1 : AV) (a2 : AV) (m53 : Mem) (r1 : AV × Mem) (r2 : AV × Mem) (r3 : AV × Mem) (r5 : AV × Mem) (r7 : AV × Mem) (r14 : AV × Mem) (r17 : AV × Mem) (r22 : AV × Mem) (r28 : AV × Mem) (r34 : AV × Mem) (r40 : AV × Mem) (r45 : AV × Mem) (r50 : AV × Mem) (r56 : AV × Mem) (r59 : AV × Mem) (v4 : AV) (v6 : AV) (v10 : AV) (v11 : AV) (v12 : AV) (v13 : AV) (v15 : AV) (v16 : AV) (v18 : AV) (v20 : AV) (v21 : AV) (v23 : AV) (v24 : AV) (v26 : AV) (v27 : AV) (v29 : AV) (v30 : AV) (v32 : AV) (v33 : AV) (v35 : AV) (v36 : AV) (v38 : AV) (v39 : AV) (v41 : AV) (v42 : AV) (v44 : AV) (v46 : AV) (v47 : AV) (v49 : AV) (v51 : AV) (v52 : AV) (v54 : AV) (v55 : AV) (v57 : AV) (v58 : AV) (K : Ex → St → Option (AV × Mem)) : Option (AV × Mem) := runOps cfg 5 (AP cfg) (AC cfg) (some (m53).length) (opsOf (c1 (c2 (c2 (c2 (c2 (c2 (c2 (c2 (c2 (c2 (bodyOf f5)))))))))))) [12, 13, 14, 15, 16, 17, 18, 19, 20, 21, 22, 23, 24, 25, 26, 27, 28, 29, 30, 31] ⟨[a0, a1, a2, r1.1, r2.1, r3.1, (.bool false), (.ptr (newAt none r22.2 .resv).1 0), v24, (.ptr (newAt none r28.2 .resv).1 0), v30, (.ptr (newAt none r34.2 .resv).1 0), v36, (.ptr (newAt none r40.2 .resv).1 0), v42, (.ptr (newAt none r45.2 .resv).1 0), v47, (.ptr (newAt none r50.2 .resv).1 0), v52, v4, r5.1, v6, r7.1, v10, v11, v12, v13, r14.1, v15, v16, r17.1, v18, r22.1, v20, v21, r22.1, v23, v24, r28.1, v26, v27, r28.1, v29, v30, r34.1, v32, v33, r34.1, v35, v36, r40.1, v38, v39, r40.1, v41, v42, r45.1, v44, r45.1, v46, v47, r50.1, v49, r50.1, v51, v52, v54, v24, v55, v30, r56.1, (.bool true), v57, v36, v58, v42, r59.1, r59.1, .any, .any, .any, .any, .any, .any, .any, .any, .any, .any, .any, .any, .any, .any, .any, .any, .any, .any, .any], r59.2⟩ ((C5_9 K) .normal)
noncomputable def P5_9_20 (a0 : AV) (a1 : AV) (a2 : AV) (m53 : Mem) (r1 : AV × Mem) (r2 : AV × Mem) (r3 : AV × Mem) (r5 : AV × Mem) (r7 : AV × Mem) (r14 : AV × Mem) (r17 : AV × Mem) (r22 : AV × Mem) (r28 : AV × Mem) (r34 : AV × Mem) (r40 : AV × Mem) (r45 : AV × Mem) (r50 : AV × Mem) (r56 : AV × Mem) (v4 : AV) (v6 : AV) (v10 : AV) (v11 : AV) (v12 : AV) (v13 : AV) (v15 : AV) (v16 : AV) (v18 : AV) (v20 : AV) (v21 : AV) (v23 : AV) (v24 : AV) (v26 : AV) (v27 : AV) (v29 : AV) (v30 : AV) (v32 : AV) (v33 : AV) (v35 : AV) (v36 : AV) (v38 : AV) (v39 : AV) (v41 : AV) (v42 : AV) (v44 : AV) (v46 : AV) (v47 : AV) (v49 : AV) (v51 : AV) (v52 : AV) (v54 : AV) (v55 : AV) (K : Ex → St → Option (AV × Mem)) : Option (AV × Mem) := runOps cfg 5 (AP cfg) (AC cfg) (some (m53).length) (opsOf (c1 (c2 (c2 (c2 (c2 (c2 (c2 (c2 (c2 (c2 (bodyOf f5)))))))))))) [12, 13, 14, 15, 16, 17, 18, 19, 20, 21, 22, 23, 24, 25, 26, 27, 28, 29, 30, 31] ⟨[a0, a1, a2, r1.1, r2.1, r3.1, (.bool false), (.ptr (newAt none r22.2 .resv).1 0), v24, (.ptr (newAt none r28.2 .resv).1 0), v30, (.ptr (newAt none r34.2 .resv).1 0), v36, (.ptr (newAt none r40.2 .resv).1 0), v42, (.ptr (newAt none r45.2 .resv).1 0), v47, (.ptr (newAt none r50.2 .resv).1 0), v52, v4, r5.1, v6, r7.1, v10, v11, v12, v13, r14.1, v15, v16, r17.1, v18, r22.1, v20, v21, r22.1, v23, v24, r28.1, v26, v27, r28.1, v29, v30, r34.1, v32, v33, r34.1, v35, v36, r40.1, v38, v39, r40.1, v41, v42, r45.1, v44, r45.1, v46, v47, r50.1, v49, r50.1, v51, v52, v54, v24, v55, v30, r56.1, (.bool false), (.tup []), (.tup []), (.tup []), (.tup []), (.tup []), (.bool false), .any, .any, .any, .any, .any, .any, .any, .any, .any, .any, .any, .any, .any, .any, .any, .any, .any, .any, .any], r56.2⟩ ((C5_9 K) .normal)
noncomputable def P5_9_21 (a0 : AV) (a1 : AV) (a2 : AV) (m53 : Mem) (r1 : AV × Mem) (r2 : AV × Mem) (r3 : AV × Mem) (r5 : AV × Mem) (r7 : AV × Mem) (r14 : AV × Mem) (r17 : AV × Mem) (r22 : AV × Mem) (r28 : AV × Mem) (r34 : AV × Mem) (r40 : AV × Mem) (r45 : AV × Mem) (r50 : AV × Mem) (r56 : AV × Mem) (r59 : AV × Mem) (r62 : AV × Mem) (v4 : AV) (v6 : AV) (v10 : AV) (v11 : AV) (v12 : AV) (v13 : AV) (v15 : AV) (v16 : AV) (v18 : AV) (v20 : AV) (v21 : AV) (v23 : AV) (v24 : AV) (v26 : AV) (v27 : AV) (v29 : AV) (v30 : AV) (v32 : AV) (v33 : AV) (v35 : AV) (v36 : AV) (v38 : AV) (v39 : AV) (v41 : AV) (v42 : AV) (v44 : AV) (v46 : AV) (v47 : AV) (v49 : AV) (v51 : AV) (v52 : AV) (v54 : AV) (v55 : AV) (v57 : AV) (v58 : AV) (v60 : AV) (v61 : AV) (K : Ex → St → Option (AV × Mem)) : Option (AV × Mem) := runOps cfg 5 (AP cfg) (AC cfg) (some (m53).length) (opsOf (c1 (c2 (c2 (c2 (c2 (c2 (c2 (c2 (c2 (c2 (bodyOf f5)))))))))))) [18, 19, 20, 21, 22, 23, 24, 25, 26, 27, 28, 29, 30, 31] ⟨[a0, a1, a2, r1.1, r2.1, r3.1, (.bool false), (.ptr (newAt none r22.2 .resv).1 0), v24, (.ptr (newAt none r28.2 .resv).1 0), v30, (.ptr (newAt none r34.2 .resv).1 0), v36, (.ptr (newAt none r40.2 .resv).1 0), v42, (.ptr (newAt none r45.2 .resv).1 0), v47, (.ptr (newAt none r50.2 .resv).1 0), v52, v4, r5.1, v6, r7.1, v10, v11, v12, v13, r14.1, v15, v16, r17.1, v18, r22.1, v20, v21, r22.1, v23, v24, r28.1, v26, v27, r28.1, v29, v30, r34.1, v32, v33, r34.1, v35, v36, r40.1, v38, v39, r40.1, v41, v42, r45.1, v44, r45.1, v46, v47, r50.1, v49, r50.1, v51, v52, v54, v24, v55, v30, r56.1, (.bool true), v57, v36, v58, v42, r59.1, r59.1, (.bool true), v60, v47, v61, v52, r62.1, .any, .any, .any, .any, .any, .any, .any, .any, .any, .any, .any, .any, .any], r62.2⟩ ((C5_9 K) .normal)
noncomputable def P5_9_22 (a0 : AV) (a1 : AV) (a2 : AV) (m53 : Mem) (r1 : AV × Mem) (r2 : AV × Mem) (r3 : AV × Mem) (r5 : AV × Mem) (r7 : AV × Mem) (r14 : AV × Mem) (r17 : AV × Mem) (r22 : AV × Mem) (r28 : AV × Mem) (r34 : AV × Mem) (r40 : AV × Mem) (r45 : AV × Mem) (r50 : AV × Mem) (r56 : AV × Mem) (r59 : AV × Mem) (v4 : AV) (v6 : AV) (v10 : AV) (v11 : AV) (v12 : AV) (v13 : AV) (v15 : AV) (v16 : AV) (v18 : AV) (v20 : AV) (v21 : AV) (v23 : AV) (v24 : AV) (v26 : AV) (v27 : AV) (v29 : AV) (v30 : AV) (v32 : AV) (v33 : AV) (v35 : AV) (v36 : AV) (v38 : AV) (v39 : AV) (v41 : AV) (v42 : AV) (v44 : AV) (v46 : AV) (v47 : AV) (v49 : AV) (v51 : AV) (v52 : AV) (v54 : AV) (v55 : AV) (v57 : AV) (v58 : AV) (K : Ex → St → Option (AV × Mem)) : Option (AV × Mem) := runOps cfg 5 (AP cfg) (AC cfg) (some (m53).length) (opsOf (c1 (c2 (c2 (c2 (c2 (c2 (c2 (c2 (c2 (c2 (bodyOf f5)))))))))))) [18, 19, 20, 21, 22, 23, 24, 25, 26, 27, 28, 29, 30, 31] ⟨[a0, a1, a2, r1.1, r2.1, r3.1, (.bool false), (.ptr (newAt none r22.2 .resv).1 0), v24, (.ptr (newAt none r28.2 .resv).1 0), v30, (.ptr (newAt none r34.2 .resv).1 0), v36, (.ptr (newAt none r40.2 .resv).1 0), v42, (.ptr (newAt none r45.2 .resv).1 0), v47, (.ptr (newAt none r50.2 .resv).1 0), v52, v4, r5.1, v6, r7.1, v10, v11, v12, v13, r14.1, v15, v16, r17.1, v18, r22.1, v20, v21, r22.1, v23, v24, r28.1, v26, v27, r28.1, v29, v30, r34.1, v32, v33, r34.1, v35, v36, r40.1, v38, v39, r40.1, v41, v42, r45.1, v44, r45.1, v46, v47, r50.1, v49, r50.1, v51, v52, v54, v24, v55, v30, r56.1, (.bool true), v57, v36, v58, v42, r59.1, r59.1, (.bool false), (.tup []), (.tup []), (.tup []), (.tup []), (.tup []), .any, .any, .any, .any, .any, .any, .any, .any, .any, .any, .any, .any, .any], r59.2⟩ ((C5_9 K) .normal)
noncomputable def P5_9_24 (a0 : AV) (a1 : AV) (a2 : AV) (m53 : Mem) (r1 : AV × Mem) (r2 : AV × Mem) (r3 : AV × Mem) (r5 : AV × Mem) (r7 : AV × Mem) (r14 : AV × Mem) (r17 : AV × Mem) (r22 : AV × Mem) (r28 : AV × Mem) (r34 : AV × Mem) (r40 : AV × Mem) (r45 : AV × Mem) (r50 : AV × Mem) (r56 : AV × Mem) (r59 : AV × Mem) (r62 : AV × Mem) (r65 : AV × Mem) (v4 : AV) (v6 : AV) (v10 : AV) (v11 : AV) (v12 : AV) (v13 : AV) (v15 : AV) (v16 : AV) (v18 : AV) (v20 : AV) (v21 : AV) (v23 : AV) (v24 : AV) (v26 : AV) (v27 : AV) (v29 : AV) (v30 : AV) (v32 : AV) (v33 : AV) (v35 : AV) (v36 : AV) (v38 : AV) (v39 : AV) (v41 : AV) (v42 : AV) (v44 : AV) (v46 : AV) (v47 : AV) (v49 : AV) (v51 : AV) (v52 : AV) (v54 : AV) (v55 : AV) (v57 : AV) (v58 : AV) (v60 : AV) (v61 : AV) (v63 : AV) (v64 : AV) (v66 : AV) (K : Ex → St → Option (AV × Mem)) : Option (AV × Mem) := runOps cfg 5 (AP cfg) (AC cfg) (some (m53).length) (opsOf (c1 (c2 (c2 (c2 (c2 (c2 (c2 (c2 (c2 (c2 (bodyOf f5)))))))))))) [24, 25, 26, 27, 28, 29, 30, 31] ⟨[a0, a1, a2, r1.1, r2.1, r3.1, (.bool false), (.ptr (newAt none r22.2 .resv).1 0), v24, (.ptr (newAt none r28.2 .resv).1 0), v30, (.ptr (newAt none r34.2 .resv).1 0), v36, (.ptr (newAt none r40.2 .resv).1 0), v42, (.ptr (newAt none r45.2 .resv).1 0), v47, (.ptr (newAt none r50.2 .resv).1 0), v52, v4, r5.1, v6, r7.1, v10, v11, v12, v13, r14.1, v15, v16, r17.1, v18, r22.1, v20, v21, r22.1, v23, v24, r28.1, v26, v27, r28.1, v29, v30, r34.1, v32, v33, r34.1, v35, v36, r40.1, v38, v39, r40.1, v41, v42, r45.1, v44, r45.1, v46, v47, r50.1, v49, r50.1, v51, v52, v54, v24, v55, v30, r56.1, (.bool true), v57, v36, v58, v42, r59.1, r59.1, (.bool true), v60, v47, v61, v52, r62.1, r62.1, (.bool true), v63, v64, r65.1, v66, .any, .any, .any, .any, .any, .any, .any], r65.2⟩ ((C5_9 K) .normal)
noncomputable def P5_9_25 (a0 : AV) (a1 : AV) (a2 : AV) (m53 : Mem) (r1 : AV × Mem) (r2 : AV × Mem) (r3 : AV × Mem) (r5 : AV × Mem) (r7 : AV × Mem) (r14 : AV × Mem) (r17 : AV × Mem) (r22 : AV × Mem) (r28 : AV × Mem) (r34 : AV × Mem) (r40 : AV × Mem) (r45 : AV × Mem) (r50 : AV × Mem) (r56 : AV × Mem) (r59 : AV × Mem) (r62 : AV × Mem) (v4 : AV) (v6 : AV) (v10 : AV) (v11 : AV) (v12 : AV) (v13 : AV) (v15 : AV) (v16 : AV) (v18 : AV) (v20 : AV) (v21 : AV) (v23 : AV) (v24 : AV) (v26 : AV) (v27 : AV) (v29 : AV) (v30 : AV) (v32 : AV) (v33 : AV) (v35 : AV) (v36 : AV) (v38 : AV) (v39 : AV) (v41 : AV) (v42 : AV) (v44 : AV) (v46 : AV) (v47 : AV) (v49 : AV) (v51 : AV) (v52 : AV) (v54 : AV) (v55 : AV) (v57 : AV) (v58 : AV) (v60 : AV) (v61 : AV) (K : Ex → St → Option (AV × Mem)) : Option (AV × Mem) := runOps cfg 5 (AP cfg) (AC cfg) (some (m53).length) (opsOf (c1 (c2 (c2 (c2 (c2 (c2 (c2 (c2 (c2 (c2 (bodyOf f5)))))))))))) [24, 25, 26, 27, 28, 29, 30, 31] ⟨[a0, a1, a2, r1.1, r2.1, r3.1, (.bool false), (.ptr (newAt none r22.2 .resv).1 0), v24, (.ptr (newAt none r28.2 .resv).1 0), v30, (.ptr (newAt none r34.2 .resv).1 0), v36, (.ptr (newAt none r40.2 .resv).1 0), v42, (.ptr (newAt none r45.2 .resv).1 0), v47, (.ptr (newAt none r50.2 .resv).1 0), v52, v4, r5.1, v6, r7.1, v10, v11, v12, v13, r14.1, v15, v16, r17.1, v18, r22.1, v20, v21, r22.1, v23, v24, r28.1, v26, v27, r28.1, v29, v30, r34.1, v32, v33, r34.1, v35, v36, r40.1, v38, v39, r40.1, v41, v42, r45.1, v44, r45.1, v46, v47, r50.1, v49, r50.1, v51, v52, v54, v24, v55, v30, r56.1, (.bool true), v57, v36, v58, v42, r59.1, r59.1, (.bool true), v60, v47, v61, v52, r62.1, r62.1, (.bool false), (.tup []), (.tup []), (.tup []), (.tup []), .any, .any, .any, .any, .any, .any, .any], r62.2⟩ ((C5_9 K) .normal)
noncomputable def P5_9_28 (a0 : AV) (a1 : AV) (a2 : AV) (m53 : Mem) (r1 : AV × Mem) (r2 : AV × Mem) (r3 : AV × Mem) (r5 : AV × Mem) (r7 : AV × Mem) (r14 : AV × Mem) (r17 : AV × Mem) (r22 : AV × Mem) (r28 : AV × Mem) (r34 : AV × Mem) (r40 : AV × Mem) (r45 : AV × Mem) (r50 : AV × Mem) (r56 : AV × Mem) (r59 : AV × Mem) (r62 : AV × Mem) (r65 : AV × Mem) (r68 : AV × Mem) (r70 : AV × Mem) (v4 : AV) (v6 : AV) (v10 : AV) (v11 : AV) (v12 : AV) (v13 : AV) (v15 : AV) (v16 : AV) (v18 : AV) (v20 : AV) (v21 : AV) (v23 : AV) (v24 : AV) (v26 : AV) (v27 : AV) (v29 : AV) (v30 : AV) (v32 : AV) (v33 : AV) (v35 : AV) (v36 : AV) (v38 : AV) (v39 : AV) (v41 : AV) (v42 : AV) (v44 : AV) (v46 : AV) (v47 : AV) (v49 : AV) (v51 : AV) (v52 : AV) (v54 : AV) (v55 : AV) (v57 : AV) (v58 : AV) (v60 : AV) (v61 : AV) (v63 : AV) (v64 : AV) (v66 : AV) (v67 : AV) (v69 : AV) (K : Ex → St → Option (AV × Mem)) : Option (AV × Mem) := runOps cfg 5 (AP cfg) (AC cfg) (some (m53).length) (opsOf (c1 (c2 (c2 (c2 (c2 (c2 (c2 (c2 (c2 (c2 (bodyOf f5)))))))))))) [30, 31] ⟨[a0, a1, a2, r1.1, r2.1, r3.1, (.bool false), (.ptr (newAt none r22.2 .resv).1 0), v24, (.ptr (newAt none r28.2 .resv).1 0), v30, (.ptr (newAt none r34.2 .resv).1 0), v36, (.ptr (newAt none r40.2 .resv).1 0), v42, (.ptr (newAt none r45.2 .resv).1 0), v47, (.ptr (newAt none r50.2 .resv).1 0), v52, v4, r5.1, v6, r7.1, v10, v11, v12, v13, r14.1, v15, v16, r17.1, v18, r22.1, v20, v21, r22.1, v23, v24, r28.1, v26, v27, r28.1, v29, v30, r34.1, v32, v33, r34.1, v35, v36, r40.1, v38, v39, r40.1, v41, v42, r45.1, v44, r45.1, v46, v47, r50.1, v49, r50.1, v51, v52, v54, v24, v55, v30, r56.1, (.bool true), v57, v36, v58, v42, r59.1, r59.1, (.bool true), v60, v47, v61, v52, r62.1, r62.1, (.bool true), v63, v64, r65.1, v66, v67, r68.1, v69, v69, (.bool true), r70.1, .any], r70.2⟩ ((C5_9 K) .normal)
noncomputable def P5_9_29 (a0 : AV) (a1 : AV) (a2 : AV) (m53 : Mem) (r1 : AV × Mem) (r2 : AV × Mem) (r3 : AV × Mem) (r5 : AV × Mem) (r7 : AV × Mem) (r14 : AV × Mem) (r17 : AV × Mem) (r22 : AV × Mem) (r28 : AV × Mem) (r34 : AV × Mem) (r40 : AV × Mem) (r45 : AV × Mem) (r50 : AV × Mem) (r56 : AV × Mem) (r59 : AV × Mem) (r62 : AV × Mem) (r65 : AV × Mem) (r68 : AV × Mem) (v4 : AV) (v6 : AV) (v10 : AV) (v11 : AV) (v12 : AV) (v13 : AV) (v15 : AV) (v16 : AV) (v18 : AV) (v20 : AV) (v21 : AV) (v23 : AV) (v24 : AV) (v26 : AV) (v27 : AV) (v29 : AV) (v30 : AV) (v32 : AV) (v33 : AV) (v35 : AV) (v36 : AV) (v38 : AV) (v39 : AV) (v41 : AV) (v42 : AV) (v44 : AV) (v46 : AV) (v47 : AV) (v49 : AV) (v51 : AV) (v52 : AV) (v54 : AV) (v55 : AV) (v57 : AV) (v58 : AV) (v60 : AV) (v61 : AV) (v63 : AV) (v64 : AV) (v66 : AV) (v67 : AV) (v69 : AV) (K : Ex → St → Option (AV × Mem)) : Option (AV × Mem) := runOps cfg 5 (AP cfg) (AC cfg) (some (m53).length) (opsOf (c1 (c2 (c2 (c2 (c2 (c2 (c2 (c2 (c2 (c2 (bodyOf f5)))))))))))) [30, 31] ⟨[a0, a1, a2, r1.1, r2.1, r3.1, (.bool false), (.ptr (newAt none r22.2 .resv).1 0), v24, (.ptr (newAt none r28.2 .resv).1 0), v30, (.ptr (newAt none r34.2 .resv).1 0), v36, (.ptr (newAt none r40.2 .resv).1 0), v42, (.ptr (newAt none r45.2 .resv).1 0), v47, (.ptr (newAt none r50.2 .resv).1 0), v52, v4, r5.1, v6, r7.1, v10, v11, v12, v13, r14.1, v15, v16, r17.1, v18, r22.1, v20, v21, r22.1, v23, v24, r28.1, v26, v27, r28.1, v29, v30, r34.1, v32, v33, r34.1, v35, v36, r40.1, v38, v39, r40.1, v41, v42, r45.1, v44, r45.1, v46, v47, r50.1, v49, r50.1, v51, v52, v54, v24, v55, v30, r56.1, (.bool true), v57, v36, v58, v42, r59.1, r59.1, (.bool true), v60, v47, v61, v52, r62.1, r62.1, (.bool true), v63, v64, r65.1, v66, v67, r68.1, v69, v69, (.bool false), (.tup []), .any], r68.2⟩ ((C5_9 K) .normal)
theorem E5 (a0 a1 a2 : AV) (m : Mem) (K : Ex → St → Option (AV × Mem)) : execW cfg 5 (AP cfg) (AC cfg) (bodyOf f5) ⟨[a0, a1, a2, .any, .any, .any, .any, .any, .any, .any, .any, .any, .any, .any, .any, .any, .any, .any, .any, .any, .any, .any, .any, .any, .any, .any, .any, .any, .any, .any, .any, .any, .any, .any, .any, .any, .any, .any, .any, .any, .any, .any, .any, .any, .any, .any, .any, .any, .any, .any, .any, .any, .any, .any, .any, .any, .any, .any, .any, .any, .any, .any, .any, .any, .any, .any, .any, .any, .any, .any, .any, .any, .any, .any, .any, .any, .any, .any, .any, .any, .any, .any, .any, .any, .any, .any, .any, .any, .any, .any, .any, .any, .any, .any, .any, .any, .any], m⟩ K =
  P5_0_1 a0 a1 a2 m K := by kernel_rfl
theorem T5 (a0 a1 a2 : AV) (m : Mem) : AC cfg 5 [a0, a1, a2] m =
  P5_0_1 a0 a1 a2 m (finK cfg.P f5.results.toList) :=
(AC_eq cfg 5 [a0, a1, a2] m (fn := f5) (c := bodyOf f5) at5 rfl).trans (E5 a0 a1 a2 m _)
theorem P5_0_1_a (a0 : AV) (a1 : AV) (a2 : AV) (m : Mem) (K1 : St → Option (AV × Mem)) : runOps cfg 5 (AP cfg) (AC cfg) none (opsOf (c1 (bodyOf f5))) [0, 1, 2, 3] ⟨[a0, a1, a2, .any, .any, .any, .any, .any, .any, .any, .any, .any, .any, .any, .any, .any, .any, .any, .any, .any, .any, .any, .any, .any, .any, .any, .any, .any, .any, .any, .any, .any, .any, .any, .any, .any, .any, .any, .any, .any, .any, .any, .any, .any, .any, .any, .any, .any, .any, .any, .any, .any, .any, .any, .any, .any, .any, .any, .any, .any, .any, .any, .any, .any, .any, .any, .any, .any, .any, .any, .any, .any, .any, .any, .any, .any, .any, .any, .any, .any, .any, .any, .any, .any, .any, .any, .any, .any, .any, .any, .any, .any, .any, .any, .any, .any, .any], m⟩ K1 =
  (boxA none (some 3) m a0).bind fun r1 =>
  (boxA none (some 3) r1.2 a1).bind fun r2 =>
  (boxA none (some 3) r2.2 a2).bind fun r3 =>
  K1 ⟨[a0, a1, a2, r1.1, r2.1, r3.1, (.bool false), .any, .any, .any, .any, .any, .any, .any, .any, .any, .any, .any, .any, .any, .any, .any, .any, .any, .any, .any, .any, .any, .any, .any, .any, .any, .any, .any, .any, .any, .any, .any, .any, .any, .any, .any, .any, .any, .any, .any, .any, .any, .any, .any, .any, .any, .any, .any, .any, .any, .any, .any, .any, .any, .any, .any, .any, .any, .any, .any, .any, .any, .any, .any, .any, .any, .any, .any, .any, .any, .any, .any, .any, .any, .any, .any, .any, .any, .any, .any, .any, .any, .any, .any, .any, .any, .any, .any, .any, .any, .any], r3.2⟩ := by kernel_rfl
theorem P5_0_1_eq (a0 : AV) (a1 : AV) (a2 : AV) (m : Mem) (K : Ex → St → Option (AV × Mem)) : P5_0_1 a0 a1 a2 m K =
  (boxA none (some 3) m a0).bind fun r1 =>
  (boxA none (some 3) r1.2 a1).bind fun r2 =>
  (boxA none (some 3) r2.2 a2).bind fun r3 =>
  P5_1_2 a0 a1 a2 r1 r2 r3 K :=
((P5_0_1_a a0 a1 a2 m (C5_0 K .normal))).trans (by kernel_rfl)
theorem P5_1_2_a (a0 : AV) (a1 : AV) (a2 : AV) (r1 : AV × Mem) (r2 : AV × Mem) (r3 : AV × Mem) (K1 : St → Option (AV × Mem)) : runOps cfg 5 (AP cfg) (AC cfg) (some (r3.2).length) (opsOf (c1 (c2 (bodyOf f5)))) [0, 1, 2, 3, 4, 5] ⟨[a0, a1, a2, r1.1, r2.1, r3.1, (.bool false), .any, .any, .any, .any, .any, .any, .any, .any, .any, .any, .any, .any, .any, .any, .any, .any, .any, .any, .any, .any, .any, .any, .any, .any, .any, .any, .any, .any, .any, .any, .any, .any, .any, .any, .any, .any, .any, .any, .any, .any, .any, .any, .any, .any, .any, .any, .any, .any, .any, .any, .any, .any, .any, .any, .any, .any, .any, .any, .any, .any, .any, .any, .any, .any, .any, .any, .any, .any, .any, .any, .any, .any, .any, .any, .any, .any, .any, .any, .any, .any, .any, .any, .any, .any, .any, .any, .any, .any, .any, .any], r3.2⟩ K1 =
  (loadA (some 3) r3.2 r1.1).bind fun v4 =>
  (pcall (AP cfg) (some r3.2.length) r3.2 13 [v4, (.int .i64 8)]).bind fun r5 =>
  (loadA (some 3) r5.2 r2.1).bind fun v6 =>
  (pcall (AP cfg) (some r3.2.length) r5.2 13 [v6, (.int .i64 8)]).bind fun r7 =>
  (storeA (some 3) r7.2 r1.1 r5.1).bind fun m8 =>
  (storeA (some 3) m8 r2.1 r7.1).bind fun m9 =>
  K1 ⟨[a0, a1, a2, r1.1, r2.1, r3.1, (.bool false), .any, .any, .any, .any, .any, .any, .any, .any, .any, .any, .any, .any, v4, r5.1, v6, r7.1, .any, .any, .any, .any, .any, .any, .any, .any, .any, .any, .any, .any, .any, .any, .any, .any, .any, .any, .any, .any, .any, .any, .any, .any, .any, .any, .any, .any, .any, .any, .any, .any, .any, .any, .any, .any, .any, .any, .any, .any, .any, .any, .any, .any, .any, .any, .any, .any, .any, .any, .any, .any, .any, .any, .any, .any, .any, .any, .any, .any, .any, .any, .any, .any, .any, .any, .any, .any, .any, .any, .any, .any, .any, .any], m9⟩ := by kernel_rfl
theorem P5_1_2_eq (a0 : AV) (a1 : AV) (a2 : AV) (r1 : AV × Mem) (r2 : AV × Mem) (r3 : AV × Mem) (K : Ex → St → Option (AV × Mem)) : P5_1_2 a0 a1 a2 r1 r2 r3 K =
  (loadA (some 3) r3.2 r1.1).bind fun v4 =>
  (pcall (AP cfg) (some r3.2.length) r3.2 13 [v4, (.int .i64 8)]).bind fun r5 =>
  (loadA (some 3) r5.2 r2.1).bind fun v6 =>
  (pcall (AP cfg) (some r3.2.length) r5.2 13 [v6, (.int .i64 8)]).bind fun r7 =>
  (storeA (some 3) r7.2 r1.1 r5.1).bind fun m8 =>
  (storeA (some 3) m8 r2.1 r7.1).bind fun m9 =>
  P5_2_3 a0 a1 a2 m9 r1 r2 r3 r5 r7 v4 v6 K :=
((P5_1_2_a a0 a1 a2 r1 r2 r3 (C5_1 K .normal))).trans (by kernel_rfl)
theorem P5_2_3_a (a0 : AV) (a1 : AV) (a2 : AV) (m9 : Mem) (r1 : AV × Mem) (r2 : AV × Mem) (r3 : AV × Mem) (r5 : AV × Mem) (r7 : AV × Mem) (v4 : AV) (v6 : AV) (K1 : St → Option (AV × Mem)) : runOps cfg 5 (AP cfg) (AC cfg) (some (m9).length) (opsOf (c1 (c2 (c2 (bodyOf f5))))) [0, 1, 2, 3, 4, 5] ⟨[a0, a1, a2, r1.1, r2.1, r3.1, (.bool false), .any, .any, .any, .any, .any, .any, .any, .any, .any, .any, .any, .any, v4, r5.1, v6, r7.1, .any, .any, .any, .any, .any, .any, .any, .any, .any, .any, .any, .any, .any, .any, .any, .any, .any, .any, .any, .any, .any, .any, .any, .any, .any, .any, .any, .any, .any, .any, .any, .any, .any, .any, .any, .any, .any, .any, .any, .any, .any, .any, .any, .any, .any, .any, .any, .any, .any, .any, .any, .any, .any, .any, .any, .any, .any, .any, .any, .any, .any, .any, .any, .any, .any, .any, .any, .any, .any, .any, .any, .any, .any, .any], m9⟩ K1 =
  (fieldAddrA 0 r3.1).bind fun v10 =>
  (loadA none m9 v10).bind fun v11 =>
  (fieldAddrA 1 r3.1).bind fun v12 =>
  (loadA none m9 v12).bind fun v13 =>
  (pcall (AP cfg) (some m9.length) m9 32 [v13, (.int .i64 3)]).bind fun r14 =>
  (fieldAddrA 2 r3.1).bind fun v15 =>
  K1 ⟨[a0, a1, a2, r1.1, r2.1, r3.1, (.bool false), .any, .any, .any, .any, .any, .any, .any, .any, .any, .any, .any, .any, v4, r5.1, v6, r7.1, v10, v11, v12, v13, r14.1, v15, .any, .any, .any, .any, .any, .any, .any, .any, .any, .any, .any, .any, .any, .any, .any, .any, .any, .any, .any, .any, .any, .any, .any, .any, .any, .any, .any, .any, .any, .any, .any, .any, .any, .any, .any, .any, .any, .any, .any, .any, .any, .any, .any, .any, .any, .any, .any, .any, .any, .any, .any, .any, .any, .any, .any, .any, .any, .any, .any, .any, .any, .any, .any, .any, .any, .any, .any, .any], r14.2⟩ := by kernel_rfl
theorem P5_2_3_eq (a0 : AV) (a1 : AV) (a2 : AV) (m9 : Mem) (r1 : AV × Mem) (r2 : AV × Mem) (r3 : AV × Mem) (r5 : AV × Mem) (r7 : AV × Mem) (v4 : AV) (v6 : AV) (K : Ex → St → Option (AV × Mem)) : P5_2_3 a0 a1 a2 m9 r1 r2 r3 r5 r7 v4 v6 K =
  (fieldAddrA 0 r3.1).bind fun v10 =>
  (loadA none m9 v10).bind fun v11 =>
  (fieldAddrA 1 r3.1).bind fun v12 =>
  (loadA none m9 v12).bind fun v13 =>
  (pcall (AP cfg) (some m9.length) m9 32 [v13, (.int .i64 3)]).bind fun r14 =>
  (fieldAddrA 2 r3.1).bind fun v15 =>
  P5_2_4 a0 a1 a2 m9 r1 r2 r3 r5 r7 r14 v4 v6 v10 v11 v12 v13 v15 K :=
((runOps_app (some (m9).length) _ [0, 1, 2, 3, 4, 5] [6, 7, 8, 9] _ _).trans (P5_2_3_a a0 a1 a2 m9 r1 r2 r3 r5 r7 v4 v6 (fun st => runOps cfg 5 (AP cfg) (AC cfg) (some (m9).length) (opsOf (c1 (c2 (c2 (bodyOf f5))))) [6, 7, 8, 9] st (C5_2 K .normal)))).trans (by kernel_rfl)
theorem P5_2_4_a (a0 : AV) (a1 : AV) (a2 : AV) (m9 : Mem) (r1 : AV × Mem) (r2 : AV × Mem) (r3 : AV × Mem) (r5 : AV × Mem) (r7 : AV × Mem) (r14 : AV × Mem) (v4 : AV) (v6 : AV) (v10 : AV) (v11 : AV) (v12 : AV) (v13 : AV) (v15 : AV) (K1 : St → Option (AV × Mem)) : runOps cfg 5 (AP cfg) (AC cfg) (some (m9).length) (opsOf (c1 (c2 (c2 (bodyOf f5))))) [6, 7, 8, 9] ⟨[a0, a1, a2, r1.1, r2.1, r3.1, (.bool false), .any, .any, .any, .any, .any, .any, .any, .any, .any, .any, .any, .any, v4, r5.1, v6, r7.1, v10, v11, v12, v13, r14.1, v15, .any, .any, .any, .any, .any, .any, .any, .any, .any, .any, .any, .any, .any, .any, .any, .any, .any, .any, .any, .any, .any, .any, .any, .any, .any, .any, .any, .any, .any, .any, .any, .any, .any, .any, .any, .any, .any, .any, .any, .any, .any, .any, .any, .any, .any, .any, .any, .any, .any, .any, .any, .any, .any, .any, .any, .any, .any, .any, .any, .any, .any, .any, .any, .any, .any, .any, .any, .any], r14.2⟩ K1 =
  (loadA none r14.2 v15).bind fun v16 =>
  (pcall (AP cfg) (some m9.length) r14.2 32 [v16, (.int .i64 3)]).bind fun r17 =>
  (buildA (.agg [(.bool false), (.lst none true .full []), (.lst none true .full [])]) [(0, none, v11), (1, none, r14.1), (2, none, r17.1)]).bind fun v18 =>
  (storeA (some 3) r17.2 r3.1 v18).bind fun m19 =>
  K1 ⟨[a0, a1, a2, r1.1, r2.1, r3.1, (.bool false), .any, .any, .any, .any, .any, .any, .any, .any, .any, .any, .any, .any, v4, r5.1, v6, r7.1, v10, v11, v12, v13, r14.1, v15, v16, r17.1, v18, .any, .any, .any, .any, .any, .any, .any, .any, .any, .any, .any, .any, .any, .any, .any, .any, .any, .any, .any, .any, .any, .any, .any, .any, .any, .any, .any, .any, .any, .any, .any, .any, .any, .any, .any, .any, .any, .any, .any, .any, .any, .any, .any, .any, .any, .any, .any, .any, .any, .any, .any, .any, .any, .any, .any, .any, .any, .any, .any, .any, .any, .any, .any, .any, .any], m19⟩ := by kernel_rfl
theorem P5_2_4_eq (a0 : AV) (a1 : AV) (a2 : AV) (m9 : Mem) (r1 : AV × Mem) (r2 : AV × Mem) (r3 : AV × Mem) (r5 : AV × Mem) (r7 : AV × Mem) (r14 : AV × Mem) (v4 : AV) (v6 : AV) (v10 : AV) (v11 : AV) (v12 : AV) (v13 : AV) (v15 : AV) (K : Ex → St → Option (AV × Mem)) : P5_2_4 a0 a1 a2 m9 r1 r2 r3 r5 r7 r14 v4 v6 v10 v11 v12 v13 v15 K =
  (loadA none r14.2 v15).bind fun v16 =>
  (pcall (AP cfg) (some m9.length) r14.2 32 [v16, (.int .i64 3)]).bind fun r17 =>
  (buildA (.agg [(.bool false), (.lst none true .full []), (.lst none true .full [])]) [(0, none, v11), (1, none, r14.1), (2, none, r17.1)]).bind fun v18 =>
  (storeA (some 3) r17.2 r3.1 v18).bind fun m19 =>
  P5_3_5 a0 a1 a2 m19 r1 r2 r3 r5 r7 r14 r17 v4 v6 v10 v11 v12 v13 v15 v16 v18 K :=
((P5_2_4_a a0 a1 a2 m9 r1 r2 r3 r5 r7 r14 v4 v6 v10 v11 v12 v13 v15 (C5_2 K .normal))).trans (by kernel_rfl)
theorem P5_3_5_a (a0 : AV) (a1 : AV) (a2 : AV) (m19 : Mem) (r1 : AV × Mem) (r2 : AV × Mem) (r3 : AV × Mem) (r5 : AV × Mem) (r7 : AV × Mem) (r14 : AV × Mem) (r17 : AV × Mem) (v4 : AV) (v6 : AV) (v10 : AV) (v11 : AV) (v12 : AV) (v13 : AV) (v15 : AV) (v16 : AV) (v18 : AV) (K1 : St → Option (AV × Mem)) : runOps cfg 5 (AP cfg) (AC cfg) none (opsOf (c1 (c2 (c2 (c2 (bodyOf f5)))))) [0, 1, 2, 3, 4, 5] ⟨[a0, a1, a2, r1.1, r2.1, r3.1, (.bool false), .any, .any, .any, .any, .any, .any, .any, .any, .any, .any, .any, .any, v4, r5.1, v6, r7.1, v10, v11, v12, v13, r14.1, v15, v16, r17.1, v18, .any, .any, .any, .any, .any, .any, .any, .any, .any, .any, .any, .any, .any, .any, .any, .any, .any, .any, .any, .any, .any, .any, .any, .any, .any, .any, .any, .any, .any, .any, .any, .any, .any, .any, .any, .any, .any, .any, .any, .any, .any, .any, .any, .any, .any, .any, .any, .any, .any, .any, .any, .any, .any, .any, .any, .any, .any, .any, .any, .any, .any, .any, .any, .any, .any], m19⟩ K1 =
  (loadA (some 3) m19 r1.1).bind fun v20 =>
  (loadA (some 3) m19 r2.1).bind fun v21 =>
  (pcall (AP cfg) none m19 33 [v20, v21]).bind fun r22 =>
  (extractA r22.1 0).bind fun v23 =>
  (extractA r22.1 1).bind fun v24 =>
  K1 ⟨[a0, a1, a2, r1.1, r2.1, r3.1, (.bool false), .any, .any, .any, .any, .any, .any, .any, .any, .any, .any, .any, .any, v4, r5.1, v6, r7.1, v10, v11, v12, v13, r14.1, v15, v16, r17.1, v18, r22.1, v20, v21, r22.1, v23, v24, .any, .any, .any, .any, .any, .any, .any, .any, .any, .any, .any, .any, .any, .any, .any, .any, .any, .any, .any, .any, .any, .any, .any, .any, .any, .any, .any, .any, .any, .any, .any, .any, .any, .any, .any, .any, .any, .any, .any, .any, .any, .any, .any, .any, .any, .any, .any, .any, .any, .any, .any, .any, .any, .any, .any, .any, .any, .any, .any], r22.2⟩ := by kernel_rfl
theorem P5_3_5_eq (a0 : AV) (a1 : AV) (a2 : AV) (m19 : Mem) (r1 : AV × Mem) (r2 : AV × Mem) (r3 : AV × Mem) (r5 : AV × Mem) (r7 : AV × Mem) (r14 : AV × Mem) (r17 : AV × Mem) (v4 : AV) (v6 : AV) (v10 : AV) (v11 : AV) (v12 : AV) (v13 : AV) (v15 : AV) (v16 : AV) (v18 : AV) (K : Ex → St → Option (AV × Mem)) : P5_3_5 a0 a1 a2 m19 r1 r2 r3 r5 r7 r14 r17 v4 v6 v10 v11 v12 v13 v15 v16 v18 K =
  (loadA (some 3) m19 r1.1).bind fun v20 =>
  (loadA (some 3) m19 r2.1).bind fun v21 =>
  (pcall (AP cfg) none m19 33 [v20, v21]).bind fun r22 =>
  (extractA r22.1 0).bind fun v23 =>
  (extractA r22.1 1).bind fun v24 =>
  P5_3_6 a0 a1 a2 r1 r2 r3 r5 r7 r14 r17 r22 v4 v6 v10 v11 v12 v13 v15 v16 v18 v20 v21 v23 v24 K :=
((runOps_app none _ [0, 1, 2, 3, 4, 5] [6, 7, 8] _ _).trans (P5_3_5_a a0 a1 a2 m19 r1 r2 r3 r5 r7 r14 r17 v4 v6 v10 v11 v12 v13 v15 v16 v18 (fun st => runOps cfg 5 (AP cfg) (AC cfg) none (opsOf (c1 (c2 (c2 (c2 (bodyOf f5)))))) [6, 7, 8] st (C5_3 K .normal)))).trans (by kernel_rfl)
theorem P5_3_6_a (a0 : AV) (a1 : AV) (a2 : AV) (r1 : AV × Mem) (r2 : AV × Mem) (r3 : AV × Mem) (r5 : AV × Mem) (r7 : AV × Mem) (r14 : AV × Mem) (r17 : AV × Mem) (r22 : AV × Mem) (v4 : AV) (v6 : AV) (v10 : AV) (v11 : AV) (v12 : AV) (v13 : AV) (v15 : AV) (v16 : AV) (v18 : AV) (v20 : AV) (v21 : AV) (v23 : AV) (v24 : AV) (K1 : St → Option (AV × Mem)) : runOps cfg 5 (AP cfg) (AC cfg) none (opsOf (c1 (c2 (c2 (c2 (bodyOf f5)))))) [6, 7, 8] ⟨[a0, a1, a2, r1.1, r2.1, r3.1, (.bool false), .any, .any, .any, .any, .any, .any, .any, .any, .any, .any, .any, .any, v4, r5.1, v6, r7.1, v10, v11, v12, v13, r14.1, v15, v16, r17.1, v18, r22.1, v20, v21, r22.1, v23, v24, .any, .any, .any, .any, .any, .any, .any, .any, .any, .any, .any, .any, .any, .any, .any, .any, .any, .any, .any, .any, .any, .any, .any, .any, .any, .any, .any, .any, .any, .any, .any, .any, .any, .any, .any, .any, .any, .any, .any, .any, .any, .any, .any, .any, .any, .any, .any, .any, .any, .any, .any, .any, .any, .any, .any, .any, .any, .any, .any], r22.2⟩ K1 =
  (storeA (some 3) (newAt none r22.2 (.obj true [(.int .i64 0), (.int .i64 0), (.lst none true .full [])])).2 (.ptr (newAt none r22.2 .resv).1 0) v23).bind fun m25 =>
  K1 ⟨[a0, a1, a2, r1.1, r2.1, r3.1, (.bool false), (.ptr (newAt none r22.2 .resv).1 0), v24, .any, .any, .any, .any, .any, .any, .any, .any, .any, .any, v4, r5.1, v6, r7.1, v10, v11, v12, v13, r14.1, v15, v16, r17.1, v18, r22.1, v20, v21, r22.1, v23, v24, .any, .any, .any, .any, .any, .any, .any, .any, .any, .any, .any, .any, .any, .any, .any, .any, .any, .any, .any, .any, .any, .any, .any, .any, .any, .any, .any, .any, .any, .any, .any, .any, .any, .any, .any, .any, .any, .any, .any, .any, .any, .any, .any, .any, .any, .any, .any, .any, .any, .any, .any, .any, .any, .any, .any, .any, .any, .any, .any], m25⟩ := by kernel_rfl
theorem P5_3_6_eq (a0 : AV) (a1 : AV) (a2 : AV) (r1 : AV × Mem) (r2 : AV × Mem) (r3 : AV × Mem) (r5 : AV × Mem) (r7 : AV × Mem) (r14 : AV × Mem) (r17 : AV × Mem) (r22 : AV × Mem) (v4 : AV) (v6 : AV) (v10 : AV) (v11 : AV) (v12 : AV) (v13 : AV) (v15 : AV) (v16 : AV) (v18 : AV) (v20 : AV) (v21 : AV) (v23 : AV) (v24 : AV) (K : Ex → St → Option (AV × Mem)) : P5_3_6 a0 a1 a2 r1 r2 r3 r5 r7 r14 r17 r22 v4 v6 v10 v11 v12 v13 v15 v16 v18 v20 v21 v23 v24 K =
  (storeA (some 3) (newAt none r22.2 (.obj true [(.int .i64 0), (.int .i64 0), (.lst none true .full [])])).2 (.ptr (newAt none r22.2 .resv).1 0) v23).bind fun m25 =>
  P5_4_7 a0 a1 a2 m25 r1 r2 r3 r5 r7 r14 r17 r22 v4 v6 v10 v11 v12 v13 v15 v16 v18 v20 v21 v23 v24 K :=
((P5_3_6_a a0 a1 a2 r1 r2 r3 r5 r7 r14 r17 r22 v4 v6 v10 v11 v12 v13 v15 v16 v18 v20 v21 v23 v24 (C5_3 K .normal))).trans (by kernel_rfl)
theorem P5_4_7_a (a0 : AV) (a1 : AV) (a2 : AV) (m25 : Mem) (r1 : AV × Mem) (r2 : AV × Mem) (r3 : AV × Mem) (r5 : AV × Mem) (r7 : AV × Mem) (r14 : AV × Mem) (r17 : AV × Mem) (r22 : AV × Mem) (v4 : AV) (v6 : AV) (v10 : AV) (v11 : AV) (v12 : AV) (v13 : AV) (v15 : AV) (v16 : AV) (v18 : AV) (v20 : AV) (v21 : AV) (v23 : AV) (v24 : AV) (K1 : St → Option (AV × Mem)) : runOps cfg 5 (AP cfg) (AC cfg) none (opsOf (c1 (c2 (c2 (c2 (c2 (bodyOf f5))))))) [0, 1, 2, 3, 4, 5] ⟨[a0, a1, a2, r1.1, r2.1, r3.1, (.bool false), (.ptr (newAt none r22.2 .resv).1 0), v24, .any, .any, .any, .any, .any, .any, .any, .any, .any, .any, v4, r5.1, v6, r7.1, v10, v11, v12, v13, r14.1, v15, v16, r17.1, v18, r22.1, v20, v21, r22.1, v23, v24, .any, .any, .any, .any, .any, .any, .any, .any, .any, .any, .any, .any, .any, .any, .any, .any, .any, .any, .any, .any, .any, .any, .any, .any, .any, .any, .any, .any, .any, .any, .any, .any, .any, .any, .any, .any, .any, .any, .any, .any, .any, .any, .any, .any, .any, .any, .any, .any, .any, .any, .any, .any, .any, .any, .any, .any, .any, .any, .any], m25⟩ K1 =
  (loadA (some 3) m25 r1.1).bind fun v26 =>
  (loadA (some 3) m25 r2.1).bind fun v27 =>
  (pcall (AP cfg) none m25 34 [v26, v27]).bind fun r28 =>
  (extractA r28.1 0).bind fun v29 =>
  (extractA r28.1 1).bind fun v30 =>
  K1 ⟨[a0, a1, a2, r1.1, r2.1, r3.1, (.bool false), (.ptr (newAt none r22.2 .resv).1 0), v24, .any, .any, .any, .any, .any, .any, .any, .any, .any, .any, v4, r5.1, v6, r7.1, v10, v11, v12, v13, r14.1, v15, v16, r17.1, v18, r22.1, v20, v21, r22.1, v23, v24, r28.1, v26, v27, r28.1, v29, v30, .any, .any, .any, .any, .any, .any, .any, .any, .any, .any, .any, .any, .any, .any, .any, .any, .any, .any, .any, .any, .any, .any, .any, .any, .any, .any, .any, .any, .any, .any, .any, .any, .any, .any, .any, .any, .any, .any, .any, .any, .any, .any, .any, .any, .any, .any, .any, .any, .any, .any, .any, .any, .any], r28.2⟩ := by kernel_rfl
theorem P5_4_7_eq (a0 : AV) (a1 : AV) (a2 : AV) (m25 : Mem) (r1 : AV × Mem) (r2 : AV × Mem) (r3 : AV × Mem) (r5 : AV × Mem) (r7 : AV × Mem) (r14 : AV × Mem) (r17 : AV × Mem) (r22 : AV × Mem) (v4 : AV) (v6 : AV) (v10 : AV) (v11 : AV) (v12 : AV) (v13 : AV) (v15 : AV) (v16 : AV) (v18 : AV) (v20 : AV) (v21 : AV) (v23 : AV) (v24 : AV) (K : Ex → St → Option (AV × Mem)) : P5_4_7 a0 a1 a2 m25 r1 r2 r3 r5 r7 r14 r17 r22 v4 v6 v10 v11 v12 v13 v15 v16 v18 v20 v21 v23 v24 K =
  (loadA (some 3) m25 r1.1).bind fun v26 =>
  (loadA (some 3) m25 r2.1).bind fun v27 =>
  (pcall (AP cfg) none m25 34 [v26, v27]).bind fun r28 =>
  (extractA r28.1 0).bind fun v29 =>
  (extractA r28.1 1).bind fun v30 =>
  P5_4_8 a0 a1 a2 r1 r2 r3 r5 r7 r14 r17 r22 r28 v4 v6 v10 v11 v12 v13 v15 v16 v18 v20 v21 v23 v24 v26 v27 v29 v30 K :=
((runOps_app none _ [0, 1, 2, 3, 4, 5] [6, 7, 8] _ _).trans (P5_4_7_a a0 a1 a2 m25 r1 r2 r3 r5 r7 r14 r17 r22 v4 v6 v10 v11 v12 v13 v15 v16 v18 v20 v21 v23 v24 (fun st => runOps cfg 5 (AP cfg) (AC cfg) none (opsOf (c1 (c2 (c2 (c2 (c2 (bodyOf f5))))))) [6, 7, 8] st (C5_4 K .normal)))).trans (by kernel_rfl)
theorem P5_4_8_a (a0 : AV) (a1 : AV) (a2 : AV) (r1 : AV × Mem) (r2 : AV × Mem) (r3 : AV × Mem) (r5 : AV × Mem) (r7 : AV × Mem) (r14 : AV × Mem) (r17 : AV × Mem) (r22 : AV × Mem) (r28 : AV × Mem) (v4 : AV) (v6 : AV) (v10 : AV) (v11 : AV) (v12 : AV) (v13 : AV) (v15 : AV) (v16 : AV) (v18 : AV) (v20 : AV) (v21 : AV) (v23 : AV) (v24 : AV) (v26 : AV) (v27 : AV) (v29 : AV) (v30 : AV) (K1 : St → Option (AV × Mem)) : runOps cfg 5 (AP cfg) (AC cfg) none (opsOf (c1 (c2 (c2 (c2 (c2 (bodyOf f5))))))) [6, 7, 8] ⟨[a0, a1, a2, r1.1, r2.1, r3.1, (.bool false), (.ptr (newAt none r22.2 .resv).1 0), v24, .any, .any, .any, .any, .any, .any, .any, .any, .any, .any, v4, r5.1, v6, r7.1, v10, v11, v12, v13, r14.1, v15, v16, r17.1, v18, r22.1, v20, v21, r22.1, v23, v24, r28.1, v26, v27, r28.1, v29, v30, .any, .any, .any, .any, .any, .any, .any, .any, .any, .any, .any, .any, .any, .any, .any, .any, .any, .any, .any, .any, .any, .any, .any, .any, .any, .any, .any, .any, .any, .any, .any, .any, .any, .any, .any, .any, .any, .any, .any, .any, .any, .any, .any, .any, .any, .any, .any, .any, .any, .any, .any, .any, .any], r28.2⟩ K1 =
  (storeA (some 3) (newAt none r28.2 (.obj true [(.int .i64 0), (.int .i64 0), (.lst none true .full [])])).2 (.ptr (newAt none r28.2 .resv).1 0) v29).bind fun m31 =>
  K1 ⟨[a0, a1, a2, r1.1, r2.1, r3.1, (.bool false), (.ptr (newAt none r22.2 .resv).1 0), v24, (.ptr (newAt none r28.2 .resv).1 0), v30, .any, .any, .any, .any, .any, .any, .any, .any, v4, r5.1, v6, r7.1, v10, v11, v12, v13, r14.1, v15, v16, r17.1, v18, r22.1, v20, v21, r22.1, v23, v24, r28.1, v26, v27, r28.1, v29, v30, .any, .any, .any, .any, .any, .any, .any, .any, .any, .any, .any, .any, .any, .any, .any, .any, .any, .any, .any, .any, .any, .any, .any, .any, .any, .any, .any, .any, .any, .any, .any, .any, .any, .any, .any, .any, .any, .any, .any, .any, .any, .any, .any, .any, .any, .any, .any, .any, .any, .any, .any, .any, .any], m31⟩ := by kernel_rfl
theorem P5_4_8_eq (a0 : AV) (a1 : AV) (a2 : AV) (r1 : AV × Mem) (r2 : AV × Mem) (r3 : AV × Mem) (r5 : AV × Mem) (r7 : AV × Mem) (r14 : AV × Mem) (r17 : AV × Mem) (r22 : AV × Mem) (r28 : AV × Mem) (v4 : AV) (v6 : AV) (v10 : AV) (v11 : AV) (v12 : AV) (v13 : AV) (v15 : AV) (v16 : AV) (v18 : AV) (v20 : AV) (v21 : AV) (v23 : AV) (v24 : AV) (v26 : AV) (v27 : AV) (v29 : AV) (v30 : AV) (K : Ex → St → Option (AV × Mem)) : P5_4_8 a0 a1 a2 r1 r2 r3 r5 r7 r14 r17 r22 r28 v4 v6 v10 v11 v12 v13 v15 v16 v18 v20 v21 v23 v24 v26 v27 v29 v30 K =
  (storeA (some 3) (newAt none r28.2 (.obj true [(.int .i64 0), (.int .i64 0), (.lst none true .full [])])).2 (.ptr (newAt none r28.2 .resv).1 0) v29).bind fun m31 =>
  P5_5_9 a0 a1 a2 m31 r1 r2 r3 r5 r7 r14 r17 r22 r28 v4 v6 v10 v11 v12 v13 v15 v16 v18 v20 v21 v23 v24 v26 v27 v29 v30 K :=
((P5_4_8_a a0 a1 a2 r1 r2 r3 r5 r7 r14 r17 r22 r28 v4 v6 v10 v11 v12 v13 v15 v16 v18 v20 v21 v23 v24 v26 v27 v29 v30 (C5_4 K .normal))).trans (by kernel_rfl)
theorem P5_5_9_a (a0 : AV) (a1 : AV) (a2 : AV) (m31 : Mem) (r1 : AV × Mem) (r2 : AV × Mem) (r3 : AV × Mem) (r5 : AV × Mem) (r7 : AV × Mem) (r14 : AV × Mem) (r17 : AV × Mem) (r22 : AV × Mem) (r28 : AV × Mem) (v4 : AV) (v6 : AV) (v10 : AV) (v11 : AV) (v12 : AV) (v13 : AV) (v15 : AV) (v16 : AV) (v18 : AV) (v20 : AV) (v21 : AV) (v23 : AV) (v24 : AV) (v26 : AV) (v27 : AV) (v29 : AV) (v30 : AV) (K1 : St → Option (AV × Mem)) : runOps cfg 5 (AP cfg) (AC cfg) none (opsOf (c1 (c2 (c2 (c2 (c2 (c2 (bodyOf f5)))))))) [0, 1, 2, 3, 4, 5] ⟨[a0, a1, a2, r1.1, r2.1, r3.1, (.bool false), (.ptr (newAt none r22.2 .resv).1 0), v24, (.ptr (newAt none r28.2 .resv).1 0), v30, .any, .any, .any, .any, .any, .any, .any, .any, v4, r5.1, v6, r7.1, v10, v11, v12, v13, r14.1, v15, v16, r17.1, v18, r22.1, v20, v21, r22.1, v23, v24, r28.1, v26, v27, r28.1, v29, v30, .any, .any, .any, .any, .any, .any, .any, .any, .any, .any, .any, .any, .any, .any, .any, .any, .any, .any, .any, .any, .any, .any, .any, .any, .any, .any, .any, .any, .any, .any, .any, .any, .any, .any, .any, .any, .any, .any, .any, .any, .any, .any, .any, .any, .any, .any, .any, .any, .any, .any, .any, .any, .any], m31⟩ K1 =
  (loadA (some 3) m31 r1.1).bind fun v32 =>
  (loadA (some 3) m31 r3.1).bind fun v33 =>
  (pcall (AP cfg) none m31 35 [v32, v33]).bind fun r34 =>
  (extractA r34.1 0).bind fun v35 =>
  (extractA r34.1 1).bind fun v36 =>
  K1 ⟨[a0, a1, a2, r1.1, r2.1, r3.1, (.bool false), (.ptr (newAt none r22.2 .resv).1 0), v24, (.ptr (newAt none r28.2 .resv).1 0), v30, .any, .any, .any, .any, .any, .any, .any, .any, v4, r5.1, v6, r7.1, v10, v11, v12, v13, r14.1, v15, v16, r17.1, v18, r22.1, v20, v21, r22.1, v23, v24, r28.1, v26, v27, r28.1, v29, v30, r34.1, v32, v33, r34.1, v35, v36, .any, .any, .any, .any, .any, .any, .any, .any, .any, .any, .any, .any, .any, .any, .any, .any, .any, .any, .any, .any, .any, .any, .any, .any, .any, .any, .any, .any, .any, .any, .any, .any, .any, .any, .any, .any, .any, .any, .any, .any, .any, .any, .any, .any, .any, .any, .any], r34.2⟩ := by kernel_rfl
theorem P5_5_9_eq (a0 : AV) (a1 : AV) (a2 : AV) (m31 : Mem) (r1 : AV × Mem) (r2 : AV × Mem) (r3 : AV × Mem) (r5 : AV × Mem) (r7 : AV × Mem) (r14 : AV × Mem) (r17 : AV × Mem) (r22 : AV × Mem) (r28 : AV × Mem) (v4 : AV) (v6 : AV) (v10 : AV) (v11 : AV) (v12 : AV) (v13 : AV) (v15 : AV) (v16 : AV) (v18 : AV) (v20 : AV) (v21 : AV) (v23 : AV) (v24 : AV) (v26 : AV) (v27 : AV) (v29 : AV) (v30 : AV) (K : Ex → St → Option (AV × Mem)) : P5_5_9 a0 a1 a2 m31 r1 r2 r3 r5 r7 r14 r17 r22 r28 v4 v6 v10 v11 v12 v13 v15 v16 v18 v20 v21 v23 v24 v26 v27 v29 v30 K =
  (loadA (some 3) m31 r1.1).bind fun v32 =>
  (loadA (some 3) m31 r3.1).bind fun v33 =>
  (pcall (AP cfg) none m31 35 [v32, v33]).bind fun r34 =>
  (extractA r34.1 0).bind fun v35 =>
  (extractA r34.1 1).bind fun v36 =>
  P5_5_10 a0 a1 a2 r1 r2 r3 r5 r7 r14 r17 r22 r28 r34 v4 v6 v10 v11 v12 v13 v15 v16 v18 v20 v21 v23 v24 v26 v27 v29 v30 v32 v33 v35 v36 K :=
((runOps_app none _ [0, 1, 2, 3, 4, 5] [6, 7, 8] _ _).trans (P5_5_9_a a0 a1 a2 m31 r1 r2 r3 r5 r7 r14 r17 r22 r28 v4 v6 v10 v11 v12 v13 v15 v16 v18 v20 v21 v23 v24 v26 v27 v29 v30 (fun st => runOps cfg 5 (AP cfg) (AC cfg) none (opsOf (c1 (c2 (c2 (c2 (c2 (c2 (bodyOf f5)))))))) [6, 7, 8] st (C5_5 K .normal)))).trans (by kernel_rfl)
theorem P5_5_10_a (a0 : AV) (a1 : AV) (a2 : AV) (r1 : AV × Mem) (r2 : AV × Mem) (r3 : AV × Mem) (r5 : AV × Mem) (r7 : AV × Mem) (r14 : AV × Mem) (r17 : AV × Mem) (r22 : AV × Mem) (r28 : AV × Mem) (r34 : AV × Mem) (v4 : AV) (v6 : AV) (v10 : AV) (v11 : AV) (v12 : AV) (v13 : AV) (v15 : AV) (v16 : AV) (v18 : AV) (v20 : AV) (v21 : AV) (v23 : AV) (v24 : AV) (v26 : AV) (v27 : AV) (v29 : AV) (v30 : AV) (v32 : AV) (v33 : AV) (v35 : AV) (v36 : AV) (K1 : St → Option (AV × Mem)) : runOps cfg 5 (AP cfg) (AC cfg) none (opsOf (c1 (c2 (c2 (c2 (c2 (c2 (bodyOf f5)))))))) [6, 7, 8] ⟨[a0, a1, a2, r1.1, r2.1, r3.1, (.bool false), (.ptr (newAt none r22.2 .resv).1 0), v24, (.ptr (newAt none r28.2 .resv).1 0), v30, .any, .any, .any, .any, .any, .any, .any, .any, v4, r5.1, v6, r7.1, v10, v11, v12, v13, r14.1, v15, v16, r17.1, v18, r22.1, v20, v21, r22.1, v23, v24, r28.1, v26, v27, r28.1, v29, v30, r34.1, v32, v33, r34.1, v35, v36, .any, .any, .any, .any, .any, .any, .any, .any, .any, .any, .any, .any, .any, .any, .any, .any, .any, .any, .any, .any, .any, .any, .any, .any, .any, .any, .any, .any, .any, .any, .any, .any, .any, .any, .any, .any, .any, .any, .any, .any, .any, .any, .any, .any, .any, .any, .any], r34.2⟩ K1 =
  (storeA (some 3) (newAt none r34.2 (.obj true [(.int .i64 0), (.int .i64 0), (.lst none true .full [])])).2 (.ptr (newAt none r34.2 .resv).1 0) v35).bind fun m37 =>
  K1 ⟨[a0, a1, a2, r1.1, r2.1, r3.1, (.bool false), (.ptr (newAt none r22.2 .resv).1 0), v24, (.ptr (newAt none r28.2 .resv).1 0), v30, (.ptr (newAt none r34.2 .resv).1 0), v36, .any, .any, .any, .any, .any, .any, v4, r5.1, v6, r7.1, v10, v11, v12, v13, r14.1, v15, v16, r17.1, v18, r22.1, v20, v21, r22.1, v23, v24, r28.1, v26, v27, r28.1, v29, v30, r34.1, v32, v33, r34.1, v35, v36, .any, .any, .any, .any, .any, .any, .any, .any, .any, .any, .any, .any, .any, .any, .any, .any, .any, .any, .any, .any, .any, .any, .any, .any, .any, .any, .any, .any, .any, .any, .any, .any, .any, .any, .any, .any, .any, .any, .any, .any, .any, .any, .any, .any, .any, .any, .any], m37⟩ := by kernel_rfl
theorem P5_5_10_eq (a0 : AV) (a1 : AV) (a2 : AV) (r1 : AV × Mem) (r2 : AV × Mem) (r3 : AV × Mem) (r5 : AV × Mem) (r7 : AV × Mem) (r14 : AV × Mem) (r17 : AV × Mem) (r22 : AV × Mem) (r28 : AV × Mem) (r34 : AV × Mem) (v4 : AV) (v6 : AV) (v10 : AV) (v11 : AV) (v12 : AV) (v13 : AV) (v15 : AV) (v16 : AV) (v18 : AV) (v20 : AV) (v21 : AV) (v23 : AV) (v24 : AV) (v26 : AV) (v27 : AV) (v29 : AV) (v30 : AV) (v32 : AV) (v33 : AV) (v35 : AV) (v36 : AV) (K : Ex → St → Option (AV × Mem)) : P5_5_10 a0 a1 a2 r1 r2 r3 r5 r7 r14 r17 r22 r28 r34 v4 v6 v10 v11 v12 v13 v15 v16 v18 v20 v21 v23 v24 v26 v27 v29 v30 v32 v33 v35 v36 K =
  (storeA (some 3) (newAt none r34.2 (.obj true [(.int .i64 0), (.int .i64 0), (.lst none true .full [])])).2 (.ptr (newAt none r34.2 .resv).1 0) v35).bind fun m37 =>
  P5_6_11 a0 a1 a2 m37 r1 r2 r3 r5 r7 r14 r17 r22 r28 r34 v4 v6 v10 v11 v12 v13 v15 v16 v18 v20 v21 v23 v24 v26 v27 v29 v30 v32 v33 v35 v36 K :=
((P5_5_10_a a0 a1 a2 r1 r2 r3 r5 r7 r14 r17 r22 r28 r34 v4 v6 v10 v11 v12 v13 v15 v16 v18 v20 v21 v23 v24 v26 v27 v29 v30 v32 v33 v35 v36 (C5_5 K .normal))).trans (by kernel_rfl)
theorem P5_6_11_a (a0 : AV) (a1 : AV) (a2 : AV) (m37 : Mem) (r1 : AV × Mem) (r2 : AV × Mem) (r3 : AV × Mem) (r5 : AV × Mem) (r7 : AV × Mem) (r14 : AV × Mem) (r17 : AV × Mem) (r22 : AV × Mem) (r28 : AV × Mem) (r34 : AV × Mem) (v4 : AV) (v6 : AV) (v10 : AV) (v11 : AV) (v12 : AV) (v13 : AV) (v15 : AV) (v16 : AV) (v18 : AV) (v20 : AV) (v21 : AV) (v23 : AV) (v24 : AV) (v26 : AV) (v27 : AV) (v29 : AV) (v30 : AV) (v32 : AV) (v33 : AV) (v35 : AV) (v36 : AV) (K1 : St → Option (AV × Mem)) : runOps cfg 5 (AP cfg) (AC cfg) none (opsOf (c1 (c2 (c2 (c2 (c2 (c2 (c2 (bodyOf f5))))))))) [0, 1, 2, 3, 4, 5] ⟨[a0, a1, a2, r1.1, r2.1, r3.1, (.bool false), (.ptr (newAt none r22.2 .resv).1 0), v24, (.ptr (newAt none r28.2 .resv).1 0), v30, (.ptr (newAt none r34.2 .resv).1 0), v36, .any, .any, .any, .any, .any, .any, v4, r5.1, v6, r7.1, v10, v11, v12, v13, r14.1, v15, v16, r17.1, v18, r22.1, v20, v21, r22.1, v23, v24, r28.1, v26, v27, r28.1, v29, v30, r34.1, v32, v33, r34.1, v35, v36, .any, .any, .any, .any, .any, .any, .any, .any, .any, .any, .any, .any, .any, .any, .any, .any, .any, .any, .any, .any, .any, .any, .any, .any, .any, .any, .any, .any, .any, .any, .any, .any, .any, .any, .any, .any, .any, .any, .any, .any, .any, .any, .any, .any, .any, .any, .any], m37⟩ K1 =
  (loadA (some 3) m37 r1.1).bind fun v38 =>
  (loadA (some 3) m37 r3.1).bind fun v39 =>
  (pcall (AP cfg) none m37 36 [v38, v39]).bind fun r40 =>
  (extractA r40.1 0).bind fun v41 =>
  (extractA r40.1 1).bind fun v42 =>
  K1 ⟨[a0, a1, a2, r1.1, r2.1, r3.1, (.bool false), (.ptr (newAt none r22.2 .resv).1 0), v24, (.ptr (newAt none r28.2 .resv).1 0), v30, (.ptr (newAt none r34.2 .resv).1 0), v36, .any, .any, .any, .any, .any, .any, v4, r5.1, v6, r7.1, v10, v11, v12, v13, r14.1, v15, v16, r17.1, v18, r22.1, v20, v21, r22.1, v23, v24, r28.1, v26, v27, r28.1, v29, v30, r34.1, v32, v33, r34.1, v35, v36, r40.1, v38, v39, r40.1, v41, v42, .any, .any, .any, .any, .any, .any, .any, .any, .any, .any, .any, .any, .any, .any, .any, .any, .any, .any, .any, .any, .any, .any, .any, .any, .any, .any, .any, .any, .any, .any, .any, .any, .any, .any, .any, .any, .any, .any, .any, .any, .any], r40.2⟩ := by kernel_rfl
theorem P5_6_11_eq (a0 : AV) (a1 : AV) (a2 : AV) (m37 : Mem) (r1 : AV × Mem) (r2 : AV × Mem) (r3 : AV × Mem) (r5 : AV × Mem) (r7 : AV × Mem) (r14 : AV × Mem) (r17 : AV × Mem) (r22 : AV × Mem) (r28 : AV × Mem) (r34 : AV × Mem) (v4 : AV) (v6 : AV) (v10 : AV) (v11 : AV) (v12 : AV) (v13 : AV) (v15 : AV) (v16 : AV) (v18 : AV) (v20 : AV) (v21 : AV) (v23 : AV) (v24 : AV) (v26 : AV) (v27 : AV) (v29 : AV) (v30 : AV) (v32 : AV) (v33 : AV) (v35 : AV) (v36 : AV) (K : Ex → St → Option (AV × Mem)) : P5_6_11 a0 a1 a2 m37 r1 r2 r3 r5 r7 r14 r17 r22 r28 r34 v4 v6 v10 v11 v12 v13 v15 v16 v18 v20 v21 v23 v24 v26 v27 v29 v30 v32 v33 v35 v36 K =
  (loadA (some 3) m37 r1.1).bind fun v38 =>
  (loadA (some 3) m37 r3.1).bind fun v39 =>
  (pcall (AP cfg) none m37 36 [v38, v39]).bind fun r40 =>
  (extractA r40.1 0).bind fun v41 =>
  (extractA r40.1 1).bind fun v42 =>
  P5_6_12 a0 a1 a2 r1 r2 r3 r5 r7 r14 r17 r22 r28 r34 r40 v4 v6 v10 v11 v12 v13 v15 v16 v18 v20 v21 v23 v24 v26 v27 v29 v30 v32 v33 v35 v36 v38 v39 v41 v42 K :=
((runOps_app none _ [0, 1, 2, 3, 4, 5] [6, 7, 8] _ _).trans (P5_6_11_a a0 a1 a2 m37 r1 r2 r3 r5 r7 r14 r17 r22 r28 r34 v4 v6 v10 v11 v12 v13 v15 v16 v18 v20 v21 v23 v24 v26 v27 v29 v30 v32 v33 v35 v36 (fun st => runOps cfg 5 (AP cfg) (AC cfg) none (opsOf (c1 (c2 (c2 (c2 (c2 (c2 (c2 (bodyOf f5))))))))) [6, 7, 8] st (C5_6 K .normal)))).trans (by kernel_rfl)
theorem P5_6_12_a (a0 : AV) (a1 : AV) (a2 : AV) (r1 : AV × Mem) (r2 : AV × Mem) (r3 : AV × Mem) (r5 : AV × Mem) (r7 : AV × Mem) (r14 : AV × Mem) (r17 : AV × Mem) (r22 : AV × Mem) (r28 : AV × Mem) (r34 : AV × Mem) (r40 : AV × Mem) (v4 : AV) (v6 : AV) (v10 : AV) (v11 : AV) (v12 : AV) (v13 : AV) (v15 : AV) (v16 : AV) (v18 : AV) (v20 : AV) (v21 : AV) (v23 : AV) (v24 : AV) (v26 : AV) (v27 : AV) (v29 : AV) (v30 : AV) (v32 : AV) (v33 : AV) (v35 : AV) (v36 : AV) (v38 : AV) (v39 : AV) (v41 : AV) (v42 : AV) (K1 : St → Option (AV × Mem)) : runOps cfg 5 (AP cfg) (AC cfg) none (opsOf (c1 (c2 (c2 (c2 (c2 (c2 (c2 (bodyOf f5))))))))) [6, 7, 8] ⟨[a0, a1, a2, r1.1, r2.1, r3.1, (.bool false), (.ptr (newAt none r22.2 .resv).1 0), v24, (.ptr (newAt none r28.2 .resv).1 0), v30, (.ptr (newAt none r34.2 .resv).1 0), v36, .any, .any, .any, .any, .any, .any, v4, r5.1, v6, r7.1, v10, v11, v12, v13, r14.1, v15, v16, r17.1, v18, r22.1, v20, v21, r22.1, v23, v24, r28.1, v26, v27, r28.1, v29, v30, r34.1, v32, v33, r34.1, v35, v36, r40.1, v38, v39, r40.1, v41, v42, .any, .any, .any, .any, .any, .any, .any, .any, .any, .any, .any, .any, .any, .any, .any, .any, .any, .any, .any, .any, .any, .any, .any, .any, .any, .any, .any, .any, .any, .any, .any, .any, .any, .any, .any, .any, .any, .any, .any, .any, .any], r40.2⟩ K1 =
  (storeA (some 3) (newAt none r40.2 (.obj true [(.int .i64 0), (.int .i64 0), (.lst none true .full [])])).2 (.ptr (newAt none r40.2 .resv).1 0) v41).bind fun m43 =>
  K1 ⟨[a0, a1, a2, r1.1, r2.1, r3.1, (.bool false), (.ptr (newAt none r22.2 .resv).1 0), v24, (.ptr (newAt none r28.2 .resv).1 0), v30, (.ptr (newAt none r34.2 .resv).1 0), v36, (.ptr (newAt none r40.2 .resv).1 0), v42, .any, .any, .any, .any, v4, r5.1, v6, r7.1, v10, v11, v12, v13, r14.1, v15, v16, r17.1, v18, r22.1, v20, v21, r22.1, v23, v24, r28.1, v26, v27, r28.1, v29, v30, r34.1, v32, v33, r34.1, v35, v36, r40.1, v38, v39, r40.1, v41, v42, .any, .any, .any, .any, .any, .any, .any, .any, .any, .any, .any, .any, .any, .any, .any, .any, .any, .any, .any, .any, .any, .any, .any, .any, .any, .any, .any, .any, .any, .any, .any, .any, .any, .any, .any, .any, .any, .any, .any, .any, .any], m43⟩ := by kernel_rfl
theorem P5_6_12_eq (a0 : AV) (a1 : AV) (a2 : AV) (r1 : AV × Mem) (r2 : AV × Mem) (r3 : AV × Mem) (r5 : AV × Mem) (r7 : AV × Mem) (r14 : AV × Mem) (r17 : AV × Mem) (r22 : AV × Mem) (r28 : AV × Mem) (r34 : AV × Mem) (r40 : AV × Mem) (v4 : AV) (v6 : AV) (v10 : AV) (v11 : AV) (v12 : AV) (v13 : AV) (v15 : AV) (v16 : AV) (v18 : AV) (v20 : AV) (v21 : AV) (v23 : AV) (v24 : AV) (v26 : AV) (v27 : AV) (v29 : AV) (v30 : AV) (v32 : AV) (v33 : AV) (v35 : AV) (v36 : AV) (v38 : AV) (v39 : AV) (v41 : AV) (v42 : AV) (K : Ex → St → Option (AV × Mem)) : P5_6_12 a0 a1 a2 r1 r2 r3 r5 r7 r14 r17 r22 r28 r34 r40 v4 v6 v10 v11 v12 v13 v15 v16 v18 v20 v21 v23 v24 v26 v27 v29 v30 v32 v33 v35 v36 v38 v39 v41 v42 K =
  (storeA (some 3) (newAt none r40.2 (.obj true [(.int .i64 0), (.int .i64 0), (.lst none true .full [])])).2 (.ptr (newAt none r40.2 .resv).1 0) v41).bind fun m43 =>
  P5_7_13 a0 a1 a2 m43 r1 r2 r3 r5 r7 r14 r17 r22 r28 r34 r40 v4 v6 v10 v11 v12 v13 v15 v16 v18 v20 v21 v23 v24 v26 v27 v29 v30 v32 v33 v35 v36 v38 v39 v41 v42 K :=
((P5_6_12_a a0 a1 a2 r1 r2 r3 r5 r7 r14 r17 r22 r28 r34 r40 v4 v6 v10 v11 v12 v13 v15 v16 v18 v20 v21 v23 v24 v26 v27 v29 v30 v32 v33 v35 v36 v38 v39 v41 v42 (C5_6 K .normal))).trans (by kernel_rfl)
theorem P5_7_13_a (a0 : AV) (a1 : AV) (a2 : AV) (m43 : Mem) (r1 : AV × Mem) (r2 : AV × Mem) (r3 : AV × Mem) (r5 : AV × Mem) (r7 : AV × Mem) (r14 : AV × Mem) (r17 : AV × Mem) (r22 : AV × Mem) (r28 : AV × Mem) (r34 : AV × Mem) (r40 : AV × Mem) (v4 : AV) (v6 : AV) (v10 : AV) (v11 : AV) (v12 : AV) (v13 : AV) (v15 : AV) (v16 : AV) (v18 : AV) (v20 : AV) (v21 : AV) (v23 : AV) (v24 : AV) (v26 : AV) (v27 : AV) (v29 : AV) (v30 : AV) (v32 : AV) (v33 : AV) (v35 : AV) (v36 : AV) (v38 : AV) (v39 : AV) (v41 : AV) (v42 : AV) (K1 : St → Option (AV × Mem)) : runOps cfg 5 (AP cfg) (AC cfg) none (opsOf (c1 (c2 (c2 (c2 (c2 (c2 (c2 (c2 (bodyOf f5)))))))))) [0, 1, 2, 3, 4, 5] ⟨[a0, a1, a2, r1.1, r2.1, r3.1, (.bool false), (.ptr (newAt none r22.2 .resv).1 0), v24, (.ptr (newAt none r28.2 .resv).1 0), v30, (.ptr (newAt none r34.2 .resv).1 0), v36, (.ptr (newAt none r40.2 .resv).1 0), v42, .any, .any, .any, .any, v4, r5.1, v6, r7.1, v10, v11, v12, v13, r14.1, v15, v16, r17.1, v18, r22.1, v20, v21, r22.1, v23, v24, r28.1, v26, v27, r28.1, v29, v30, r34.1, v32, v33, r34.1, v35, v36, r40.1, v38, v39, r40.1, v41, v42, .any, .any, .any, .any, .any, .any, .any, .any, .any, .any, .any, .any, .any, .any, .any, .any, .any, .any, .any, .any, .any, .any, .any, .any, .any, .any, .any, .any, .any, .any, .any, .any, .any, .any, .any, .any, .any, .any, .any, .any, .any], m43⟩ K1 =
  (loadA (some 3) m43 r1.1).bind fun v44 =>
  (pcall (AP cfg) none m43 37 [v44]).bind fun r45 =>
  (extractA r45.1 0).bind fun v46 =>
  (extractA r45.1 1).bind fun v47 =>
  K1 ⟨[a0, a1, a2, r1.1, r2.1, r3.1, (.bool false), (.ptr (newAt none r22.2 .resv).1 0), v24, (.ptr (newAt none r28.2 .resv).1 0), v30, (.ptr (newAt none r34.2 .resv).1 0), v36, (.ptr (newAt none r40.2 .resv).1 0), v42, (.ptr (newAt none r45.2 .resv).1 0), .any, .any, .any, v4, r5.1, v6, r7.1, v10, v11, v12, v13, r14.1, v15, v16, r17.1, v18, r22.1, v20, v21, r22.1, v23, v24, r28.1, v26, v27, r28.1, v29, v30, r34.1, v32, v33, r34.1, v35, v36, r40.1, v38, v39, r40.1, v41, v42, r45.1, v44, r45.1, v46, v47, .any, .any, .any, .any, .any, .any, .any, .any, .any, .any, .any, .any, .any, .any, .any, .any, .any, .any, .any, .any, .any, .any, .any, .any, .any, .any, .any, .any, .any, .any, .any, .any, .any, .any, .any, .any], (newAt none r45.2 (.obj true [(.int .i64 0), (.int .i64 0), (.lst none true .full [])])).2⟩ := by kernel_rfl
theorem P5_7_13_eq (a0 : AV) (a1 : AV) (a2 : AV) (m43 : Mem) (r1 : AV × Mem) (r2 : AV × Mem) (r3 : AV × Mem) (r5 : AV × Mem) (r7 : AV × Mem) (r14 : AV × Mem) (r17 : AV × Mem) (r22 : AV × Mem) (r28 : AV × Mem) (r34 : AV × Mem) (r40 : AV × Mem) (v4 : AV) (v6 : AV) (v10 : AV) (v11 : AV) (v12 : AV) (v13 : AV) (v15 : AV) (v16 : AV) (v18 : AV) (v20 : AV) (v21 : AV) (v23 : AV) (v24 : AV) (v26 : AV) (v27 : AV) (v29 : AV) (v30 : AV) (v32 : AV) (v33 : AV) (v35 : AV) (v36 : AV) (v38 : AV) (v39 : AV) (v41 : AV) (v42 : AV) (K : Ex → St → Option (AV × Mem)) : P5_7_13 a0 a1 a2 m43 r1 r2 r3 r5 r7 r14 r17 r22 r28 r34 r40 v4 v6 v10 v11 v12 v13 v15 v16 v18 v20 v21 v23 v24 v26 v27 v29 v30 v32 v33 v35 v36 v38 v39 v41 v42 K =
  (loadA (some 3) m43 r1.1).bind fun v44 =>
  (pcall (AP cfg) none m43 37 [v44]).bind fun r45 =>
  (extractA r45.1 0).bind fun v46 =>
  (extractA r45.1 1).bind fun v47 =>
  P5_7_14 a0 a1 a2 r1 r2 r3 r5 r7 r14 r17 r22 r28 r34 r40 r45 v4 v6 v10 v11 v12 v13 v15 v16 v18 v20 v21 v23 v24 v26 v27 v29 v30 v32 v33 v35 v36 v38 v39 v41 v42 v44 v46 v47 K :=
((runOps_app none _ [0, 1, 2, 3, 4, 5] [6, 7] _ _).trans (P5_7_13_a a0 a1 a2 m43 r1 r2 r3 r5 r7 r14 r17 r22 r28 r34 r40 v4 v6 v10 v11 v12 v13 v15 v16 v18 v20 v21 v23 v24 v26 v27 v29 v30 v32 v33 v35 v36 v38 v39 v41 v42 (fun st => runOps cfg 5 (AP cfg) (AC cfg) none (opsOf (c1 (c2 (c2 (c2 (c2 (c2 (c2 (c2 (bodyOf f5)))))))))) [6, 7] st (C5_7 K .normal)))).trans (by kernel_rfl)
theorem P5_7_14_a (a0 : AV) (a1 : AV) (a2 : AV) (r1 : AV × Mem) (r2 : AV × Mem) (r3 : AV × Mem) (r5 : AV × Mem) (r7 : AV × Mem) (r14 : AV × Mem) (r17 : AV × Mem) (r22 : AV × Mem) (r28 : AV × Mem) (r34 : AV × Mem) (r40 : AV × Mem) (r45 : AV × Mem) (v4 : AV) (v6 : AV) (v10 : AV) (v11 : AV) (v12 : AV) (v13 : AV) (v15 : AV) (v16 : AV) (v18 : AV) (v20 : AV) (v21 : AV) (v23 : AV) (v24 : AV) (v26 : AV) (v27 : AV) (v29 : AV) (v30 : AV) (v32 : AV) (v33 : AV) (v35 : AV) (v36 : AV) (v38 : AV) (v39 : AV) (v41 : AV) (v42 : AV) (v44 : AV) (v46 : AV) (v47 : AV) (K1 : St → Option (AV × Mem)) : runOps cfg 5 (AP cfg) (AC cfg) none (opsOf (c1 (c2 (c2 (c2 (c2 (c2 (c2 (c2 (bodyOf f5)))))))))) [6, 7] ⟨[a0, a1, a2, r1.1, r2.1, r3.1, (.bool false), (.ptr (newAt none r22.2 .resv).1 0), v24, (.ptr (newAt none r28.2 .resv).1 0), v30, (.ptr (newAt none r34.2 .resv).1 0), v36, (.ptr (newAt none r40.2 .resv).1 0), v42, (.ptr (newAt none r45.2 .resv).1 0), .any, .any, .any, v4, r5.1, v6, r7.1, v10, v11, v12, v13, r14.1, v15, v16, r17.1, v18, r22.1, v20, v21, r22.1, v23, v24, r28.1, v26, v27, r28.1, v29, v30, r34.1, v32, v33, r34.1, v35, v36, r40.1, v38, v39, r40.1, v41, v42, r45.1, v44, r45.1, v46, v47, .any, .any, .any, .any, .any, .any, .any, .any, .any, .any, .any, .any, .any, .any, .any, .any, .any, .any, .any, .any, .any, .any, .any, .any, .any, .any, .any, .any, .any, .any, .any, .any, .any, .any, .any, .any], (newAt none r45.2 (.obj true [(.int .i64 0), (.int .i64 0), (.lst none true .full [])])).2⟩ K1 =
  (storeA (some 3) (newAt none r45.2 (.obj true [(.int .i64 0), (.int .i64 0), (.lst none true .full [])])).2 (.ptr (newAt none r45.2 .resv).1 0) v46).bind fun m48 =>
  K1 ⟨[a0, a1, a2, r1.1, r2.1, r3.1, (.bool false), (.ptr (newAt none r22.2 .resv).1 0), v24, (.ptr (newAt none r28.2 .resv).1 0), v30, (.ptr (newAt none r34.2 .resv).1 0), v36, (.ptr (newAt none r40.2 .resv).1 0), v42, (.ptr (newAt none r45.2 .resv).1 0), v47, .any, .any, v4, r5.1, v6, r7.1, v10, v11, v12, v13, r14.1, v15, v16, r17.1, v18, r22.1, v20, v21, r22.1, v23, v24, r28.1, v26, v27, r28.1, v29, v30, r34.1, v32, v33, r34.1, v35, v36, r40.1, v38, v39, r40.1, v41, v42, r45.1, v44, r45.1, v46, v47, .any, .any, .any, .any, .any, .any, .any, .any, .any, .any, .any, .any, .any, .any, .any, .any, .any, .any, .any, .any, .any, .any, .any, .any, .any, .any, .any, .any, .any, .any, .any, .any, .any, .any, .any, .any], m48⟩ := by kernel_rfl
theorem P5_7_14_eq (a0 : AV) (a1 : AV) (a2 : AV) (r1 : AV × Mem) (r2 : AV × Mem) (r3 : AV × Mem) (r5 : AV × Mem) (r7 : AV × Mem) (r14 : AV × Mem) (r17 : AV × Mem) (r22 : AV × Mem) (r28 : AV × Mem) (r34 : AV × Mem) (r40 : AV × Mem) (r45 : AV × Mem) (v4 : AV) (v6 : AV) (v10 : AV) (v11 : AV) (v12 : AV) (v13 : AV) (v15 : AV) (v16 : AV) (v18 : AV) (v20 : AV) (v21 : AV) (v23 : AV) (v24 : AV) (v26 : AV) (v27 : AV) (v29 : AV) (v30 : AV) (v32 : AV) (v33 : AV) (v35 : AV) (v36 : AV) (v38 : AV) (v39 : AV) (v41 : AV) (v42 : AV) (v44 : AV) (v46 : AV) (v47 : AV) (K : Ex → St → Option (AV × Mem)) : P5_7_14 a0 a1 a2 r1 r2 r3 r5 r7 r14 r17 r22 r28 r34 r40 r45 v4 v6 v10 v11 v12 v13 v15 v16 v18 v20 v21 v23 v24 v26 v27 v29 v30 v32 v33 v35 v36 v38 v39 v41 v42 v44 v46 v47 K =
  (storeA (some 3) (newAt none r45.2 (.obj true [(.int .i64 0), (.int .i64 0), (.lst none true .full [])])).2 (.ptr (newAt none r45.2 .resv).1 0) v46).bind fun m48 =>
  P5_8_15 a0 a1 a2 m48 r1 r2 r3 r5 r7 r14 r17 r22 r28 r34 r40 r45 v4 v6 v10 v11 v12 v13 v15 v16 v18 v20 v21 v23 v24 v26 v27 v29 v30 v32 v33 v35 v36 v38 v39 v41 v42 v44 v46 v47 K :=
((P5_7_14_a a0 a1 a2 r1 r2 r3 r5 r7 r14 r17 r22 r28 r34 r40 r45 v4 v6 v10 v11 v12 v13 v15 v16 v18 v20 v21 v23 v24 v26 v27 v29 v30 v32 v33 v35 v36 v38 v39 v41 v42 v44 v46 v47 (C5_7 K .normal))).trans (by kernel_rfl)
theorem P5_8_15_a (a0 : AV) (a1 : AV) (a2 : AV) (m48 : Mem) (r1 : AV × Mem) (r2 : AV × Mem) (r3 : AV × Mem) (r5 : AV × Mem) (r7 : AV × Mem) (r14 : AV × Mem) (r17 : AV × Mem) (r22 : AV × Mem) (r28 : AV × Mem) (r34 : AV × Mem) (r40 : AV × Mem) (r45 : AV × Mem) (v4 : AV) (v6 : AV) (v10 : AV) (v11 : AV) (v12 : AV) (v13 : AV) (v15 : AV) (v16 : AV) (v18 : AV) (v20 : AV) (v21 : AV) (v23 : AV) (v24 : AV) (v26 : AV) (v27 : AV) (v29 : AV) (v30 : AV) (v32 : AV) (v33 : AV) (v35 : AV) (v36 : AV) (v38 : AV) (v39 : AV) (v41 : AV) (v42 : AV) (v44 : AV) (v46 : AV) (v47 : AV) (K1 : St → Option (AV × Mem)) : runOps cfg 5 (AP cfg) (AC cfg) none (opsOf (c1 (c2 (c2 (c2 (c2 (c2 (c2 (c2 (c2 (bodyOf f5))))))))))) [0, 1, 2, 3, 4, 5] ⟨[a0, a1, a2, r1.1, r2.1, r3.1, (.bool false), (.ptr (newAt none r22.2 .resv).1 0), v24, (.ptr (newAt none r28.2 .resv).1 0), v30, (.ptr (newAt none r34.2 .resv).1 0), v36, (.ptr (newAt none r40.2 .resv).1 0), v42, (.ptr (newAt none r45.2 .resv).1 0), v47, .any, .any, v4, r5.1, v6, r7.1, v10, v11, v12, v13, r14.1, v15, v16, r17.1, v18, r22.1, v20, v21, r22.1, v23, v24, r28.1, v26, v27, r28.1, v29, v30, r34.1, v32, v33, r34.1, v35, v36, r40.1, v38, v39, r40.1, v41, v42, r45.1, v44, r45.1, v46, v47, .any, .any, .any, .any, .any, .any, .any, .any, .any, .any, .any, .any, .any, .any, .any, .any, .any, .any, .any, .any, .any, .any, .any, .any, .any, .any, .any, .any, .any, .any, .any, .any, .any, .any, .any, .any], m48⟩ K1 =
  (loadA (some 3) m48 r1.1).bind fun v49 =>
  (pcall (AP cfg) none m48 38 [v49]).bind fun r50 =>
  (extractA r50.1 0).bind fun v51 =>
  (extractA r50.1 1).bind fun v52 =>
  K1 ⟨[a0, a1, a2, r1.1, r2.1, r3.1, (.bool false), (.ptr (newAt none r22.2 .resv).1 0), v24, (.ptr (newAt none r28.2 .resv).1 0), v30, (.ptr (newAt none r34.2 .resv).1 0), v36, (.ptr (newAt none r40.2 .resv).1 0), v42, (.ptr (newAt none r45.2 .resv).1 0), v47, (.ptr (newAt none r50.2 .resv).1 0), .any, v4, r5.1, v6, r7.1, v10, v11, v12, v13, r14.1, v15, v16, r17.1, v18, r22.1, v20, v21, r22.1, v23, v24, r28.1, v26, v27, r28.1, v29, v30, r34.1, v32, v33, r34.1, v35, v36, r40.1, v38, v39, r40.1, v41, v42, r45.1, v44, r45.1, v46, v47, r50.1, v49, r50.1, v51, v52, .any, .any, .any, .any, .any, .any, .any, .any, .any, .any, .any, .any, .any, .any, .any, .any, .any, .any, .any, .any, .any, .any, .any, .any, .any, .any, .any, .any, .any, .any, .any], (newAt none r50.2 (.obj true [(.int .i64 0), (.int .i64 0), (.lst none true .full [])])).2⟩ := by kernel_rfl
theorem P5_8_15_eq (a0 : AV) (a1 : AV) (a2 : AV) (m48 : Mem) (r1 : AV × Mem) (r2 : AV × Mem) (r3 : AV × Mem) (r5 : AV × Mem) (r7 : AV × Mem) (r14 : AV × Mem) (r17 : AV × Mem) (r22 : AV × Mem) (r28 : AV × Mem) (r34 : AV × Mem) (r40 : AV × Mem) (r45 : AV × Mem) (v4 : AV) (v6 : AV) (v10 : AV) (v11 : AV) (v12 : AV) (v13 : AV) (v15 : AV) (v16 : AV) (v18 : AV) (v20 : AV) (v21 : AV) (v23 : AV) (v24 : AV) (v26 : AV) (v27 : AV) (v29 : AV) (v30 : AV) (v32 : AV) (v33 : AV) (v35 : AV) (v36 : AV) (v38 : AV) (v39 : AV) (v41 : AV) (v42 : AV) (v44 : AV) (v46 : AV) (v47 : AV) (K : Ex → St → Option (AV × Mem)) : P5_8_15 a0 a1 a2 m48 r1 r2 r3 r5 r7 r14 r17 r22 r28 r34 r40 r45 v4 v6 v10 v11 v12 v13 v15 v16 v18 v20 v21 v23 v24 v26 v27 v29 v30 v32 v33 v35 v36 v38 v39 v41 v42 v44 v46 v47 K =
  (loadA (some 3) m48 r1.1).bind fun v49 =>
  (pcall (AP cfg) none m48 38 [v49]).bind fun r50 =>
  (extractA r50.1 0).bind fun v51 =>
  (extractA r50.1 1).bind fun v52 =>
  P5_8_16 a0 a1 a2 r1 r2 r3 r5 r7 r14 r17 r22 r28 r34 r40 r45 r50 v4 v6 v10 v11 v12 v13 v15 v16 v18 v20 v21 v23 v24 v26 v27 v29 v30 v32 v33 v35 v36 v38 v39 v41 v42 v44 v46 v47 v49 v51 v52 K :=
((runOps_app none _ [0, 1, 2, 3, 4, 5] [6, 7] _ _).trans (P5_8_15_a a0 a1 a2 m48 r1 r2 r3 r5 r7 r14 r17 r22 r28 r34 r40 r45 v4 v6 v10 v11 v12 v13 v15 v16 v18 v20 v21 v23 v24 v26 v27 v29 v30 v32 v33 v35 v36 v38 v39 v41 v42 v44 v46 v47 (fun st => runOps cfg 5 (AP cfg) (AC cfg) none (opsOf (c1 (c2 (c2 (c2 (c2 (c2 (c2 (c2 (c2 (bodyOf f5))))))))))) [6, 7] st (C5_8 K .normal)))).trans (by kernel_rfl)
theorem P5_8_16_a (a0 : AV) (a1 : AV) (a2 : AV) (r1 : AV × Mem) (r2 : AV × Mem) (r3 : AV × Mem) (r5 : AV × Mem) (r7 : AV × Mem) (r14 : AV × Mem) (r17 : AV × Mem) (r22 : AV × Mem) (r28 : AV × Mem) (r34 : AV × Mem) (r40 : AV × Mem) (r45 : AV × Mem) (r50 : AV × Mem) (v4 : AV) (v6 : AV) (v10 : AV) (v11 : AV) (v12 : AV) (v13 : AV) (v15 : AV) (v16 : AV) (v18 : AV) (v20 : AV) (v21 : AV) (v23 : AV) (v24 : AV) (v26 : AV) (v27 : AV) (v29 : AV) (v30 : AV) (v32 : AV) (v33 : AV) (v35 : AV) (v36 : AV) (v38 : AV) (v39 : AV) (v41 : AV) (v42 : AV) (v44 : AV) (v46 : AV) (v47 : AV) (v49 : AV) (v51 : AV) (v52 : AV) (K1 : St → Option (AV × Mem)) : runOps cfg 5 (AP cfg) (AC cfg) none (opsOf (c1 (c2 (c2 (c2 (c2 (c2 (c2 (c2 (c2 (bodyOf f5))))))))))) [6, 7] ⟨[a0, a1, a2, r1.1, r2.1, r3.1, (.bool false), (.ptr (newAt none r22.2 .resv).1 0), v24, (.ptr (newAt none r28.2 .resv).1 0), v30, (.ptr (newAt none r34.2 .resv).1 0), v36, (.ptr (newAt none r40.2 .resv).1 0), v42, (.ptr (newAt none r45.2 .resv).1 0), v47, (.ptr (newAt none r50.2 .resv).1 0), .any, v4, r5.1, v6, r7.1, v10, v11, v12, v13, r14.1, v15, v16, r17.1, v18, r22.1, v20, v21, r22.1, v23, v24, r28.1, v26, v27, r28.1, v29, v30, r34.1, v32, v33, r34.1, v35, v36, r40.1, v38, v39, r40.1, v41, v42, r45.1, v44, r45.1, v46, v47, r50.1, v49, r50.1, v51, v52, .any, .any, .any, .any, .any, .any, .any, .any, .any, .any, .any, .any, .any, .any, .any, .any, .any, .any, .any, .any, .any, .any, .any, .any, .any, .any, .any, .any, .any, .any, .any], (newAt none r50.2 (.obj true [(.int .i64 0), (.int .i64 0), (.lst none true .full [])])).2⟩ K1 =
  (storeA (some 3) (newAt none r50.2 (.obj true [(.int .i64 0), (.int .i64 0), (.lst none true .full [])])).2 (.ptr (newAt none r50.2 .resv).1 0) v51).bind fun m53 =>
  K1 ⟨[a0, a1, a2, r1.1, r2.1, r3.1, (.bool false), (.ptr (newAt none r22.2 .resv).1 0), v24, (.ptr (newAt none r28.2 .resv).1 0), v30, (.ptr (newAt none r34.2 .resv).1 0), v36, (.ptr (newAt none r40.2 .resv).1 0), v42, (.ptr (newAt none r45.2 .resv).1 0), v47, (.ptr (newAt none r50.2 .resv).1 0), v52, v4, r5.1, v6, r7.1, v10, v11, v12, v13, r14.1, v15, v16, r17.1, v18, r22.1, v20, v21, r22.1, v23, v24, r28.1, v26, v27, r28.1, v29, v30, r34.1, v32, v33, r34.1, v35, v36, r40.1, v38, v39, r40.1, v41, v42, r45.1, v44, r45.1, v46, v47, r50.1, v49, r50.1, v51, v52, .any, .any, .any, .any, .any, .any, .any, .any, .any, .any, .any, .any, .any, .any, .any, .any, .any, .any, .any, .any, .any, .any, .any, .any, .any, .any, .any, .any, .any, .any, .any], m53⟩ := by kernel_rfl
theorem P5_8_16_eq (a0 : AV) (a1 : AV) (a2 : AV) (r1 : AV × Mem) (r2 : AV × Mem) (r3 : AV × Mem) (r5 : AV × Mem) (r7 : AV × Mem) (r14 : AV × Mem) (r17 : AV × Mem) (r22 : AV × Mem) (r28 : AV × Mem) (r34 : AV × Mem) (r40 : AV × Mem) (r45 : AV × Mem) (r50 : AV × Mem) (v4 : AV) (v6 : AV) (v10 : AV) (v11 : AV) (v12 : AV) (v13 : AV) (v15 : AV) (v16 : AV) (v18 : AV) (v20 : AV) (v21 : AV) (v23 : AV) (v24 : AV) (v26 : AV) (v27 : AV) (v29 : AV) (v30 : AV) (v32 : AV) (v33 : AV) (v35 : AV) (v36 : AV) (v38 : AV) (v39 : AV) (v41 : AV) (v42 : AV) (v44 : AV) (v46 : AV) (v47 : AV) (v49 : AV) (v51 : AV) (v52 : AV) (K : Ex → St → Option (AV × Mem)) : P5_8_16 a0 a1 a2 r1 r2 r3 r5 r7 r14 r17 r22 r28 r34 r40 r45 r50 v4 v6 v10 v11 v12 v13 v15 v16 v18 v20 v21 v23 v24 v26 v27 v29 v30 v32 v33 v35 v36 v38 v39 v41 v42 v44 v46 v47 v49 v51 v52 K =
  (storeA (some 3) (newAt none r50.2 (.obj true [(.int .i64 0), (.int .i64 0), (.lst none true .full [])])).2 (.ptr (newAt none r50.2 .resv).1 0) v51).bind fun m53 =>
  P5_9_17 a0 a1 a2 m53 r1 r2 r3 r5 r7 r14 r17 r22 r28 r34 r40 r45 r50 v4 v6 v10 v11 v12 v13 v15 v16 v18 v20 v21 v23 v24 v26 v27 v29 v30 v32 v33 v35 v36 v38 v39 v41 v42 v44 v46 v47 v49 v51 v52 K :=
((P5_8_16_a a0 a1 a2 r1 r2 r3 r5 r7 r14 r17 r22 r28 r34 r40 r45 r50 v4 v6 v10 v11 v12 v13 v15 v16 v18 v20 v21 v23 v24 v26 v27 v29 v30 v32 v33 v35 v36 v38 v39 v41 v42 v44 v46 v47 v49 v51 v52 (C5_8 K .normal))).trans (by kernel_rfl)
theorem P5_9_17_a (a0 : AV) (a1 : AV) (a2 : AV) (m53 : Mem) (r1 : AV × Mem) (r2 : AV × Mem) (r3 : AV × Mem) (r5 : AV × Mem) (r7 : AV × Mem) (r14 : AV × Mem) (r17 : AV × Mem) (r22 : AV × Mem) (r28 : AV × Mem) (r34 : AV × Mem) (r40 : AV × Mem) (r45 : AV × Mem) (r50 : AV × Mem) (v4 : AV) (v6 : AV) (v10 : AV) (v11 : AV) (v12 : AV) (v13 : AV) (v15 : AV) (v16 : AV) (v18 : AV) (v20 : AV) (v21 : AV) (v23 : AV) (v24 : AV) (v26 : AV) (v27 : AV) (v29 : AV) (v30 : AV) (v32 : AV) (v33 : AV) (v35 : AV) (v36 : AV) (v38 : AV) (v39 : AV) (v41 : AV) (v42 : AV) (v44 : AV) (v46 : AV) (v47 : AV) (v49 : AV) (v51 : AV) (v52 : AV) (K1 : St → Option (AV × Mem)) : runOps cfg 5 (AP cfg) (AC cfg) (some (m53).length) (opsOf (c1 (c2 (c2 (c2 (c2 (c2 (c2 (c2 (c2 (c2 (bodyOf f5)))))))))))) [0, 1, 2, 3, 4, 5] ⟨[a0, a1, a2, r1.1, r2.1, r3.1, (.bool false), (.ptr (newAt none r22.2 .resv).1 0), v24, (.ptr (newAt none r28.2 .resv).1 0), v30, (.ptr (newAt none r34.2 .resv).1 0), v36, (.ptr (newAt none r40.2 .resv).1 0), v42, (.ptr (newAt none r45.2 .resv).1 0), v47, (.ptr (newAt none r50.2 .resv).1 0), v52, v4, r5.1, v6, r7.1, v10, v11, v12, v13, r14.1, v15, v16, r17.1, v18, r22.1, v20, v21, r22.1, v23, v24, r28.1, v26, v27, r28.1, v29, v30, r34.1, v32, v33, r34.1, v35, v36, r40.1, v38, v39, r40.1, v41, v42, r45.1, v44, r45.1, v46, v47, r50.1, v49, r50.1, v51, v52, .any, .any, .any, .any, .any, .any, .any, .any, .any, .any, .any, .any, .any, .any, .any, .any, .any, .any, .any, .any, .any, .any, .any, .any, .any, .any, .any, .any, .any, .any, .any], m53⟩ K1 =
  (loadA (some 3) m53 (.ptr (newAt none r22.2 .resv).1 0)).bind fun v54 =>
  (loadA (some 3) m53 (.ptr (newAt none r28.2 .resv).1 0)).bind fun v55 =>
  (pcall (AP cfg) (some m53.length) m53 22 [v54, v24, v55, v30]).bind fun r56 =>
  K1 ⟨[a0, a1, a2, r1.1, r2.1, r3.1, (.bool false), (.ptr (newAt none r22.2 .resv).1 0), v24, (.ptr (newAt none r28.2 .resv).1 0), v30, (.ptr (newAt none r34.2 .resv).1 0), v36, (.ptr (newAt none r40.2 .resv).1 0), v42, (.ptr (newAt none r45.2 .resv).1 0), v47, (.ptr (newAt none r50.2 .resv).1 0), v52, v4, r5.1, v6, r7.1, v10, v11, v12, v13, r14.1, v15, v16, r17.1, v18, r22.1, v20, v21, r22.1, v23, v24, r28.1, v26, v27, r28.1, v29, v30, r34.1, v32, v33, r34.1, v35, v36, r40.1, v38, v39, r40.1, v41, v42, r45.1, v44, r45.1, v46, v47, r50.1, v49, r50.1, v51, v52, v54, v24, v55, v30, r56.1, r56.1, .any, .any, .any, .any, .any, .any, .any, .any, .any, .any, .any, .any, .any, .any, .any, .any, .any, .any, .any, .any, .any, .any, .any, .any, .any], r56.2⟩ := by kernel_rfl
theorem P5_9_17_eq (a0 : AV) (a1 : AV) (a2 : AV) (m53 : Mem) (r1 : AV × Mem) (r2 : AV × Mem) (r3 : AV × Mem) (r5 : AV × Mem) (r7 : AV × Mem) (r14 : AV × Mem) (r17 : AV × Mem) (r22 : AV × Mem) (r28 : AV × Mem) (r34 : AV × Mem) (r40 : AV × Mem) (r45 : AV × Mem) (r50 : AV × Mem) (v4 : AV) (v6 : AV) (v10 : AV) (v11 : AV) (v12 : AV) (v13 : AV) (v15 : AV) (v16 : AV) (v18 : AV) (v20 : AV) (v21 : AV) (v23 : AV) (v24 : AV) (v26 : AV) (v27 : AV) (v29 : AV) (v30 : AV) (v32 : AV) (v33 : AV) (v35 : AV) (v36 : AV) (v38 : AV) (v39 : AV) (v41 : AV) (v42 : AV) (v44 : AV) (v46 : AV) (v47 : AV) (v49 : AV) (v51 : AV) (v52 : AV) (K : Ex → St → Option (AV × Mem)) : P5_9_17 a0 a1 a2 m53 r1 r2 r3 r5 r7 r14 r17 r22 r28 r34 r40 r45 r50 v4 v6 v10 v11 v12 v13 v15 v16 v18 v20 v21 v23 v24 v26 v27 v29 v30 v32 v33 v35 v36 v38 v39 v41 v42 v44 v46 v47 v49 v51 v52 K =
  (loadA (some 3) m53 (.ptr (newAt none r22.2 .resv).1 0)).bind fun v54 =>
  (loadA (some 3) m53 (.ptr (newAt none r28.2 .resv).1 0)).bind fun v55 =>
  (pcall (AP cfg) (some m53.length) m53 22 [v54, v24, v55, v30]).bind fun r56 =>
  P5_9_18 a0 a1 a2 m53 r1 r2 r3 r5 r7 r14 r17 r22 r28 r34 r40 r45 r50 r56 v4 v6 v10 v11 v12 v13 v15 v16 v18 v20 v21 v23 v24 v26 v27 v29 v30 v32 v33 v35 v36 v38 v39 v41 v42 v44 v46 v47 v49 v51 v52 v54 v55 K :=
((runOps_app (some (m53).length) _ [0, 1, 2, 3, 4, 5] [6, 7, 8, 9, 10, 11, 12, 13, 14, 15, 16, 17, 18, 19, 20, 21, 22, 23, 24, 25, 26, 27, 28, 29, 30, 31] _ _).trans (P5_9_17_a a0 a1 a2 m53 r1 r2 r3 r5 r7 r14 r17 r22 r28 r34 r40 r45 r50 v4 v6 v10 v11 v12 v13 v15 v16 v18 v20 v21 v23 v24 v26 v27 v29 v30 v32 v33 v35 v36 v38 v39 v41 v42 v44 v46 v47 v49 v51 v52 (fun st => runOps cfg 5 (AP cfg) (AC cfg) (some (m53).length) (opsOf (c1 (c2 (c2 (c2 (c2 (c2 (c2 (c2 (c2 (c2 (bodyOf f5)))))))))))) [6, 7, 8, 9, 10, 11, 12, 13, 14, 15, 16, 17, 18, 19, 20, 21, 22, 23, 24, 25, 26, 27, 28, 29, 30, 31] st (C5_9 K .normal)))).trans (by kernel_rfl)
theorem P5_9_18_a (a0 : AV) (a1 : AV) (a2 : AV) (m53 : Mem) (r1 : AV × Mem) (r2 : AV × Mem) (r3 : AV × Mem) (r5 : AV × Mem) (r7 : AV × Mem) (r14 : AV × Mem) (r17 : AV × Mem) (r22 : AV × Mem) (r28 : AV × Mem) (r34 : AV × Mem) (r40 : AV × Mem) (r45 : AV × Mem) (r50 : AV × Mem) (r56 : AV × Mem) (v4 : AV) (v6 : AV) (v10 : AV) (v11 : AV) (v12 : AV) (v13 : AV) (v15 : AV) (v16 : AV) (v18 : AV) (v20 : AV) (v21 : AV) (v23 : AV) (v24 : AV) (v26 : AV) (v27 : AV) (v29 : AV) (v30 : AV) (v32 : AV) (v33 : AV) (v35 : AV) (v36 : AV) (v38 : AV) (v39 : AV) (v41 : AV) (v42 : AV) (v44 : AV) (v46 : AV) (v47 : AV) (v49 : AV) (v51 : AV) (v52 : AV) (v54 : AV) (v55 : AV) (K1 : St → Option (AV × Mem)) : runOps cfg 5 (AP cfg) (AC cfg) (some (m53).length) (opsOf (c1 (c2 (c2 (c2 (c2 (c2 (c2 (c2 (c2 (c2 (bodyOf f5)))))))))))) [6, 7, 8, 9, 10, 11] ⟨[a0, a1, a2, r1.1, r2.1, r3.1, (.bool false), (.ptr (newAt none r22.2 .resv).1 0), v24, (.ptr (newAt none r28.2 .resv).1 0), v30, (.ptr (newAt none r34.2 .resv).1 0), v36, (.ptr (newAt none r40.2 .resv).1 0), v42, (.ptr (newAt none r45.2 .resv).1 0), v47, (.ptr (newAt none r50.2 .resv).1 0), v52, v4, r5.1, v6, r7.1, v10, v11, v12, v13, r14.1, v15, v16, r17.1, v18, r22.1, v20, v21, r22.1, v23, v24, r28.1, v26, v27, r28.1, v29, v30, r34.1, v32, v33, r34.1, v35, v36, r40.1, v38, v39, r40.1, v41, v42, r45.1, v44, r45.1, v46, v47, r50.1, v49, r50.1, v51, v52, v54, v24, v55, v30, r56.1, r56.1, .any, .any, .any, .any, .any, .any, .any, .any, .any, .any, .any, .any, .any, .any, .any, .any, .any, .any, .any, .any, .any, .any, .any, .any, .any], r56.2⟩ K1 =
  ifA r56.1 (
  (loadA (some 3) r56.2 (.ptr (newAt none r34.2 .resv).1 0)).bind fun v57 =>
  (loadA (some 3) r56.2 (.ptr (newAt none r40.2 .resv).1 0)).bind fun v58 =>
  (pcall (AP cfg) (some m53.length) r56.2 22 [v57, v36, v58, v42]).bind fun r59 =>
  K1 ⟨[a0, a1, a2, r1.1, r2.1, r3.1, (.bool false), (.ptr (newAt none r22.2 .resv).1 0), v24, (.ptr (newAt none r28.2 .resv).1 0), v30, (.ptr (newAt none r34.2 .resv).1 0), v36, (.ptr (newAt none r40.2 .resv).1 0), v42, (.ptr (newAt none r45.2 .resv).1 0), v47, (.ptr (newAt none r50.2 .resv).1 0), v52, v4, r5.1, v6, r7.1, v10, v11, v12, v13, r14.1, v15, v16, r17.1, v18, r22.1, v20, v21, r22.1, v23, v24, r28.1, v26, v27, r28.1, v29, v30, r34.1, v32, v33, r34.1, v35, v36, r40.1, v38, v39, r40.1, v41, v42, r45.1, v44, r45.1, v46, v47, r50.1, v49, r50.1, v51, v52, v54, v24, v55, v30, r56.1, (.bool true), v57, v36, v58, v42, r59.1, r59.1, .any, .any, .any, .any, .any, .any, .any, .any, .any, .any, .any, .any, .any, .any, .any, .any, .any, .any, .any], r59.2⟩) (
  K1 ⟨[a0, a1, a2, r1.1, r2.1, r3.1, (.bool false), (.ptr (newAt none r22.2 .resv).1 0), v24, (.ptr (newAt none r28.2 .resv).1 0), v30, (.ptr (newAt none r34.2 .resv).1 0), v36, (.ptr (newAt none r40.2 .resv).1 0), v42, (.ptr (newAt none r45.2 .resv).1 0), v47, (.ptr (newAt none r50.2 .resv).1 0), v52, v4, r5.1, v6, r7.1, v10, v11, v12, v13, r14.1, v15, v16, r17.1, v18, r22.1, v20, v21, r22.1, v23, v24, r28.1, v26, v27, r28.1, v29, v30, r34.1, v32, v33, r34.1, v35, v36, r40.1, v38, v39, r40.1, v41, v42, r45.1, v44, r45.1, v46, v47, r50.1, v49, r50.1, v51, v52, v54, v24, v55, v30, r56.1, (.bool false), (.tup []), (.tup []), (.tup []), (.tup []), (.tup []), (.bool false), .any, .any, .any, .any, .any, .any, .any, .any, .any, .any, .any, .any, .any, .any, .any, .any, .any, .any, .any], r56.2⟩) := by kernel_rfl
theorem P5_9_18_eq (a0 : AV) (a1 : AV) (a2 : AV) (m53 : Mem) (r1 : AV × Mem) (r2 : AV × Mem) (r3 : AV × Mem) (r5 : AV × Mem) (r7 : AV × Mem) (r14 : AV × Mem) (r17 : AV × Mem) (r22 : AV × Mem) (r28 : AV × Mem) (r34 : AV × Mem) (r40 : AV × Mem) (r45 : AV × Mem) (r50 : AV × Mem) (r56 : AV × Mem) (v4 : AV) (v6 : AV) (v10 : AV) (v11 : AV) (v12 : AV) (v13 : AV) (v15 : AV) (v16 : AV) (v18 : AV) (v20 : AV) (v21 : AV) (v23 : AV) (v24 : AV) (v26 : AV) (v27 : AV) (v29 : AV) (v30 : AV) (v32 : AV) (v33 : AV) (v35 : AV) (v36 : AV) (v38 : AV) (v39 : AV) (v41 : AV) (v42 : AV) (v44 : AV) (v46 : AV) (v47 : AV) (v49 : AV) (v51 : AV) (v52 : AV) (v54 : AV) (v55 : AV) (K : Ex → St → Option (AV × Mem)) : P5_9_18 a0 a1 a2 m53 r1 r2 r3 r5 r7 r14 r17 r22 r28 r34 r40 r45 r50 r56 v4 v6 v10 v11 v12 v13 v15 v16 v18 v20 v21 v23 v24 v26 v27 v29 v30 v32 v33 v35 v36 v38 v39 v41 v42 v44 v46 v47 v49 v51 v52 v54 v55 K =
  ifA r56.1 (
  (loadA (some 3) r56.2 (.ptr (newAt none r34.2 .resv).1 0)).bind fun v57 =>
  (loadA (some 3) r56.2 (.ptr (newAt none r40.2 .resv).1 0)).bind fun v58 =>
  (pcall (AP cfg) (some m53.length) r56.2 22 [v57, v36, v58, v42]).bind fun r59 =>
  P5_9_19 a0 a1 a2 m53 r1 r2 r3 r5 r7 r14 r17 r22 r28 r34 r40 r45 r50 r56 r59 v4 v6 v10 v11 v12 v13 v15 v16 v18 v20 v21 v23 v24 v26 v27 v29 v30 v32 v33 v35 v36 v38 v39 v41 v42 v44 v46 v47 v49 v51 v52 v54 v55 v57 v58 K) (
  P5_9_20 a0 a1 a2 m53 r1 r2 r3 r5 r7 r14 r17 r22 r28 r34 r40 r45 r50 r56 v4 v6 v10 v11 v12 v13 v15 v16 v18 v20 v21 v23 v24 v26 v27 v29 v30 v32 v33 v35 v36 v38 v39 v41 v42 v44 v46 v47 v49 v51 v52 v54 v55 K) :=
((runOps_app (some (m53).length) _ [6, 7, 8, 9, 10, 11] [12, 13, 14, 15, 16, 17, 18, 19, 20, 21, 22, 23, 24, 25, 26, 27, 28, 29, 30, 31] _ _).trans (P5_9_18_a a0 a1 a2 m53 r1 r2 r3 r5 r7 r14 r17 r22 r28 r34 r40 r45 r50 r56 v4 v6 v10 v11 v12 v13 v15 v16 v18 v20 v21 v23 v24 v26 v27 v29 v30 v32 v33 v35 v36 v38 v39 v41 v42 v44 v46 v47 v49 v51 v52 v54 v55 (fun st => runOps cfg 5 (AP cfg) (AC cfg) (some (m53).length) (opsOf (c1 (c2 (c2 (c2 (c2 (c2 (c2 (c2 (c2 (c2 (bodyOf f5)))))))))))) [12, 13, 14, 15, 16, 17, 18, 19, 20, 21, 22, 23, 24, 25, 26, 27, 28, 29, 30, 31] st (C5_9 K .normal)))).trans (by kernel_rfl)
theorem P5_9_19_a (a0 : AV) (a1 : AV) (a2 : AV) (m53 : Mem) (r1 : AV × Mem) (r2 : AV × Mem) (r3 : AV × Mem) (r5 : AV × Mem) (r7 : AV × Mem) (r14 : AV × Mem) (r17 : AV × Mem) (r22 : AV × Mem) (r28 : AV × Mem) (r34 : AV × Mem) (r40 : AV × Mem) (r45 : AV × Mem) (r50 : AV × Mem) (r56 : AV × Mem) (r59 : AV × Mem) (v4 : AV) (v6 : AV) (v10 : AV) (v11 : AV) (v12 : AV) (v13 : AV) (v15 : AV) (v16 : AV) (v18 : AV) (v20 : AV) (v21 : AV) (v23 : AV) (v24 : AV) (v26 : AV) (v27 : AV) (v29 : AV) (v30 : AV) (v32 : AV) (v33 : AV) (v35 : AV) (v36 : AV) (v38 : AV) (v39 : AV) (v41 : AV) (v42 : AV) (v44 : AV) (v46 : AV) (v47 : AV) (v49 : AV) (v51 : AV) (v52 : AV) (v54 : AV) (v55 : AV) (v57 : AV) (v58 : AV) (K1 : St → Option (AV × Mem)) : runOps cfg 5 (AP cfg) (AC cfg) (some (m53).length) (opsOf (c1 (c2 (c2 (c2 (c2 (c2 (c2 (c2 (c2 (c2 (bodyOf f5)))))))))))) [12, 13, 14, 15, 16, 17] ⟨[a0, a1, a2, r1.1, r2.1, r3.1, (.bool false), (.ptr (newAt none r22.2 .resv).1 0), v24, (.ptr (newAt none r28.2 .resv).1 0), v30, (.ptr (newAt none r34.2 .resv).1 0), v36, (.ptr (newAt none r40.2 .resv).1 0), v42, (.ptr (newAt none r45.2 .resv).1 0), v47, (.ptr (newAt none r50.2 .resv).1 0), v52, v4, r5.1, v6, r7.1, v10, v11, v12, v13, r14.1, v15, v16, r17.1, v18, r22.1, v20, v21, r22.1, v23, v24, r28.1, v26, v27, r28.1, v29, v30, r34.1, v32, v33, r34.1, v35, v36, r40.1, v38, v39, r40.1, v41, v42, r45.1, v44, r45.1, v46, v47, r50.1, v49, r50.1, v51, v52, v54, v24, v55, v30, r56.1, (.bool true), v57, v36, v58, v42, r59.1, r59.1, .any, .any, .any, .any, .any, .any, .any, .any, .any, .any, .any, .any, .any, .any, .any, .any, .any, .any, .any], r59.2⟩ K1 =
  ifA r59.1 (
  (loadA (some 3) r59.2 (.ptr (newAt none r45.2 .resv).1 0)).bind fun v60 =>
  (loadA (some 3) r59.2 (.ptr (newAt none r50.2 .resv).1 0)).bind fun v61 =>
  (pcall (AP cfg) (some m53.length) r59.2 22 [v60, v47, v61, v52]).bind fun r62 =>
  K1 ⟨[a0, a1, a2, r1.1, r2.1, r3.1, (.bool false), (.ptr (newAt none r22.2 .resv).1 0), v24, (.ptr (newAt none r28.2 .resv).1 0), v30, (.ptr (newAt none r34.2 .resv).1 0), v36, (.ptr (newAt none r40.2 .resv).1 0), v42, (.ptr (newAt none r45.2 .resv).1 0), v47, (.ptr (newAt none r50.2 .resv).1 0), v52, v4, r5.1, v6, r7.1, v10, v11, v12, v13, r14.1, v15, v16, r17.1, v18, r22.1, v20, v21, r22.1, v23, v24, r28.1, v26, v27, r28.1, v29, v30, r34.1, v32, v33, r34.1, v35, v36, r40.1, v38, v39, r40.1, v41, v42, r45.1, v44, r45.1, v46, v47, r50.1, v49, r50.1, v51, v52, v54, v24, v55, v30, r56.1, (.bool true), v57, v36, v58, v42, r59.1, r59.1, (.bool true), v60, v47, v61, v52, r62.1, .any, .any, .any, .any, .any, .any, .any, .any, .any, .any, .any, .any, .any], r62.2⟩) (
  K1 ⟨[a0, a1, a2, r1.1, r2.1, r3.1, (.bool false), (.ptr (newAt none r22.2 .resv).1 0), v24, (.ptr (newAt none r28.2 .resv).1 0), v30, (.ptr (newAt none r34.2 .resv).1 0), v36, (.ptr (newAt none r40.2 .resv).1 0), v42, (.ptr (newAt none r45.2 .resv).1 0), v47, (.ptr (newAt none r50.2 .resv).1 0), v52, v4, r5.1, v6, r7.1, v10, v11, v12, v13, r14.1, v15, v16, r17.1, v18, r22.1, v20, v21, r22.1, v23, v24, r28.1, v26, v27, r28.1, v29, v30, r34.1, v32, v33, r34.1, v35, v36, r40.1, v38, v39, r40.1, v41, v42, r45.1, v44, r45.1, v46, v47, r50.1, v49, r50.1, v51, v52, v54, v24, v55, v30, r56.1, (.bool true), v57, v36, v58, v42, r59.1, r59.1, (.bool false), (.tup []), (.tup []), (.tup []), (.tup []), (.tup []), .any, .any, .any, .any, .any, .any, .any, .any, .any, .any, .any, .any, .any], r59.2⟩) := by kernel_rfl
theorem P5_9_19_eq (a0 : AV) (a1 : AV) (a2 : AV) (m53 : Mem) (r1 : AV × Mem) (r2 : AV × Mem) (r3 : AV × Mem) (r5 : AV × Mem) (r7 : AV × Mem) (r14 : AV × Mem) (r17 : AV × Mem) (r22 : AV × Mem) (r28 : AV × Mem) (r34 : AV × Mem) (r40 : AV × Mem) (r45 : AV × Mem) (r50 : AV × Mem) (r56 : AV × Mem) (r59 : AV × Mem) (v4 : AV) (v6 : AV) (v10 : AV) (v11 : AV) (v12 : AV) (v13 : AV) (v15 : AV) (v16 : AV) (v18 : AV) (v20 : AV) (v21 : AV) (v23 : AV) (v24 : AV) (v26 : AV) (v27 : AV) (v29 : AV) (v30 : AV) (v32 : AV) (v33 : AV) (v35 : AV) (v36 : AV) (v38 : AV) (v39 : AV) (v41 : AV) (v42 : AV) (v44 : AV) (v46 : AV) (v47 : AV) (v49 : AV) (v51 : AV) (v52 : AV) (v54 : AV) (v55 : AV) (v57 : AV) (v58 : AV) (K : Ex → St → Option (AV × Mem)) : P5_9_19 a0 a1 a2 m53 r1 r2 r3 r5 r7 r14 r17 r22 r28 r34 r40 r45 r50 r56 r59 v4 v6 v10 v11 v12 v13 v15 v16 v18 v20 v21 v23 v24 v26 v27 v29 v30 v32 v33 v35 v36 v38 v39 v41 v42 v44 v46 v47 v49 v51 v52 v54 v55 v57 v58 K =
  ifA r59.1 (
  (loadA (some 3) r59.2 (.ptr (newAt none r45.2 .resv).1 0)).bind fun v60 =>
  (loadA (some 3) r59.2 (.ptr (newAt none r50.2 .resv).1 0)).bind fun v61 =>
  (pcall (AP cfg) (some m53.length) r59.2 22 [v60, v47, v61, v52]).bind fun r62 =>
  P5_9_21 a0 a1 a2 m53 r1 r2 r3 r5 r7 r14 r17 r22 r28 r34 r40 r45 r50 r56 r59 r62 v4 v6 v10 v11 v12 v13 v15 v16 v18 v20 v21 v23 v24 v26 v27 v29 v30 v32 v33 v35 v36 v38 v39 v41 v42 v44 v46 v47 v49 v51 v52 v54 v55 v57 v58 v60 v61 K) (
  P5_9_22 a0 a1 a2 m53 r1 r2 r3 r5 r7 r14 r17 r22 r28 r34 r40 r45 r50 r56 r59 v4 v6 v10 v11 v12 v13 v15 v16 v18 v20 v21 v23 v24 v26 v27 v29 v30 v32 v33 v35 v36 v38 v39 v41 v42 v44 v46 v47 v49 v51 v52 v54 v55 v57 v58 K) :=
((runOps_app (some (m53).length) _ [12, 13, 14, 15, 16, 17] [18, 19, 20, 21, 22, 23, 24, 25, 26, 27, 28, 29, 30, 31] _ _).trans (P5_9_19_a a0 a1 a2 m53 r1 r2 r3 r5 r7 r14 r17 r22 r28 r34 r40 r45 r50 r56 r59 v4 v6 v10 v11 v12 v13 v15 v16 v18 v20 v21 v23 v24 v26 v27 v29 v30 v32 v33 v35 v36 v38 v39 v41 v42 v44 v46 v47 v49 v51 v52 v54 v55 v57 v58 (fun st => runOps cfg 5 (AP cfg) (AC cfg) (some (m53).length) (opsOf (c1 (c2 (c2 (c2 (c2 (c2 (c2 (c2 (c2 (c2 (bodyOf f5)))))))))))) [18, 19, 20, 21, 22, 23, 24, 25, 26, 27, 28, 29, 30, 31] st (C5_9 K .normal)))).trans (by kernel_rfl)
theorem P5_9_21_a (a0 : AV) (a1 : AV) (a2 : AV) (m53 : Mem) (r1 : AV × Mem) (r2 : AV × Mem) (r3 : AV × Mem) (r5 : AV × Mem) (r7 : AV × Mem) (r14 : AV × Mem) (r17 : AV × Mem) (r22 : AV × Mem) (r28 : AV × Mem) (r34 : AV × Mem) (r40 : AV × Mem) (r45 : AV × Mem) (r50 : AV × Mem) (r56 : AV × Mem) (r59 : AV × Mem) (r62 : AV × Mem) (v4 : AV) (v6 : AV) (v10 : AV) (v11 : AV) (v12 : AV) (v13 : AV) (v15 : AV) (v16 : AV) (v18 : AV) (v20 : AV) (v21 : AV) (v23 : AV) (v24 : AV) (v26 : AV) (v27 : AV) (v29 : AV) (v30 : AV) (v32 : AV) (v33 : AV) (v35 : AV) (v36 : AV) (v38 : AV) (v39 : AV) (v41 : AV) (v42 : AV) (v44 : AV) (v46 : AV) (v47 : AV) (v49 : AV) (v51 : AV) (v52 : AV) (v54 : AV) (v55 : AV) (v57 : AV) (v58 : AV) (v60 : AV) (v61 : AV) (K1 : St → Option (AV × Mem)) : runOps cfg 5 (AP cfg) (AC cfg) (some (m53).length) (opsOf (c1 (c2 (c2 (c2 (c2 (c2 (c2 (c2 (c2 (c2 (bodyOf f5)))))))))))) [18, 19, 20, 21, 22, 23] ⟨[a0, a1, a2, r1.1, r2.1, r3.1, (.bool false), (.ptr (newAt none r22.2 .resv).1 0), v24, (.ptr (newAt none r28.2 .resv).1 0), v30, (.ptr (newAt none r34.2 .resv).1 0), v36, (.ptr (newAt none r40.2 .resv).1 0), v42, (.ptr (newAt none r45.2 .resv).1 0), v47, (.ptr (newAt none r50.2 .resv).1 0), v52, v4, r5.1, v6, r7.1, v10, v11, v12, v13, r14.1, v15, v16, r17.1, v18, r22.1, v20, v21, r22.1, v23, v24, r28.1, v26, v27, r28.1, v29, v30, r34.1, v32, v33, r34.1, v35, v36, r40.1, v38, v39, r40.1, v41, v42, r45.1, v44, r45.1, v46, v47, r50.1, v49, r50.1, v51, v52, v54, v24, v55, v30, r56.1, (.bool true), v57, v36, v58, v42, r59.1, r59.1, (.bool true), v60, v47, v61, v52, r62.1, .any, .any, .any, .any, .any, .any, .any, .any, .any, .any, .any, .any, .any], r62.2⟩ K1 =
  ifA r62.1 (
  (loadA (some 3) r62.2 r1.1).bind fun v63 =>
  (loadA (some 3) r62.2 r2.1).bind fun v64 =>
  (pcall (AP cfg) (some m53.length) r62.2 39 [v63, v64]).bind fun r65 =>
  (loadA (some 3) r65.2 r1.1).bind fun v66 =>
  K1 ⟨[a0, a1, a2, r1.1, r2.1, r3.1, (.bool false), (.ptr (newAt none r22.2 .resv).1 0), v24, (.ptr (newAt none r28.2 .resv).1 0), v30, (.ptr (newAt none r34.2 .resv).1 0), v36, (.ptr (newAt none r40.2 .resv).1 0), v42, (.ptr (newAt none r45.2 .resv).1 0), v47, (.ptr (newAt none r50.2 .resv).1 0), v52, v4, r5.1, v6, r7.1, v10, v11, v12, v13, r14.1, v15, v16, r17.1, v18, r22.1, v20, v21, r22.1, v23, v24, r28.1, v26, v27, r28.1, v29, v30, r34.1, v32, v33, r34.1, v35, v36, r40.1, v38, v39, r40.1, v41, v42, r45.1, v44, r45.1, v46, v47, r50.1, v49, r50.1, v51, v52, v54, v24, v55, v30, r56.1, (.bool true), v57, v36, v58, v42, r59.1, r59.1, (.bool true), v60, v47, v61, v52, r62.1, r62.1, (.bool true), v63, v64, r65.1, v66, .any, .any, .any, .any, .any, .any, .any], r65.2⟩) (
  K1 ⟨[a0, a1, a2, r1.1, r2.1, r3.1, (.bool false), (.ptr (newAt none r22.2 .resv).1 0), v24, (.ptr (newAt none r28.2 .resv).1 0), v30, (.ptr (newAt none r34.2 .resv).1 0), v36, (.ptr (newAt none r40.2 .resv).1 0), v42, (.ptr (newAt none r45.2 .resv).1 0), v47, (.ptr (newAt none r50.2 .resv).1 0), v52, v4, r5.1, v6, r7.1, v10, v11, v12, v13, r14.1, v15, v16, r17.1, v18, r22.1, v20, v21, r22.1, v23, v24, r28.1, v26, v27, r28.1, v29, v30, r34.1, v32, v33, r34.1, v35, v36, r40.1, v38, v39, r40.1, v41, v42, r45.1, v44, r45.1, v46, v47, r50.1, v49, r50.1, v51, v52, v54, v24, v55, v30, r56.1, (.bool true), v57, v36, v58, v42, r59.1, r59.1, (.bool true), v60, v47, v61, v52, r62.1, r62.1, (.bool false), (.tup []), (.tup []), (.tup []), (.tup []), .any, .any, .any, .any, .any, .any, .any], r62.2⟩) := by kernel_rfl
theorem P5_9_21_eq (a0 : AV) (a1 : AV) (a2 : AV) (m53 : Mem) (r1 : AV × Mem) (r2 : AV × Mem) (r3 : AV × Mem) (r5 : AV × Mem) (r7 : AV × Mem) (r14 : AV × Mem) (r17 : AV × Mem) (r22 : AV × Mem) (r28 : AV × Mem) (r34 : AV × Mem) (r40 : AV × Mem) (r45 : AV × Mem) (r50 : AV × Mem) (r56 : AV × Mem) (r59 : AV × Mem) (r62 : AV × Mem) (v4 : AV) (v6 : AV) (v10 : AV) (v11 : AV) (v12 : AV) (v13 : AV) (v15 : AV) (v16 : AV) (v18 : AV) (v20 : AV) (v21 : AV) (v23 : AV) (v24 : AV) (v26 : AV) (v27 : AV) (v29 : AV) (v30 : AV) (v32 : AV) (v33 : AV) (v35 : AV) (v36 : AV) (v38 : AV) (v39 : AV) (v41 : AV) (v42 : AV) (v44 : AV) (v46 : AV) (v47 : AV) (v49 : AV) (v51 : AV) (v52 : AV) (v54 : AV) (v55 : AV) (v57 : AV) (v58 : AV) (v60 : AV) (v61 : AV) (K : Ex → St → Option (AV × Mem)) : P5_9_21 a0 a1 a2 m53 r1 r2 r3 r5 r7 r14 r17 r22 r28 r34 r40 r45 r50 r56 r59 r62 v4 v6 v10 v11 v12 v13 v15 v16 v18 v20 v21 v23 v24 v26 v27 v29 v30 v32 v33 v35 v36 v38 v39 v41 v42 v44 v46 v47 v49 v51 v52 v54 v55 v57 v58 v60 v61 K =
  ifA r62.1 (
  (loadA (some 3) r62.2 r1.1).bind fun v63 =>
  (loadA (some 3) r62.2 r2.1).bind fun v64 =>
  (pcall (AP cfg) (some m53.length) r62.2 39 [v63, v64]).bind fun r65 =>
  (loadA (some 3) r65.2 r1.1).bind fun v66 =>
  P5_9_24 a0 a1 a2 m53 r1 r2 r3 r5 r7 r14 r17 r22 r28 r34 r40 r45 r50 r56 r59 r62 r65 v4 v6 v10 v11 v12 v13 v15 v16 v18 v20 v21 v23 v24 v26 v27 v29 v30 v32 v33 v35 v36 v38 v39 v41 v42 v44 v46 v47 v49 v51 v52 v54 v55 v57 v58 v60 v61 v63 v64 v66 K) (
  P5_9_25 a0 a1 a2 m53 r1 r2 r3 r5 r7 r14 r17 r22 r28 r34 r40 r45 r50 r56 r59 r62 v4 v6 v10 v11 v12 v13 v15 v16 v18 v20 v21 v23 v24 v26 v27 v29 v30 v32 v33 v35 v36 v38 v39 v41 v42 v44 v46 v47 v49 v51 v52 v54 v55 v57 v58 v60 v61 K) :=
((runOps_app (some (m53).length) _ [18, 19, 20, 21, 22, 23] [24, 25, 26, 27, 28, 29, 30, 31] _ _).trans (P5_9_21_a a0 a1 a2 m53 r1 r2 r3 r5 r7 r14 r17 r22 r28 r34 r40 r45 r50 r56 r59 r62 v4 v6 v10 v11 v12 v13 v15 v16 v18 v20 v21 v23 v24 v26 v27 v29 v30 v32 v33 v35 v36 v38 v39 v41 v42 v44 v46 v47 v49 v51 v52 v54 v55 v57 v58 v60 v61 (fun st => runOps cfg 5 (AP cfg) (AC cfg) (some (m53).length) (opsOf (c1 (c2 (c2 (c2 (c2 (c2 (c2 (c2 (c2 (c2 (bodyOf f5)))))))))))) [24, 25, 26, 27, 28, 29, 30, 31] st (C5_9 K .normal)))).trans (by kernel_rfl)
theorem P5_9_24_a (a0 : AV) (a1 : AV) (a2 : AV) (m53 : Mem) (r1 : AV × Mem) (r2 : AV × Mem) (r3 : AV × Mem) (r5 : AV × Mem) (r7 : AV × Mem) (r14 : AV × Mem) (r17 : AV × Mem) (r22 : AV × Mem) (r28 : AV × Mem) (r34 : AV × Mem) (r40 : AV × Mem) (r45 : AV × Mem) (r50 : AV × Mem) (r56 : AV × Mem) (r59 : AV × Mem) (r62 : AV × Mem) (r65 : AV × Mem) (v4 : AV) (v6 : AV) (v10 : AV) (v11 : AV) (v12 : AV) (v13 : AV) (v15 : AV) (v16 : AV) (v18 : AV) (v20 : AV) (v21 : AV) (v23 : AV) (v24 : AV) (v26 : AV) (v27 : AV) (v29 : AV) (v30 : AV) (v32 : AV) (v33 : AV) (v35 : AV) (v36 : AV) (v38 : AV) (v39 : AV) (v41 : AV) (v42 : AV) (v44 : AV) (v46 : AV) (v47 : AV) (v49 : AV) (v51 : AV) (v52 : AV) (v54 : AV) (v55 : AV) (v57 : AV) (v58 : AV) (v60 : AV) (v61 : AV) (v63 : AV) (v64 : AV) (v66 : AV) (K1 : St → Option (AV × Mem)) : runOps cfg 5 (AP cfg) (AC cfg) (some (m53).length) (opsOf (c1 (c2 (c2 (c2 (c2 (c2 (c2 (c2 (c2 (c2 (bodyOf f5)))))))))))) [24, 25, 26, 27, 28, 29] ⟨[a0, a1, a2, r1.1, r2.1, r3.1, (.bool false), (.ptr (newAt none r22.2 .resv).1 0), v24, (.ptr (newAt none r28.2 .resv).1 0), v30, (.ptr (newAt none r34.2 .resv).1 0), v36, (.ptr (newAt none r40.2 .resv).1 0), v42, (.ptr (newAt none r45.2 .resv).1 0), v47, (.ptr (newAt none r50.2 .resv).1 0), v52, v4, r5.1, v6, r7.1, v10, v11, v12, v13, r14.1, v15, v16, r17.1, v18, r22.1, v20, v21, r22.1, v23, v24, r28.1, v26, v27, r28.1, v29, v30, r34.1, v32, v33, r34.1, v35, v36, r40.1, v38, v39, r40.1, v41, v42, r45.1, v44, r45.1, v46, v47, r50.1, v49, r50.1, v51, v52, v54, v24, v55, v30, r56.1, (.bool true), v57, v36, v58, v42, r59.1, r59.1, (.bool true), v60, v47, v61, v52, r62.1, r62.1, (.bool true), v63, v64, r65.1, v66, .any, .any, .any, .any, .any, .any, .any], r65.2⟩ K1 =
  (loadA (some 3) r65.2 r2.1).bind fun v67 =>
  (pcall (AP cfg) (some m53.length) r65.2 40 [v66, v67]).bind fun r68 =>
  (binA .bl .eql r65.1 r68.1).bind fun v69 =>
  ifA v69 (
  (pcall (AP cfg) (some m53.length) r68.2 26 []).bind fun r70 =>
  K1 ⟨[a0, a1, a2, r1.1, r2.1, r3.1, (.bool false), (.ptr (newAt none r22.2 .resv).1 0), v24, (.ptr (newAt none r28.2 .resv).1 0), v30, (.ptr (newAt none r34.2 .resv).1 0), v36, (.ptr (newAt none r40.2 .resv).1 0), v42, (.ptr (newAt none r45.2 .resv).1 0), v47, (.ptr (newAt none r50.2 .resv).1 0), v52, v4, r5.1, v6, r7.1, v10, v11, v12, v13, r14.1, v15, v16, r17.1, v18, r22.1, v20, v21, r22.1, v23, v24, r28.1, v26, v27, r28.1, v29, v30, r34.1, v32, v33, r34.1, v35, v36, r40.1, v38, v39, r40.1, v41, v42, r45.1, v44, r45.1, v46, v47, r50.1, v49, r50.1, v51, v52, v54, v24, v55, v30, r56.1, (.bool true), v57, v36, v58, v42, r59.1, r59.1, (.bool true), v60, v47, v61, v52, r62.1, r62.1, (.bool true), v63, v64, r65.1, v66, v67, r68.1, v69, v69, (.bool true), r70.1, .any], r70.2⟩) (
  K1 ⟨[a0, a1, a2, r1.1, r2.1, r3.1, (.bool false), (.ptr (newAt none r22.2 .resv).1 0), v24, (.ptr (newAt none r28.2 .resv).1 0), v30, (.ptr (newAt none r34.2 .resv).1 0), v36, (.ptr (newAt none r40.2 .resv).1 0), v42, (.ptr (newAt none r45.2 .resv).1 0), v47, (.ptr (newAt none r50.2 .resv).1 0), v52, v4, r5.1, v6, r7.1, v10, v11, v12, v13, r14.1, v15, v16, r17.1, v18, r22.1, v20, v21, r22.1, v23, v24, r28.1, v26, v27, r28.1, v29, v30, r34.1, v32, v33, r34.1, v35, v36, r40.1, v38, v39, r40.1, v41, v42, r45.1, v44, r45.1, v46, v47, r50.1, v49, r50.1, v51, v52, v54, v24, v55, v30, r56.1, (.bool true), v57, v36, v58, v42, r59.1, r59.1, (.bool true), v60, v47, v61, v52, r62.1, r62.1, (.bool true), v63, v64, r65.1, v66, v67, r68.1, v69, v69, (.bool false), (.tup []), .any], r68.2⟩) := by kernel_rfl
theorem P5_9_24_eq (a0 : AV) (a1 : AV) (a2 : AV) (m53 : Mem) (r1 : AV × Mem) (r2 : AV × Mem) (r3 : AV × Mem) (r5 : AV × Mem) (r7 : AV × Mem) (r14 : AV × Mem) (r17 : AV × Mem) (r22 : AV × Mem) (r28 : AV × Mem) (r34 : AV × Mem) (r40 : AV × Mem) (r45 : AV × Mem) (r50 : AV × Mem) (r56 : AV × Mem) (r59 : AV × Mem) (r62 : AV × Mem) (r65 : AV × Mem) (v4 : AV) (v6 : AV) (v10 : AV) (v11 : AV) (v12 : AV) (v13 : AV) (v15 : AV) (v16 : AV) (v18 : AV) (v20 : AV) (v21 : AV) (v23 : AV) (v24 : AV) (v26 : AV) (v27 : AV) (v29 : AV) (v30 : AV) (v32 : AV) (v33 : AV) (v35 : AV) (v36 : AV) (v38 : AV) (v39 : AV) (v41 : AV) (v42 : AV) (v44 : AV) (v46 : AV) (v47 : AV) (v49 : AV) (v51 : AV) (v52 : AV) (v54 : AV) (v55 : AV) (v57 : AV) (v58 : AV) (v60 : AV) (v61 : AV) (v63 : AV) (v64 : AV) (v66 : AV) (K : Ex → St → Option (AV × Mem)) : P5_9_24 a0 a1 a2 m53 r1 r2 r3 r5 r7 r14 r17 r22 r28 r34 r40 r45 r50 r56 r59 r62 r65 v4 v6 v10 v11 v12 v13 v15 v16 v18 v20 v21 v23 v24 v26 v27 v29 v30 v32 v33 v35 v36 v38 v39 v41 v42 v44 v46 v47 v49 v51 v52 v54 v55 v57 v58 v60 v61 v63 v64 v66 K =
  (loadA (some 3) r65.2 r2.1).bind fun v67 =>
  (pcall (AP cfg) (some m53.length) r65.2 40 [v66, v67]).bind fun r68 =>
  (binA .bl .eql r65.1 r68.1).bind fun v69 =>
  ifA v69 (
  (pcall (AP cfg) (some m53.length) r68.2 26 []).bind fun r70 =>
  P5_9_28 a0 a1 a2 m53 r1 r2 r3 r5 r7 r14 r17 r22 r28 r34 r40 r45 r50 r56 r59 r62 r65 r68 r70 v4 v6 v10 v11 v12 v13 v15 v16 v18 v20 v21 v23 v24 v26 v27 v29 v30 v32 v33 v35 v36 v38 v39 v41 v42 v44 v46 v47 v49 v51 v52 v54 v55 v57 v58 v60 v61 v63 v64 v66 v67 v69 K) (
  P5_9_29 a0 a1 a2 m53 r1 r2 r3 r5 r7 r14 r17 r22 r28 r34 r40 r45 r50 r56 r59 r62 r65 r68 v4 v6 v10 v11 v12 v13 v15 v16 v18 v20 v21 v23 v24 v26 v27 v29 v30 v32 v33 v35 v36 v38 v39 v41 v42 v44 v46 v47 v49 v51 v52 v54 v55 v57 v58 v60 v61 v63 v64 v66 v67 v69 K) :=
((runOps_app (some (m53).length) _ [24, 25, 26, 27, 28, 29] [30, 31] _ _).trans (P5_9_24_a a0 a1 a2 m53 r1 r2 r3 r5 r7 r14 r17 r22 r28 r34 r40 r45 r50 r56 r59 r62 r65 v4 v6 v10 v11 v12 v13 v15 v16 v18 v20 v21 v23 v24 v26 v27 v29 v30 v32 v33 v35 v36 v38 v39 v41 v42 v44 v46 v47 v49 v51 v52 v54 v55 v57 v58 v60 v61 v63 v64 v66 (fun st => runOps cfg 5 (AP cfg) (AC cfg) (some (m53).length) (opsOf (c1 (c2 (c2 (c2 (c2 (c2 (c2 (c2 (c2 (c2 (bodyOf f5)))))))))))) [30, 31] st (C5_9 K .normal)))).trans (by kernel_rfl)
theorem P5_9_28_a (a0 : AV) (a1 : AV) (a2 : AV) (m53 : Mem) (r1 : AV × Mem) (r2 : AV × Mem) (r3 : AV × Mem) (r5 : AV × Mem) (r7 : AV × Mem) (r14 : AV × Mem) (r17 : AV × Mem) (r22 : AV × Mem) (r28 : AV × Mem) (r34 : AV × Mem) (r40 : AV × Mem) (r45 : AV × Mem) (r50 : AV × Mem) (r56 : AV × Mem) (r59 : AV × Mem) (r62 : AV × Mem) (r65 : AV × Mem) (r68 : AV × Mem) (r70 : AV × Mem) (v4 : AV) (v6 : AV) (v10 : AV) (v11 : AV) (v12 : AV) (v13 : AV) (v15 : AV) (v16 : AV) (v18 : AV) (v20 : AV) (v21 : AV) (v23 : AV) (v24 : AV) (v26 : AV) (v27 : AV) (v29 : AV) (v30 : AV) (v32 : AV) (v33 : AV) (v35 : AV) (v36 : AV) (v38 : AV) (v39 : AV) (v41 : AV) (v42 : AV) (v44 : AV) (v46 : AV) (v47 : AV) (v49 : AV) (v51 : AV) (v52 : AV) (v54 : AV) (v55 : AV) (v57 : AV) (v58 : AV) (v60 : AV) (v61 : AV) (v63 : AV) (v64 : AV) (v66 : AV) (v67 : AV) (v69 : AV) (K1 : St → Option (AV × Mem)) : runOps cfg 5 (AP cfg) (AC cfg) (some (m53).length) (opsOf (c1 (c2 (c2 (c2 (c2 (c2 (c2 (c2 (c2 (c2 (bodyOf f5)))))))))))) [30, 31] ⟨[a0, a1, a2, r1.1, r2.1, r3.1, (.bool false), (.ptr (newAt none r22.2 .resv).1 0), v24, (.ptr (newAt none r28.2 .resv).1 0), v30, (.ptr (newAt none r34.2 .resv).1 0), v36, (.ptr (newAt none r40.2 .resv).1 0), v42, (.ptr (newAt none r45.2 .resv).1 0), v47, (.ptr (newAt none r50.2 .resv).1 0), v52, v4, r5.1, v6, r7.1, v10, v11, v12, v13, r14.1, v15, v16, r17.1, v18, r22.1, v20, v21, r22.1, v23, v24, r28.1, v26, v27, r28.1, v29, v30, r34.1, v32, v33, r34.1, v35, v36, r40.1, v38, v39, r40.1, v41, v42, r45.1, v44, r45.1, v46, v47, r50.1, v49, r50.1, v51, v52, v54, v24, v55, v30, r56.1, (.bool true), v57, v36, v58, v42, r59.1, r59.1, (.bool true), v60, v47, v61, v52, r62.1, r62.1, (.bool true), v63, v64, r65.1, v66, v67, r68.1, v69, v69, (.bool true), r70.1, .any], r70.2⟩ K1 =
  K1 ⟨[a0, a1, a2, r1.1, r2.1, r3.1, r70.1, (.ptr (newAt none r22.2 .resv).1 0), v24, (.ptr (newAt none r28.2 .resv).1 0), v30, (.ptr (newAt none r34.2 .resv).1 0), v36, (.ptr (newAt none r40.2 .resv).1 0), v42, (.ptr (newAt none r45.2 .resv).1 0), v47, (.ptr (newAt none r50.2 .resv).1 0), v52, v4, r5.1, v6, r7.1, v10, v11, v12, v13, r14.1, v15, v16, r17.1, v18, r22.1, v20, v21, r22.1, v23, v24, r28.1, v26, v27, r28.1, v29, v30, r34.1, v32, v33, r34.1, v35, v36, r40.1, v38, v39, r40.1, v41, v42, r45.1, v44, r45.1, v46, v47, r50.1, v49, r50.1, v51, v52, v54, v24, v55, v30, r56.1, (.bool true), v57, v36, v58, v42, r59.1, r59.1, (.bool true), v60, v47, v61, v52, r62.1, r62.1, (.bool true), v63, v64, r65.1, v66, v67, r68.1, v69, v69, (.bool true), r70.1, r70.1], r70.2⟩ := by kernel_rfl
theorem P5_9_28_eq (a0 : AV) (a1 : AV) (a2 : AV) (m53 : Mem) (r1 : AV × Mem) (r2 : AV × Mem) (r3 : AV × Mem) (r5 : AV × Mem) (r7 : AV × Mem) (r14 : AV × Mem) (r17 : AV × Mem) (r22 : AV × Mem) (r28 : AV × Mem) (r34 : AV × Mem) (r40 : AV × Mem) (r45 : AV × Mem) (r50 : AV × Mem) (r56 : AV × Mem) (r59 : AV × Mem) (r62 : AV × Mem) (r65 : AV × Mem) (r68 : AV × Mem) (r70 : AV × Mem) (v4 : AV) (v6 : AV) (v10 : AV) (v11 : AV) (v12 : AV) (v13 : AV) (v15 : AV) (v16 : AV) (v18 : AV) (v20 : AV) (v21 : AV) (v23 : AV) (v24 : AV) (v26 : AV) (v27 : AV) (v29 : AV) (v30 : AV) (v32 : AV) (v33 : AV) (v35 : AV) (v36 : AV) (v38 : AV) (v39 : AV) (v41 : AV) (v42 : AV) (v44 : AV) (v46 : AV) (v47 : AV) (v49 : AV) (v51 : AV) (v52 : AV) (v54 : AV) (v55 : AV) (v57 : AV) (v58 : AV) (v60 : AV) (v61 : AV) (v63 : AV) (v64 : AV) (v66 : AV) (v67 : AV) (v69 : AV) (K : Ex → St → Option (AV × Mem)) : P5_9_28 a0 a1 a2 m53 r1 r2 r3 r5 r7 r14 r17 r22 r28 r34 r40 r45 r50 r56 r59 r62 r65 r68 r70 v4 v6 v10 v11 v12 v13 v15 v16 v18 v20 v21 v23 v24 v26 v27 v29 v30 v32 v33 v35 v36 v38 v39 v41 v42 v44 v46 v47 v49 v51 v52 v54 v55 v57 v58 v60 v61 v63 v64 v66 v67 v69 K =
  K .ret ⟨[a0, a1, a2, r1.1, r2.1, r3.1, r70.1, (.ptr (newAt none r22.2 .resv).1 0), v24, (.ptr (newAt none r28.2 .resv).1 0), v30, (.ptr (newAt none r34.2 .resv).1 0), v36, (.ptr (newAt none r40.2 .resv).1 0), v42, (.ptr (newAt none r45.2 .resv).1 0), v47, (.ptr (newAt none r50.2 .resv).1 0), v52, v4, r5.1, v6, r7.1, v10, v11, v12, v13, r14.1, v15, v16, r17.1, v18, r22.1, v20, v21, r22.1, v23, v24, r28.1, v26, v27, r28.1, v29, v30, r34.1, v32, v33, r34.1, v35, v36, r40.1, v38, v39, r40.1, v41, v42, r45.1, v44, r45.1, v46, v47, r50.1, v49, r50.1, v51, v52, v54, v24, v55, v30, r56.1, (.bool true), v57, v36, v58, v42, r59.1, r59.1, (.bool true), v60, v47, v61, v52, r62.1, r62.1, (.bool true), v63, v64, r65.1, v66, v67, r68.1, v69, v69, (.bool true), r70.1, r70.1], r70.2⟩ :=
((P5_9_28_a a0 a1 a2 m53 r1 r2 r3 r5 r7 r14 r17 r22 r28 r34 r40 r45 r50 r56 r59 r62 r65 r68 r70 v4 v6 v10 v11 v12 v13 v15 v16 v18 v20 v21 v23 v24 v26 v27 v29 v30 v32 v33 v35 v36 v38 v39 v41 v42 v44 v46 v47 v49 v51 v52 v54 v55 v57 v58 v60 v61 v63 v64 v66 v67 v69 (C5_9 K .normal))).trans (by kernel_rfl)
/-! ### sortilege/sortilegelaw19.MatrixMuls -/
/-! ### sortilege/sortilegelaw19.MatrixPowers -/
end Go.Ab

/- The law of Add, Scale, Transpose and Same in values. -/
set_option linter.unusedVariables false
set_option linter.unusedSimpArgs false
set_option maxRecDepth 100000
namespace Go.Ab
open Go.Proofs.Try

theorem P26' {m : Mem} {d : Option Nat} : pcall (AP cfg) d m 26 [] = some (.bool true, m) := by
  rw [pcall0, V26]; rfl
theorem ext0' (a b : AV) : extractA (.tup [a, b]) 0 = some a := rfl
theorem ext1' (a b : AV) : extractA (.tup [a, b]) 1 = some b := rfl
theorem pcMM {m : Mem} {d : Option Nat} {g : Nat} (x y : MV) : pcall (AP cfg) d m g [x.av, y.av] = (AP cfg g [x.fr.av, y.fr.av]).map fun v => (v, m) := pcall2 (fz_mv x) (fz_mv y)
theorem pcMR {m : Mem} {d : Option Nat} {g : Nat} (x : MV) (r : RV) : pcall (AP cfg) d m g [x.av, r.av] = (AP cfg g [x.fr.av, r.fr.av]).map fun v => (v, m) := pcall2 (fz_mv x) (fz_rv r)
theorem mv_frfr' (x : MV) : x.fr.fr = x.fr := by
  obtain ⟨a, b, ⟨c, d, o, es⟩⟩ := x
  cases o <;> rfl
theorem pcNI {m : Mem} {d : Option Nat} {g : Nat} (x : NV) (n : Int) : pcall (AP cfg) d m g [x.av, .int .i64 n] = (AP cfg g [x.fr.av, .int .i64 n]).map fun v => (v, m) := pcall2 (fz_nv x) (fz_int _ n)
/-- An error has no size to speak of: the bounds may be taken as small. -/
theorem Res.small {z : MV} {e err : Int} {R C k : Nat} {Q : Nat → Rat} (h : Res z e err R C Q k) (hb : err = 0 → R ≤ 60 ∧ C ≤ 60) : ∃ R' C', R' ≤ 60 ∧ C' ≤ 60 ∧ (err = 0 → R' = R ∧ C' = C) := by
  by_cases h0 : err = 0
  · exact ⟨R, C, (hb h0).1, (hb h0).2, fun _ => ⟨rfl, rfl⟩⟩
  · exact ⟨0, 0, by omega, by omega, fun h => absurd h h0⟩
theorem pcLaw0 {m : Mem} {d : Option Nat} {x y : MV} {e f err : Int} {R C k : Nat} {Q : Nat → Rat} (hx : Res x e err R C Q k) (hy : Res y f err R C Q k) (hk1 : 1 ≤ k) (hk : k < 2 ^ 36) (hb : err = 0 → R ≤ 60 ∧ C ≤ 60) : pcall (AP cfg) d m 22 [x.av, .int .i64 e, y.av, .int .i64 f] = some (.bool true, m) := by
  obtain ⟨h1, h2⟩ := hx.same hy
  have hlen : x.lv.es.length < 2 ^ 40 := by
    by_cases h0 : err = 0
    · rw [hx.len h0]
      have := Nat.mul_le_mul (hb h0).1 (hb h0).2
      omega
    · rw [hx.bad h0]
      show (0 : Nat) < _
      omega
  rw [pcall4 (fz_mv x) (fz_int _ _) (fz_mv y) (fz_int _ _), hx.fr, hy.fr, V22 hx.ok hy.ok hk1 hk hlen, h2, decide_eq_true h1]; rfl
theorem sizes {x : MV} (h : rightM x = true) : x.rows.toNat ≤ 60 ∧ x.cols.toNat ≤ 60 := by
  obtain ⟨z1, z2, z3, z4, z5⟩ := size_of_right h
  omega
theorem addE_sizes {x y : MV} (h : addE x y = 0) : x.rows.toNat ≤ 60 ∧ x.cols.toNat ≤ 60 := by
  unfold addE at h
  by_cases c : rightM x = true ∧ rightM y = true
  · exact sizes c.1
  · rw [if_neg c] at h; cases h
theorem scaleE_sizes {x : MV} {r : RV} (h : scaleE x r = 0) : x.rows.toNat ≤ 60 ∧ x.cols.toNat ≤ 60 := by
  unfold scaleE at h
  by_cases c : rightM x = true ∧ rightR r = true
  · exact sizes c.1
  · rw [if_neg c] at h; cases h
theorem transE_sizes {x : MV} (h : transE x = 0) : x.cols.toNat ≤ 60 ∧ x.rows.toNat ≤ 60 := by
  unfold transE at h
  by_cases c : rightM x = true
  · exact (sizes c).symm
  · rw [if_neg c] at h; cases h

theorem MatrixAdds_law {a b : MV} {r : RV} (ha : XM a.fr) (hb : XM b.fr) (hr : XR r) : ∃ m', AC cfg 5 [a.av, b.av, r.av] [] = some (.bool true, m') := by
  obtain ⟨x, x1, x2, x3, x4, _⟩ := V13 (n := 8) (by omega) ha (mv_frfr' a)
  obtain ⟨y, y1, y2, y3, y4, _⟩ := V13 (n := 8) (by omega) hb (mv_frfr' b)
  have ix : IsM 3 x := ⟨x2, x4, x3⟩
  have iy : IsM 3 y := ⟨y2, y4, y3⟩
  have rt : ROk 3 (cutR r) := cutR_ok hr
  have ft : (cutR r).fr = cutR r := cutR_fr r
  have fn : r.num.fr = r.num := congrArg RV.num hr.fr
  have fd : r.den.fr = r.den := congrArg RV.den hr.fr
  obtain ⟨s, e, s1, s2⟩ := V33 ix iy (by omega) (by omega)
  obtain ⟨s', e', s1', s2'⟩ := V34 ix iy (by omega) (by omega)
  obtain ⟨u, f, u1, u2⟩ := V35 ix rt ft (by omega) (by omega)
  obtain ⟨u', f', u1', u2'⟩ := V36 ix rt ft (by omega) (by omega)
  obtain ⟨w, g, w1, w2⟩ := V37 ix (by omega) (by omega)
  obtain ⟨w', g', w1', w2'⟩ := V38 ix (by omega) (by omega)
  have e39 := V39 x2 y2 (by omega) (by omega) (by omega)
  have e40 := V40 x2 y2 (by omega) (by omega) (by omega)
  have hbld : buildA (.agg [(.bool false), (.lst none true .full []), (.lst none true .full [])]) [(0, none, .bool r.neg), (1, none, (cutN r.num).av), (2, none, (cutN r.den).av)] = some (cutR r).av := bld012 r.neg (cutN r.num) (cutN r.den)
  refine ⟨[cM x, cM y, cR (cutR r), cM s, cM s', cM u, cM u', cM w, cM w'], ?_⟩
  rw [T5, P5_0_1_eq, box_mv, Option.bind_some, box_mv, Option.bind_some, box_rv, Option.bind_some]
  simp only [List.length_nil, List.length_cons, List.nil_append, List.cons_append, Nat.zero_add, Nat.reduceAdd, new_m, new_r]
  rw [P5_1_2_eq]
  simp only [List.length_nil, List.length_cons, List.nil_append, List.cons_append, Nat.zero_add, Nat.reduceAdd, new_m, new_r]
  rw [mldA (x := a) rfl, Option.bind_some, pcMI, show ((8 : Int)) = ((8 : Nat) : Int) from rfl, x1, Option.map_some, Option.bind_some, mldA (x := b) rfl, Option.bind_some, pcMI, y1, Option.map_some, Option.bind_some, mstA (x := a) rfl, Option.bind_some]
  simp only [List.set_cons_succ, List.set_cons_zero]
  rw [mstA (x := b) rfl, Option.bind_some]
  simp only [List.set_cons_succ, List.set_cons_zero]
  rw [P5_2_3_eq]
  simp only [List.length_nil, List.length_cons, List.nil_append, List.cons_append, Nat.zero_add, Nat.reduceAdd, new_m, new_r]
  rw [fld0, Option.bind_some, rld0 (x := r) rfl, Option.bind_some, fld1, Option.bind_some, rld1 (x := r) rfl, Option.bind_some, pcNI, fn, V32, Option.map_some, Option.bind_some, fld2, Option.bind_some]
  rw [P5_2_4_eq]
  simp only [List.length_nil, List.length_cons, List.nil_append, List.cons_append, Nat.zero_add, Nat.reduceAdd, new_m, new_r]
  rw [rld2 (x := r) rfl, Option.bind_some, pcNI, fd, V32, Option.map_some, Option.bind_some, hbld, Option.bind_some, rstA (x := r) rfl, Option.bind_some]
  simp only [List.set_cons_succ, List.set_cons_zero]
  rw [P5_3_5_eq, mldA (x := x) rfl, Option.bind_some, mldA (x := y) rfl, Option.bind_some, pcMM, x4, y4, s1, Option.map_some, Option.bind_some, ext0', Option.bind_some, ext1', Option.bind_some, P5_3_6_eq]
  simp only [List.length_nil, List.length_cons, List.nil_append, List.cons_append, Nat.zero_add, Nat.reduceAdd, new_m, new_r]
  rw [mstA (x := zM) rfl, Option.bind_some]
  simp only [List.set_cons_succ, List.set_cons_zero]
  rw [P5_4_7_eq, mldA (x := x) rfl, Option.bind_some, mldA (x := y) rfl, Option.bind_some, pcMM, x4, y4, s1', Option.map_some, Option.bind_some, ext0', Option.bind_some, ext1', Option.bind_some, P5_4_8_eq]
  simp only [List.length_nil, List.length_cons, List.nil_append, List.cons_append, Nat.zero_add, Nat.reduceAdd, new_m, new_r]
  rw [mstA (x := zM) rfl, Option.bind_some]
  simp only [List.set_cons_succ, List.set_cons_zero]
  rw [P5_5_9_eq, mldA (x := x) rfl, Option.bind_some, rldA (x := cutR r) rfl, Option.bind_some, pcMR, x4, ft, u1, Option.map_some, Option.bind_some, ext0', Option.bind_some, ext1', Option.bind_some, P5_5_10_eq]
  simp only [List.length_nil, List.length_cons, List.nil_append, List.cons_append, Nat.zero_add, Nat.reduceAdd, new_m, new_r]
  rw [mstA (x := zM) rfl, Option.bind_some]
  simp only [List.set_cons_succ, List.set_cons_zero]
  rw [P5_6_11_eq, mldA (x := x) rfl, Option.bind_some, rldA (x := cutR r) rfl, Option.bind_some, pcMR, x4, ft, u1', Option.map_some, Option.bind_some, ext0', Option.bind_some, ext1', Option.bind_some, P5_6_12_eq]
  simp only [List.length_nil, List.length_cons, List.nil_append, List.cons_append, Nat.zero_add, Nat.reduceAdd, new_m, new_r]
  rw [mstA (x := zM) rfl, Option.bind_some]
  simp only [List.set_cons_succ, List.set_cons_zero]
  rw [P5_7_13_eq, mldA (x := x) rfl, Option.bind_some, pcM, x4, w1, Option.map_some, Option.bind_some, ext0', Option.bind_some, ext1', Option.bind_some, P5_7_14_eq]
  simp only [List.length_nil, List.length_cons, List.nil_append, List.cons_append, Nat.zero_add, Nat.reduceAdd, new_m, new_r]
  rw [mstA (x := zM) rfl, Option.bind_some]
  simp only [List.set_cons_succ, List.set_cons_zero]
  rw [P5_8_15_eq, mldA (x := x) rfl, Option.bind_some, pcM, x4, w1', Option.map_some, Option.bind_some, ext0', Option.bind_some, ext1', Option.bind_some, P5_8_16_eq]
  simp only [List.length_nil, List.length_cons, List.nil_append, List.cons_append, Nat.zero_add, Nat.reduceAdd, new_m, new_r]
  rw [mstA (x := zM) rfl, Option.bind_some]
  simp only [List.set_cons_succ, List.set_cons_zero]
  rw [P5_9_17_eq]
  simp only [List.length_nil, List.length_cons, List.nil_append, List.cons_append, Nat.zero_add, Nat.reduceAdd, new_m, new_r]
  rw [mldA (x := s) rfl, Option.bind_some, mldA (x := s') rfl, Option.bind_some, pcLaw0 s2 s2' (by omega) (by omega) addE_sizes, Option.bind_some]
  rw [P5_9_18_eq, ifA_true]
  simp only [List.length_nil, List.length_cons, List.nil_append, List.cons_append, Nat.zero_add, Nat.reduceAdd, new_m, new_r]
  rw [mldA (x := u) rfl, Option.bind_some, mldA (x := u') rfl, Option.bind_some, pcLaw0 u2 u2' (by omega) (by omega) scaleE_sizes, Option.bind_some]
  rw [P5_9_19_eq, ifA_true]
  simp only [List.length_nil, List.length_cons, List.nil_append, List.cons_append, Nat.zero_add, Nat.reduceAdd, new_m, new_r]
  rw [mldA (x := w) rfl, Option.bind_some, mldA (x := w') rfl, Option.bind_some, pcLaw0 w2 w2' (by omega) (by omega) transE_sizes, Option.bind_some]
  rw [P5_9_21_eq, ifA_true]
  simp only [List.length_nil, List.length_cons, List.nil_append, List.cons_append, Nat.zero_add, Nat.reduceAdd, new_m, new_r]
  rw [mldA (x := x) rfl, Option.bind_some, mldA (x := y) rfl, Option.bind_some, pcMM, x4, y4, e39, Option.map_some, Option.bind_some, mldA (x := x) rfl, Option.bind_some]
  rw [P5_9_24_eq]
  simp only [List.length_nil, List.length_cons, List.nil_append, List.cons_append, Nat.zero_add, Nat.reduceAdd, new_m, new_r]
  rw [mldA (x := y) rfl, Option.bind_some, pcMM, x4, y4, e40, Option.map_some, Option.bind_some, bl_eql, Option.bind_some, beq_self_eq_true, ifA_true, P26', Option.bind_some, P5_9_28_eq]
  rfl
end Go.Ab

/- Arguments that can be read as data, as values of the interpreter. -/
set_option linter.unusedVariables false
set_option linter.unusedSimpArgs false
set_option maxRecDepth 100000
namespace Go.Ab
open Go.Proofs Go.Proofs.Try Go.RowKit

def g0 : G := ⟨fun _ _ => False, fun _ => False, fun _ => none, fun _ _ => none⟩
theorem get_nil (nm : Nat) : Mem.get ([] : Mem) nm = none := by simp [Mem.get]
theorem memR0 (w : World) : MemR w.heap.size w g0 [] where
  obj nm bx cs h := by rw [get_nil] at h; cases h
  tok nm n sz h := by rw [get_nil] at h; cases h
  resv nm h := ⟨rfl, fun _ => rfl⟩
  fresh nm h := ⟨rfl, fun _ => rfl⟩
  inj nm nm' b h := by unfold blk at h; rw [get_nil] at h; cases h
  wrLt b off h := h.elim
  boxLt b h := h.elim
theorem cfgOk : CfgOk cfg where
  name g fn h := by
    have hall : (Try.prog.funcs.toList.all fun fn => !(fn.name == "runtime.NumGoroutine")) = true := by kernel_rfl
    have hm : fn ∈ Try.prog.funcs.toList := by
      rw [Array.mem_toList_iff]
      exact Array.mem_of_getElem? h
    have := List.all_eq_true.1 hall fn hm
    simpa using this
  lib g h hh := by cases hh
/-- A law that answers true in values answers true on the machine, and turns nothing that was there. -/
theorem law_calls {f : Nat} {args : List AV} {vs : Array Value} {W : World} (h : ∃ m', AC cfg f args [] = some (.bool true, m')) (hl : args.length = vs.size) (hv : ∀ j, j < args.length → V W g0 (args.getD j .any) (vs.getD j undef)) :
    Calls Try.prog f vs W fun e W' => e = .returned (.bool true) ∧ Below W.heap.size W W' := by
  obtain ⟨m', hm'⟩ := h
  refine ((AC_sound cfgOk f args [] _ _ hm').1 W.heap.size W g0 vs (memR0 W) (Nat.le_refl _) hl hv).mono ?_
  rintro e W' ⟨v', g', rfl, hs, _, hv'⟩
  cases hv'
  exact ⟨rfl, hs.below⟩

/-! ### Types -/
theorem u3 : Try.prog.underlying 3 = some (.int .i64) := by kernel_rfl
theorem u4 : Try.prog.underlying 4 = some .bool := by kernel_rfl
theorem u116 : Try.prog.underlying 116 = some (.int .u32) := by kernel_rfl
theorem u41 : Try.prog.underlying 41 = some (.slice 116) := by kernel_rfl
theorem u22 : Try.prog.underlying 22 = some (.slice 43) := by kernel_rfl
theorem c3 : Try.prog.cellsOf 3 = 1 := by kernel_rfl
theorem c4 : Try.prog.cellsOf 4 = 1 := by kernel_rfl
theorem c22 : Try.prog.cellsOf 22 = 1 := by kernel_rfl
theorem c24 : Try.prog.cellsOf 24 = 3 := by kernel_rfl
theorem c41 : Try.prog.cellsOf 41 = 1 := by kernel_rfl
theorem c43 : Try.prog.cellsOf 43 = 3 := by kernel_rfl
theorem c116 : Try.prog.cellsOf 116 = 1 := by kernel_rfl
noncomputable def fieldsOf (t : Nat) : Array Field := match Try.prog.underlying t with
  | some (.struct fs) => fs
  | _ => #[]
theorem u43 : Try.prog.underlying 43 = some (.struct (fieldsOf 43)) := by kernel_rfl
theorem u24 : Try.prog.underlying 24 = some (.struct (fieldsOf 24)) := by kernel_rfl
theorem f43 : (fieldsOf 43).toList.map (fun f => (f.type, f.offset)) = [(4, 0), (41, 1), (41, 2)] := by kernel_rfl
theorem f24 : (fieldsOf 24).toList.map (fun f => (f.type, f.offset)) = [(3, 0), (3, 1), (22, 2)] := by kernel_rfl

/-! ### Cells -/
theorem cells_get {w : World} {a : Addr} {n : Nat} {cs : List Value} (h : w.cells? 0 a n = some cs) : cs.length = n ∧ ∀ j, j < n → w.cell? (a.add j) = cs[j]? := by
  unfold World.cells? at h
  rw [if_pos (Nat.zero_le _)] at h
  refine ⟨by simpa using mapM_some_length h, fun j hj => mapM_some_get h j j (by simp [hj])⟩
theorem cell_spot {w : World} {a : Addr} {u : Value} (h : w.cell? a = some u) : a.spot = none := World.cell?_spot h
theorem add_mk {a : Addr} (h : a.spot = none) (j : Nat) : a.add j = ⟨a.block, a.off + j, none⟩ := by
  obtain ⟨b, o, s⟩ := a
  subst h
  exact Addr_add b o j
theorem three {α : Type} {cs : List α} (h : cs.length = 3) : ∃ a b c, cs = [a, b, c] := by
  match cs, h with
  | [a, b, c], _ => exact ⟨a, b, c, rfl⟩

section
variable {H : Type} {enc : TypeId × Value → H} {W : World} {fuel : Nat} {cs : List Value} {x : DataW H × List MemPlace}

theorem field_read {t : Nat} (ht : Try.prog.underlying t = some (.struct (fieldsOf t))) (h : DataW.trod enc Try.prog W 0 (fun _ => true) true fuel t cs = some x) {t' off i : Nat} (hi : ((fieldsOf t).toList.map (fun f => (f.type, f.offset)))[i]? = some (t', off)) :
    ∃ n y, DataW.trod enc Try.prog W 0 (fun _ => true) true n t' ((cs.drop off).take (Try.prog.cellsOf t')) = some y := by
  obtain ⟨xs, n, rfl, _, _, hl, hf⟩ := DataW.trod_struct ht h
  rw [List.getElem?_map, Option.map_eq_some_iff] at hi
  obtain ⟨f, h1, h2⟩ := hi
  obtain ⟨rfl, rfl⟩ := Prod.mk.inj h2
  have hfi : (fieldsOf t)[i]? = some f := by rw [← h1, Array.getElem?_toList]
  have := hf i f hfi
  have hlt : i < xs.length := by
    rw [hl]
    obtain ⟨h, _⟩ := Array.getElem?_eq_some_iff.1 hfi
    exact h
  rw [List.getElem?_eq_getElem hlt] at this
  exact ⟨n, _, this⟩

theorem u32_at {a : Addr} {i : Nat} (h : (W.cells? 0 (a.add (i * Try.prog.cellsOf 116)) (Try.prog.cellsOf 116)).bind (DataW.trod enc Try.prog W 0 (fun _ => true) true fuel 116) = some x) : ∃ d : Nat, d < 4294967296 ∧ W.cell? (a.add i) = some (.int .u32 d) := by
  rw [c116, Nat.mul_one] at h
  obtain ⟨cs, h1, h2⟩ := Option.bind_eq_some_iff.1 h
  obtain ⟨n, rfl, _, hw⟩ := DataW.trod_int u116 h2
  have h3 := (cells_get h1).2 0 (by omega)
  have hw2 : 0 ≤ n ∧ n ≤ 4294967295 := by
    simp only [Lit.wf, Bool.and_eq_true, decide_eq_true_eq] at hw
    exact hw
  refine ⟨n.toNat, by omega, ?_⟩
  rw [Int.toNat_of_nonneg hw2.1]
  exact h3

/-- A number. -/
theorem nat_read (h : DataW.trod enc Try.prog W 0 (fun _ => true) true fuel 41 cs = some x) : ∃ v, ∃ y : NV, cs = [v] ∧ V W g0 y.av v ∧ XN y ∧ y.o = .no := by
  rcases DataW.trod_slice u41 h with ⟨rfl, _⟩ | ⟨a, len, cap, elems, rest, n, _, rfl, _, _, hl, hm, he, hel, hre, _⟩
  · exact ⟨_, ⟨true, .no, []⟩, rfl, .nils none .no (.inr rfl), ⟨fun i => by simp, fun _ => rfl⟩, rfl⟩
  · obtain ⟨hrl, hre⟩ := hre rfl
    have cell : ∀ i, ∃ d : Nat, i < cap → d < 4294967296 ∧ W.cell? (a.add i) = some (.int .u32 d) := by
      intro i
      by_cases hi : i < cap
      · by_cases hi2 : i < len
        · have h1 := hel i hi2
          rw [List.getElem?_eq_getElem (by omega)] at h1
          obtain ⟨d, hd⟩ := u32_at h1
          exact ⟨d, fun _ => hd⟩
        · have h1 := hre (i - len) (by omega)
          rw [List.getElem?_eq_getElem (by omega), show len + (i - len) = i by omega] at h1
          obtain ⟨d, hd⟩ := u32_at h1
          exact ⟨d, fun _ => hd⟩
      · exact ⟨0, fun h => absurd h hi⟩
    obtain ⟨f, hf⟩ := Classical.axiomOfChoice cell
    have hsp : cap = 0 ∨ a.spot = none := by
      by_cases h0 : cap = 0
      · exact .inl h0
      · exact .inr (cell_spot (hf 0 (by omega)).2)
    have hfl : flat (((List.range len).map f).map dg) = ((List.range len).map f).map dg := by
      generalize (List.range len).map f = l
      induction l with
      | nil => rfl
      | cons d l ih =>
        show (dg d).cells ++ flat (l.map dg) = _
        rw [ih]; rfl
    have hlen : (((List.range len).map f).map dg).length = len := by simp
    refine ⟨_, ⟨false, .no, (List.range len).map f⟩, rfl, ?_, ⟨fun i => ?_, fun h => by cases h⟩, rfl⟩
    · have hV := V.lst (w := W) (g := g0) none .no (((List.range len).map f).map dg) a cap (fun j => .int .u32 (f j)) hsp (by rw [hlen]; exact hl) hm
        (fun e he => by
          obtain ⟨d, _, rfl⟩ := List.mem_map.1 he
          exact ⟨rfl, rfl⟩)
        (fun j hj => by
          rw [hfl, hlen] at hj
          refine ⟨?_, fun h => h, fun h => h⟩
          have := (hf j (by omega)).2
          rw [add_mk (hsp.resolve_left (by omega))] at this
          exact this)
        (fun j hj => by
          rw [hfl, hlen] at hj
          rw [hfl, List.getD_eq_getElem?_getD, List.getElem?_map, List.getElem?_map, List.getElem?_range hj]
          exact .int _ _) trivial
      rw [hlen] at hV
      exact hV
    · show ((List.range len).map f).getD i 0 < _
      rw [List.getD_eq_getElem?_getD, List.getElem?_map]
      by_cases hi : i < len
      · rw [List.getElem?_range hi]
        exact (hf i (by omega)).1
      · rw [List.getElem?_eq_none (by simp; omega)]
        exact (by omega : 0 < 4294967296)

/-- A fraction. -/
theorem ratio_read (h : DataW.trod enc Try.prog W 0 (fun _ => true) true fuel 43 cs = some x) : ∃ c0 c1 c2, ∃ r : RV, cs = [c0, c1, c2] ∧ V W g0 (.bool r.neg) c0 ∧ V W g0 r.num.av c1 ∧ V W g0 r.den.av c2 ∧ XR r ∧ r.num.o = .no ∧ r.den.o = .no := by
  have hlen : cs.length = 3 := by
    obtain ⟨_, _, _, _, h1, _⟩ := DataW.trod_struct u43 h
    rw [h1, c43]
  obtain ⟨c0, c1, c2, rfl⟩ := three hlen
  obtain ⟨n0, y0, h0⟩ := field_read u43 h (t' := 4) (off := 0) (i := 0) (by rw [f43]; rfl)
  obtain ⟨n1, y1, h1⟩ := field_read u43 h (t' := 41) (off := 1) (i := 1) (by rw [f43]; rfl)
  obtain ⟨n2, y2, h2⟩ := field_read u43 h (t' := 41) (off := 2) (i := 2) (by rw [f43]; rfl)
  rw [c4] at h0
  rw [c41] at h1 h2
  obtain ⟨b, e0, _⟩ := DataW.trod_bool u4 h0
  obtain ⟨v1, z1, e1, q1, q2, q3⟩ := nat_read h1
  obtain ⟨v2, z2, e2, r1, r2, r3⟩ := nat_read h2
  simp only [List.drop_zero, List.drop_succ_cons, List.take_succ_cons, List.take_zero, List.cons.injEq, and_true] at e0 e1 e2
  subst e0; subst e1; subst e2
  refine ⟨_, _, _, ⟨b, z1, z2⟩, rfl, .bool b, q1, r1, ⟨q2, r2, ?_⟩, q3, r3⟩
  obtain ⟨a1, o1, d1⟩ := z1
  obtain ⟨a2, o2, d2⟩ := z2
  subst q3; subst r3
  rfl

theorem flat3 : ∀ (es : List RV) (j : Nat), j < es.length * 3 → (flat (es.map RV.av)).getD j .any = ((es.getD (j / 3) ⟨false, ⟨true, .no, []⟩, ⟨true, .no, []⟩⟩).av.cells).getD (j % 3) .any
  | [], j, h => by simp at h
  | r :: es, 0, h => rfl
  | r :: es, 1, h => rfl
  | r :: es, 2, h => rfl
  | r :: es, j + 3, h => by
    have ih := flat3 es j (by simp only [List.length_cons] at h; omega)
    have e1 : (j + 3) / 3 = j / 3 + 1 := by omega
    have e2 : (j + 3) % 3 = j % 3 := by omega
    rw [e1, e2, List.getD_cons_succ, ← ih]
    rfl
theorem flat3_len (es : List RV) : (flat (es.map RV.av)).length = es.length * 3 := by
  induction es with
  | nil => rfl
  | cons r es ih =>
    show (_ :: _ :: _ :: flat (es.map RV.av)).length = _
    rw [List.length_cons, List.length_cons, List.length_cons, ih, List.length_cons]; omega

theorem ratio_at {a : Addr} {i : Nat} (ha : i = 0 ∨ a.spot = none) (h : (W.cells? 0 (a.add (i * Try.prog.cellsOf 43)) (Try.prog.cellsOf 43)).bind (DataW.trod enc Try.prog W 0 (fun _ => true) true fuel 43) = some x) :
    a.spot = none ∧ ∃ r : RV, (XR r ∧ r.num.o = .no ∧ r.den.o = .no) ∧ ∀ j, j < 3 → ∃ u, W.cell? ⟨a.block, a.off + (i * 3 + j), none⟩ = some u ∧ V W g0 (r.av.cells.getD j .any) u := by
  rw [c43] at h
  obtain ⟨cs, h1, h2⟩ := Option.bind_eq_some_iff.1 h
  obtain ⟨c0, c1, c2, r, rfl, v0, v1, v2, xr, o1, o2⟩ := ratio_read h2
  have h3 := (cells_get h1).2
  have hs : a.spot = none := by
    rcases ha with rfl | ha
    · rw [Nat.zero_mul] at h3
      exact cell_spot (h3 0 (by omega))
    · exact ha
  refine ⟨hs, r, ⟨xr, o1, o2⟩, fun j hj => ?_⟩
  have h4 := h3 j hj
  rw [add_mk hs, Addr_add, Nat.add_assoc] at h4
  match j, hj with
  | 0, _ => exact ⟨c0, h4, v0⟩
  | 1, _ => exact ⟨c1, h4, v1⟩
  | 2, _ => exact ⟨c2, h4, v2⟩

theorem sh_rv {r : RV} (h1 : r.num.o = .no) (h2 : r.den.o = .no) : shOk (some 3) r.av = true ∧ pl r.av = true := by
  obtain ⟨b, ⟨a1, o1, d1⟩, ⟨a2, o2, d2⟩⟩ := r
  subst h1; subst h2
  exact ⟨rfl, rfl⟩

/-- A row of fractions. -/
theorem row_read (h : DataW.trod enc Try.prog W 0 (fun _ => true) true fuel 22 cs = some x) : ∃ v, ∃ l : LV, cs = [v] ∧ V W g0 l.av v ∧ (l.sh = some 3 ∨ l.es = []) ∧ (l.z = true → l.es = []) ∧ (∀ r ∈ l.es, XR r) ∧ l.o = .no := by
  rcases DataW.trod_slice u22 h with ⟨rfl, _⟩ | ⟨a, len, cap, elems, rest, n, _, rfl, _, _, hl, hm, he, hel, hre, _⟩
  · exact ⟨_, ⟨some 3, true, .no, []⟩, rfl, .nils _ .no (.inr rfl), .inl rfl, fun _ => rfl, (fun r hr => by cases hr), rfl⟩
  · obtain ⟨hrl, hre⟩ := hre rfl
    have raw : ∀ i, i < cap → ∃ y, (W.cells? 0 (a.add (i * Try.prog.cellsOf 43)) (Try.prog.cellsOf 43)).bind (DataW.trod enc Try.prog W 0 (fun _ => true) true n 43) = some y := by
      intro i hi
      by_cases hi2 : i < len
      · have h1 := hel i hi2
        rw [List.getElem?_eq_getElem (by omega)] at h1
        exact ⟨_, h1⟩
      · have h1 := hre (i - len) (by omega)
        rw [List.getElem?_eq_getElem (by omega), show len + (i - len) = i by omega] at h1
        exact ⟨_, h1⟩
    have hsp : cap = 0 ∨ a.spot = none := by
      by_cases h0 : cap = 0
      · exact .inl h0
      · obtain ⟨y, hy⟩ := raw 0 (by omega)
        exact .inr (ratio_at (.inl rfl) hy).1
    have cell : ∀ i, ∃ r : RV, i < cap → (XR r ∧ r.num.o = .no ∧ r.den.o = .no) ∧ ∀ j, j < 3 → ∃ u, W.cell? ⟨a.block, a.off + (i * 3 + j), none⟩ = some u ∧ V W g0 (r.av.cells.getD j .any) u := by
      intro i
      by_cases hi : i < cap
      · obtain ⟨y, hy⟩ := raw i hi
        obtain ⟨r, hr⟩ := (ratio_at (.inr (hsp.resolve_left (by omega))) hy).2
        exact ⟨r, fun _ => hr⟩
      · exact ⟨⟨false, ⟨true, .no, []⟩, ⟨true, .no, []⟩⟩, fun h => absurd h hi⟩
    obtain ⟨f, hf⟩ := Classical.axiomOfChoice cell
    have hlen : (((List.range len).map f).map RV.av).length = len := by simp
    have hlen0 : ((List.range len).map f).length = len := by simp
    have hget : ∀ j, j < len * 3 → ((List.range len).map f).getD (j / 3) ⟨false, ⟨true, .no, []⟩, ⟨true, .no, []⟩⟩ = f (j / 3) := by
      intro j hj
      rw [List.getD_eq_getElem?_getD, List.getElem?_map, List.getElem?_range (by omega)]
      rfl
    have hmem : ∀ r ∈ (List.range len).map f, XR r ∧ r.num.o = .no ∧ r.den.o = .no := by
      intro r hr
      obtain ⟨i, hi, rfl⟩ := List.mem_map.1 hr
      exact (hf i (by have := List.mem_range.1 hi; omega)).1
    have hcl : ∀ j, j < len * 3 → ∃ u, W.cell? ⟨a.block, a.off + j, none⟩ = some u ∧ V W g0 ((flat (((List.range len).map f).map RV.av)).getD j .any) u := by
      intro j hj
      rw [flat3 _ j (by rw [hlen0]; exact hj), hget j hj]
      have h1 := (hf (j / 3) (by omega)).2 (j % 3) (by omega)
      rw [show j / 3 * 3 + j % 3 = j by omega] at h1
      exact h1
    have hus : ∀ j, ∃ u, j < len * 3 → W.cell? ⟨a.block, a.off + j, none⟩ = some u ∧ V W g0 ((flat (((List.range len).map f).map RV.av)).getD j .any) u := by
      intro j
      by_cases hj : j < len * 3
      · obtain ⟨u, hu⟩ := hcl j hj
        exact ⟨u, fun _ => hu⟩
      · exact ⟨undef, fun h => absurd h hj⟩
    obtain ⟨us, hus⟩ := Classical.axiomOfChoice hus
    refine ⟨_, ⟨some 3, false, .no, (List.range len).map f⟩, rfl, ?_, .inl rfl, (fun h => by cases h), fun r hr => (hmem r hr).1, rfl⟩
    have hV := V.lst (w := W) (g := g0) (some 3) .no (((List.range len).map f).map RV.av) a cap us hsp (by rw [hlen]; exact hl) hm
      (fun e he => by
        obtain ⟨r, hr, rfl⟩ := List.mem_map.1 he
        exact sh_rv (hmem r hr).2.1 (hmem r hr).2.2)
      (fun j hj => by
        rw [flat3_len, hlen0] at hj
        exact ⟨(hus j hj).1, fun h => h, fun h => h⟩)
      (fun j hj => by
        rw [flat3_len, hlen0] at hj
        exact (hus j hj).2) trivial
    rw [hlen] at hV
    exact hV

/-- A matrix. -/
theorem mat_read {v : Value} {d : DataW H} {ps : List MemPlace} (hv : ∃ cs, v = .agg cs) (h : DataW.Trod enc Try.prog W 0 (fun _ => true) true 24 v d ps) : ∃ y : MV, V W g0 y.av v ∧ XM y ∧ y.fr = y := by
  obtain ⟨cs, rfl⟩ := hv
  obtain ⟨fuel, h⟩ := h
  have hlen : cs.toList.length = 3 := by
    obtain ⟨_, _, _, _, h1, _⟩ := DataW.trod_struct u24 h
    rw [c24] at h1
    exact h1
  have h : DataW.trod enc Try.prog W 0 (fun _ => true) true fuel 24 cs.toList = some (d, ps) := h
  obtain ⟨v0, v1, v2, hcs⟩ := three hlen
  obtain rfl : cs = #[v0, v1, v2] := by
    cases cs
    simp_all
  obtain ⟨n0, y0, h0⟩ := field_read u24 h (t' := 3) (off := 0) (i := 0) (by rw [f24]; rfl)
  obtain ⟨n1, y1, h1⟩ := field_read u24 h (t' := 3) (off := 1) (i := 1) (by rw [f24]; rfl)
  obtain ⟨n2, y2, h2⟩ := field_read u24 h (t' := 22) (off := 2) (i := 2) (by rw [f24]; rfl)
  rw [c3] at h0 h1
  rw [c22] at h2
  obtain ⟨a, e0, _⟩ := DataW.trod_int u3 h0
  obtain ⟨b, e1, _⟩ := DataW.trod_int u3 h1
  obtain ⟨v, l, e2, q1, q2, q3, q4, q5⟩ := row_read h2
  simp only [List.drop_zero, List.drop_succ_cons, List.take_succ_cons, List.take_zero, List.cons.injEq, and_true] at e0 e1 e2
  subst e0; subst e1; subst e2
  refine ⟨⟨a, b, l⟩, .agg _ _ rfl fun j hj => ?_, ⟨q2, q3, q4⟩, ?_⟩
  · match j, hj with
    | 0, _ => exact .int _ _
    | 1, _ => exact .int _ _
    | 2, _ => exact q1
  · obtain ⟨sh, z, o, es⟩ := l
    subst q5
    rfl
/-- A fraction as an argument. -/
theorem rat_read {v : Value} {d : DataW H} {ps : List MemPlace} (hv : ∃ cs, v = .agg cs) (h : DataW.Trod enc Try.prog W 0 (fun _ => true) true 43 v d ps) : ∃ r : RV, V W g0 r.av v ∧ XR r := by
  obtain ⟨cs, rfl⟩ := hv
  obtain ⟨fuel, h⟩ := h
  have h : DataW.trod enc Try.prog W 0 (fun _ => true) true fuel 43 cs.toList = some (d, ps) := h
  obtain ⟨c0, c1, c2, r, hcs, v0, v1, v2, xr, _, _⟩ := ratio_read h
  obtain rfl : cs = #[c0, c1, c2] := by
    cases cs
    simp_all
  refine ⟨r, .agg _ _ rfl fun j hj => ?_, xr⟩
  match j, hj with
  | 0, _ => exact v0
  | 1, _ => exact v1
  | 2, _ => exact v2
theorem okWide_agg {base : Nat} {t : Nat} {v : Value} {fs : Array Field} (ht : Try.prog.underlying t = some (.struct fs)) (h : Value.okWide Try.prog W .any base t v) : ∃ cs, v = .agg cs := by
  simp only [Value.okWide, ht] at h
  obtain ⟨cs, h, _⟩ := h
  exact ⟨cs, h⟩
end
end Go.Ab
