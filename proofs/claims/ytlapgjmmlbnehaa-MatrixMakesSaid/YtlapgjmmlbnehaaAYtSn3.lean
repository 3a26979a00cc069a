/- Division and the greatest common divisor of nat, in values. -/
import Derived.Test.YtlapgjmmlbnehaaAYtSn2
set_option linter.unusedVariables false
set_option linter.unusedSimpArgs false
namespace Go.Ab
open Go.Proofs.Try

theorem W125_18 (v : NV) (u : List Nat) (m : Mem) (K : Ex → St → Option (AV × Mem)) (x9 x13 : AV) (nu L n j top v1 v2 u0 p lo vlo q : Nat)
    (hn : v.ds.length = n) (hn2 : 2 ≤ n) (hm : m[nu]? = some (oc u)) (hL : u.length = L) (hL' : L < 2 ^ 42) (hjn : j + n < L) (du : Dg u) (dv : Dg v.ds)
    (e1 : v.ds.getD (n - 1) 0 = v1) (e2 : v.ds.getD (n - 2) 0 = v2) (e3 : u.getD (j + n - 2) 0 = u0)
    (hv1 : 2147483648 ≤ v1) (htop : top ≤ v1 * 4294967296 + 4294967295) (hlo : lo < p) (hvlo : vlo < p)
    (hq : q = ((top * 4294967296 + u0) * p + lo) / ((v1 * 4294967296 + v2) * p + vlo)) (hqB : q < 4294967296) :
    ∀ k g r : Nat, 4294967296 ≤ r + k * v1 → r < 4294967296 → g * v1 + r = top → q ≤ g →
    ∃ g', q ≤ g' ∧ g' < 4294967296 ∧ g' * ((v1 * 4294967296 + v2) * p + vlo) < ((top * 4294967296 + u0) * p + lo) + ((v1 * 4294967296 + v2) * p + vlo) ∧
      L125_18 x9 (.arr nu 0 L none) v.av (.int .i64 n) x13 (.int .i64 j) (.int .u64 g) (.int .u64 r) m K
        = K (.exit 3) (O125_18 x9 (.arr nu 0 L none) v.av (.int .i64 n) x13 (.int .i64 j) (.int .u64 g') m) := by
  have hv1' : v1 < 4294967296 := e1 ▸ dv (n - 1)
  have hv2' : v2 < 4294967296 := e2 ▸ dv (n - 2)
  have hu0' : u0 < 4294967296 := e3 ▸ du (j + n - 2)
  intro k
  induction k with
  | zero => intro g r h1 h2; omega
  | succ k ih =>
    intro g r h1 h2 h3 h4
    have hgB : g < 4294967296 + 2 := by
      have : g * v1 < (4294967296 + 2) * v1 := by omega
      exact Nat.lt_of_mul_lt_mul_right this
    have hgv : g * v2 ≤ 4294967297 * 4294967295 := Nat.mul_le_mul (by omega) (by omega)
    have dec : q < g → ∃ g', q ≤ g' ∧ g' < 4294967296 ∧ g' * ((v1 * 4294967296 + v2) * p + vlo) < ((top * 4294967296 + u0) * p + lo) + ((v1 * 4294967296 + v2) * p + vlo) ∧
        (if r + v1 ≥ 4294967296 then K (.exit 3) (O125_18 x9 (.arr nu 0 L none) v.av (.int .i64 n) x13 (.int .i64 j) (.int .u64 (g - 1 : Nat)) m)
         else L125_18 x9 (.arr nu 0 L none) v.av (.int .i64 n) x13 (.int .i64 j) (.int .u64 (g - 1 : Nat)) (.int .u64 (r + v1 : Nat)) m K)
        = K (.exit 3) (O125_18 x9 (.arr nu 0 L none) v.av (.int .i64 n) x13 (.int .i64 j) (.int .u64 g') m) := by
      intro hqg
      obtain ⟨g1, hg1⟩ : ∃ g1, g = g1 + 1 := ⟨g - 1, by omega⟩
      subst hg1
      rw [Nat.add_mul, Nat.one_mul] at h3
      rw [Nat.add_sub_cancel]
      by_cases hb : r + v1 ≥ 4294967296
      · rw [if_pos hb]
        have hlt : g1 < 4294967296 := by
          have : g1 * v1 < 4294967296 * v1 := by omega
          exact Nat.lt_of_mul_lt_mul_right this
        refine ⟨g1, by omega, hlt, ?_, rfl⟩
        have h5 : g1 * v2 ≤ 4294967296 * 4294967295 := Nat.mul_le_mul (by omega) (by omega)
        exact guess_le (r := r + v1) (top := top) (u0 := u0) (by omega) (by omega) hlt hvlo (by omega) rfl rfl
      · rw [if_neg hb]
        rw [Nat.add_mul] at h1
        exact ih g1 (r + v1) (by omega) (by omega) (by omega) (by omega)
    rw [L125_18_eq]
    simp (disch := omega) only [n_geqB, Option.bind_some, ifA_dec, u_sub1, i_sub1, index_nv, load_v, c_dg, u_add, e1]
    by_cases c1 : g ≥ 4294967296
    · rw [if_pos c1]
      exact dec (by omega)
    · rw [if_neg c1]
      simp (disch := omega) only [i_sub2, Option.bind_some, index_nv, load_v, e2]
      rw [c_dg v2 hv2', Option.bind_some, u_mul (by omega), Option.bind_some, u_shl32 (by omega), Option.bind_some, i_add (by omega), Option.bind_some, i_sub2 (by omega) (by omega), Option.bind_some, index_arr (by omega), Option.bind_some,
        load_at hm (by omega), Option.bind_some, e3, c_dg u0 hu0', Option.bind_some, u_orlo (by omega) (by omega), Option.bind_some, n_gtr, Option.bind_some, ifA_dec]
      by_cases c2 : g * v2 > r * 4294967296 + u0
      · have hqg := guess_ge (q := q) (vlo := vlo) h3 c2 hlo (by rw [hq]; exact Nat.div_mul_le_self _ _)
        rw [if_pos c2, u_sub1 (by omega) (by omega), Option.bind_some]
        exact dec hqg
      · rw [if_neg c2]
        exact ⟨g, h4, by omega, guess_le h3 (Nat.le_of_not_lt c2) (by omega) hvlo (by omega) rfl rfl, rfl⟩

theorem W125_24 (v : NV) (u : List Nat) (m0 : Mem) (K : Ex → St → Option (AV × Mem)) (x9 x13 : AV) (nu L n j g : Nat)
    (hn : v.ds.length = n) (hm : m0[nu]? = some (oc u)) (hL : u.length = L) (hL' : L < 2 ^ 42) (hjn : j + n < L) (du : Dg u) (dv : Dg v.ds) (hg : g < 4294967296) : ∀ r i : Nat, i + r = n →
    L125_24 x9 (.arr nu 0 L none) v.av (.int .i64 n) x13 (.int .i64 j) (.int .u64 g) (.int .u64 (msS v.ds g j i u).2.1) (.int .u64 (msS v.ds g j i u).2.2) (.int .i64 n) (.int .i64 i) (m0.set nu (oc (msS v.ds g j i u).1)) K
      = K (.exit 5) (O125_24 x9 (.arr nu 0 L none) v.av (.int .i64 n) x13 (.int .i64 j) (.int .u64 g) (.int .u64 (msS v.ds g j n u).2.1) (.int .u64 (msS v.ds g j n u).2.2) (m0.set nu (oc (msS v.ds g j n u).1))) := by
  have hnu : nu < m0.length := by
    apply Classical.byContradiction
    intro h
    rw [List.getElem?_eq_none (by omega)] at hm
    cases hm
  intro r
  induction r with
  | zero =>
    intro i hi
    have : i = n := by omega
    subst this
    rw [L125_24_eq]
    simp [binA_lss, ifA]
  | succ r ih =>
    intro i hi
    have ih := ih (i + 1) (by omega)
    have hlen := msS_length v.ds g j u i
    have hb := msS_borrow v.ds g j u i
    have hc := msS_carry dv hg j u i
    have hd := msS_dg (v := v.ds) (g := g) du j i (i + j)
    have hvd := dv i
    have hgv : g * v.ds.getD i 0 ≤ 4294967295 * 4294967295 := Nat.mul_le_mul (by omega) (by omega)
    have s1 : binA .other .shl (.int .u64 1) (.int .u64 32) = some (.int .u64 (4294967296 : Nat)) := rfl
    have s0 : binA .other .shl (.int .u64 0) (.int .u64 32) = some (.int .u64 (0 : Nat)) := rfl
    rw [L125_24_eq]
    simp only [msS] at ih
    generalize msS v.ds g j i u = t at *
    obtain ⟨t, b, c⟩ := t
    simp only [] at *
    have hget : (m0.set nu (oc t))[nu]? = some (oc t) := List.getElem?_set_self hnu
    simp (disch := omega) only [n_lss, Option.bind_some, ifA_dec, if_pos, index_nv, load_v, c_dg, u_mul, u_add, u_and, i_add, index_arr, load_at hget, u_shr32, i_add1]
    by_cases h : t.getD (i + j) 0 < (c + g * v.ds.getD i 0) % 4294967296 + b
    · rw [if_pos h]
      rw [if_pos h] at ih
      rw [s1, Option.bind_some, u_add (by omega), Option.bind_some, u_sub (by omega) (by omega), Option.bind_some, c_dn, Option.bind_some, Nat.mod_eq_of_lt (by omega), store_at hget (by omega), List.set_set]
      exact ih
    · rw [if_neg h]
      rw [if_neg h] at ih
      rw [s0, Option.bind_some, u_add (by omega), Option.bind_some, u_sub (by omega) (by omega), Option.bind_some, c_dn, Option.bind_some, Nat.mod_eq_of_lt (by omega), store_at hget (by omega), List.set_set]
      exact ih

theorem W125_41 (v : NV) (u : List Nat) (m0 : Mem) (K : Ex → St → Option (AV × Mem)) (x9 x13 x16 : AV) (nu L n j : Nat)
    (hn : v.ds.length = n) (hm : m0[nu]? = some (oc u)) (hL : u.length = L) (hL' : L < 2 ^ 42) (hjn : j + n < L) (du : Dg u) (dv : Dg v.ds) : ∀ r i : Nat, i + r = n →
    L125_41 x9 (.arr nu 0 L none) v.av (.int .i64 n) x13 (.int .i64 j) x16 (.int .u64 (abS v.ds j i u).2) (.int .i64 n) (.int .i64 i) (m0.set nu (oc (abS v.ds j i u).1)) K
      = K (.exit 7) (O125_41 x9 (.arr nu 0 L none) v.av (.int .i64 n) x13 (.int .i64 j) x16 (.int .u64 (abS v.ds j n u).2) (m0.set nu (oc (abS v.ds j n u).1))) := by
  have hnu : nu < m0.length := by
    apply Classical.byContradiction
    intro h
    rw [List.getElem?_eq_none (by omega)] at hm
    cases hm
  intro r
  induction r with
  | zero =>
    intro i hi
    have : i = n := by omega
    subst this
    rw [L125_41_eq]
    simp [binA_lss, ifA]
  | succ r ih =>
    intro i hi
    have ih := ih (i + 1) (by omega)
    have hlen := abS_length v.ds j u i
    obtain ⟨hd, hc⟩ := abS_carry dv du j i
    have hd := hd (i + j)
    have hvd := dv i
    rw [L125_41_eq]
    simp only [abS] at ih
    generalize abS v.ds j i u = t at *
    obtain ⟨t, c⟩ := t
    simp only [] at *
    have hget : (m0.set nu (oc t))[nu]? = some (oc t) := List.getElem?_set_self hnu
    simp (disch := omega) only [n_lss, Option.bind_some, ifA_dec, if_pos, index_nv, load_v, c_dg, u_add, i_add, index_arr, load_at hget, u_shr32, i_add1, c_dn, store_at hget, List.set_set]
    exact ih

theorem u_sub_dn {tk : TK} {t y : Nat} (ht : t < 4294967296) (hy : y ≤ 4294967296) : ∃ w, binA tk .sub (.int .u64 t) (.int .u64 y) = some w ∧ convA .u32 w = some (.int .u32 ((t + 4294967296 - y) % 4294967296 : Nat)) := by
  refine ⟨_, binA_sub _ _ _ _, ?_⟩
  rw [convA_int, wrap_u32_eq, wrap_u64_eq]
  congr 2
  omega
theorem kd_top {v u : List Nat} {n j : Nat} (hv : Dg v) (hu : Dg u) (hn : v.length = n) (hn2 : 2 ≤ n) :
    val v = (v.getD (n - 1) 0 * 4294967296 + v.getD (n - 2) 0) * 4294967296 ^ (n - 2) + vs v (n - 2) ∧
    wn u j (n + 1) = ((u.getD (j + n) 0 * 4294967296 + u.getD (j + n - 1) 0) * 4294967296 + u.getD (j + n - 2) 0) * 4294967296 ^ (n - 2) + wn u j (n - 2) := by
  obtain ⟨k, rfl⟩ : ∃ k, n = k + 2 := ⟨n - 2, by omega⟩
  have e1 : k + 2 - 1 = k + 1 := by omega
  have e2 : k + 2 - 2 = k := by omega
  have e3 : j + (k + 2) - 1 = j + (k + 1) := by omega
  have e4 : j + (k + 2) - 2 = j + k := by omega
  rw [e1, e2, e3, e4]
  constructor
  · rw [← vs_all (Nat.le_of_eq hn), vs_succ, vs_succ, Nat.pow_succ, Nat.add_mul, Nat.mul_comm (4294967296 ^ k) (v.getD k 0), Nat.mul_comm (4294967296 ^ k * 4294967296), Nat.mul_comm (4294967296 ^ k), Nat.mul_assoc]
    omega
  · rw [wn, wn, wn, Nat.pow_succ (m := k + 1), Nat.pow_succ]
    rw [Nat.add_mul, Nat.add_mul, Nat.add_mul, Nat.mul_comm (4294967296 ^ k) (u.getD (j + k) 0), Nat.mul_comm (4294967296 ^ k * 4294967296) (u.getD (j + (k + 1)) 0), Nat.mul_comm (4294967296 ^ k * 4294967296 * 4294967296), Nat.mul_comm (4294967296 ^ k), ]
    generalize 4294967296 ^ k = p
    have h1 : u.getD (j + (k + 1)) 0 * (4294967296 * p) = u.getD (j + (k + 1)) 0 * 4294967296 * p := (Nat.mul_assoc _ _ _).symm
    have h2 : u.getD (j + (k + 2)) 0 * (4294967296 * p * 4294967296) = u.getD (j + (k + 2)) 0 * 4294967296 * 4294967296 * p := by
      rw [Nat.mul_right_comm 4294967296 p, ← Nat.mul_assoc, ← Nat.mul_assoc]
    rw [h1, h2]
    omega
theorem kd_pre {v u0 u q : List Nat} {n m j : Nat} (hv : Dg v) (hn : v.length = n) (hn2 : 2 ≤ n) (h : KInv v u0 n m (j + 1) u q) :
    u.getD (j + n) 0 ≤ v.getD (n - 1) 0 ∧ wn u j (n + 1) / val v < 4294967296 ∧ 0 < val v := by
  have hlt := h.lt
  have hp : 0 < val v := by omega
  obtain ⟨k, rfl⟩ : ∃ k, n = k + 1 := ⟨n - 1, by omega⟩
  have hV : val v = vs v k + 4294967296 ^ k * v.getD k 0 := by rw [← vs_all (Nat.le_of_eq hn), vs_succ]
  have h1 := vs_lt hv k
  refine ⟨?_, ?_, hp⟩
  · rw [Nat.add_sub_cancel]
    rw [wn, show j + 1 + k = j + (k + 1) by omega] at hlt
    apply Nat.le_of_not_lt
    intro hc
    have : 4294967296 ^ k * (v.getD k 0 + 1) ≤ 4294967296 ^ k * u.getD (j + (k + 1)) 0 := Nat.mul_le_mul_left _ hc
    rw [Nat.mul_add] at this
    omega
  · rw [Nat.div_lt_iff_lt_mul hp, wn_first]
    have h2 := h.du j
    omega

theorem first_ge {top u0 v1 v2 p lo vlo : Nat} (hv1 : 0 < v1) (hlo : lo < p) (hu : u0 < 4294967296) :
    ((top * 4294967296 + u0) * p + lo) / ((v1 * 4294967296 + v2) * p + vlo) ≤ top / v1 := by
  have h := Nat.div_mul_le_self ((top * 4294967296 + u0) * p + lo) ((v1 * 4294967296 + v2) * p + vlo)
  generalize ((top * 4294967296 + u0) * p + lo) / ((v1 * 4294967296 + v2) * p + vlo) = q at *
  rw [Nat.le_div_iff_mul_le hv1]
  have h1 : (top * 4294967296 + u0) * p + lo < (top + 1) * 4294967296 * p := by
    have : (top * 4294967296 + u0 + 1) * p ≤ (top + 1) * 4294967296 * p := Nat.mul_le_mul_right _ (by omega)
    rw [Nat.add_mul _ 1, Nat.one_mul] at this
    omega
  have h2 : q * v1 * 4294967296 * p ≤ q * ((v1 * 4294967296 + v2) * p + vlo) := by
    rw [Nat.mul_assoc q, Nat.mul_assoc q]
    exact Nat.mul_le_mul_left _ (Nat.le_trans (Nat.mul_le_mul_right _ (Nat.le_add_right _ _)) (Nat.le_add_right _ _))
  have h3 : q * v1 * 4294967296 * p < (top + 1) * 4294967296 * p := by omega
  have h4 := Nat.lt_of_mul_lt_mul_right (Nat.lt_of_mul_lt_mul_right h3)
  omega

def M3 (u q : List Nat) : Mem := [oc u, none, oc q]
theorem W125_14 (v : NV) (u0 : List Nat) (K : Ex → St → Option (AV × Mem)) (x9 : AV) (L n mm : Nat)
    (hn : v.ds.length = n) (hn2 : 2 ≤ n) (dv : Dg v.ds) (hL : L = mm + n) (hL' : L < 2 ^ 42) (hv1 : 2147483648 ≤ v.ds.getD (n - 1) 0) : ∀ (j : Nat) (u q : List Nat), j ≤ mm → KInv v.ds u0 n mm j u q →
    ∃ u' q', KInv v.ds u0 n mm 0 u' q' ∧ L125_14 x9 (.arr 0 0 L none) v.av (.int .i64 n) (.arr 2 0 mm none) (.int .i64 ((j : Int) - 1)) (M3 u q) K
      = K (.exit 1) (O125_14 x9 (.arr 0 0 L none) (.int .i64 n) (.arr 2 0 mm none) (M3 u' q')) := by
  intro j
  induction j with
  | zero =>
    intro u q _ hI
    refine ⟨u, q, hI, ?_⟩
    rw [L125_14_eq]
    simp [binA_geq, ifA]
  | succ j ih =>
    intro u q hj hI
    have hu := hI.du
    have hlu := hI.lu
    have hlq := hI.lq
    obtain ⟨p1, p2, p3⟩ := kd_pre dv hn hn2 hI
    obtain ⟨t1, t2⟩ := kd_top (j := j) dv hu hn hn2
    have d1 := hu (j + n)
    have d2 := hu (j + n - 1)
    have d3 := dv (n - 1)
    have hget : (M3 u q)[0]? = some (oc u) := rfl
    have hVp := p3
    rw [L125_14_eq, show ((j + 1 : Nat) : Int) - 1 = (j : Nat) by omega]
    simp (disch := omega) only [n_geq0, Option.bind_some, ifA, i_add, index_arr, load_at hget, c_dg, u_shl32, i_sub1, u_orlo, index_nv, load_v, u_quo, u_rem]
    have hvs := vs_lt dv (n - 2)
    have hws := wn_lt hu j (n - 2)
    have hdm := Nat.div_add_mod (u.getD (j + n) 0 * 4294967296 + u.getD (j + n - 1) 0) (v.ds.getD (n - 1) 0)
    have hrm : (u.getD (j + n) 0 * 4294967296 + u.getD (j + n - 1) 0) % v.ds.getD (n - 1) 0 < v.ds.getD (n - 1) 0 := Nat.mod_lt _ (by omega)
    have hq : wn u j (n + 1) / val v.ds = (((u.getD (j + n) 0 * 4294967296 + u.getD (j + n - 1) 0) * 4294967296 + u.getD (j + n - 2) 0) * 4294967296 ^ (n - 2) + wn u j (n - 2)) / ((v.ds.getD (n - 1) 0 * 4294967296 + v.ds.getD (n - 2) 0) * 4294967296 ^ (n - 2) + vs v.ds (n - 2)) := by rw [t1, t2]
    have hle : u.getD (j + n) 0 * 4294967296 + u.getD (j + n - 1) 0 ≤ v.ds.getD (n - 1) 0 * 4294967296 + 4294967295 := by omega
    have h0 : 4294967296 ≤ (u.getD (j + n) 0 * 4294967296 + u.getD (j + n - 1) 0) % v.ds.getD (n - 1) 0 + 2 * v.ds.getD (n - 1) 0 := by omega
    have h1 : (u.getD (j + n) 0 * 4294967296 + u.getD (j + n - 1) 0) % v.ds.getD (n - 1) 0 < 4294967296 := by omega
    have h2 : (u.getD (j + n) 0 * 4294967296 + u.getD (j + n - 1) 0) / v.ds.getD (n - 1) 0 * v.ds.getD (n - 1) 0 + (u.getD (j + n) 0 * 4294967296 + u.getD (j + n - 1) 0) % v.ds.getD (n - 1) 0 = u.getD (j + n) 0 * 4294967296 + u.getD (j + n - 1) 0 := by rw [Nat.mul_comm]; exact hdm
    have h3 : wn u j (n + 1) / val v.ds ≤ (u.getD (j + n) 0 * 4294967296 + u.getD (j + n - 1) 0) / v.ds.getD (n - 1) 0 := by
      rw [t1, t2]
      exact first_ge (by omega) hws (hu _)
    obtain ⟨g, g1, g2, g3, g4⟩ := W125_18 v u (M3 u q) (K125_18 K) x9 (.arr 2 0 mm none) 0 L n j (u.getD (j + n) 0 * 4294967296 + u.getD (j + n - 1) 0) (v.ds.getD (n - 1) 0) (v.ds.getD (n - 2) 0) (u.getD (j + n - 2) 0) (4294967296 ^ (n - 2)) (wn u j (n - 2)) (vs v.ds (n - 2))
      (wn u j (n + 1) / val v.ds) hn hn2 hget (by omega) hL' (by omega) hu dv rfl rfl rfl hv1 hle hws hvs hq p2 2 ((u.getD (j + n) 0 * 4294967296 + u.getD (j + n - 1) 0) / v.ds.getD (n - 1) 0) ((u.getD (j + n) 0 * 4294967296 + u.getD (j + n - 1) 0) % v.ds.getD (n - 1) 0) h0 h1 h2 h3
    rw [← t1, ← t2] at g3
    obtain ⟨s1, s2, s3, s4, s5⟩ := kdU_spec dv hu hn (by omega) g2 p3 g1 g3
    have hI' := KInv.step dv hn (by omega) hI s1 s2 s3 s4 s5 p3
    have hdB := hI'.dq j
    have hlq' := hI'.lq
    rw [getD_set_eq (by omega)] at hdB
    obtain ⟨u', q', i1, i2⟩ := ih _ _ (by omega) hI'
    refine ⟨u', q', i1, g4.trans ?_⟩
    rw [K125_18_x3]
    have m0 := W125_24 v u (M3 u q) (K125_24 K) x9 (.arr 2 0 mm none) 0 L n j g hn hget (by omega) hL' (by omega) hu dv g2 n 0 (by omega)
    refine Eq.trans ?_ (m0.trans ?_)
    · rfl
    rw [K125_24_x5]
    have hb := msS_borrow v.ds g j u n
    have hc := msS_carry dv g2 j u n
    have hd := msS_dg (v := v.ds) (g := g) hu j n
    have hl := msS_length v.ds g j u n
    have hwn0 := msS_wn (v := v.ds) (g := g) hu j n (by omega)
    unfold kdU at i2 hdB
    simp only [] at i2 hdB
    generalize msS v.ds g j n u = t at *
    obtain ⟨t, b, c⟩ := t
    simp only [] at *
    have hM : (M3 u q).set 0 (oc t) = M3 t q := rfl
    have hget2 : (M3 t q)[0]? = some (oc t) := rfl
    have hset2 : ∀ l r : List Nat, (M3 l q).set 0 (oc r) = M3 r q := fun _ _ => rfl
    have hget3 : ∀ l r : List Nat, (M3 l r)[2]? = some (oc r) := fun _ _ => rfl
    have hset3 : ∀ l r p : List Nat, (M3 l r).set 2 (oc p) = M3 l p := fun _ _ _ => rfl
    rw [hM]
    have hd4 := hd (j + n)
    obtain ⟨w, w1, w2⟩ := u_sub_dn (tk := .other) (t := t.getD (j + n) 0) (y := c + b) hd4 (by omega)
    simp (disch := omega) only [u_add, Option.bind_some, i_add, index_arr, load_at hget2, c_dg, n_lss, w1, w2, store_at hget2, hset2]
    rw [ifA_dec]
    by_cases hc1 : t.getD (j + n) 0 < c + b
    · rw [if_pos hc1]
      rw [if_pos hc1] at i2 hdB
      have hd5 : Dg (t.set (j + n) (t.getD (j + n) 0 + 4294967296 - (c + b))) := hd.set _ _ (by omega)
      have m1 := W125_41 v (t.set (j + n) (t.getD (j + n) 0 + 4294967296 - (c + b))) (M3 (t.set (j + n) (t.getD (j + n) 0 + 4294967296 - (c + b))) q) (K125_41 K) x9 (.arr 2 0 mm none) (.int .u64 (g - 1 : Nat)) 0 L n j hn rfl (by rw [List.length_set]; omega) hL' (by omega) hd5 dv n 0 (by omega)
      have ha := abS_carry dv hd5 j n
      have hal := abS_length v.ds j (t.set (j + n) (t.getD (j + n) 0 + 4294967296 - (c + b))) n
      have hg0 : 0 < g := by
        apply Nat.pos_of_ne_zero
        intro e0
        rw [e0, Nat.zero_mul, Nat.add_zero] at hwn0
        have hlt := wn_lt hd j n
        have h9 : 4294967296 ^ n * 1 ≤ 4294967296 ^ n * (c + b) := Nat.mul_le_mul_left _ (by omega)
        omega
      rw [show (t.getD (j + n) 0 + 4294967296 - (c + b)) % 4294967296 = t.getD (j + n) 0 + 4294967296 - (c + b) by omega, u_sub1 (by omega) (by omega), Option.bind_some]
      rw [List.length_set] at hal
      refine Eq.trans ?_ (m1.trans ?_)
      · rfl
      generalize abS v.ds j n (t.set (j + n) (t.getD (j + n) 0 + 4294967296 - (c + b))) = w at *
      obtain ⟨w, x⟩ := w
      simp only [] at *
      obtain ⟨a1, a2⟩ := ha
      rw [hset2, K125_41_x7]
      have hget4 : (M3 w q)[0]? = some (oc w) := rfl
      rw [i_add (by omega), Option.bind_some, index_arr (by omega), Option.bind_some, load_at hget4 (by omega), Option.bind_some, c_dn, Option.bind_some, Nat.mod_eq_of_lt (by omega : x < 4294967296), dg, u32_add, Option.bind_some, Option.bind_some,
        store_at hget4 (by omega), hset2, Option.bind_some, c_dn, Option.bind_some, index_arr (by omega), Option.bind_some, store_at (hget3 _ _) (by omega), hset3, Option.bind_some, i_sub1z (by omega), Option.bind_some]
      rw [Nat.mod_eq_of_lt (by omega : g - 1 < 4294967296)]
      exact i2
    · rw [if_neg hc1]
      rw [if_neg hc1] at i2 hdB
      rw [c_dn, Option.bind_some, store_at (hget3 _ _) (by omega), hset3, Option.bind_some, i_sub1z (by omega), Option.bind_some]
      rw [show (t.getD (j + n) 0 + 4294967296 - (c + b)) % 4294967296 = t.getD (j + n) 0 - (c + b) by omega, Nat.mod_eq_of_lt g2]
      exact i2

/-! ### What is left -/
theorem W125_51 (u q : List Nat) (K : Ex → St → Option (AV × Mem)) (x13 : AV) (s L n : Nat) (du : Dg u) (hL : u.length = L) (hL' : L < 2 ^ 42) (hn : n < L) (hs : s < 32) : ∀ r i : Nat, i + r = n →
    L125_51 (.int .u64 s) (.arr 0 0 L none) x13 (.arr 3 0 n none) (.int .i64 n) (.int .i64 i) (M3 u q ++ [oc (unS u s i ++ List.replicate r 0)]) K
      = K (.exit 9) (O125_51 x13 (.arr 3 0 n none) (M3 u q ++ [oc (unS u s n)])) := by
  intro r
  induction r with
  | zero =>
    intro i hi
    have : i = n := by omega
    subst this
    rw [L125_51_eq]
    simp [binA_lss, ifA]
  | succ r ih =>
    intro i hi
    have ih := ih (i + 1) (by omega)
    have hlen := unS_length u s i
    have hd1 := du i
    have hd2 := du (i + 1)
    have b1 := un_hi hs hd1
    have b2 := un_dig (y := u.getD (i + 1) 0) hs hd1
    have b3 : u.getD (i + 1) 0 * 2 ^ (32 - s) % 4294967296 % 2 ^ (32 - s) = 0 := by rw [un_lo hs, Nat.mul_mod_left]
    have hget0 : ∀ l, (M3 u q ++ [oc l])[0]? = some (oc u) := fun _ => rfl
    have hget3 : ∀ l, (M3 u q ++ [oc l])[3]? = some (oc l) := fun _ => rfl
    have hset3 : ∀ l l', (M3 u q ++ [oc l]).set 3 (oc l') = M3 u q ++ [oc l'] := fun _ _ => rfl
    have hrow : ∀ x, (unS u s i ++ List.replicate (r + 1) 0).set i x = unS u s i ++ x :: List.replicate r 0 := by
      intro x
      rw [List.set_append_right _ _ (by omega), hlen, Nat.sub_self, List.replicate_succ, List.set_cons_zero]
    have hrow2 : ∀ x y, (unS u s i ++ x :: List.replicate r 0).set i y = unS u s i ++ y :: List.replicate r 0 := by
      intro x y
      rw [List.set_append_right _ _ (by omega), hlen, Nat.sub_self, List.set_cons_zero]
    have hrow3 : ∀ x, (unS u s i ++ x :: List.replicate r 0).getD i 0 = x := by
      intro x
      rw [List.getD_eq_getElem?_getD, List.getElem?_append_right (by omega), hlen, Nat.sub_self]
      rfl
    have hl1 : i < (unS u s i ++ List.replicate (r + 1) 0).length := by rw [List.length_append, hlen, List.length_replicate]; omega
    have hl2 : ∀ x, i < (unS u s i ++ x :: List.replicate r 0).length := by intro x; rw [List.length_append, hlen, List.length_cons, List.length_replicate]; omega
    rw [unS, List.append_assoc, List.cons_append, List.nil_append] at ih
    rw [L125_51_eq, n_lss, Option.bind_some, ifA_dec, if_pos (by omega), index_arr (by omega), Option.bind_some, load_at (hget0 _) (by omega), Option.bind_some, dg, u32_shr hs, Option.bind_some, index_arr (by omega), Option.bind_some,
      store_at (hget3 _) hl1, hset3, hrow, Option.bind_some, n_gtr0, Option.bind_some, ifA_dec]
    by_cases h0 : s > 0
    · rw [if_pos h0]
      have e32 : binA .other .sub (.int .u64 32) (.int .u64 s) = some (.int .u64 (32 - s : Nat)) := u_sub (a := 32) (by omega) (by omega)
      rw [Option.bind_some, load_at (hget3 _) (hl2 _), Option.bind_some, hrow3, i_add1 (by omega), Option.bind_some, index_arr (by omega), Option.bind_some, load_at (hget0 _) (by omega), Option.bind_some, e32, Option.bind_some, dg, dg, u32_shl (by omega) hd2, Option.bind_some,
        u32_or b1 b3 b2, Option.bind_some, Option.bind_some, store_at (hget3 _) (hl2 _), hset3, hrow2, Option.bind_some, Option.bind_some]
      exact ih
    · rw [if_neg h0, i_add1 (by omega), Option.bind_some]
      have hs0 : s = 0 := by omega
      subst hs0
      rw [show u.getD (i + 1) 0 * 2 ^ (32 - 0) % 4294967296 = 0 from Nat.mul_mod_left _ _, Nat.add_zero] at ih
      exact ih
end Go.Ab
