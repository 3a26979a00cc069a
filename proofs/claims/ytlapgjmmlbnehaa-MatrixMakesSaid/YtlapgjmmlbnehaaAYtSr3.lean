/- The reference's division, in values. -/
import Derived.Test.YtlapgjmmlbnehaaAYtSr2
set_option linter.unusedVariables false
set_option linter.unusedSimpArgs false
set_option maxRecDepth 100000
namespace Go.Ab
open Go.Proofs.Try

/-! ### times -/
def timS (b : List Nat) (d s : Nat) : Nat → List Nat × Nat
  | 0 => (List.replicate s 0, 0)
  | i + 1 => ((timS b d s i).1 ++ [(b.getD i 0 * d + (timS b d s i).2) % 4294967296], (b.getD i 0 * d + (timS b d s i).2) / 4294967296)
theorem timS_length (b : List Nat) (d s : Nat) : ∀ i, (timS b d s i).1.length = s + i
  | 0 => by simp [timS]
  | i + 1 => by simp only [timS, List.length_append, timS_length b d s i, List.length_cons, List.length_nil]; omega
theorem timS_carry {b : List Nat} {d : Nat} (hb : Dg b) (hd : d < 4294967296) (s : Nat) : ∀ i, (timS b d s i).2 < 4294967296
  | 0 => by simp [timS]
  | i + 1 => by
    have := timS_carry hb hd s i
    have h1 := hb i
    have h5 : b.getD i 0 * d ≤ 4294967295 * 4294967295 := Nat.mul_le_mul (by omega) (by omega)
    simp only [timS]
    omega
theorem timS_dg (b : List Nat) (d s : Nat) : ∀ i, Dg (timS b d s i).1
  | 0 => dg_rep _
  | i + 1 => dg_app (timS_dg b d s i) (dg_one (Nat.mod_lt _ (by omega)))
theorem timS_val (b : List Nat) (d s : Nat) : ∀ i, val (timS b d s i).1 + 4294967296 ^ (s + i) * (timS b d s i).2 = 4294967296 ^ s * (vs b i * d)
  | 0 => by simp [timS, val_rep, vs_zero]
  | i + 1 => by
    have ih := timS_val b d s i
    simp only [timS, val_app, timS_length, val, vs_succ]
    have h1 := pmd (4294967296 ^ (s + i)) 4294967296 (b.getD i 0 * d + (timS b d s i).2)
    generalize hw : b.getD i 0 * d + (timS b d s i).2 = w at *
    rw [← hw, Nat.mul_add, hw] at h1
    have e : 4294967296 ^ s * ((vs b i + 4294967296 ^ i * b.getD i 0) * d) = 4294967296 ^ s * (vs b i * d) + 4294967296 ^ (s + i) * (b.getD i 0 * d) := by
      rw [Nat.add_mul, Nat.mul_add, Nat.pow_add, Nat.mul_assoc, Nat.mul_assoc]
    rw [e, ← ih, ← Nat.add_assoc, Nat.pow_succ, Nat.mul_zero, Nat.add_zero]
    omega
def tV (m : Mem) (i : Nat) (ds : List Nat) : NV := if i = 0 then ⟨false, .full, ds⟩ else ⟨false, .tok m.length 116, ds⟩
def tM (m : Mem) (i : Nat) (ds : List Nat) : Mem := if i = 0 then m else tokM m ds.length
theorem app_t {m : Mem} {i : Nat} {ds : List Nat} {v : Nat} (h : (ds.length + 1) * 4 ≤ roomA) : appA none false 116 none 4 (tM m i ds) (tV m i ds).av (.lst none false .full [.int .u32 v]) = some ((tV m (i + 1) (ds ++ [v])).av, tM m (i + 1) (ds ++ [v])) := by
  by_cases hi : i = 0
  · subst hi
    simp only [tV, tM, if_true, NV.av, appA, List.length_map, List.length_cons, List.length_nil, Nat.zero_add, h, newAt, tokM, Sh.size, Bool.false_eq_true, if_false, true_or, List.map_append, List.map_cons, List.map_nil, dg, List.length_append, Nat.add_eq_zero_iff, Nat.one_ne_zero, and_false, Nat.succ_ne_zero]
  · have := app_tok (e := 116) (b := 4) (m := m) (es := ds.map dg) (z := false) (o := .full) (y := .int .u32 v) (by rw [List.length_map]; exact h)
    rw [List.length_map] at this
    simp only [tV, tM, if_neg hi, NV.av, if_neg (Nat.succ_ne_zero i)]
    rw [this]
    simp [dg]
theorem W131 (x : NV) (d s : Nat) (m : Mem) (K : Ex → St → Option (AV × Mem)) (hl : x.ds.length < 2 ^ 40) (dx : Dg x.ds) (hd : d < 4294967296) (hs : s < 2 ^ 40) : ∀ j i : Nat, i + j = x.ds.length →
    L131_4 x.av (.int .u64 d) (tV m i (timS x.ds d s i).1).av (.int .u64 (timS x.ds d s i).2) (.int .i64 i) (tM m i (timS x.ds d s i).1) K
      = K (.exit 0) (O131_4 (tV m x.ds.length (timS x.ds d s x.ds.length).1).av (.int .u64 (timS x.ds d s x.ds.length).2) (tM m x.ds.length (timS x.ds d s x.ds.length).1)) := by
  intro j
  induction j with
  | zero =>
    intro i hi
    have : i = x.ds.length := by omega
    subst this
    rw [L131_4_eq, len_nv, Option.bind_some, n_lss, Option.bind_some, ifA_dec, if_neg (by omega)]
  | succ j ih =>
    intro i hi
    have ih := ih (i + 1) (by omega)
    have h1 := dx i
    have h2 := timS_carry dx hd s i
    have hlen := timS_length x.ds d s i
    have h5 : x.ds.getD i 0 * d ≤ 4294967295 * 4294967295 := Nat.mul_le_mul (by omega) (by omega)
    simp only [timS] at ih
    rw [L131_4_eq, len_nv, Option.bind_some, n_lss, Option.bind_some, ifA_dec, if_pos (by omega), index_nv (by omega), Option.bind_some, load_v, Option.bind_some, c_dg _ h1, Option.bind_some, u_mul (by omega), Option.bind_some, u_add (by omega), Option.bind_some, u_remB (by omega), Option.bind_some, c_dn, Option.bind_some, mod_mod', build_u32, Option.bind_some,
      app_t (by rw [hlen]; simp only [roomA]; omega), Option.bind_some, u_quoB (by omega), Option.bind_some, i_add1 (by omega), Option.bind_some]
    exact ih
theorem V131 {x : NV} {d s : Nat} (hx : NOk x) (hd : d < 4294967296) (hs : s < 2 ^ 40) : AP cfg 131 [x.av, .int .u64 d, .int .i64 s] = some (refN (4294967296 ^ s * (x.v * d))).av := by
  have lx := hx.len
  have hlen := timS_length x.ds d s x.ds.length
  have hc := timS_carry hx.dg hd s x.ds.length
  have hv := timS_val x.ds d s x.ds.length
  rw [vs_all (Nat.le_refl _)] at hv
  have hdg : Dg ((timS x.ds d s x.ds.length).1 ++ [(timS x.ds d s x.ds.length).2]) := dg_app (timS_dg _ _ _ _) (dg_one hc)
  have hmk : makeT none none (.int .u32 0) 4 [] (.int .i64 s) (.int .i64 s) = some ((NV.mk false .full (List.replicate s 0)).av, []) := by
    have h1 : (s : Int) * 4 ≤ 281474976710656 := by omega
    have h2 : (s : Int) ≤ 9223372036854775807 := by omega
    have h3 : (0 : Int) ≤ s := by omega
    simp only [makeT, NV.av, List.map_replicate, dg]
    rw [if_pos ⟨⟨h3, trivial, h1, h2⟩, rfl, rfl⟩]
    rfl
  refine AP_ofz _ _ (fz_ref _) (noV_nv _) (m := tM [] (x.ds.length + 1) ((timS x.ds d s x.ds.length).1 ++ [(timS x.ds d s x.ds.length).2])) ?_
  rw [T131, hmk, Option.bind_some]
  refine (W131 x d s [] _ lx hx.dg hd hs x.ds.length 0 (by omega)).trans ?_
  have hfz : Fz (tV [] (x.ds.length + 1) ((timS x.ds d s x.ds.length).1 ++ [(timS x.ds d s x.ds.length).2])).av (NV.mk false .no ((timS x.ds d s x.ds.length).1 ++ [(timS x.ds d s x.ds.length).2])).av := by
    have := fz_nv (tV [] (x.ds.length + 1) ((timS x.ds d s x.ds.length).1 ++ [(timS x.ds d s x.ds.length).2]))
    unfold tV at this ⊢
    rw [if_neg (by omega)] at this ⊢
    exact this
  rw [K131_4_x0, c_dn, Option.bind_some, build_u32, Option.bind_some, Nat.mod_eq_of_lt hc, app_t (by rw [hlen]; simp only [roomA]; omega), Option.bind_some, pcall1 hfz, P103 _ hdg (by simp only [List.length_append, hlen, List.length_cons, List.length_nil]; omega)]
  simp only [Option.map_some, Option.bind_some, NV.v] at hv ⊢
  rw [val_app, hlen, val, val, Nat.mul_zero, Nat.add_zero, hv]

/-! ### guess -/
theorem q_le {a b p q top lead : Nat} (hq : q * b ≤ a) (ha : a < (top + 1) * p) (hb : lead * p ≤ b) (hl : 0 < lead) : q ≤ top / lead := by
  rw [Nat.le_div_iff_mul_le hl]
  have h1 : q * lead * p ≤ q * b := by rw [Nat.mul_assoc]; exact Nat.mul_le_mul_left _ hb
  have h2 : q * lead * p < (top + 1) * p := by omega
  have := Nat.lt_of_mul_lt_mul_right h2
  omega
theorem q_ge {a b p top lead : Nat} (ha : top * p ≤ a) (hb : b ≤ (lead + 1) * p) (hb0 : 0 < b) : top / (lead + 1) ≤ a / b := by
  rw [Nat.le_div_iff_mul_le hb0]
  have h1 : top / (lead + 1) * b ≤ top / (lead + 1) * ((lead + 1) * p) := Nat.mul_le_mul_left _ hb
  rw [← Nat.mul_assoc] at h1
  have h2 : top / (lead + 1) * (lead + 1) * p ≤ top * p := Nat.mul_le_mul_right _ (Nat.div_mul_le_self _ _)
  omega
/-- The first two digits from n + i on bound what all are worth. -/
theorem two_top {a : List Nat} {k : Nat} (ha : Dg a) (h : val a < 4294967296 ^ (k + 2)) : (a.getD (k + 1) 0 * 4294967296 + a.getD k 0) * 4294967296 ^ k ≤ val a ∧ val a < (a.getD (k + 1) 0 * 4294967296 + a.getD k 0 + 1) * 4294967296 ^ k := by
  have h1 : val a = vs a (k + 2) := by
    have hz : ∀ j, vs a (k + 2 + j) = vs a (k + 2) := by
      intro j
      induction j with
      | zero => rfl
      | succ j ih =>
        rw [← Nat.add_assoc, vs_succ, ih]
        have hle := vs_le a (k + 2 + j + 1)
        rw [vs_succ] at hle
        have hp : 4294967296 ^ (k + 2) ≤ 4294967296 ^ (k + 2 + j) := Nat.pow_le_pow_right (by omega) (by omega)
        have h0 : a.getD (k + 2 + j) 0 = 0 := by
          apply Classical.byContradiction
          intro hn
          have : 4294967296 ^ (k + 2 + j) * 1 ≤ 4294967296 ^ (k + 2 + j) * a.getD (k + 2 + j) 0 := Nat.mul_le_mul_left _ (by omega)
          omega
        rw [h0, Nat.mul_zero, Nat.add_zero]
    rw [← vs_all (a := a) (i := k + 2 + a.length) (by omega)]
    exact hz a.length
  have h2 := vs_lt ha k
  rw [h1, vs_succ, vs_succ, Nat.pow_succ, Nat.add_mul _ 1, Nat.add_mul, Nat.mul_assoc, Nat.mul_comm (4294967296 ^ k) (a.getD k 0), Nat.mul_comm (4294967296 ^ k) 4294967296, Nat.mul_comm (4294967296 * 4294967296 ^ k)]
  omega
theorem V130 {x y : NV} {i n : Nat} (hx : NOk x) (hy : NOk y) (hi : i < 2 ^ 40) (hn : y.ds.length = n) (hn1 : 1 ≤ n) (hlead : y.ds.getD (n - 1) 0 ≠ 0) (hq : x.v / (y.v * 4294967296 ^ i) < 4294967296) :
    ∃ lo hi : Nat, AP cfg 130 [x.av, y.av, .int .i64 i] = some (.tup [.int .u64 lo, .int .u64 hi]) ∧ lo ≤ x.v / (y.v * 4294967296 ^ i) ∧ x.v / (y.v * 4294967296 ^ i) ≤ hi ∧ hi < 4294967296 := by
  have lx := hx.len
  have ly := hy.len
  obtain ⟨k, rfl⟩ : ∃ k, n = k + 1 := ⟨n - 1, by omega⟩
  rw [Nat.add_sub_cancel] at hlead
  have hyv : y.v = vs y.ds k + 4294967296 ^ k * y.ds.getD k 0 := by rw [NV.v, ← vs_all (Nat.le_of_eq hn), vs_succ]
  have hlo := vs_lt hy.dg k
  have hld := hy.dg k
  have hpi : 0 < 4294967296 ^ i := Nat.pow_pos (by omega)
  have hpk : 0 < 4294967296 ^ k := Nat.pow_pos (by omega)
  have hyp : 0 < y.v := by
    rw [hyv]
    have : 4294967296 ^ k * 1 ≤ 4294967296 ^ k * y.ds.getD k 0 := Nat.mul_le_mul_left _ (by omega)
    omega
  have hb0 : 0 < y.v * 4294967296 ^ i := Nat.mul_pos hyp hpi
  have hb1 : y.ds.getD k 0 * 4294967296 ^ (k + i) ≤ y.v * 4294967296 ^ i := by
    rw [Nat.pow_add, ← Nat.mul_assoc]
    exact Nat.mul_le_mul_right _ (by rw [hyv, Nat.mul_comm]; omega)
  have hb2 : y.v * 4294967296 ^ i ≤ (y.ds.getD k 0 + 1) * 4294967296 ^ (k + i) := by
    rw [Nat.pow_add, ← Nat.mul_assoc]
    refine Nat.mul_le_mul_right _ ?_
    rw [hyv, Nat.add_mul, Nat.one_mul, Nat.mul_comm]
    omega
  have hxlt : val x.ds < 4294967296 ^ (k + i + 2) := by
    rw [Nat.div_lt_iff_lt_mul hb0] at hq
    have h1 : (y.ds.getD k 0 + 1) * 4294967296 ^ (k + i) ≤ 4294967296 * 4294967296 ^ (k + i) := Nat.mul_le_mul_right _ hld
    have h2 : 4294967296 * (y.v * 4294967296 ^ i) ≤ 4294967296 * (4294967296 * 4294967296 ^ (k + i)) := Nat.mul_le_mul_left _ (Nat.le_trans hb2 h1)
    rw [Nat.pow_succ, Nat.pow_succ]
    have h3 : 4294967296 ^ (k + i) * 4294967296 * 4294967296 = 4294967296 * (4294967296 * 4294967296 ^ (k + i)) := by
      rw [Nat.mul_comm, Nat.mul_comm (4294967296 ^ (k + i))]
    rw [h3]
    exact Nat.lt_of_lt_of_le hq h2
  obtain ⟨t1, t2⟩ := two_top hx.dg hxlt
  have d1 := hx.dg (k + i + 1)
  have d2 := hx.dg (k + i)
  have qle : x.v / (y.v * 4294967296 ^ i) ≤ (x.ds.getD (k + i + 1) 0 * 4294967296 + x.ds.getD (k + i) 0) / y.ds.getD k 0 := q_le (Nat.div_mul_le_self _ _) t2 hb1 (by omega)
  have qge : (x.ds.getD (k + i + 1) 0 * 4294967296 + x.ds.getD (k + i) 0) / (y.ds.getD k 0 + 1) ≤ x.v / (y.v * 4294967296 ^ i) := q_ge t1 hb2 hb0
  have hfz := fz_tup2 (fza_int .u64 0) (fza_int .u64 0)
  have key : ∃ lo hi : Nat, AC cfg 130 [x.av, y.av, .int .i64 i] [] = some (.tup [.int .u64 lo, .int .u64 hi], []) ∧ lo ≤ x.v / (y.v * 4294967296 ^ i) ∧ x.v / (y.v * 4294967296 ^ i) ≤ hi ∧ hi < 4294967296 := by
    have e1 : i + (k + 1) = k + i + 1 := by omega
    have uB : ∀ a : Nat, binA .other .lss (.int .u64 a) (.int .u64 4294967295) = some (.bool (decide (a < 4294967295))) := fun a => n_lss (b := 4294967295)
    have u0 : ∀ a : Nat, binA .other .gtr (.int .u64 0) (.int .u64 a) = some (.bool (decide (0 > a))) := fun a => n_gtr (a := 0)
    have u0B : binA .other .gtr (.int .u64 0) (.int .u64 4294967295) = some (.bool false) := rfl
    have uaB : ∀ a : Nat, binA .other .gtr (.int .u64 a) (.int .u64 4294967295) = some (.bool (decide (a > 4294967295))) := fun a => n_gtr (b := 4294967295)
    have ua1 : ∀ a : Nat, a < 4294967296 → binA .other .add (.int .u64 a) (.int .u64 1) = some (.int .u64 (a + 1 : Nat)) := fun a h => u_add (b := 1) (by omega)
    rw [T130, len_nv, hn, Option.bind_some, i_add (by omega), Option.bind_some, pcall2 (fz_nv x) (fz_int _ _), V133 hx.fr (by omega), Option.map_some, Option.bind_some]
    rw [show x.fr.ds = x.ds from rfl, e1, u_shl32 (hx.dg _), Option.bind_some, Option.bind_some, i_sub1 (by omega) (by omega), Option.bind_some, Nat.add_sub_cancel, pcall2 (fz_nv x) (fz_int _ _), V133 hx.fr (by omega), Option.map_some, Option.bind_some]
    rw [show x.fr.ds = x.ds from rfl, u_orlo (hx.dg _) (hx.dg _), Option.bind_some, i_sub1 (by omega) (by omega), Option.bind_some, Nat.add_sub_cancel, index_nv (by omega), Option.bind_some, load_v, Option.bind_some, c_dg _ hld, Option.bind_some, u_quo (by omega) (by omega), Option.bind_some, uB, Option.bind_some, ifA_dec]
    have hdl := Nat.div_le_self (x.ds.getD (k + i + 1) 0 * 4294967296 + x.ds.getD (k + i) 0) (y.ds.getD k 0 + 1)
    have uq : binA .other .quo (.int .u64 (x.ds.getD (k + i + 1) 0 * 4294967296 + x.ds.getD (k + i) 0 : Nat)) (.int .u64 (y.ds.getD k 0 + 1 : Nat)) = some (.int .u64 ((x.ds.getD (k + i + 1) 0 * 4294967296 + x.ds.getD (k + i) 0) / (y.ds.getD k 0 + 1) : Nat)) := u_quo (by omega) (by omega)
    by_cases c1 : (x.ds.getD (k + i + 1) 0 * 4294967296 + x.ds.getD (k + i) 0) / y.ds.getD k 0 < 4294967295
    · rw [if_pos c1, Option.bind_some, ua1 _ hld, Option.bind_some, n_lssB, Option.bind_some, ifA_dec]
      by_cases c2 : y.ds.getD k 0 + 1 < 4294967296
      · rw [if_pos c2, Option.bind_some, uq, Option.bind_some, n_lssB, Option.bind_some, ifA_dec]
        by_cases c3 : (x.ds.getD (k + i + 1) 0 * 4294967296 + x.ds.getD (k + i) 0) / (y.ds.getD k 0 + 1) < 4294967296
        · rw [if_pos c3, Option.bind_some, uq, Option.bind_some, n_gtr, Option.bind_some, ifA_dec, if_neg (by omega)]
          exact ⟨_, _, rfl, qge, qle, by omega⟩
        · rw [if_neg c3, u0, Option.bind_some, ifA_dec, if_neg (Nat.not_lt_zero _)]
          exact ⟨0, _, rfl, Nat.zero_le _, qle, by omega⟩
      · rw [if_neg c2, u0, Option.bind_some, ifA_dec, if_neg (Nat.not_lt_zero _)]
        exact ⟨0, _, rfl, Nat.zero_le _, qle, by omega⟩
    · rw [if_neg c1, ua1 _ hld, Option.bind_some, n_lssB, Option.bind_some, ifA_dec]
      by_cases c2 : y.ds.getD k 0 + 1 < 4294967296
      · rw [if_pos c2, Option.bind_some, uq, Option.bind_some, n_lssB, Option.bind_some, ifA_dec]
        by_cases c3 : (x.ds.getD (k + i + 1) 0 * 4294967296 + x.ds.getD (k + i) 0) / (y.ds.getD k 0 + 1) < 4294967296
        · rw [if_pos c3, Option.bind_some, uq, Option.bind_some, uaB, Option.bind_some, ifA_dec, if_neg (by omega)]
          exact ⟨_, 4294967295, rfl, qge, by omega, by omega⟩
        · rw [if_neg c3, u0B, Option.bind_some, ifA_false]
          exact ⟨0, 4294967295, rfl, Nat.zero_le _, by omega, by omega⟩
      · rw [if_neg c2, u0B, Option.bind_some, ifA_false]
        exact ⟨0, 4294967295, rfl, Nat.zero_le _, by omega, by omega⟩
  obtain ⟨lo, hi', k1, k2⟩ := key
  exact ⟨lo, hi', AP_ofz _ _ (fz_tup2 (fza_int _ _) (fza_int _ _)) rfl k1, k2⟩
end Go.Ab
