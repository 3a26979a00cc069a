/- Fractions as they stand in memory, and what they are worth. -/
import Derived.Test.YtlapgjmmlbnehaaAYtSr5
set_option linter.unusedVariables false
set_option linter.unusedSimpArgs false
namespace Go.Ab

/-! ### Values -/
def sgn (neg : Bool) (n : Nat) : Int := if neg then -(n : Int) else n
def qOf (neg : Bool) (n d : Nat) : Rat := mkRat (sgn neg n) d
theorem sgn_abs (neg : Bool) (n : Nat) : (sgn neg n).natAbs = n := by cases neg <;> simp [sgn]
theorem qOf_den0 (neg : Bool) (n : Nat) : qOf neg n 0 = 0 := by simp [qOf, Rat.mkRat_zero]
theorem qOf_abs {neg : Bool} {n d : Nat} (hd : d ≠ 0) : (qOf neg n d).num.natAbs = n / Nat.gcd n d := by
  rw [qOf, Rat.num_mkRat, if_neg hd, sgn_abs, Nat.gcd_comm]
  cases neg with
  | false => rfl
  | true =>
    have hdv : ((Nat.gcd n d : Nat) : Int) ∣ (n : Int) := Int.natCast_dvd_natCast.2 (Nat.gcd_dvd_left _ _)
    show (-(n : Int) / ((Nat.gcd n d : Nat) : Int)).natAbs = _
    rw [Int.neg_ediv_of_dvd hdv, Int.natAbs_neg]
    rfl
theorem qOf_den {neg : Bool} {n d : Nat} (hd : d ≠ 0) : (qOf neg n d).den = d / Nat.gcd n d := by
  rw [qOf, Rat.den_mkRat, if_neg hd, sgn_abs, Nat.gcd_comm]
theorem qOf_neg {neg : Bool} {n d : Nat} (hd : d ≠ 0) : decide ((qOf neg n d).num < 0) = (neg && decide (n / Nat.gcd n d > 0)) := by
  have hdv : ((Nat.gcd n d : Nat) : Int) ∣ (n : Int) := Int.natCast_dvd_natCast.2 (Nat.gcd_dvd_left _ _)
  have e : (qOf neg n d).num = sgn neg (n / Nat.gcd n d) := by
    rw [qOf, Rat.num_mkRat, if_neg hd, sgn_abs, Nat.gcd_comm]
    cases neg with
    | false => rfl
    | true =>
      show -(n : Int) / ((Nat.gcd n d : Nat) : Int) = _
      rw [Int.neg_ediv_of_dvd hdv]
      rfl
  rw [e]
  cases neg with
  | false =>
    rw [Bool.false_and]
    exact decide_eq_false (Int.not_lt.2 (Int.natCast_nonneg _))
  | true =>
    simp only [sgn, if_true, Bool.true_and]
    exact decide_eq_decide.2 (by omega)
theorem qOf_add {s t : Bool} {n d k e : Nat} (hd : d ≠ 0) (he : e ≠ 0) : qOf s n d + qOf t k e = mkRat (sgn s (n * e) + sgn t (k * d)) (d * e) := by
  rw [qOf, qOf, Rat.mkRat_add_mkRat _ _ hd he]
  congr 1
  cases s <;> cases t <;> simp [sgn, Int.natCast_mul, Int.neg_mul]
theorem sgn_same {s : Bool} {x y : Nat} : sgn s x + sgn s y = sgn s (x + y) := by cases s <;> simp [sgn] <;> omega
theorem sgn_gt {s t : Bool} {x y : Nat} (h : s ≠ t) (hxy : ¬ x < y) : sgn s x + sgn t y = sgn s (x - y) := by
  cases s <;> cases t <;> simp [sgn] at h ⊢ <;> omega
theorem sgn_lt {s t : Bool} {x y : Nat} (h : s ≠ t) (hxy : x < y) : sgn s x + sgn t y = sgn t (y - x) := by
  cases s <;> cases t <;> simp [sgn] at h ⊢ <;> omega

/-! ### Fractions in memory -/
structure RV where
  neg : Bool
  num : NV
  den : NV
def RV.av (r : RV) : AV := .agg [.bool r.neg, r.num.av, r.den.av]
def RV.fr (r : RV) : RV := ⟨r.neg, r.num.fr, r.den.fr⟩
def RV.q (r : RV) : Rat := qOf r.neg r.num.v r.den.v
structure ROk (k : Nat) (r : RV) : Prop where
  num : NOk r.num
  den : NOk r.den
  ln : r.num.ds.length ≤ k
  ld : r.den.ds.length ≤ k
theorem ROk.fr {k : Nat} {r : RV} (h : ROk k r) : ROk k r.fr := ⟨h.num.fr, h.den.fr, h.ln, h.ld⟩
theorem ROk.mono {k k' : Nat} {r : RV} (h : ROk k r) (hk : k ≤ k') : ROk k' r := ⟨h.num, h.den, Nat.le_trans h.ln hk, Nat.le_trans h.ld hk⟩
theorem RV.fr_q (r : RV) : r.fr.q = r.q := rfl
theorem fz_rv (r : RV) : Fz r.av r.fr.av := by
  intro m
  have e : frz m fuelF r.av = (mapF (frz m 8) [.bool r.neg, r.num.av, r.den.av]).map fun r => (.agg r.1, r.2) := rfl
  rw [e]
  simp [mapF, fza_bool r.neg m 7, fza_nv r.num m 7, fza_nv r.den m 7, RV.fr, RV.av]
theorem noV_rv (r : RV) : noV r.av = true := by simp [RV.av, noV, noVL, NV.av]
/-- The fraction stands in lowest terms for q. -/
structure Can (r : RV) (q : Rat) : Prop where
  neg : r.neg = decide (q.num < 0)
  num : r.num.ds = digs q.num.natAbs
  den : r.den.ds = digs q.den
  numz : r.num.z = true → r.num.ds = []
  denz : r.den.z = true → r.den.ds = []
theorem Can.q {r : RV} {q : Rat} (h : Can r q) : r.q = q := by
  rw [RV.q, NV.v, NV.v, h.num, h.den, val_digs, val_digs, h.neg, qOf]
  have e : sgn (decide (q.num < 0)) q.num.natAbs = q.num := by
    by_cases hq : q.num < 0
    · simp [sgn, hq]; omega
    · simp [sgn, hq]; omega
  rw [e]
  exact Rat.mkRat_self q
def Bd (k : Nat) (q : Rat) : Prop := (digs q.num.natAbs).length ≤ k ∧ (digs q.den).length ≤ k
theorem Can.ok {r : RV} {q : Rat} {k : Nat} (h : Can r q) (hb : Bd k q) (hk : k < 2 ^ 40) : ROk k r := by
  refine ⟨⟨by rw [h.num]; exact dg_digs _, by rw [h.num]; exact Nat.lt_of_le_of_lt hb.1 hk, h.numz⟩, ⟨by rw [h.den]; exact dg_digs _, by rw [h.den]; exact Nat.lt_of_le_of_lt hb.2 hk, h.denz⟩, by rw [h.num]; exact hb.1, by rw [h.den]; exact hb.2⟩
theorem Can.den0 {r : RV} {q : Rat} (h : Can r q) : r.den.v ≠ 0 := by
  rw [NV.v, h.den, val_digs]; exact q.den_nz
/-! ### How long -/
theorem ln_mul {a b i j : Nat} (ha : (digs a).length ≤ i) (hb : (digs b).length ≤ j) : (digs (a * b)).length ≤ i + j := by
  refine digs_length_le ?_
  have h1 := val_lt (dg_digs a)
  have h2 := val_lt (dg_digs b)
  rw [val_digs] at h1 h2
  have h3 : 4294967296 ^ (digs a).length ≤ 4294967296 ^ i := Nat.pow_le_pow_right (by omega) ha
  have h4 : 4294967296 ^ (digs b).length ≤ 4294967296 ^ j := Nat.pow_le_pow_right (by omega) hb
  rw [Nat.pow_add]
  exact Nat.mul_lt_mul'' (by omega) (by omega)
theorem ln_add {a b i : Nat} (ha : (digs a).length ≤ i) (hb : (digs b).length ≤ i) : (digs (a + b)).length ≤ i + 1 := by
  refine digs_length_le ?_
  have h1 := val_lt (dg_digs a)
  have h2 := val_lt (dg_digs b)
  rw [val_digs] at h1 h2
  have h3 : 4294967296 ^ (digs a).length ≤ 4294967296 ^ i := Nat.pow_le_pow_right (by omega) ha
  have h4 : 4294967296 ^ (digs b).length ≤ 4294967296 ^ i := Nat.pow_le_pow_right (by omega) hb
  rw [Nat.pow_succ]
  omega
theorem ln_one : (digs 1).length ≤ 1 := digs_length_le (by omega)
theorem Bd_qOf {neg : Bool} {n d k : Nat} (hn : (digs n).length ≤ k) (hd : (digs d).length ≤ k) (hk : 1 ≤ k) : Bd k (qOf neg n d) := by
  by_cases h0 : d = 0
  · subst h0
    rw [qOf_den0]
    refine ⟨?_, ?_⟩
    · show (digs 0).length ≤ k
      rw [digs_zero]; exact Nat.zero_le _
    · show (digs 1).length ≤ k
      exact Nat.le_trans ln_one hk
  · refine ⟨?_, ?_⟩
    · rw [qOf_abs h0]; exact Nat.le_trans (digs_mono (Nat.div_le_self _ _)) hn
    · rw [qOf_den h0]; exact Nat.le_trans (digs_mono (Nat.div_le_self _ _)) hd
theorem Bd.mono {k k' : Nat} {q : Rat} (h : Bd k q) (hk : k ≤ k') : Bd k' q := ⟨Nat.le_trans h.1 hk, Nat.le_trans h.2 hk⟩
theorem qOf_self (q : Rat) : qOf (decide (q.num < 0)) q.num.natAbs q.den = q := by
  have e : sgn (decide (q.num < 0)) q.num.natAbs = q.num := by
    by_cases hq : q.num < 0
    · simp [sgn, hq]; omega
    · simp [sgn, hq]; omega
  rw [qOf, e]
  exact Rat.mkRat_self q
theorem mk_sgn (x : Int) : ∃ s n, x = sgn s n ∧ n = x.natAbs := ⟨decide (x < 0), x.natAbs, by
  by_cases hq : x < 0
  · simp [sgn, hq]; omega
  · simp [sgn, hq]; omega, rfl⟩
theorem Bd_add {p q : Rat} {k l : Nat} (hp : Bd k p) (hq : Bd l q) (hk : 1 ≤ k) : Bd (k + l + 1) (p + q) := by
  have h1 := ln_mul hp.1 hq.2
  have h2 := ln_mul hq.1 hp.2
  rw [← qOf_self p, ← qOf_self q, qOf_add p.den_nz q.den_nz]
  obtain ⟨s, n, e1, e2⟩ := mk_sgn (sgn (decide (p.num < 0)) (p.num.natAbs * q.den) + sgn (decide (q.num < 0)) (q.num.natAbs * p.den))
  have hle : n ≤ p.num.natAbs * q.den + q.num.natAbs * p.den := by
    rw [e2]
    refine Nat.le_trans (Int.natAbs_add_le _ _) ?_
    rw [sgn_abs, sgn_abs]
    exact Nat.le_refl _
  have h2' : (digs (q.num.natAbs * p.den)).length ≤ k + l := by omega
  have h3 := ln_add h1 h2'
  rw [e1, ← qOf]
  exact Bd_qOf (Nat.le_trans (digs_mono hle) h3) (Nat.le_trans (ln_mul hp.2 hq.2) (by omega)) (by omega)
theorem Bd_zero {k : Nat} (hk : 1 ≤ k) : Bd k 0 := ⟨by show (digs 0).length ≤ k; rw [digs_zero]; exact Nat.zero_le _, Nat.le_trans (by show (digs 1).length ≤ 1; exact ln_one) hk⟩
theorem Bd_one {k : Nat} (hk : 1 ≤ k) : Bd k 1 := ⟨Nat.le_trans (by show (digs 1).length ≤ 1; exact ln_one) hk, Nat.le_trans (by show (digs 1).length ≤ 1; exact ln_one) hk⟩
theorem ROk.bd {k : Nat} {r : RV} (h : ROk k r) (hk : 1 ≤ k) : Bd k r.q := Bd_qOf (Nat.le_trans h.num.v_len h.ln) (Nat.le_trans h.den.v_len h.ld) hk

/-! ### In lowest terms? -/
def rightR (r : RV) : Bool := canB r.num.ds && (canB r.den.ds && (decide (r.den.v ≠ 0) && (!(decide (r.num.v = 0) && r.neg) && decide (Nat.gcd r.num.v r.den.v = 1))))
end Go.Ab
