/- Division of numbers by digits: short division, shifts, and the long one. -/
import Derived.Test.YtlapgjmmlbnehaaAAbNum
set_option linter.unusedVariables false
set_option linter.unusedSimpArgs false
namespace Go.Ab

/-! ### By one digit -/
def shS (a : List Nat) (d : Nat) : Nat → List Nat × Nat
  | 0 => (List.replicate a.length 0, 0)
  | k + 1 => ((shS a d k).1.set (a.length - 1 - k) (((shS a d k).2 * 4294967296 + a.getD (a.length - 1 - k) 0) / d), ((shS a d k).2 * 4294967296 + a.getD (a.length - 1 - k) 0) % d)
theorem shS_length (a : List Nat) (d : Nat) : ∀ k, (shS a d k).1.length = a.length
  | 0 => by simp [shS]
  | k + 1 => by simp [shS, shS_length a d k]
theorem shS_rest {a : List Nat} {d : Nat} (hd : 0 < d) : ∀ k, (shS a d k).2 < d
  | 0 => hd
  | k + 1 => Nat.mod_lt _ hd
theorem shS_quo {a : List Nat} {d : Nat} (ha : Dg a) (hd : 0 < d) (k i : Nat) : ((shS a d k).2 * 4294967296 + a.getD i 0) / d < 4294967296 := by
  have h1 := shS_rest (a := a) hd k
  have h2 := ha i
  rw [Nat.div_lt_iff_lt_mul hd]
  have : ((shS a d k).2 + 1) * 4294967296 ≤ d * 4294967296 := Nat.mul_le_mul_right _ h1
  rw [Nat.mul_comm 4294967296 d]
  omega
theorem shS_dg {a : List Nat} {d : Nat} (ha : Dg a) (hd : 0 < d) : ∀ k, Dg (shS a d k).1
  | 0 => dg_rep _
  | k + 1 => (shS_dg ha hd k).set _ _ (shS_quo ha hd k _)
theorem shS_keep (a : List Nat) (d j : Nat) : ∀ k, j + k < a.length → (shS a d k).1.getD j 0 = 0
  | 0, _ => getD_rep _ _
  | k + 1, h => by
    rw [shS]
    simp only []
    rw [getD_set_ne (by omega)]
    exact shS_keep a d j k (by omega)
theorem shS_val {a : List Nat} {d : Nat} (hd : 0 < d) : ∀ k, k ≤ a.length → val (shS a d k).1 * d + 4294967296 ^ (a.length - k) * (shS a d k).2 + vs a (a.length - k) = val a
  | 0, _ => by simp [shS, val_rep, vs_all]
  | k + 1, h => by
    have ih := shS_val (a := a) hd k (by omega)
    obtain ⟨i, hi⟩ : ∃ i, i = a.length - 1 - k := ⟨_, rfl⟩
    have e1 : a.length - k = i + 1 := by omega
    have e2 : a.length - (k + 1) = i := by omega
    have hk := shS_keep a d i k (by omega)
    have hl := shS_length a d k
    rw [e1, vs_succ, Nat.pow_succ] at ih
    rw [e2, shS, ← hi]
    generalize shS a d k = t at *
    simp only []
    have h1 := val_set t.1 i ((t.2 * 4294967296 + a.getD i 0) / d) (by omega)
    rw [hk, Nat.mul_zero, Nat.add_zero] at h1
    rw [h1, Nat.add_mul, Nat.mul_assoc, Nat.add_assoc (val t.1 * d), ← Nat.mul_add, Nat.mul_comm (_ / _) d, Nat.div_add_mod]
    rw [← ih, Nat.mul_add]
    have : 4294967296 ^ i * (t.2 * 4294967296) = 4294967296 ^ i * 4294967296 * t.2 := by rw [Nat.mul_comm t.2, Nat.mul_assoc]
    omega
def shortL (a : List Nat) (d : Nat) : List Nat := tr (shS a d a.length).1
theorem short_eq {a : List Nat} {d : Nat} (ha : Dg a) (hd : 0 < d) : shortL a d = digs (val a / d) ∧ (shS a d a.length).2 = val a % d := by
  have h := shS_val (a := a) hd a.length (Nat.le_refl _)
  have h2 := shS_rest (a := a) hd a.length
  simp only [Nat.sub_self, Nat.pow_zero, Nat.one_mul, vs_zero, Nat.add_zero] at h
  rw [shortL, tr_eq (shS_dg ha hd _)]
  have e : val a / d = val (shS a d a.length).1 ∧ val a % d = (shS a d a.length).2 := by
    rw [← h]
    constructor
    · rw [Nat.mul_comm, Nat.mul_add_div hd, Nat.div_eq_of_lt h2]; rfl
    · rw [Nat.mul_comm, Nat.mul_add_mod, Nat.mod_eq_of_lt h2]
  exact ⟨by rw [e.1], e.2.symm⟩

/-! ### Windows -/
/-- What i digits from j on are worth. -/
def wn (u : List Nat) (j : Nat) : Nat → Nat
  | 0 => 0
  | i + 1 => wn u j i + 4294967296 ^ i * u.getD (j + i) 0
theorem wn_vs (u : List Nat) : ∀ i, wn u 0 i = vs u i
  | 0 => rfl
  | i + 1 => by rw [wn, wn_vs u i, vs_succ, Nat.zero_add]
theorem wn_lt {u : List Nat} (h : Dg u) (j : Nat) : ∀ i, wn u j i < 4294967296 ^ i
  | 0 => by simp [wn]
  | i + 1 => by
    have ih := wn_lt h j i
    have h1 := h (j + i)
    rw [wn, Nat.pow_succ]
    have : 4294967296 ^ i * (u.getD (j + i) 0 + 1) ≤ 4294967296 ^ i * 4294967296 := Nat.mul_le_mul_left _ h1
    rw [Nat.mul_add] at this
    omega
theorem wn_congr {u w : List Nat} {j : Nat} : ∀ i, (∀ k, k < i → u.getD (j + k) 0 = w.getD (j + k) 0) → wn u j i = wn w j i
  | 0, _ => rfl
  | i + 1, h => by rw [wn, wn, wn_congr i (fun k hk => h k (by omega)), h i (by omega)]
theorem wn_set_out {u : List Nat} {j i p x : Nat} (h : p < j ∨ j + i ≤ p) : wn (u.set p x) j i = wn u j i := by
  apply wn_congr
  intro k hk
  exact getD_set_ne (by omega)
theorem wn_split (u : List Nat) (j i : Nat) : ∀ k, wn u j (i + k) = wn u j i + 4294967296 ^ i * wn u (j + i) k
  | 0 => by simp [wn]
  | k + 1 => by
    rw [← Nat.add_assoc, wn, wn_split u j i k, wn, Nat.mul_add, Nat.pow_add, Nat.mul_assoc, Nat.add_assoc j, Nat.add_assoc]
theorem wn_first (u : List Nat) (j i : Nat) : wn u j (i + 1) = u.getD j 0 + 4294967296 * wn u (j + 1) i := by
  rw [Nat.add_comm i 1, wn_split u j 1 i]
  simp [wn]
theorem wn_zero {u : List Nat} {j : Nat} : ∀ i, (∀ k, k < i → u.getD (j + k) 0 = 0) → wn u j i = 0
  | 0, _ => rfl
  | i + 1, h => by rw [wn, wn_zero i (fun k hk => h k (by omega)), h i (by omega)]; simp

/-! ### Times a power of two, in one digit more -/
def sfS (a : List Nat) (s : Nat) : Nat → List Nat
  | 0 => List.replicate (a.length + 1) 0
  | i + 1 => ((sfS a s i).set i ((sfS a s i).getD i 0 + a.getD i 0 * 2 ^ s % 4294967296)).set (i + 1) (a.getD i 0 * 2 ^ s / 4294967296)
theorem sfS_length (a : List Nat) (s : Nat) : ∀ i, (sfS a s i).length = a.length + 1
  | 0 => by simp [sfS]
  | i + 1 => by simp [sfS, sfS_length a s i]
theorem pow_split {s : Nat} (hs : s < 32) : 2 ^ s * 2 ^ (32 - s) = 4294967296 := by
  rw [← Nat.pow_add, show s + (32 - s) = 32 by omega]
theorem hi_lt {x s : Nat} (hx : x < 4294967296) : x * 2 ^ s / 4294967296 < 2 ^ s := by
  rw [Nat.div_lt_iff_lt_mul (by omega)]
  rw [Nat.mul_comm]
  exact Nat.mul_lt_mul_of_pos_left hx (Nat.two_pow_pos s)
theorem lo_le {x s : Nat} (hs : s < 32) : x * 2 ^ s % 4294967296 + 2 ^ s ≤ 4294967296 := by
  have h := pow_split hs
  have : x * 2 ^ s % 4294967296 = x % 2 ^ (32 - s) * 2 ^ s := by
    rw [← h, Nat.mul_comm (2 ^ s) (2 ^ (32 - s)), Nat.mul_mod_mul_right]
  rw [this]
  have h2 : x % 2 ^ (32 - s) < 2 ^ (32 - s) := Nat.mod_lt _ (Nat.two_pow_pos _)
  have h3 : (x % 2 ^ (32 - s) + 1) * 2 ^ s ≤ 2 ^ (32 - s) * 2 ^ s := Nat.mul_le_mul_right _ h2
  rw [Nat.mul_comm (2 ^ (32 - s)), h, Nat.add_mul] at h3
  omega
theorem sfS_top {a : List Nat} {s : Nat} (ha : Dg a) : ∀ i, i ≤ a.length → (sfS a s i).getD i 0 < 2 ^ s
  | 0, _ => by rw [sfS, getD_rep]; exact Nat.two_pow_pos s
  | i + 1, h => by
    have hl := sfS_length a s i
    rw [sfS, getD_set_eq (by rw [List.length_set]; omega)]
    exact hi_lt (ha i)
theorem sfS_dg {a : List Nat} {s : Nat} (ha : Dg a) (hs : s < 32) : ∀ i, i ≤ a.length → Dg (sfS a s i)
  | 0, _ => dg_rep _
  | i + 1, h => by
    have h1 := sfS_top (s := s) ha i (by omega)
    have h2 := lo_le (x := a.getD i 0) hs
    have h3 := hi_lt (x := a.getD i 0) (s := s) (ha i)
    have h4 : 2 ^ s ≤ 2 ^ 31 := Nat.pow_le_pow_right (by omega) (by omega)
    exact ((sfS_dg ha hs i (by omega)).set _ _ (by omega)).set _ _ (by omega)
theorem sfS_wn {a : List Nat} {s : Nat} : ∀ i, i ≤ a.length → wn (sfS a s i) 0 (i + 1) = 2 ^ s * vs a i
  | 0, _ => by rw [sfS, wn_zero]; rfl; intro k _; exact getD_rep _ _
  | i + 1, h => by
    have ih := sfS_wn (a := a) (s := s) i (by omega)
    have hl := sfS_length a s i
    rw [wn, sfS, wn_set_out (by omega), Nat.zero_add, getD_set_eq (by rw [List.length_set]; omega), wn, wn_set_out (by omega), Nat.zero_add, getD_set_eq (by omega)]
    rw [wn, Nat.zero_add] at ih
    have e := pmd (4294967296 ^ i) 4294967296 (a.getD i 0 * 2 ^ s)
    rw [vs_succ, Nat.mul_add (2 ^ s), ← ih, Nat.pow_succ, Nat.mul_left_comm (2 ^ s), Nat.mul_comm (2 ^ s), Nat.mul_add]
    omega
theorem sf_val {a : List Nat} {s : Nat} : val (sfS a s a.length) = 2 ^ s * val a := by
  have h := sfS_wn (a := a) (s := s) a.length (Nat.le_refl _)
  rw [wn_vs, vs_all (by rw [sfS_length]; omega), vs_all (Nat.le_refl _)] at h
  exact h

/-! ### One digit of the quotient -/
theorem guess_ge {g r top v1 v2 u0 lo vlo p q : Nat} (h : g * v1 + r = top) (hc : r * 4294967296 + u0 < g * v2) (hlo : lo < p)
    (hq : q * ((v1 * 4294967296 + v2) * p + vlo) ≤ (top * 4294967296 + u0) * p + lo) : q < g := by
  apply Classical.byContradiction
  intro hn
  have hg : g ≤ q := Nat.le_of_not_lt hn
  have h1 : g * ((v1 * 4294967296 + v2) * p + vlo) ≤ q * ((v1 * 4294967296 + v2) * p + vlo) := Nat.mul_le_mul_right _ hg
  have h2 : (top * 4294967296 + u0 + 1) * p ≤ g * (v1 * 4294967296 + v2) * p := by
    apply Nat.mul_le_mul_right
    rw [Nat.mul_add, ← Nat.mul_assoc, ← h]
    omega
  rw [Nat.mul_add, ← Nat.mul_assoc] at h1
  rw [Nat.add_mul _ 1, Nat.one_mul] at h2
  omega
theorem guess_le {g r top v1 v2 u0 lo vlo p U V : Nat} (h : g * v1 + r = top) (hc : g * v2 ≤ r * 4294967296 + u0) (hg : g < 4294967296) (hv : vlo < p) (hv1 : 0 < v1)
    (hU : U = (top * 4294967296 + u0) * p + lo) (hV : V = (v1 * 4294967296 + v2) * p + vlo) : g * V < U + V := by
  have h2 : g * (v1 * 4294967296 + v2) * p ≤ (top * 4294967296 + u0) * p := by
    apply Nat.mul_le_mul_right
    rw [Nat.mul_add, ← Nat.mul_assoc, ← h]
    omega
  have h3 : g * vlo ≤ 4294967296 * p := Nat.mul_le_mul (by omega) (by omega)
  have h4 : g * vlo < 4294967296 * p := by
    rcases Nat.eq_zero_or_pos g with h0 | h0
    · subst h0; rw [Nat.zero_mul]; omega
    · exact Nat.mul_lt_mul'' hg hv
  have h5 : 1 * 4294967296 * p ≤ v1 * 4294967296 * p := Nat.mul_le_mul_right _ (Nat.mul_le_mul_right _ hv1)
  rw [hV, Nat.mul_add, ← Nat.mul_assoc, Nat.add_mul (v1 * 4294967296)]
  omega

/-- Takes g times v away from u, from digit j on: u, what is borrowed, what is carried. -/
def msS (v : List Nat) (g j : Nat) : Nat → List Nat → List Nat × Nat × Nat
  | 0, u => (u, 0, 0)
  | i + 1, u =>
    let t := msS v g j i u
    let c := t.2.2 + g * v.getD i 0
    let y := c % 4294967296 + t.2.1
    if t.1.getD (i + j) 0 < y then (t.1.set (i + j) (t.1.getD (i + j) 0 + 4294967296 - y), 1, c / 4294967296)
    else (t.1.set (i + j) (t.1.getD (i + j) 0 - y), 0, c / 4294967296)
theorem msS_length (v : List Nat) (g j : Nat) (u : List Nat) : ∀ i, (msS v g j i u).1.length = u.length
  | 0 => rfl
  | i + 1 => by
    rw [msS]
    split <;> simp [msS_length v g j u i]
theorem msS_borrow (v : List Nat) (g j : Nat) (u : List Nat) : ∀ i, (msS v g j i u).2.1 ≤ 1
  | 0 => by simp [msS]
  | i + 1 => by
    rw [msS]
    split <;> simp
theorem msS_carry {v : List Nat} {g : Nat} (hv : Dg v) (hg : g < 4294967296) (j : Nat) (u : List Nat) : ∀ i, (msS v g j i u).2.2 < 4294967296
  | 0 => by simp [msS]
  | i + 1 => by
    have ih := msS_carry hv hg j u i
    have h4 := hv i
    have h5 : g * v.getD i 0 ≤ 4294967295 * 4294967295 := Nat.mul_le_mul (by omega) (by omega)
    rw [msS]
    split <;> (simp only []; omega)
theorem msS_dg {v u : List Nat} {g : Nat} (hu : Dg u) (j : Nat) : ∀ i, Dg (msS v g j i u).1
  | 0 => hu
  | i + 1 => by
    have ih := msS_dg (v := v) (g := g) hu j i
    have hb := msS_borrow v g j u i
    have h1 := ih (i + j)
    rw [msS]
    split
    · exact ih.set _ _ (by omega)
    · exact ih.set _ _ (by omega)
theorem msS_keep (v : List Nat) (g j : Nat) (u : List Nat) (k : Nat) : ∀ i, k < j ∨ i + j ≤ k → (msS v g j i u).1.getD k 0 = u.getD k 0
  | 0, _ => rfl
  | i + 1, h => by
    have ih := msS_keep v g j u k i (by omega)
    rw [msS]
    split <;> simp only [] <;> rw [getD_set_ne (by omega), ih]
theorem msS_wn {v u : List Nat} {g : Nat} (hu : Dg u) (j : Nat) : ∀ i, i + j ≤ u.length → wn (msS v g j i u).1 j i + g * vs v i = wn u j i + 4294967296 ^ i * ((msS v g j i u).2.2 + (msS v g j i u).2.1)
  | 0, _ => by simp [msS, wn, vs_zero]
  | i + 1, h => by
    have ih := msS_wn (v := v) (g := g) hu j i (by omega)
    have hk := msS_keep v g j u (i + j) i (by omega)
    have hl := msS_length v g j u i
    have hb := msS_borrow v g j u i
    have hd := hu (i + j)
    rw [wn.eq_2 u, vs_succ, Nat.pow_succ, Nat.mul_add, ← Nat.mul_assoc g, Nat.mul_comm g (4294967296 ^ i), Nat.mul_assoc]
    rw [msS]
    generalize msS v g j i u = t at *
    obtain ⟨t, b, c⟩ := t
    simp only [] at *
    rw [hk, Nat.add_comm j i]
    have e := pmd (4294967296 ^ i) 4294967296 (c + g * v.getD i 0)
    generalize hc : c + g * v.getD i 0 = C at *
    rw [← hc, Nat.mul_add, hc] at e
    rw [Nat.mul_add] at ih
    split
    · rename_i hlt
      simp only []
      rw [wn, wn_set_out (by omega), Nat.add_comm j i, getD_set_eq (by omega)]
      have e2 := psub (4294967296 ^ i) 4294967296 (u.getD (i + j) 0) (C % 4294967296 + b) (by omega)
      rw [Nat.mul_add _ (C % 4294967296)] at e2
      rw [Nat.mul_add _ (C / 4294967296), Nat.mul_one]
      omega
    · rename_i hlt
      simp only []
      rw [wn, wn_set_out (by omega), Nat.add_comm j i, getD_set_eq (by omega)]
      have e2 := psub0 (4294967296 ^ i) (u.getD (i + j) 0) (C % 4294967296 + b) (by omega)
      rw [Nat.mul_add _ (C % 4294967296)] at e2
      rw [Nat.add_zero]
      omega

/-- Adds v to u, from digit j on: u, and what is carried. -/
def abS (v : List Nat) (j : Nat) : Nat → List Nat → List Nat × Nat
  | 0, u => (u, 0)
  | i + 1, u =>
    let t := abS v j i u
    let c := t.2 + (t.1.getD (i + j) 0 + v.getD i 0)
    (t.1.set (i + j) (c % 4294967296), c / 4294967296)
theorem abS_length (v : List Nat) (j : Nat) (u : List Nat) : ∀ i, (abS v j i u).1.length = u.length
  | 0 => rfl
  | i + 1 => by simp [abS, abS_length v j u i]
theorem abS_carry {v u : List Nat} (hv : Dg v) (hu : Dg u) (j : Nat) : ∀ i, Dg (abS v j i u).1 ∧ (abS v j i u).2 ≤ 1
  | 0 => ⟨hu, by simp [abS]⟩
  | i + 1 => by
    obtain ⟨h1, h2⟩ := abS_carry hv hu j i
    have h3 := h1 (i + j)
    have h4 := hv i
    refine ⟨h1.set _ _ (Nat.mod_lt _ (by omega)), ?_⟩
    simp only [abS]
    omega
theorem abS_keep (v : List Nat) (j : Nat) (u : List Nat) (k : Nat) : ∀ i, k < j ∨ i + j ≤ k → (abS v j i u).1.getD k 0 = u.getD k 0
  | 0, _ => rfl
  | i + 1, h => by
    have ih := abS_keep v j u k i (by omega)
    rw [abS]
    simp only []
    rw [getD_set_ne (by omega), ih]
theorem abS_wn (v : List Nat) (j : Nat) (u : List Nat) : ∀ i, i + j ≤ u.length → wn (abS v j i u).1 j i + 4294967296 ^ i * (abS v j i u).2 = wn u j i + vs v i
  | 0, _ => by simp [abS, wn, vs_zero]
  | i + 1, h => by
    have ih := abS_wn v j u i (by omega)
    have hk := abS_keep v j u (i + j) i (by omega)
    have hl := abS_length v j u i
    rw [wn.eq_2 u, vs_succ, Nat.pow_succ]
    rw [abS]
    simp only []
    generalize abS v j i u = t at *
    rw [wn, wn_set_out (by omega), Nat.add_comm j i, getD_set_eq (by omega), hk]
    have e := pmd (4294967296 ^ i) 4294967296 (t.2 + (u.getD (i + j) 0 + v.getD i 0))
    generalize hc : t.2 + (u.getD (i + j) 0 + v.getD i 0) = C at *
    rw [← hc, Nat.mul_add, Nat.mul_add, hc] at e
    omega

/-- Takes away, and adds back where it was too much: u and the digit of the quotient. -/
def kdU (v : List Nat) (n j g : Nat) (u : List Nat) : List Nat × Nat :=
  let t := msS v g j n u
  let y := t.2.2 + t.2.1
  if t.1.getD (j + n) 0 < y then
    let w := abS v j n (t.1.set (j + n) (t.1.getD (j + n) 0 + 4294967296 - y))
    (w.1.set (j + n) ((w.1.getD (j + n) 0 + w.2) % 4294967296), g - 1)
  else (t.1.set (j + n) (t.1.getD (j + n) 0 - y), g)
theorem div_of {q r U V : Nat} (h : U = q * V + r) (hr : r < V) : U / V = q ∧ U % V = r := by
  subst h
  constructor
  · rw [Nat.mul_comm, Nat.mul_add_div (by omega), Nat.div_eq_of_lt hr]; rfl
  · rw [Nat.mul_comm, Nat.mul_add_mod, Nat.mod_eq_of_lt hr]
theorem kdU_spec {v u : List Nat} {n j g : Nat} (hv : Dg v) (hu : Dg u) (hn : v.length = n) (hL : j + n < u.length) (hg : g < 4294967296) (hVp : 0 < val v)
    (h1 : wn u j (n + 1) / val v ≤ g) (h2 : g * val v < wn u j (n + 1) + val v) :
    Dg (kdU v n j g u).1 ∧ (kdU v n j g u).1.length = u.length ∧ (∀ k, k < j ∨ j + n < k → (kdU v n j g u).1.getD k 0 = u.getD k 0) ∧
    wn (kdU v n j g u).1 j (n + 1) = wn u j (n + 1) % val v ∧ (kdU v n j g u).2 = wn u j (n + 1) / val v := by
  have hV : vs v n = val v := vs_all (by omega)
  have hVP : val v < 4294967296 ^ n := by rw [← hn]; exact val_lt hv
  have hw := msS_wn (v := v) (g := g) hu j n (by omega)
  have hk : ∀ k, k < j ∨ j + n ≤ k → (msS v g j n u).1.getD k 0 = u.getD k 0 := fun k h => msS_keep v g j u k n (by omega)
  have hl := msS_length v g j u n
  have hb := msS_borrow v g j u n
  have hc := msS_carry hv hg j u n
  have hd := msS_dg (v := v) (g := g) hu j n
  have hd1 := wn_lt hd j n
  have ht := hk (j + n) (by omega)
  have htd := hu (j + n)
  have hUp := wn_lt hu j n
  have hUe : wn u j (n + 1) = wn u j n + 4294967296 ^ n * u.getD (j + n) 0 := rfl
  rw [hUe] at h1 h2 ⊢
  rw [hV] at hw
  unfold kdU
  simp only []
  generalize msS v g j n u = t at *
  obtain ⟨t, b, c⟩ := t
  simp only [] at *
  rw [ht]
  have hU1 : wn u j n + 4294967296 ^ n * u.getD (j + n) 0 < (g + 1) * val v := by
    have := Nat.lt_succ_of_le h1
    rwa [Nat.div_lt_iff_lt_mul hVp] at this
  rw [Nat.add_mul, Nat.one_mul] at hU1
  generalize u.getD (j + n) 0 = top at *
  by_cases h : top < c + b
  · rw [if_pos h]
    simp only []
    have hd2 : Dg (t.set (j + n) (top + 4294967296 - (c + b))) := hd.set _ _ (by omega)
    have ha := abS_wn v j (t.set (j + n) (top + 4294967296 - (c + b))) n (by rw [List.length_set]; omega)
    have hak : ∀ k, k < j ∨ j + n ≤ k → (abS v j n (t.set (j + n) (top + 4294967296 - (c + b)))).1.getD k 0 = (t.set (j + n) (top + 4294967296 - (c + b))).getD k 0 := fun k h => abS_keep v j _ k n (by omega)
    obtain ⟨had, hac⟩ := abS_carry hv hd2 j n
    have hal := abS_length v j (t.set (j + n) (top + 4294967296 - (c + b))) n
    rw [wn_set_out (by omega), hV] at ha
    have htop := hak (j + n) (by omega)
    rw [getD_set_eq (by omega)] at htop
    have hwn := wn_lt had j n
    have hset : ∀ k, k < j ∨ j + n < k → (abS v j n (t.set (j + n) (top + 4294967296 - (c + b)))).1.getD k 0 = u.getD k 0 := by
      intro k hk'
      rw [hak k (by omega), getD_set_ne (by omega), hk k (by omega)]
    rw [List.length_set] at hal
    generalize abS v j n (t.set (j + n) (top + 4294967296 - (c + b))) = w at *
    obtain ⟨w, x⟩ := w
    simp only [] at *
    rw [htop]
    have hgU : wn u j n + 4294967296 ^ n * top < g * val v := by
      have : 4294967296 ^ n * (top + 1) ≤ 4294967296 ^ n * (c + b) := Nat.mul_le_mul_left _ h
      rw [Nat.mul_add] at this
      omega
    have hg1 : 1 ≤ g := by
      apply Nat.pos_of_ne_zero
      intro e
      rw [e, Nat.zero_mul] at hgU
      omega
    obtain ⟨g', hg'⟩ : ∃ g', g = g' + 1 := ⟨g - 1, by omega⟩
    subst hg'
    rw [Nat.add_mul, Nat.one_mul] at hgU h2 hw
    obtain ⟨r, hr⟩ : ∃ r, wn u j n + 4294967296 ^ n * top = g' * val v + r := ⟨_, (Nat.add_sub_cancel' (by omega)).symm⟩
    obtain ⟨hq, hm⟩ := div_of hr (by omega)
    have key : wn w j n + 4294967296 ^ n * x = r + 4294967296 ^ n * (c + b - top) := by
      have := psub0 (4294967296 ^ n) (c + b) top (by omega)
      omega
    have hx : x = c + b - top ∧ wn w j n = r := by
      have h3 := div_of (q := x) (r := wn w j n) (V := 4294967296 ^ n) (by rw [Nat.mul_comm x, Nat.add_comm]) hwn
      have h4 := div_of (q := c + b - top) (r := r) (U := wn w j n + 4294967296 ^ n * x) (V := 4294967296 ^ n) (by rw [key, Nat.mul_comm (c + b - top), Nat.add_comm]) (by omega)
      exact ⟨h3.1.symm.trans h4.1, h3.2.symm.trans h4.2⟩
    refine ⟨had.set _ _ (Nat.mod_lt _ (by omega)), by rw [List.length_set, hal, hl], ?_, ?_, by rw [hq]; rfl⟩
    · intro k hk'
      rw [getD_set_ne (by omega)]
      exact hset k hk'
    · rw [wn, wn_set_out (by omega), getD_set_eq (by omega), hx.2, hm, hx.1]
      rw [show (top + 4294967296 - (c + b) + (c + b - top)) % 4294967296 = 0 by omega]
      rfl
  · rw [if_neg h]
    simp only []
    have e := psub0 (4294967296 ^ n) top (c + b) (by omega)
    have hr : wn u j n + 4294967296 ^ n * top = g * val v + (wn t j n + 4294967296 ^ n * (top - (c + b))) := by omega
    obtain ⟨hq, hm⟩ := div_of hr (by omega)
    refine ⟨hd.set _ _ (by omega), by rw [List.length_set, hl], ?_, ?_, by rw [hq]⟩
    · intro k hk'
      rw [getD_set_ne (by omega)]
      exact hk k (by omega)
    · rw [wn, wn_set_out (by omega), getD_set_eq (by omega), hm]

/-! ### The outer loop -/
structure KInv (v u0 : List Nat) (n m j : Nat) (u q : List Nat) : Prop where
  du : Dg u
  lu : u.length = m + n
  dq : Dg q
  lq : q.length = m
  hi : ∀ k, j + n ≤ k → u.getD k 0 = 0
  lo : ∀ k, k < j → u.getD k 0 = u0.getD k 0
  lt : wn u j n < val v
  eq : wn q j (m - j) * val v + wn u j n = wn u0 j (m + n - j)
theorem KInv.step {v u0 u q : List Nat} {n m j : Nat} (hv : Dg v) (hn : v.length = n) (hj : j < m) (h : KInv v u0 n m (j + 1) u q) {u' : List Nat} {d : Nat}
    (du : Dg u') (lu : u'.length = u.length) (hk : ∀ k, k < j ∨ j + n < k → u'.getD k 0 = u.getD k 0)
    (hw : wn u' j (n + 1) = wn u j (n + 1) % val v) (hd : d = wn u j (n + 1) / val v) (hVp : 0 < val v) : KInv v u0 n m j u' (q.set j d) := by
  have hU : wn u j (n + 1) = u.getD j 0 + 4294967296 * wn u (j + 1) n := wn_first u j n
  have hlt : wn u j (n + 1) % val v < val v := Nat.mod_lt _ hVp
  have hVP : val v < 4294967296 ^ n := by rw [← hn]; exact val_lt hv
  have htop : u'.getD (j + n) 0 = 0 := by
    rw [wn] at hw
    apply Classical.byContradiction
    intro hne
    have : 4294967296 ^ n * 1 ≤ 4294967296 ^ n * u'.getD (j + n) 0 := Nat.mul_le_mul_left _ (by omega)
    omega
  have hwn : wn u' j n = wn u j (n + 1) % val v := by
    rw [wn, htop, Nat.mul_zero, Nat.add_zero] at hw
    exact hw
  have hdB : d < 4294967296 := by
    rw [hd, Nat.div_lt_iff_lt_mul hVp, hU]
    have h1 := h.lt
    have h2 := h.du j
    omega
  refine ⟨du, by rw [lu, h.lu], h.dq.set _ _ hdB, by rw [List.length_set, h.lq], ?_, ?_, by rw [hwn]; exact hlt, ?_⟩
  · intro k hk'
    by_cases e : k = j + n
    · rw [e, htop]
    · rw [hk k (by omega)]
      exact h.hi k (by omega)
  · intro k hk'
    rw [hk k (by omega)]
    exact h.lo k (by omega)
  · have e := h.eq
    obtain ⟨r, hr⟩ : ∃ r, m - j = r + 1 := ⟨m - j - 1, by omega⟩
    rw [hr, wn_first, getD_set_eq (by rw [h.lq]; exact hj), wn_set_out (by omega), hwn]
    rw [show m + n - j = (m + n - (j + 1)) + 1 by omega, wn_first u0, ← h.lo j (by omega), ← e, show m - (j + 1) = r by omega]
    have h2 : wn u j (n + 1) = val v * d + wn u j (n + 1) % val v := by rw [hd, Nat.div_add_mod]
    rw [Nat.add_mul, Nat.mul_add, Nat.mul_comm d, Nat.mul_assoc]
    omega

/-! ### What is left, shifted back -/
def unS (u : List Nat) (s : Nat) : Nat → List Nat
  | 0 => []
  | i + 1 => unS u s i ++ [u.getD i 0 / 2 ^ s + u.getD (i + 1) 0 * 2 ^ (32 - s) % 4294967296]
theorem unS_length (u : List Nat) (s : Nat) : ∀ i, (unS u s i).length = i
  | 0 => rfl
  | i + 1 => by simp [unS, unS_length u s i]
theorem un_lo {x s : Nat} (hs : s < 32) : x * 2 ^ (32 - s) % 4294967296 = x % 2 ^ s * 2 ^ (32 - s) := by
  rw [← pow_split hs, Nat.mul_mod_mul_right]
theorem un_hi {x s : Nat} (hs : s < 32) (hx : x < 4294967296) : x / 2 ^ s < 2 ^ (32 - s) := by
  rw [Nat.div_lt_iff_lt_mul (Nat.two_pow_pos s), Nat.mul_comm, pow_split hs]
  exact hx
theorem un_dig {x y s : Nat} (hs : s < 32) (hx : x < 4294967296) : x / 2 ^ s + y * 2 ^ (32 - s) % 4294967296 < 4294967296 := by
  have h1 := un_hi hs hx
  have h2 : y % 2 ^ s < 2 ^ s := Nat.mod_lt _ (Nat.two_pow_pos s)
  have h3 : (y % 2 ^ s + 1) * 2 ^ (32 - s) ≤ 2 ^ s * 2 ^ (32 - s) := Nat.mul_le_mul_right _ h2
  rw [pow_split hs, Nat.add_mul] at h3
  rw [un_lo hs]
  omega
theorem unS_dg {u : List Nat} {s : Nat} (hu : Dg u) (hs : s < 32) : ∀ i, Dg (unS u s i)
  | 0 => dg_nil
  | i + 1 => dg_app (unS_dg hu hs i) (dg_one (un_dig hs (hu i)))
theorem unS_val {u : List Nat} {s : Nat} (hs : s < 32) : ∀ i, 2 ^ s * val (unS u s i) + u.getD 0 0 % 2 ^ s = wn u 0 i + 4294967296 ^ i * (u.getD i 0 % 2 ^ s)
  | 0 => by simp [unS, val, wn]
  | i + 1 => by
    have ih := unS_val (u := u) hs i
    rw [unS, val_app, unS_length, val, val, Nat.mul_zero, Nat.add_zero, un_lo hs, Nat.mul_add, wn, Nat.zero_add, Nat.pow_succ]
    have e1 : 4294967296 ^ i * u.getD i 0 = 4294967296 ^ i * (2 ^ s * (u.getD i 0 / 2 ^ s) + u.getD i 0 % 2 ^ s) := by rw [Nat.div_add_mod]
    have e2 : 2 ^ s * (4294967296 ^ i * (u.getD i 0 / 2 ^ s + u.getD (i + 1) 0 % 2 ^ s * 2 ^ (32 - s))) = 4294967296 ^ i * (2 ^ s * (u.getD i 0 / 2 ^ s)) + 4294967296 ^ i * 4294967296 * (u.getD (i + 1) 0 % 2 ^ s) := by
      rw [← pow_split hs]
      generalize (2 ^ s * 2 ^ (32 - s)) ^ i = p
      generalize u.getD (i + 1) 0 % 2 ^ s = y
      generalize u.getD i 0 / 2 ^ s = z
      generalize 2 ^ (32 - s) = b
      generalize 2 ^ s = a
      simp only [Nat.mul_add]
      congr 1
      · simp only [Nat.mul_left_comm, Nat.mul_comm]
      · simp only [Nat.mul_left_comm, Nat.mul_comm]
    rw [e2, e1, Nat.mul_add]
    omega
theorem KInv.done {v u0 u q a b : List Nat} {n m s : Nat} (hs : s < 32) (hu : u0.length = m + n) (h0 : val u0 = 2 ^ s * val a) (hv : val v = 2 ^ s * val b) (h : KInv v u0 n m 0 u q) :
    tr q = digs (val a / val b) ∧ tr (unS u s n) = digs (val a % val b) := by
  have hp := Nat.two_pow_pos s
  have e := h.eq
  have hlt := h.lt
  rw [Nat.sub_zero, Nat.sub_zero, wn_vs u0, vs_all (by omega), wn_vs q, vs_all (by rw [h.lq]; omega), h0] at e
  have hd : 2 ^ s * val a / (2 ^ s * val b) = val q ∧ 2 ^ s * val a % (2 ^ s * val b) = wn u 0 n := by
    rw [← hv]
    exact div_of e.symm hlt
  rw [Nat.mul_div_mul_left _ _ hp] at hd
  rw [Nat.mul_mod_mul_left] at hd
  rw [tr_eq h.dq, tr_eq (unS_dg h.du hs n), hd.1]
  refine ⟨rfl, ?_⟩
  have hr := unS_val (u := u) hs n
  have htop := h.hi n (by omega)
  rw [htop, Nat.zero_mod, Nat.mul_zero, Nat.add_zero, ← hd.2] at hr
  have hm : u.getD 0 0 % 2 ^ s < 2 ^ s := Nat.mod_lt _ hp
  have := (div_of (q := val a % val b) (r := 0) (U := 2 ^ s * (val a % val b)) (V := 2 ^ s) (by rw [Nat.mul_comm]; rfl) hp).1
  have h3 := (div_of (q := val (unS u s n)) (r := u.getD 0 0 % 2 ^ s) (U := 2 ^ s * (val a % val b)) (V := 2 ^ s) (by rw [← hr, Nat.mul_comm]) hm).1
  rw [← this, h3]
end Go.Ab
