/- Numbers as rows of digits, and what they are worth. -/
set_option linter.unusedVariables false
set_option linter.unusedSimpArgs false
namespace Go.Ab

/-- How many digits are left without those that are 0 at the end of the first n. -/
def trN (ds : List Nat) : Nat → Nat
  | 0 => 0
  | n + 1 => if ds.getD n 0 = 0 then trN ds n else n + 1
theorem trN_le (ds : List Nat) : ∀ n, trN ds n ≤ n
  | 0 => Nat.le_refl _
  | n + 1 => by
    rw [trN]
    split
    · exact Nat.le_succ_of_le (trN_le ds n)
    · exact Nat.le_refl _
def tr (ds : List Nat) : List Nat := ds.take (trN ds ds.length)
theorem tr_length (a : List Nat) : (tr a).length ≤ a.length := by simp only [tr, List.length_take]; omega
/-- Digits of a number. -/
def Dg (a : List Nat) : Prop := ∀ i, a.getD i 0 < 4294967296
theorem Dg.take {a : List Nat} (h : Dg a) (n : Nat) : Dg (a.take n) := by
  intro i
  have := h i
  simp only [List.getD_eq_getElem?_getD, List.getElem?_take] at this ⊢
  split
  · exact this
  · simp
theorem Dg.set {a : List Nat} (h : Dg a) (n v : Nat) (hv : v < 4294967296) : Dg (a.set n v) := by
  intro i
  have := h i
  simp only [List.getD_eq_getElem?_getD, List.getElem?_set] at this ⊢
  split
  · split
    · exact hv
    · simp
  · exact this
theorem tr_dg {a : List Nat} (h : Dg a) : Dg (tr a) := h.take _
theorem getD_out {l : List Nat} {i : Nat} (h : ¬ (i : Int) < (l.length : Int)) : l.getD i 0 = 0 := by
  rw [List.getD_eq_getElem?_getD, List.getElem?_eq_none (by omega)]; rfl
theorem dg_nil : Dg [] := by intro i; simp
theorem dg_cons {d : Nat} {ds : List Nat} : Dg (d :: ds) ↔ d < 4294967296 ∧ Dg ds := by
  constructor
  · intro h
    exact ⟨h 0, fun i => h (i + 1)⟩
  · intro h i
    cases i with
    | zero => exact h.1
    | succ i => exact h.2 i
theorem dg_app {a b : List Nat} (ha : Dg a) (hb : Dg b) : Dg (a ++ b) := by
  induction a with
  | nil => exact hb
  | cons d a ih => exact dg_cons.2 ⟨(dg_cons.1 ha).1, ih (dg_cons.1 ha).2⟩
theorem dg_one {d : Nat} (h : d < 4294967296) : Dg [d] := dg_cons.2 ⟨h, dg_nil⟩
theorem dg_rep (n : Nat) : Dg (List.replicate n 0) := by
  induction n with
  | zero => exact dg_nil
  | succ n ih => exact dg_cons.2 ⟨by decide, ih⟩

theorem getD_set_ne {l : List Nat} {i j v : Nat} (h : i ≠ j) : (l.set i v).getD j 0 = l.getD j 0 := by
  simp only [List.getD_eq_getElem?_getD]
  rw [List.getElem?_set_ne h]
theorem getD_set_eq {l : List Nat} {i v : Nat} (h : i < l.length) : (l.set i v).getD i 0 = v := by
  simp only [List.getD_eq_getElem?_getD]
  rw [List.getElem?_set_self h]; rfl
theorem getD_rep (n i : Nat) : (List.replicate n 0).getD i 0 = 0 := by
  simp only [List.getD_eq_getElem?_getD, List.getElem?_replicate]
  split <;> rfl
theorem pmd (p b c : Nat) : p * c = p * (c % b) + p * b * (c / b) := by
  rw [Nat.mul_assoc, ← Nat.mul_add, Nat.mod_add_div]
theorem psub (p b x s : Nat) (h : s ≤ x + b) : p * (x + b - s) + p * s = p * x + p * b := by
  rw [← Nat.mul_add, Nat.sub_add_cancel h, Nat.mul_add]
theorem psub0 (p x s : Nat) (h : s ≤ x) : p * (x - s) + p * s = p * x := by
  rw [← Nat.mul_add, Nat.sub_add_cancel h]

/-! ### What digits are worth -/
def val : List Nat → Nat
  | [] => 0
  | d :: ds => d + 4294967296 * val ds
def digs (n : Nat) : List Nat := if h : n = 0 then [] else n % 4294967296 :: digs (n / 4294967296)
termination_by n
decreasing_by exact Nat.div_lt_self (by omega) (by omega)
theorem digs_zero : digs 0 = [] := by rw [digs]; rfl
theorem digs_pos {n : Nat} (h : n ≠ 0) : digs n = n % 4294967296 :: digs (n / 4294967296) := by rw [digs, dif_neg h]
theorem val_digs (n : Nat) : val (digs n) = n := by
  induction n using Nat.strongRecOn with
  | ind n ih =>
    by_cases h : n = 0
    · subst h; rw [digs_zero]; rfl
    · rw [digs_pos h, val, ih _ (Nat.div_lt_self (by omega) (by omega))]
      omega
theorem dg_digs (n : Nat) : Dg (digs n) := by
  induction n using Nat.strongRecOn with
  | ind n ih =>
    by_cases h : n = 0
    · subst h; rw [digs_zero]; exact dg_nil
    · rw [digs_pos h]
      exact dg_cons.2 ⟨Nat.mod_lt _ (by omega), ih _ (Nat.div_lt_self (by omega) (by omega))⟩
theorem digs_length_le {k : Nat} : ∀ {n : Nat}, n < 4294967296 ^ k → (digs n).length ≤ k := by
  induction k with
  | zero => intro n h; have : n = 0 := by simpa using h
            subst this; rw [digs_zero]; exact Nat.le_refl _
  | succ k ih =>
    intro n h
    by_cases h0 : n = 0
    · subst h0; rw [digs_zero]; exact Nat.zero_le _
    · rw [digs_pos h0, List.length_cons]
      refine Nat.succ_le_succ (ih ?_)
      rw [Nat.pow_succ] at h
      exact Nat.div_lt_of_lt_mul (by rw [Nat.mul_comm]; exact h)
theorem val_lt {ds : List Nat} (h : Dg ds) : val ds < 4294967296 ^ ds.length := by
  induction ds with
  | nil => exact Nat.one_pos
  | cons d ds ih =>
    have ih := ih (dg_cons.1 h).2
    have hd := (dg_cons.1 h).1
    rw [val, List.length_cons, Nat.pow_succ]
    omega
theorem digs_length_val {ds : List Nat} (h : Dg ds) : (digs (val ds)).length ≤ ds.length := digs_length_le (val_lt h)
theorem val_pos_digs {n : Nat} : digs n = [] ↔ n = 0 := by
  constructor
  · intro h
    have := val_digs n
    rw [h] at this
    exact this.symm
  · intro h; subst h; exact digs_zero
theorem digs_inj {a b : Nat} (h : digs a = digs b) : a = b := by
  have := congrArg val h
  rwa [val_digs, val_digs] at this

/-! ### trim -/
theorem trN_cons (d : Nat) (ds : List Nat) : ∀ n, trN (d :: ds) (n + 1) = if trN ds n = 0 then (if d = 0 then 0 else 1) else trN ds n + 1
  | 0 => by
    simp only [trN, List.getD_cons_zero, if_true]
  | n + 1 => by
    rw [trN, trN_cons d ds n]
    simp only [List.getD_cons_succ]
    rw [trN]
    by_cases h : ds.getD n 0 = 0
    · rw [if_pos h, if_pos h]
    · rw [if_neg h, if_neg h, if_neg (by omega)]
theorem tr_cons (d : Nat) (ds : List Nat) : tr (d :: ds) = if tr ds = [] then (if d = 0 then [] else [d]) else d :: tr ds := by
  have h0 : tr ds = [] ↔ trN ds ds.length = 0 := by
    have := trN_le ds ds.length
    rw [tr, ← List.length_eq_zero_iff, List.length_take]
    omega
  rw [tr, List.length_cons, trN_cons]
  by_cases h : trN ds ds.length = 0
  · rw [if_pos h, if_pos (h0.2 h)]
    split <;> rfl
  · rw [if_neg h, if_neg (fun e => h (h0.1 e))]
    rfl
theorem tr_eq {ds : List Nat} (h : Dg ds) : tr ds = digs (val ds) := by
  induction ds with
  | nil => rw [val, digs_zero]; rfl
  | cons d ds ih =>
    have hd := (dg_cons.1 h).1
    rw [tr_cons, ih (dg_cons.1 h).2, val]
    by_cases h0 : val ds = 0
    · rw [if_pos (val_pos_digs.2 h0), h0]
      split
      · subst d; exact digs_zero.symm
      · rw [digs_pos (by omega), show (d + 4294967296 * 0) % 4294967296 = d by omega, show (d + 4294967296 * 0) / 4294967296 = 0 by omega, digs_zero]
    · rw [if_neg (fun e => h0 (val_pos_digs.1 e)), digs_pos (n := d + 4294967296 * val ds) (by omega), show (d + 4294967296 * val ds) % 4294967296 = d by omega, show (d + 4294967296 * val ds) / 4294967296 = val ds by omega]
/-! ### Rows in parts -/
theorem val_app (a b : List Nat) : val (a ++ b) = val a + 4294967296 ^ a.length * val b := by
  induction a with
  | nil => simp [val]
  | cons d a ih =>
    rw [List.cons_append, val, val, ih, List.length_cons, Nat.pow_succ, Nat.mul_add, Nat.add_assoc, Nat.mul_comm (4294967296 ^ a.length) 4294967296, Nat.mul_assoc]
theorem val_set : ∀ (l : List Nat) (i v : Nat), i < l.length → val (l.set i v) + 4294967296 ^ i * l.getD i 0 = val l + 4294967296 ^ i * v
  | [], i, v, h => by simp at h
  | d :: l, 0, v, h => by simp [val]; omega
  | d :: l, i + 1, v, h => by
    have ih := val_set l i v (by simpa using h)
    simp only [List.set_cons_succ, val, List.getD_cons_succ, Nat.pow_succ]
    rw [Nat.mul_comm (4294967296 ^ i) 4294967296, Nat.mul_assoc, Nat.mul_assoc]
    omega
/-- What the first i digits are worth. -/
def vs (a : List Nat) (i : Nat) : Nat := val (a.take i)
theorem vs_zero (a : List Nat) : vs a 0 = 0 := rfl
theorem vs_all {a : List Nat} {i : Nat} (h : a.length ≤ i) : vs a i = val a := by rw [vs, List.take_of_length_le h]
theorem vs_succ (a : List Nat) (i : Nat) : vs a (i + 1) = vs a i + 4294967296 ^ i * a.getD i 0 := by
  by_cases h : i < a.length
  · rw [vs, List.take_succ_eq_append_getElem h, val_app, List.length_take, Nat.min_eq_left (by omega), List.getD_eq_getElem?_getD, List.getElem?_eq_getElem h, vs]
    simp [val]
  · rw [vs_all (by omega), vs_all (by omega), List.getD_eq_getElem?_getD, List.getElem?_eq_none (by omega)]
    simp
theorem vs_lt {a : List Nat} (h : Dg a) (i : Nat) : vs a i < 4294967296 ^ i := by
  have h1 := val_lt (h.take i)
  refine Nat.lt_of_lt_of_le h1 (Nat.pow_le_pow_right (by omega) ?_)
  rw [List.length_take]; omega
theorem val_rep (n : Nat) : val (List.replicate n 0) = 0 := by
  induction n with
  | zero => rfl
  | succ n ih => rw [List.replicate_succ, val, ih]

/-! ### Compare -/
def cmpN (a b : List Nat) : Nat → Int
  | 0 => 0
  | n + 1 => if a.getD n 0 < b.getD n 0 then -1 else if a.getD n 0 > b.getD n 0 then 1 else cmpN a b n
def cmpL (a b : List Nat) : Int := if a.length < b.length then -1 else if a.length > b.length then 1 else cmpN a b a.length
def cmpV (a b : Nat) : Int := if a < b then -1 else if a > b then 1 else 0
theorem cmpN_eq {a b : List Nat} (ha : Dg a) (hb : Dg b) : ∀ n, cmpN a b n = cmpV (vs a n) (vs b n)
  | 0 => by simp [cmpN, vs_zero, cmpV]
  | n + 1 => by
    have ih := cmpN_eq ha hb n
    have h1 := vs_lt ha n
    have h2 := vs_lt hb n
    rw [cmpN, vs_succ, vs_succ, ih]
    generalize 4294967296 ^ n = p at *
    generalize a.getD n 0 = x
    generalize b.getD n 0 = y
    unfold cmpV
    by_cases h : x < y
    · have : p * (x + 1) ≤ p * y := Nat.mul_le_mul_left _ h
      rw [Nat.mul_add] at this
      rw [if_pos h, if_pos (by omega)]
    · by_cases h' : x > y
      · have : p * (y + 1) ≤ p * x := Nat.mul_le_mul_left _ h'
        rw [Nat.mul_add] at this
        rw [if_neg h, if_pos h', if_neg (by omega), if_pos (by omega)]
      · have : x = y := by omega
        subst this
        rw [if_neg h, if_neg h']
        simp only [Nat.add_lt_add_iff_right, gt_iff_lt]
theorem digs_length_pos {n k : Nat} (h : k < (digs n).length) : 4294967296 ^ k ≤ n := by
  apply Classical.byContradiction
  intro hn
  have := digs_length_le (Nat.lt_of_not_le hn)
  omega
theorem cmpL_digs (a b : Nat) : cmpL (digs a) (digs b) = cmpV a b := by
  have ha := val_lt (dg_digs a)
  have hb := val_lt (dg_digs b)
  rw [val_digs] at ha hb
  unfold cmpL
  by_cases h : (digs a).length < (digs b).length
  · have := digs_length_pos h
    rw [if_pos h, cmpV, if_pos (by omega)]
  · rw [if_neg h]
    by_cases h' : (digs a).length > (digs b).length
    · have := digs_length_pos h'
      rw [if_pos h', cmpV, if_neg (by omega), if_pos (by omega)]
    · rw [if_neg h', cmpN_eq (dg_digs a) (dg_digs b), vs_all (Nat.le_refl _), vs_all (by omega), val_digs, val_digs]
theorem cmpL_tr {a b : List Nat} (ha : Dg a) (hb : Dg b) : cmpL (tr a) (tr b) = cmpV (val a) (val b) := by rw [tr_eq ha, tr_eq hb, cmpL_digs]

/-! ### Add -/
def addS (a b : List Nat) : Nat → List Nat × Nat
  | 0 => ([], 0)
  | i + 1 => ((addS a b i).1 ++ [((addS a b i).2 + a.getD i 0 + b.getD i 0) % 4294967296], ((addS a b i).2 + a.getD i 0 + b.getD i 0) / 4294967296)
theorem addS_length (a b : List Nat) : ∀ i, (addS a b i).1.length = i
  | 0 => rfl
  | i + 1 => by simp [addS, addS_length a b i]
theorem addS_carry {a b : List Nat} (ha : Dg a) (hb : Dg b) : ∀ i, (addS a b i).2 ≤ 1
  | 0 => by simp [addS]
  | i + 1 => by
    have := addS_carry ha hb i
    have h1 := ha i
    have h2 := hb i
    simp only [addS]
    omega
theorem addS_dg (a b : List Nat) : ∀ i, Dg (addS a b i).1
  | 0 => dg_nil
  | i + 1 => dg_app (addS_dg a b i) (dg_one (Nat.mod_lt _ (by omega)))
theorem addS_val (a b : List Nat) : ∀ i, val (addS a b i).1 + 4294967296 ^ i * (addS a b i).2 = vs a i + vs b i
  | 0 => by simp [addS, val, vs_zero]
  | i + 1 => by
    have ih := addS_val a b i
    simp only [addS, val_app, addS_length, val, vs_succ, Nat.pow_succ]
    have h1 := pmd (4294967296 ^ i) 4294967296 ((addS a b i).2 + a.getD i 0 + b.getD i 0)
    generalize hs : (addS a b i).2 + a.getD i 0 + b.getD i 0 = s at *
    rw [← hs, Nat.mul_add, Nat.mul_add, hs] at h1
    rw [Nat.mul_zero, Nat.add_zero]
    omega
/-! ### Mul -/
/-- One row of the product: out[i + k ..] += x * b[k ..], with a carry. -/
def mulS (b : List Nat) (x i : Nat) : Nat → List Nat × Nat → List Nat × Nat
  | 0, s => s
  | k + 1, s => let t := mulS b x i k s
    (t.1.set (i + k) ((t.2 + (t.1.getD (i + k) 0 + x * b.getD k 0)) % 4294967296), (t.2 + (t.1.getD (i + k) 0 + x * b.getD k 0)) / 4294967296)
theorem mulS_length (b : List Nat) (x i : Nat) (s : List Nat × Nat) : ∀ k, (mulS b x i k s).1.length = s.1.length
  | 0 => rfl
  | k + 1 => by simp [mulS, mulS_length b x i s k]
theorem mulS_bound {b : List Nat} {x i : Nat} {s : List Nat × Nat} (hb : Dg b) (hx : x < 4294967296) (hs : Dg s.1) (hc : s.2 < 4294967296) : ∀ k, Dg (mulS b x i k s).1 ∧ (mulS b x i k s).2 < 4294967296
  | 0 => ⟨hs, hc⟩
  | k + 1 => by
    obtain ⟨h1, h2⟩ := mulS_bound hb hx hs hc k
    have h3 := h1 (i + k)
    have h4 := hb k
    have h5 : x * b.getD k 0 ≤ 4294967295 * 4294967295 := Nat.mul_le_mul (by omega) (by omega)
    refine ⟨h1.set _ _ (Nat.mod_lt _ (by omega)), ?_⟩
    simp only [mulS]
    omega
theorem mulS_val (b : List Nat) (x i : Nat) (s : List Nat × Nat) : ∀ k, i + k ≤ s.1.length → val (mulS b x i k s).1 + 4294967296 ^ (i + k) * (mulS b x i k s).2 = val s.1 + 4294967296 ^ i * (s.2 + x * vs b k)
  | 0, _ => by simp [mulS, vs_zero]
  | k + 1, h => by
    have ih := mulS_val b x i s k (by omega)
    have hl := mulS_length b x i s k
    simp only [mulS, vs_succ]
    generalize mulS b x i k s = t at *
    have h1 := val_set t.1 (i + k) ((t.2 + (t.1.getD (i + k) 0 + x * b.getD k 0)) % 4294967296) (by omega)
    have h2 := pmd (4294967296 ^ (i + k)) 4294967296 (t.2 + (t.1.getD (i + k) 0 + x * b.getD k 0))
    have h3 : 4294967296 ^ i * (s.2 + x * (vs b k + 4294967296 ^ k * b.getD k 0)) = 4294967296 ^ i * (s.2 + x * vs b k) + 4294967296 ^ (i + k) * (x * b.getD k 0) := by
      rw [Nat.pow_add]
      simp only [Nat.mul_add, Nat.add_assoc]
      congr 2
      simp only [← Nat.mul_assoc]
      congr 1
      rw [Nat.mul_right_comm]
    rw [h3]
    generalize hw : t.2 + (t.1.getD (i + k) 0 + x * b.getD k 0) = w at *
    rw [← hw, Nat.mul_add, Nat.mul_add, hw] at h2
    rw [← Nat.add_assoc, Nat.pow_succ]
    omega
def mulO (a b : List Nat) : Nat → List Nat
  | 0 => List.replicate (a.length + b.length) 0
  | i + 1 => (mulS b (a.getD i 0) i b.length (mulO a b i, 0)).1.set (i + b.length) (mulS b (a.getD i 0) i b.length (mulO a b i, 0)).2
theorem mulO_length (a b : List Nat) : ∀ i, (mulO a b i).length = a.length + b.length
  | 0 => by simp [mulO]
  | i + 1 => by simp [mulO, mulS_length, mulO_length a b i]
theorem mulO_dg {a b : List Nat} (ha : Dg a) (hb : Dg b) : ∀ i, Dg (mulO a b i)
  | 0 => dg_rep _
  | i + 1 => by
    have ih := mulO_dg ha hb i
    obtain ⟨h1, h2⟩ := mulS_bound (i := i) (s := (mulO a b i, 0)) hb (ha i) ih (by simp) b.length
    exact h1.set _ _ h2
theorem mulS_keep (b : List Nat) (x i : Nat) (s : List Nat × Nat) (j : Nat) : ∀ k, i + k ≤ j → (mulS b x i k s).1.getD j 0 = s.1.getD j 0
  | 0, _ => rfl
  | k + 1, h => by
    have ih := mulS_keep b x i s j k (by omega)
    rw [← ih]
    simp only [mulS, List.getD_eq_getElem?_getD]
    rw [List.getElem?_set_ne (by omega)]
theorem mulO_keep (a b : List Nat) (j : Nat) : ∀ i, i + b.length ≤ j → (mulO a b i).getD j 0 = 0
  | 0, h => by
    simp only [mulO, List.getD_eq_getElem?_getD, List.getElem?_replicate]
    split <;> rfl
  | i + 1, h => by
    have ih := mulO_keep a b j i (by omega)
    rw [mulO, getD_set_ne (by omega), mulS_keep b (a.getD i 0) i (mulO a b i, 0) j b.length (by omega)]
    exact ih
theorem mulO_val (a b : List Nat) : ∀ i, i ≤ a.length → val (mulO a b i) = vs a i * val b
  | 0, _ => by simp [mulO, val_rep, vs_zero]
  | i + 1, h => by
    have ih := mulO_val a b i (by omega)
    have hl := mulO_length a b i
    have h1 := mulS_val b (a.getD i 0) i (mulO a b i, 0) b.length (by simp only [hl]; omega)
    have h0 : (mulS b (a.getD i 0) i b.length (mulO a b i, 0)).1.getD (i + b.length) 0 = 0 := by
      rw [mulS_keep _ _ _ _ _ _ (Nat.le_refl _)]
      exact mulO_keep a b _ i (Nat.le_refl _)
    have h2 := val_set (mulS b (a.getD i 0) i b.length (mulO a b i, 0)).1 (i + b.length) (mulS b (a.getD i 0) i b.length (mulO a b i, 0)).2 (by rw [mulS_length]; simp only [hl]; omega)
    rw [h0, Nat.mul_zero, Nat.add_zero] at h2
    rw [mulO, h2, h1, ih, vs_all (Nat.le_refl _), vs_succ, Nat.add_mul, Nat.zero_add, Nat.mul_assoc]
/-! ### Sub -/
theorem subS_step {p x y b v1 : Nat} {va vb r : Nat} (ih : r + vb = va + p * b) :
    (x < b + y → b + y ≤ x + v1 → r + p * (x + v1 - (b + y)) + (vb + p * y) = va + p * x + p * v1 * 1) ∧ (¬ x < b + y → r + p * (x - (b + y)) + (vb + p * y) = va + p * x + p * v1 * 0) := by
  constructor
  · intro h h'
    have e := psub p v1 x (b + y) h'
    rw [Nat.mul_add _ b] at e
    rw [Nat.mul_one]
    omega
  · intro h
    have e := psub0 p x (b + y) (by omega)
    rw [Nat.mul_add _ b] at e
    rw [Nat.mul_zero]
    omega
theorem vs_mono (a : List Nat) (i : Nat) : ∀ k, vs a i ≤ vs a (i + k)
  | 0 => Nat.le_refl _
  | k + 1 => by rw [← Nat.add_assoc, vs_succ]; exact Nat.le_trans (vs_mono a i k) (Nat.le_add_right _ _)
theorem vs_le (a : List Nat) (i : Nat) : vs a i ≤ val a := by
  have := vs_mono a i a.length
  rwa [vs_all (by omega : a.length ≤ i + a.length)] at this
/-- Digits of b beyond a's do not matter if they are 0, as they are where b is not the greater. -/
theorem vs_cut {a b : List Nat} (ha : Dg a) (h : val b ≤ val a) : vs b a.length = val b := by
  have h1 := val_lt ha
  apply Classical.byContradiction
  intro hn
  have hlt : vs b a.length < val b := Nat.lt_of_le_of_ne (vs_le _ _) hn
  have : ∀ k, vs b a.length < vs b (a.length + k) → 4294967296 ^ a.length ≤ vs b (a.length + k) := by
    intro k
    induction k with
    | zero => intro h; exact absurd h (Nat.lt_irrefl _)
    | succ k ih =>
      intro hk
      rw [← Nat.add_assoc, vs_succ] at hk ⊢
      by_cases h0 : vs b a.length < vs b (a.length + k)
      · exact Nat.le_trans (ih h0) (Nat.le_add_right _ _)
      · have : b.getD (a.length + k) 0 ≠ 0 := by
          intro e
          rw [e] at hk
          omega
        have h3 : 4294967296 ^ a.length ≤ 4294967296 ^ (a.length + k) := Nat.pow_le_pow_right (by omega) (by omega)
        have h4 : 4294967296 ^ (a.length + k) * 1 ≤ 4294967296 ^ (a.length + k) * b.getD (a.length + k) 0 := Nat.mul_le_mul_left _ (by omega)
        omega
  have := this b.length (by rwa [vs_all (by omega : b.length ≤ a.length + b.length)])
  rw [vs_all (by omega : b.length ≤ a.length + b.length)] at this
  omega
end Go.Ab
