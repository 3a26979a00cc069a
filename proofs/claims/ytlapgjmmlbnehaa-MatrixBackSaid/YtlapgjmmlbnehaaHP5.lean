/- Determinants in plain Lean: sums, the expansion over all permutations, what the operations on rows do to it. -/
import Derived.Test.YtlapgjmmlbnehaaHP4
import Derived.Test.YtlapgjmmlbnehaaHP2
import Derived.ProofKit
import Derived.OpenShut
import Derived.ChangeArms
import Derived.KernelRfl
set_option linter.unusedVariables false
set_option linter.unusedSimpArgs false
set_option linter.unusedSectionVars false
namespace Go.Ab

/-! ### Sums of fractions -/
def sumR : Nat → (Nat → Rat) → Rat
  | 0, _ => 0
  | n + 1, f => sumR n f + f n
theorem sumR_congr : ∀ {n : Nat} {f g : Nat → Rat}, (∀ k, k < n → f k = g k) → sumR n f = sumR n g
  | 0, _, _, _ => rfl
  | n + 1, f, g, h => by rw [sumR, sumR, sumR_congr fun k hk => h k (by omega), h n (by omega)]
theorem sumR_zero (n : Nat) : sumR n (fun _ => 0) = 0 := by
  induction n with
  | zero => rfl
  | succ n ih => rw [sumR, ih]; grind
theorem sumR_add (f g : Nat → Rat) : ∀ n, sumR n (fun k => f k + g k) = sumR n f + sumR n g
  | 0 => by simp only [sumR]; grind
  | n + 1 => by rw [sumR, sumR, sumR, sumR_add f g n]; grind
theorem sumR_mul (c : Rat) (f : Nat → Rat) : ∀ n, sumR n (fun k => c * f k) = c * sumR n f
  | 0 => by simp only [sumR]; grind
  | n + 1 => by rw [sumR, sumR, sumR_mul c f n]; grind
theorem sumR_lin (a b : Rat) (f g : Nat → Rat) (n : Nat) : sumR n (fun k => a * f k + b * g k) = a * sumR n f + b * sumR n g := by
  rw [sumR_add, sumR_mul, sumR_mul]
theorem sumR_neg (f : Nat → Rat) (n : Nat) : sumR n (fun k => - f k) = - sumR n f := by
  have := sumR_mul (-1) f n
  rw [sumR_congr (g := fun k => -1 * f k) fun k _ => by grind, this]; grind
theorem sumR_swap (n m : Nat) (F : Nat → Nat → Rat) : sumR n (fun i => sumR m fun j => F i j) = sumR m fun j => sumR n fun i => F i j := by
  induction n with
  | zero => simp only [sumR]; exact (sumR_zero m).symm
  | succ n ih => simp only [sumR]; rw [ih, sumR_add]
theorem sumR_one {n i : Nat} {f : Nat → Rat} (hi : i < n) (h : ∀ k, k < n → k ≠ i → f k = 0) : sumR n f = f i := by
  induction n with
  | zero => omega
  | succ n ih =>
    rw [sumR]
    by_cases hn : i = n
    · subst hn
      rw [sumR_congr (g := fun _ => 0) fun k hk => h k (by omega) (by omega), sumR_zero]; grind
    · rw [ih (by omega) fun k hk => h k (by omega), h n (by omega) (by omega)]; grind
theorem sumR_all0 {n : Nat} {f : Nat → Rat} (h : ∀ k, k < n → f k = 0) : sumR n f = 0 := by
  rw [sumR_congr (g := fun _ => 0) h, sumR_zero]

/-! ### The expansion -/
abbrev MX := Nat → Nat → Rat
def use (U : Nat → Bool) (k : Nat) : Nat → Bool := fun j => if j = k then true else U j
theorem use_comm (U : Nat → Bool) (k l : Nat) : use (use U k) l = use (use U l) k := by
  funext j; unfold use; split <;> split <;> rfl
theorem use_ne {U : Nat → Bool} {k l : Nat} (h : l ≠ k) : use U k l = U l := if_neg h
theorem use_self {U : Nat → Bool} {k : Nat} : use U k k = true := if_pos rfl
/-- One sign for each used column of d from j on. -/
def sgU (U : Nat → Bool) : Nat → Nat → Rat
  | 0, _ => 1
  | d + 1, j => (if U j then -1 else 1) * sgU U d (j + 1)
/-- The sum over all choices of unused columns for d rows from i on. -/
def Dt (n : Nat) (M : MX) : Nat → Nat → (Nat → Bool) → Rat
  | 0, _, _ => 1
  | d + 1, i, U => sumR n fun k => if U k then 0 else sgU U (n - (k + 1)) (k + 1) * M i k * Dt n M d (i + 1) (use U k)
def det (n : Nat) (M : MX) : Rat := Dt n M n 0 fun _ => false
theorem Dt_congr {n : Nat} {M N : MX} : ∀ (d i : Nat) (U : Nat → Bool), (∀ r k, i ≤ r → r < i + d → k < n → M r k = N r k) → Dt n M d i U = Dt n N d i U
  | 0, _, _, _ => rfl
  | d + 1, i, U, h => by
    rw [Dt, Dt]
    refine sumR_congr fun k hk => ?_
    rw [h i k (by omega) (by omega) hk, Dt_congr d (i + 1) (use U k) fun r k h1 h2 hk => h r k (by omega) (by omega) hk]
theorem sgU_use {U : Nat → Bool} {k : Nat} (hk : U k = false) : ∀ (d j : Nat), sgU (use U k) d j = sgU U d j * (if j ≤ k ∧ k < j + d then -1 else 1)
  | 0, j => by
    rw [if_neg (fun h => by omega)]; simp only [sgU]; grind
  | d + 1, j => by
    rw [sgU, sgU, sgU_use hk d (j + 1)]
    by_cases hj : j = k
    · subst hj
      have h1 : ¬ (j + 1 ≤ j ∧ j < j + 1 + d) := by omega
      have h2 : j ≤ j ∧ j < j + (d + 1) := by omega
      simp only [use_self, hk, if_neg h1, if_pos h2, if_true, Bool.false_eq_true, if_false]; grind
    · rw [use_ne hj]
      by_cases h2 : j ≤ k ∧ k < j + (d + 1)
      · rw [if_pos (by omega : j + 1 ≤ k ∧ k < j + 1 + d), if_pos h2]; grind
      · rw [if_neg (by omega : ¬ (j + 1 ≤ k ∧ k < j + 1 + d)), if_neg h2]; grind
/-- Two rows that stand together, changed. -/
theorem Dt_adj {n : Nat} {M N : MX} {t : Nat} (h1 : ∀ k, N t k = M (t + 1) k) (h2 : ∀ k, N (t + 1) k = M t k) (h3 : ∀ r k, r ≠ t → r ≠ t + 1 → N r k = M r k) : ∀ (d i : Nat) (U : Nat → Bool), i ≤ t → t + 1 < i + d → Dt n N d i U = - Dt n M d i U
  | 0, i, U, hi, hd => by omega
  | d + 1, i, U, hi, hd => by
    by_cases hit : i = t
    · subst hit
      obtain ⟨e, rfl⟩ : ∃ e, d = e + 1 := ⟨d - 1, by omega⟩
      have key : ∀ A : MX, Dt n A (e + 1 + 1) i U = sumR n fun k => sumR n fun l => if U k then 0 else if use U k l then 0 else sgU U (n - (k + 1)) (k + 1) * sgU (use U k) (n - (l + 1)) (l + 1) * A i k * A (i + 1) l * Dt n A e (i + 2) (use (use U k) l) := fun A => by
        rw [Dt]
        refine sumR_congr fun k hk => ?_
        by_cases hU : U k = true
        · simp only [hU, if_true]; exact (sumR_zero n).symm
        · simp only [hU]
          rw [Dt, ← sumR_mul]
          refine sumR_congr fun l hl => ?_
          by_cases hV : use U k l = true
          · simp only [hV, if_true]; grind
          · simp only [hV]; grind
      rw [key N, key M, sumR_swap, ← sumR_neg]
      refine sumR_congr fun l hl => ?_
      rw [← sumR_neg]
      refine sumR_congr fun k hk => ?_
      have hD : Dt n N e (i + 2) (use (use U k) l) = Dt n M e (i + 2) (use (use U l) k) := by
        rw [use_comm]
        exact Dt_congr _ _ _ fun r k hr _ _ => h3 r k (by omega) (by omega)
      by_cases hk : U k = true
      · have : use U l k = true := by unfold use; split <;> simp [hk]
        simp only [hk, this, if_true]; split <;> grind
      · have hk : U k = false := by simpa using hk
        by_cases hl' : U l = true
        · have : use U k l = true := by unfold use; split <;> simp [hl']
          simp only [hk, hl', this, if_true]; simp only [Bool.false_eq_true, if_false]; grind
        · have hl' : U l = false := by simpa using hl'
          by_cases hkl : k = l
          · subst hkl
            simp only [use_self, if_true, hk, Bool.false_eq_true, if_false]; grind
          · rw [use_ne (fun e => hkl e.symm), use_ne hkl, hk, hl', hD, h1, h2, sgU_use hk, sgU_use hl']
            simp only [Bool.false_eq_true, if_false]
            by_cases hlt : k < l
            · rw [if_neg (by omega : ¬ (l + 1 ≤ k ∧ k < l + 1 + (n - (l + 1)))), if_pos (by omega : k + 1 ≤ l ∧ l < k + 1 + (n - (k + 1)))]; grind
            · rw [if_pos (by omega : l + 1 ≤ k ∧ k < l + 1 + (n - (l + 1))), if_neg (by omega : ¬ (k + 1 ≤ l ∧ l < k + 1 + (n - (k + 1))))]; grind
    · rw [Dt, Dt, ← sumR_neg]
      refine sumR_congr fun k hk => ?_
      rw [h3 i k hit (by omega), Dt_adj h1 h2 h3 d (i + 1) (use U k) (by omega) (by omega)]
      split <;> grind
/-- A row that is a sum. -/
theorem Dt_lin {n : Nat} {M P Q : MX} {a b : Rat} {t : Nat} (h1 : ∀ k, M t k = a * P t k + b * Q t k) (h2 : ∀ r k, r ≠ t → P r k = M r k) (h3 : ∀ r k, r ≠ t → Q r k = M r k) : ∀ (d i : Nat) (U : Nat → Bool), i ≤ t → t < i + d → Dt n M d i U = a * Dt n P d i U + b * Dt n Q d i U
  | 0, i, U, hi, hd => by omega
  | d + 1, i, U, hi, hd => by
    rw [Dt, Dt, Dt, ← sumR_lin]
    refine sumR_congr fun k hk => ?_
    by_cases hU : U k = true
    · simp only [hU, if_true]; grind
    · simp only [hU]
      by_cases hit : i = t
      · subst hit
        rw [h1, Dt_congr (M := P) (N := M) d (i + 1) _ fun r k hr _ _ => h2 r k (by omega), Dt_congr (M := Q) (N := M) d (i + 1) _ fun r k hr _ _ => h3 r k (by omega)]; grind
      · rw [h2 i k hit, h3 i k hit, Dt_lin h1 h2 h3 d (i + 1) (use U k) (by omega) (by omega)]; grind
/-- Two rows that are the same. -/
theorem Dt_same {n : Nat} : ∀ (e : Nat) (M : MX) (r t d i : Nat) (U : Nat → Bool), t = r + 1 + e → (∀ k, M r k = M t k) → i ≤ r → t < i + d → Dt n M d i U = 0
  | 0, M, r, t, d, i, U, ht, h, hi, hd => by
    subst ht
    have := Dt_adj (n := n) (M := M) (N := M) (t := r) (fun k => h k) (fun k => (h k).symm) (fun _ _ _ _ => rfl) d i U hi (by omega)
    grind
  | e + 1, M, r, t, d, i, U, ht, h, hi, hd => by
    let N : MX := fun q k => if q = t - 1 then M t k else if q = t then M (t - 1) k else M q k
    have h1 : Dt n N d i U = 0 := Dt_same e N r (t - 1) d i U (by omega) (fun k => by
      show (if r = t - 1 then M t k else if r = t then M (t - 1) k else M r k) = (if t - 1 = t - 1 then M t k else _)
      rw [if_neg (by omega), if_neg (by omega), if_pos rfl]; exact h k) hi (by omega)
    have h2 := Dt_adj (n := n) (M := M) (N := N) (t := t - 1) (fun k => by
      show (if t - 1 = t - 1 then M t k else _) = _
      rw [if_pos rfl, show t - 1 + 1 = t by omega]) (fun k => by
      show (if t - 1 + 1 = t - 1 then M t k else if t - 1 + 1 = t then M (t - 1) k else _) = _
      rw [if_neg (by omega), if_pos (by omega)]) (fun q k a b => by
      show (if q = t - 1 then M t k else if q = t then M (t - 1) k else M q k) = _
      rw [if_neg a, if_neg (by omega)]) d i U (by omega) (by omega)
    grind
/-! ### Operations on rows -/
def addR (M : MX) (r t : Nat) (f : Rat) : MX := fun q k => if q = t then M t k - f * M r k else M q k
def swpR (M : MX) (r t : Nat) : MX := fun q k => if q = r then M t k else if q = t then M r k else M q k
def sclR (M : MX) (r : Nat) (a : Rat) : MX := fun q k => if q = r then a * M r k else M q k
theorem det_add {n : Nat} (M : MX) {r t : Nat} (f : Rat) (hr : r < n) (ht : t < n) (hne : r ≠ t) : det n (addR M r t f) = det n M := by
  let Q : MX := fun q k => if q = t then M r k else M q k
  have h0 : det n Q = 0 := by
    rcases Nat.lt_or_gt_of_ne hne with h | h
    · exact Dt_same (t - (r + 1)) Q r t n 0 _ (by omega) (fun k => by
        show (if r = t then _ else M r k) = (if t = t then M r k else _)
        rw [if_neg hne, if_pos rfl]) (by omega) (by omega)
    · exact Dt_same (r - (t + 1)) Q t r n 0 _ (by omega) (fun k => by
        show (if t = t then M r k else _) = (if r = t then _ else M r k)
        rw [if_neg hne, if_pos rfl]) (by omega) (by omega)
  have := Dt_lin (n := n) (M := addR M r t f) (P := M) (Q := Q) (a := 1) (b := -f) (t := t) (fun k => by
    show (if t = t then M t k - f * M r k else _) = 1 * M t k + -f * (if t = t then M r k else _)
    rw [if_pos rfl, if_pos rfl]; grind) (fun q k hq => (if_neg hq).symm) (fun q k hq => by
    show (if q = t then _ else M q k) = (if q = t then _ else M q k)
    rw [if_neg hq, if_neg hq]) n 0 (fun _ => false) (by omega) (by omega)
  unfold det at *
  rw [this, h0]; grind
theorem det_scl {n : Nat} (M : MX) {r : Nat} (a : Rat) (hr : r < n) : det n (sclR M r a) = a * det n M := by
  have := Dt_lin (n := n) (M := sclR M r a) (P := M) (Q := M) (a := a) (b := 0) (t := r) (fun k => by
    show (if r = r then a * M r k else _) = _
    rw [if_pos rfl]; grind) (fun q k hq => (if_neg hq).symm) (fun q k hq => (if_neg hq).symm) n 0 (fun _ => false) (by omega) (by omega)
  unfold det
  rw [this]; grind
theorem det_congr {n : Nat} {M N : MX} (h : ∀ r k, r < n → k < n → M r k = N r k) : det n M = det n N :=
  Dt_congr n 0 _ fun r k _ hr hk => h r k (by omega) hk
theorem det_swp {n : Nat} (M : MX) {r t : Nat} (hr : r < n) (ht : t < n) (hne : r ≠ t) : det n (swpR M r t) = - det n M := by
  have e : ∀ q k, swpR M r t q k = sclR (addR (addR (addR M r t (-1)) t r 1) r t (-1)) r (-1) q k := fun q k => by
    simp only [swpR, sclR, addR]
    by_cases h1 : q = r
    · subst h1; simp only [if_true, if_neg hne, if_neg hne.symm]; grind
    · by_cases h2 : q = t
      · subst h2; simp only [if_true, if_neg hne, if_neg hne.symm]; grind
      · simp only [if_neg h1, if_neg h2]
  have : det n (swpR M r t) = det n (sclR (addR (addR (addR M r t (-1)) t r 1) r t (-1)) r (-1)) := det_congr fun q k _ _ => e q k
  rw [this, det_scl _ _ hr, det_add _ _ hr ht hne, det_add _ _ ht hr hne.symm, det_add _ _ hr ht hne]; grind
/-- A row of zeros. -/
theorem det_row0 {n : Nat} {M : MX} {r : Nat} (hr : r < n) (h : ∀ k, k < n → M r k = 0) : det n M = 0 := by
  have := det_scl (n := n) M (r := r) 0 hr
  have h2 : det n (sclR M r 0) = det n M := det_congr fun q k _ hk => by
    unfold sclR
    split
    · rename_i e; subst e; rw [h k hk]; grind
    · rfl
  grind
/-! ### Columns -/
def cntU (U : Nat → Bool) : Nat → Nat
  | 0 => 0
  | n + 1 => cntU U n + if U n then 1 else 0
theorem cnt_le (U : Nat → Bool) : ∀ n, cntU U n ≤ n
  | 0 => Nat.le_refl _
  | n + 1 => by have := cnt_le U n; rw [cntU]; split <;> omega
theorem cnt_all {U : Nat → Bool} : ∀ {n : Nat}, cntU U n = n → ∀ c, c < n → U c = true
  | 0, _, c, hc => by omega
  | n + 1, h, c, hc => by
    rw [cntU] at h
    have hl := cnt_le U n
    by_cases hn : U n = true
    · by_cases e : c = n
      · rw [e]; exact hn
      · rw [if_pos hn] at h; exact cnt_all (n := n) (by omega) c (by omega)
    · rw [if_neg hn] at h; omega
theorem cnt_same {U V : Nat → Bool} : ∀ {n : Nat}, (∀ j, j < n → U j = V j) → cntU U n = cntU V n
  | 0, _ => rfl
  | n + 1, h => by rw [cntU, cntU, cnt_same fun j hj => h j (by omega), h n (by omega)]
theorem cnt_use {U : Nat → Bool} {k : Nat} (hk : U k = false) : ∀ {n : Nat}, k < n → cntU (use U k) n = cntU U n + 1
  | 0, h => by omega
  | n + 1, h => by
    rw [cntU, cntU]
    by_cases e : k = n
    · subst e
      rw [use_self, hk, cnt_same (V := U) fun j hj => use_ne (by omega)]; simp
    · rw [cnt_use hk (by omega), use_ne (fun h => e h.symm)]; omega
/-- A column of zeros that is not used yet. -/
theorem Dt_col0 {n : Nat} {M : MX} {c : Nat} (hc : c < n) : ∀ (d i : Nat) (U : Nat → Bool), U c = false → (∀ r, i ≤ r → r < i + d → M r c = 0) → cntU U n + d = n → Dt n M d i U = 0
  | 0, i, U, hU, h, hn => by
    have := cnt_all (show cntU U n = n by omega) c hc
    rw [hU] at this; cases this
  | d + 1, i, U, hU, h, hn => by
    rw [Dt]
    refine sumR_all0 fun k hk => ?_
    by_cases hk' : U k = true
    · rw [if_pos hk']
    · have hk'' : U k = false := by simpa using hk'
      rw [if_neg hk']
      by_cases hkc : k = c
      · rw [hkc, h i (by omega) (by omega)]; grind
      · rw [Dt_col0 hc d (i + 1) (use U k) (by rw [use_ne (fun e => hkc e.symm)]; exact hU) (fun r h1 h2 => h r (by omega) (by omega)) (by rw [cnt_use hk'' hk]; omega)]; grind
theorem cnt_none (n : Nat) : cntU (fun _ => false) n = 0 := by
  induction n with
  | zero => rfl
  | succ n ih => rw [cntU, ih]; rfl
theorem det_col0 {n : Nat} {M : MX} {c : Nat} (hc : c < n) (h : ∀ r, r < n → M r c = 0) : det n M = 0 :=
  Dt_col0 hc n 0 _ rfl (fun r _ hr => h r (by omega)) (by rw [cnt_none]; omega)
/-- The product of the diagonal, d cells from i on. -/
def diagP (M : MX) : Nat → Nat → Rat
  | 0, _ => 1
  | d + 1, i => M i i * diagP M d (i + 1)
theorem sgU_one {U : Nat → Bool} : ∀ (d j : Nat), (∀ q, j ≤ q → q < j + d → U q = false) → sgU U d j = 1
  | 0, _, _ => rfl
  | d + 1, j, h => by
    rw [sgU, h j (by omega) (by omega), sgU_one d (j + 1) fun q h1 h2 => h q (by omega) (by omega)]; simp
def below (i : Nat) : Nat → Bool := fun j => decide (j < i)
theorem cnt_below {i : Nat} : ∀ {n : Nat}, i ≤ n → cntU (below i) n = i
  | 0, h => by rw [cntU]; omega
  | n + 1, h => by
    rw [cntU]
    by_cases e : i = n + 1
    · subst e
      have : cntU (below (n + 1)) n = cntU (below n) n := cnt_same fun j hj => by simp [below]; omega
      rw [this, cnt_below (Nat.le_refl n)]; simp [below]
    · rw [cnt_below (by omega)]
      have : below i n = false := by simp [below]; omega
      rw [this]; rfl
theorem Dt_tri {n : Nat} {M : MX} (h : ∀ r k, r < n → k < r → M r k = 0) : ∀ (d i : Nat), i + d = n → Dt n M d i (below i) = diagP M d i
  | 0, _, _ => rfl
  | d + 1, i, hi => by
    have hin : i < n := by omega
    have hU : below i i = false := by simp [below]
    rw [Dt, sumR_one hin fun k hk hne => ?_, if_neg (by rw [hU]; simp), sgU_one _ _ fun q h1 h2 => by simp [below]; omega]
    · have e : use (below i) i = below (i + 1) := by
        funext j; unfold use below
        split
        · rename_i e; subst e; simp
        · rename_i e; apply decide_eq_decide.2; omega
      rw [e, Dt_tri h d (i + 1) (by omega), diagP]; grind
    · by_cases hk' : below i k = true
      · rw [if_pos hk']
      · have hk'' : below i k = false := by simpa using hk'
        rw [if_neg hk', Dt_col0 hin d (i + 1) (use (below i) k) (by rw [use_ne (fun e => hne e.symm)]; exact hU) (fun r h1 h2 => h r i (by omega) (by omega)) (by rw [cnt_use hk'' hk, cnt_below (by omega)]; omega)]; grind
theorem det_tri {n : Nat} {M : MX} (h : ∀ r k, r < n → k < r → M r k = 0) : det n M = diagP M n 0 := by
  have e : (fun _ => false) = below 0 := by funext j; simp [below]
  unfold det
  rw [e]
  exact Dt_tri h n 0 (by omega)
end Go.Ab

/- Row operations in plain Lean: chains, systems, steps, ranks. -/
set_option linter.unusedVariables false
set_option linter.unusedSimpArgs false
set_option linter.unusedSectionVars false
namespace Go.Ab

def Agr (n c : Nat) (M N : MX) : Prop := ∀ i k, i < n → k < c → M i k = N i k
/-- One matrix is brought to another by operations on its n rows; so much is its determinant multiplied by. -/
inductive RE (n c : Nat) (M : MX) : MX → Rat → Prop
  | refl : RE n c M M 1
  | add (N : MX) (s : Rat) (r t : Nat) (f : Rat) (h : RE n c M N s) (hr : r < n) (ht : t < n) (hne : r ≠ t) : RE n c M (addR N r t f) s
  | swp (N : MX) (s : Rat) (r t : Nat) (h : RE n c M N s) (hr : r < n) (ht : t < n) (hne : r ≠ t) : RE n c M (swpR N r t) (-s)
  | scl (N : MX) (s : Rat) (r : Nat) (a : Rat) (h : RE n c M N s) (hr : r < n) (ha : a ≠ 0) : RE n c M (sclR N r a) (a * s)
  | cong (N N' : MX) (s : Rat) (h : RE n c M N s) (e : Agr n c N N') : RE n c M N' s
section
variable {n c : Nat} {M N : MX} {s : Rat}
theorem RE.det (h : RE n c M N s) (hc : n ≤ c) : det n N = s * Ab.det n M := by
  induction h with
  | refl => grind
  | add N s r t f h hr ht hne ih => rw [det_add N f hr ht hne, ih]
  | swp N s r t h hr ht hne ih => rw [det_swp N hr ht hne, ih]; grind
  | scl N s r a h hr ha ih => rw [det_scl N a hr, ih]; grind
  | cong N N' s h e ih => rw [← ih]; exact det_congr fun r k hr hk => (e r k hr (by omega)).symm
theorem RE.ne0 (h : RE n c M N s) : s ≠ 0 := by
  induction h with
  | refl => decide
  | add N s r t f h hr ht hne ih => exact ih
  | swp N s r t h hr ht hne ih => intro e; apply ih; grind
  | scl N s r a h hr ha ih => intro e; apply ih; grind
  | cong N N' s h e ih => exact ih
/-- A system without right side. -/
def rowS (c : Nat) (M : MX) (x : Nat → Rat) (i : Nat) : Rat := sumR c fun j => M i j * x j
def Sys (n c : Nat) (M : MX) (x : Nat → Rat) : Prop := ∀ i, i < n → rowS c M x i = 0
theorem rowS_lin (a b : Rat) (u v x : Nat → Rat) : sumR c (fun j => (a * u j + b * v j) * x j) = a * sumR c (fun j => u j * x j) + b * sumR c (fun j => v j * x j) := by
  rw [← sumR_lin]; exact sumR_congr fun k _ => by grind
theorem rowS_add (N : MX) (r t : Nat) (f : Rat) (x : Nat → Rat) (i : Nat) : rowS c (addR N r t f) x i = if i = t then rowS c N x t - f * rowS c N x r else rowS c N x i := by
  unfold rowS addR
  by_cases h : i = t
  · simp only [if_pos h]
    have := rowS_lin (c := c) 1 (-f) (N t) (N r) x
    rw [sumR_congr (g := fun j => (1 * N t j + -f * N r j) * x j) fun k _ => by grind, this]; grind
  · simp only [if_neg h]
theorem rowS_scl (N : MX) (r : Nat) (a : Rat) (x : Nat → Rat) (i : Nat) : rowS c (sclR N r a) x i = if i = r then a * rowS c N x r else rowS c N x i := by
  unfold rowS sclR
  by_cases h : i = r
  · simp only [if_pos h]
    rw [← sumR_mul]; exact sumR_congr fun k _ => by grind
  · simp only [if_neg h]
theorem rowS_swp (N : MX) (r t : Nat) (x : Nat → Rat) (i : Nat) : rowS c (swpR N r t) x i = if i = r then rowS c N x t else if i = t then rowS c N x r else rowS c N x i := by
  unfold rowS swpR
  split
  · rfl
  · split <;> rfl
theorem RE.sys (h : RE n c M N s) (x : Nat → Rat) : Sys n c N x ↔ Sys n c M x := by
  induction h with
  | refl => exact Iff.rfl
  | add N s r t f h hr ht hne ih =>
    rw [← ih]
    constructor
    · intro hs i hi
      have h1 := hs i hi
      have h2 := hs r hr
      rw [rowS_add] at h1 h2
      rw [if_neg hne] at h2
      by_cases e : i = t
      · rw [if_pos e] at h1; subst e; grind
      · rw [if_neg e] at h1; exact h1
    · intro hs i hi
      rw [rowS_add]
      split
      · rw [hs t ht, hs r hr]; grind
      · exact hs i hi
  | swp N s r t h hr ht hne ih =>
    rw [← ih]
    constructor
    · intro hs i hi
      by_cases e : i = r
      · have := hs t ht
        rw [rowS_swp, if_neg hne.symm, if_pos rfl] at this
        rw [e]; exact this
      · by_cases e2 : i = t
        · have := hs r hr
          rw [rowS_swp, if_pos rfl] at this
          rw [e2]; exact this
        · have := hs i hi
          rw [rowS_swp, if_neg e, if_neg e2] at this
          exact this
    · intro hs i hi
      rw [rowS_swp]
      split
      · exact hs t ht
      · split
        · exact hs r hr
        · exact hs i hi
  | scl N s r a h hr ha ih =>
    rw [← ih]
    constructor
    · intro hs i hi
      have h1 := hs i hi
      rw [rowS_scl] at h1
      by_cases e : i = r
      · rw [if_pos e] at h1; subst e; grind
      · rw [if_neg e] at h1; exact h1
    · intro hs i hi
      rw [rowS_scl]
      split
      · rw [hs r hr]; grind
      · exact hs i hi
  | cong N N' s h e ih =>
    rw [← ih]
    have : ∀ i, i < n → rowS c N' x i = rowS c N x i := fun i hi => sumR_congr fun k hk => by rw [e i k hi hk]
    exact ⟨fun hs i hi => by rw [← this i hi]; exact hs i hi, fun hs i hi => by rw [this i hi]; exact hs i hi⟩
/-! ### A column cleared -/
/-- The rows from a to m, but r, are cleared in a column by row r. -/
def clrB (a m : Nat) (N : MX) (r col : Nat) : MX := fun i j => if a ≤ i ∧ i < m ∧ i ≠ r then N i j - N i col / N r col * N r j else N i j
theorem RE.clr (h : RE n c M N s) {r col : Nat} (hr : r < n) (a : Nat) : ∀ m, m ≤ n → RE n c M (clrB a m N r col) s
  | 0, _ => by
    have : clrB a 0 N r col = N := by funext i j; exact if_neg (by omega)
    rw [this]; exact h
  | m + 1, hm => by
    have ih := RE.clr h hr a (col := col) m (by omega)
    by_cases hc : a ≤ m ∧ m ≠ r
    · have := RE.add _ _ r m (N m col / N r col) ih hr (by omega) (fun e => hc.2 e.symm)
      have e : addR (clrB a m N r col) r m (N m col / N r col) = clrB a (m + 1) N r col := by
        funext i j
        unfold addR clrB
        by_cases hi : i = m
        · subst hi
          rw [if_pos rfl, if_neg (by omega), if_neg (by omega), if_pos (by omega)]
        · rw [if_neg hi]
          by_cases h2 : a ≤ i ∧ i < m ∧ i ≠ r
          · rw [if_pos h2, if_pos (by omega)]
          · rw [if_neg h2, if_neg (by omega)]
      rw [← e]; exact this
    · have e : clrB a (m + 1) N r col = clrB a m N r col := by
        funext i j
        unfold clrB
        by_cases h2 : a ≤ i ∧ i < m ∧ i ≠ r
        · rw [if_pos h2, if_pos (by omega)]
        · rw [if_neg h2, if_neg (by omega)]
      rw [e]; exact ih
/-! ### Steps -/
/-- The first col columns stand in r steps. -/
structure Ech (n : Nat) (N : MX) (r col : Nat) (cs : Nat → Nat) : Prop where
  le : r ≤ n
  lt : ∀ i, i < r → cs i < col
  mono : ∀ i j, i < j → j < r → cs i < cs j
  piv : ∀ i, i < r → N i (cs i) ≠ 0
  lead : ∀ i, i < r → ∀ j, j < cs i → N i j = 0
  rest : ∀ i, r ≤ i → i < n → ∀ j, j < col → N i j = 0
variable {r col : Nat} {cs : Nat → Nat}
theorem ech0 (n : Nat) (N : MX) (cs : Nat → Nat) : Ech n N 0 0 cs := ⟨Nat.zero_le _, fun i h => by omega, fun i j _ h => by omega, fun i h => by omega, fun i h => by omega, fun i _ _ j h => by omega⟩
theorem Ech.skip (E : Ech n N r col cs) (h : ∀ i, r ≤ i → i < n → N i col = 0) : Ech n N r (col + 1) cs :=
  ⟨E.le, fun i hi => by have := E.lt i hi; omega, E.mono, E.piv, E.lead, fun i h1 h2 j hj => by
    by_cases e : j = col
    · rw [e]; exact h i h1 h2
    · exact E.rest i h1 h2 j (by omega)⟩
theorem Ech.take (E : Ech n N r col cs) {N1 : MX} (hr : r < n) (h1 : ∀ i j, i < r → j < col → N1 i j = N i j) (h2 : ∀ i j, r ≤ i → i < n → j < col → N1 i j = 0) (h3 : N1 r col ≠ 0) (h4 : ∀ i, r < i → i < n → N1 i col = 0) : Ech n N1 (r + 1) (col + 1) (fun i => if i = r then col else cs i) := by
  refine ⟨by omega, fun i hi => ?_, fun i j hij hj => ?_, fun i hi => ?_, fun i hi j hj => ?_, fun i hi hn j hj => ?_⟩
  · split
    · omega
    · have := E.lt i (by omega); omega
  · by_cases e : j = r
    · rw [if_neg (by omega), if_pos e]; exact E.lt i (by omega)
    · rw [if_neg (by omega), if_neg e]; exact E.mono i j hij (by omega)
  · by_cases e : i = r
    · rw [if_pos e, e]; exact h3
    · rw [if_neg e, h1 i _ (by omega) (E.lt i (by omega))]; exact E.piv i (by omega)
  · by_cases e : i = r
    · rw [if_pos e] at hj; rw [e]; exact h2 r j (by omega) hr hj
    · rw [if_neg e] at hj
      have := E.lt i (by omega)
      rw [h1 i j (by omega) (by omega)]
      exact E.lead i (by omega) j hj
  · by_cases e : j = col
    · rw [e]; exact h4 i (by omega) hn
    · exact h2 i j (by omega) hn (by omega)
/-- A column hangs on those before it. -/
def DepC (n c : Nat) (M : MX) (k : Nat) : Prop := ∃ x : Nat → Rat, x k ≠ 0 ∧ (∀ j, k < j → x j = 0) ∧ Sys n c M x
theorem RE.dep (h : RE n c M N s) (k : Nat) : DepC n c N k ↔ DepC n c M k :=
  ⟨fun ⟨x, h1, h2, h3⟩ => ⟨x, h1, h2, (h.sys x).1 h3⟩, fun ⟨x, h1, h2, h3⟩ => ⟨x, h1, h2, (h.sys x).2 h3⟩⟩
theorem Ech.not_dep (E : Ech n N r col cs) (hc : col ≤ c) {i : Nat} (hi : i < r) : ¬ DepC n c N (cs i) := by
  rintro ⟨x, h1, h2, h3⟩
  have hlt := E.lt i hi
  have := h3 i (by have := E.le; omega)
  unfold rowS at this
  rw [sumR_one (show cs i < c by omega) fun k hk hne => ?_] at this
  · have h4 := E.piv i hi
    grind
  · by_cases hk2 : k < cs i
    · rw [E.lead i hi k hk2]; grind
    · rw [h2 k (by omega)]; grind
theorem Ech.dep (E : Ech n N r col cs) (hc : col ≤ c) {k : Nat} (hk : k < col) (hne : ∀ i, i < r → cs i ≠ k) : DepC n c N k := by
  have key : ∀ d m, m + d = r → ∃ x : Nat → Rat, x k = 1 ∧ (∀ j, k < j → x j = 0) ∧ ∀ i, m ≤ i → i < n → rowS c N x i = 0 := by
    intro d
    induction d with
    | zero =>
      intro m hm
      refine ⟨fun j => if j = k then 1 else 0, if_pos rfl, fun j hj => if_neg (by omega), fun i h1 h2 => ?_⟩
      unfold rowS
      refine sumR_all0 fun j hj => ?_
      by_cases e : j = k
      · rw [e, E.rest i (by omega) h2 k hk]; grind
      · simp only [if_neg e]; grind
    | succ d ih =>
      intro m hm
      obtain ⟨x, h1, h2, h3⟩ := ih (m + 1) (by omega)
      have hmr : m < r := by omega
      have hml := E.lt m hmr
      have hmn := hne m hmr
      by_cases hkm : k < cs m
      · refine ⟨x, h1, h2, fun i hi hn => ?_⟩
        by_cases e : i = m
        · subst e
          unfold rowS
          refine sumR_all0 fun j hj => ?_
          by_cases hj2 : j < cs i
          · rw [E.lead i hmr j hj2]; grind
          · rw [h2 j (by omega)]; grind
        · exact h3 i (by omega) hn
      · have hp := E.piv m hmr
        have hrow : ∀ i, rowS c N (fun j => if j = cs m then x j + -(rowS c N x m / N m (cs m)) else x j) i = rowS c N x i + N i (cs m) * -(rowS c N x m / N m (cs m)) := fun i => by
          have e1 : rowS c N (fun j => if j = cs m then x j + -(rowS c N x m / N m (cs m)) else x j) i = sumR c (fun j => N i j * x j + (if j = cs m then N i j * -(rowS c N x m / N m (cs m)) else 0)) := sumR_congr fun j _ => by split <;> grind
          rw [e1, sumR_add, sumR_one (f := fun j => if j = cs m then N i j * -(rowS c N x m / N m (cs m)) else 0) (show cs m < c by omega) fun j _ hj => if_neg hj, if_pos rfl]; rfl
        refine ⟨fun j => if j = cs m then x j + -(rowS c N x m / N m (cs m)) else x j, ?_, fun j hj => ?_, fun i hi hn => ?_⟩
        · show (if k = cs m then _ else x k) = 1
          rw [if_neg (fun e => hmn e.symm)]; exact h1
        · show (if j = cs m then _ else x j) = 0
          rw [if_neg (by omega)]; exact h2 j hj
        · rw [hrow i]
          by_cases e : i = m
          · subst e; grind
          · rw [h3 i (by omega) hn]
            have : N i (cs m) = 0 := by
              by_cases hir : i < r
              · exact E.lead i hir _ (E.mono m i (by omega) hir)
              · exact E.rest i (by omega) hn _ hml
            rw [this]; grind
  obtain ⟨x, h1, h2, h3⟩ := key r 0 (by omega)
  exact ⟨x, by rw [h1]; decide, h2, fun i hi => h3 i (Nat.zero_le _) hi⟩
/-! ### How many steps there are -/
open Classical in
noncomputable def pivB (n c : Nat) (M : MX) (k : Nat) : Bool := decide (¬ DepC n c M k)
theorem pivB_t {n c : Nat} {M : MX} {k : Nat} (h : ¬ DepC n c M k) : pivB n c M k = true := by unfold pivB; simp [h]
theorem pivB_f {n c : Nat} {M : MX} {k : Nat} (h : DepC n c M k) : pivB n c M k = false := by unfold pivB; simp [h]
/-- What a matrix has been brought to. -/
structure EC (n c : Nat) (M N : MX) (s : Rat) (r col : Nat) (cs : Nat → Nat) : Prop where
  ech : Ech n N r col cs
  re : RE n c M N s
  cnt : cntU (pivB n c M) col = r
theorem EC.skip (H : EC n c M N s r col cs) (hc : col < c) (h : ∀ i, r ≤ i → i < n → N i col = 0) : EC n c M N s r (col + 1) cs := by
  have E := H.ech.skip h
  refine ⟨E, H.re, ?_⟩
  have hd : DepC n c M col := (H.re.dep col).1 (E.dep hc (Nat.lt_succ_self _) fun i hi => by have := H.ech.lt i hi; omega)
  rw [cntU, H.cnt, pivB_f hd]; rfl
theorem EC.take (H : EC n c M N s r col cs) {N1 : MX} {s1 : Rat} (hc : col < c) (hr : r < n) (h : RE n c M N1 s1) (h1 : ∀ i j, i < r → j < col → N1 i j = N i j) (h2 : ∀ i j, r ≤ i → i < n → j < col → N1 i j = 0) (h3 : N1 r col ≠ 0) (h4 : ∀ i, r < i → i < n → N1 i col = 0) : EC n c M N1 s1 (r + 1) (col + 1) (fun i => if i = r then col else cs i) := by
  have E := H.ech.take hr h1 h2 h3 h4
  refine ⟨E, h, ?_⟩
  have hd : ¬ DepC n c M col := fun hh => by
    have := E.not_dep hc (i := r) (by omega)
    simp only [if_true] at this
    exact this ((h.dep col).2 hh)
  rw [cntU, H.cnt, pivB_t hd]; rfl
theorem EC.full (H : EC n c M N s n col cs) : ∀ d, col + d ≤ c → EC n c M N s n (col + d) cs
  | 0, _ => H
  | d + 1, h => (EC.full H d (by omega)).skip (by omega) fun i h1 h2 => by omega
theorem ec0 (n c : Nat) (M : MX) (cs : Nat → Nat) : EC n c M M 1 0 0 cs := ⟨ech0 n M cs, .refl, rfl⟩
/-- As many steps as columns: they stand one behind another. -/
theorem Ech.id (E : Ech n N n n cs) : ∀ i, i < n → cs i = i := by
  have lo : ∀ i, i < n → i ≤ cs i := by
    intro i
    induction i with
    | zero => intro _; omega
    | succ i ih => intro hi; have := ih (by omega); have := E.mono i (i + 1) (by omega) hi; omega
  have hi : ∀ d i, i + d + 1 = n → cs i ≤ i := by
    intro d
    induction d with
    | zero => intro i h; have := E.lt i (by omega); omega
    | succ d ih => intro i h; have := ih (i + 1) (by omega); have := E.mono i (i + 1) (by omega) (by omega); omega
  intro i h
  have := lo i h
  have := hi (n - i - 1) i (by omega)
  omega
end
end Go.Ab

/- Determinants in plain Lean: products and transposes. -/
set_option linter.unusedVariables false
set_option linter.unusedSimpArgs false
set_option linter.unusedSectionVars false
namespace Go.Ab

/-- A matrix brought to steps that are reduced. -/
structure Red (n : Nat) (M N : MX) (s : Rat) (r col : Nat) (cs : Nat → Nat) : Prop where
  ech : Ech n N r col cs
  re : RE n n M N s
  red : ∀ i, i < r → ∀ j, j < n → j ≠ i → N j (cs i) = 0
theorem clrB_row {a m : Nat} {N : MX} {r col : Nat} {j : Nat} : clrB a m N r col r j = N r j := if_neg (by omega)
theorem clrB_hit {a m : Nat} {N : MX} {r col : Nat} {i j : Nat} (h : a ≤ i ∧ i < m ∧ i ≠ r) : clrB a m N r col i j = N i j - N i col / N r col * N r j := if_pos h
theorem clrB_not {a m : Nat} {N : MX} {r col : Nat} {i j : Nat} (h : ¬ (a ≤ i ∧ i < m ∧ i ≠ r)) : clrB a m N r col i j = N i j := if_neg h
theorem clrB_zero {a m : Nat} {N : MX} {r col : Nat} {i j : Nat} (h : N r j = 0) : clrB a m N r col i j = N i j := by
  unfold clrB; split
  · rw [h]; grind
  · rfl
theorem clrB_col {a m : Nat} {N : MX} {r col : Nat} {i : Nat} (hp : N r col ≠ 0) (h : a ≤ i ∧ i < m ∧ i ≠ r) : clrB a m N r col i col = 0 := by
  rw [clrB_hit h]; grind
theorem Red.step {n : Nat} {M N : MX} {s : Rat} {r col : Nat} {cs : Nat → Nat} (R : Red n M N s r col cs) (hc : col < n) : ∃ N' s' r' cs', Red n M N' s' r' (col + 1) cs' := by
  by_cases h : ∀ i, r ≤ i → i < n → N i col = 0
  · exact ⟨N, s, r, cs, R.ech.skip h, R.re, R.red⟩
  · have : ∃ p, r ≤ p ∧ p < n ∧ N p col ≠ 0 := by
      refine Classical.byContradiction fun hn => h fun i h1 h2 => Classical.byContradiction fun h3 => hn ⟨i, h1, h2, h3⟩
    obtain ⟨p, h1, h2, h3⟩ := this
    -- the pivot's row goes up
    have up : ∃ (P : MX) (s1 : Rat), RE n n M P s1 ∧ (∀ i j, i < r → P i j = N i j) ∧ (∀ i j, r ≤ i → i < n → j < col → P i j = 0) ∧ P r col ≠ 0 ∧ ∀ i, i < r → ∀ q, r ≤ q → q < n → P q (cs i) = 0 := by
      by_cases e : p = r
      · subst e
        exact ⟨N, s, R.re, fun _ _ _ => rfl, fun i j a b d => R.ech.rest i a b j d, h3, fun i hi q a b => R.ech.rest q a b _ (R.ech.lt i hi)⟩
      · have hz : ∀ i j, r ≤ i → i < n → j < col → swpR N r p i j = 0 := fun i j a b d => by
          unfold swpR
          split
          · exact R.ech.rest p h1 h2 j d
          · split
            · exact R.ech.rest r (Nat.le_refl _) (by omega) j d
            · exact R.ech.rest i a b j d
        exact ⟨swpR N r p, -s, .swp N s r p R.re (by omega) h2 (fun e2 => e e2.symm), fun i j hi => by unfold swpR; rw [if_neg (by omega), if_neg (by omega)], hz, by unfold swpR; rw [if_pos rfl]; exact h3, fun i hi q a b => hz q _ a b (R.ech.lt i hi)⟩
    obtain ⟨P, s1, re, u1, u2, u3, u4⟩ := up
    have hr : r < n := by omega
    have E1 : Ech n (clrB 0 n P r col) (r + 1) (col + 1) (fun i => if i = r then col else cs i) := by
      refine R.ech.take hr (fun i j hi hj => ?_) (fun i j a b d => ?_) (by rw [clrB_row]; exact u3) (fun i a b => clrB_col u3 ⟨by omega, b, by omega⟩)
      · rw [clrB_zero (u2 r j (Nat.le_refl _) hr hj), u1 i j hi]
      · rw [clrB_zero (u2 r j (Nat.le_refl _) hr d)]; exact u2 i j a b d
    refine ⟨_, s1, r + 1, _, E1, re.clr hr 0 n (Nat.le_refl n), fun i hi j hj hne => ?_⟩
    by_cases e : i = r
    · simp only [if_pos e]
      exact clrB_col u3 ⟨by omega, hj, by omega⟩
    · simp only [if_neg e]
      rw [clrB_zero (u4 i (by omega) r (Nat.le_refl _) hr)]
      by_cases hjr : j < r
      · rw [u1 j _ hjr]; exact R.red i (by omega) j hj hne
      · exact u4 i (by omega) j (by omega) hj
theorem red_ex (n : Nat) (M : MX) : ∃ N s r cs, Red n M N s r n cs := by
  have : ∀ col, col ≤ n → ∃ N s r cs, Red n M N s r col cs := by
    intro col
    induction col with
    | zero => intro _; exact ⟨M, 1, 0, fun _ => 0, ech0 n M _, .refl, fun i h => by omega⟩
    | succ col ih =>
      intro h
      obtain ⟨N, s, r, cs, R⟩ := ih (by omega)
      exact R.step (by omega)
  exact this n (Nat.le_refl n)
/-- Diagonal, or with a row of zeros. -/
theorem red_end (n : Nat) (M : MX) : ∃ N s, RE n n M N s ∧ ((∀ i j, i < n → j < n → i ≠ j → N i j = 0) ∨ ∃ r, r < n ∧ ∀ j, j < n → N r j = 0) := by
  obtain ⟨N, s, r, cs, R⟩ := red_ex n M
  refine ⟨N, s, R.re, ?_⟩
  by_cases h : r = n
  · subst h
    left
    intro i j hi hj hne
    have := R.red j hj i hi hne
    rwa [R.ech.id j hj] at this
  · right
    exact ⟨r, by have := R.ech.le; omega, fun j hj => R.ech.rest r (Nat.le_refl _) (by have := R.ech.le; omega) j hj⟩
/-! ### Products -/
def mulM (n : Nat) (A B : MX) : MX := fun i k => sumR n fun j => A i j * B j k
def idM : MX := fun i j => if i = j then 1 else 0
def trM (A : MX) : MX := fun i j => A j i
theorem mulM_id {n : Nat} (A : MX) : ∀ i j, i < n → j < n → mulM n idM A i j = A i j := fun i j hi hj => by
  unfold mulM idM
  rw [sumR_one hi fun k _ hk => by rw [if_neg (fun e => hk e.symm)]; grind, if_pos rfl]; grind
theorem mulM_assoc (n : Nat) (A B C : MX) (i k : Nat) : mulM n (mulM n A B) C i k = mulM n A (mulM n B C) i k := by
  unfold mulM
  rw [sumR_congr (g := fun j => sumR n fun l => A i l * B l j * C j k) fun j _ => by
    have := sumR_mul (C j k) (fun l => A i l * B l j) n
    rw [show sumR n (fun l => A i l * B l j) * C j k = C j k * sumR n (fun l => A i l * B l j) by grind, ← this]
    exact sumR_congr fun l _ => by grind]
  rw [sumR_swap]
  refine sumR_congr fun l _ => ?_
  rw [← sumR_mul]
  exact sumR_congr fun j _ => by grind
theorem mulM_congr {n : Nat} {A B A' B' : MX} (h1 : ∀ i j, i < n → j < n → A i j = A' i j) (h2 : ∀ i j, i < n → j < n → B i j = B' i j) : ∀ i j, i < n → j < n → mulM n A B i j = mulM n A' B' i j := fun i j hi hj =>
  sumR_congr fun k hk => by rw [h1 i k hi hk, h2 k j hk hj]
section
variable {n : Nat} {M N : MX} {s : Rat}
/-- What brings A to N brings AB to NB. -/
theorem RE.mul (h : RE n n M N s) (B : MX) : RE n n (mulM n M B) (mulM n N B) s := by
  induction h with
  | refl => exact .refl
  | add N s r t f h hr ht hne ih =>
    refine .cong _ _ _ (.add _ s r t f ih hr ht hne) fun i k hi hk => ?_
    unfold addR mulM
    by_cases e : i = t
    · simp only [if_pos e]
      have := sumR_lin 1 (-f) (fun j => N t j * B j k) (fun j => N r j * B j k) n
      rw [sumR_congr (f := fun j => (N t j - f * N r j) * B j k) (g := fun j => 1 * (N t j * B j k) + -f * (N r j * B j k)) fun j _ => by grind, this]; grind
    · simp only [if_neg e]
  | swp N s r t h hr ht hne ih =>
    refine .cong _ _ _ (.swp _ s r t ih hr ht hne) fun i k hi hk => ?_
    unfold swpR mulM
    by_cases a : i = r
    · simp only [if_pos a]
    · by_cases b : i = t
      · simp only [if_neg a, if_pos b]
      · simp only [if_neg a, if_neg b]
  | scl N s r a h hr ha ih =>
    refine .cong _ _ _ (.scl _ s r a ih hr ha) fun i k hi hk => ?_
    unfold sclR mulM
    by_cases e : i = r
    · simp only [if_pos e]
      rw [← sumR_mul]; exact sumR_congr fun j _ => by grind
    · simp only [if_neg e]
  | cong N N' s h e ih =>
    refine .cong _ _ _ ih fun i k hi hk => sumR_congr fun j hj => by rw [e i j hi hj]
/-- Rows times numbers. -/
def rowsD (d : Nat → Rat) (B : MX) (m : Nat) : MX := fun i j => if i < m then d i * B i j else B i j
def prodR (d : Nat → Rat) : Nat → Rat
  | 0 => 1
  | m + 1 => prodR d m * d m
theorem det_rows (d : Nat → Rat) (B : MX) : ∀ m, m ≤ n → det n (rowsD d B m) = prodR d m * det n B
  | 0, _ => by
    have : rowsD d B 0 = B := by funext i j; exact if_neg (by omega)
    rw [this]; simp only [prodR]; grind
  | m + 1, h => by
    have ih := det_rows d B m (by omega)
    have := det_scl (n := n) (rowsD d B m) (r := m) (d m) (by omega)
    have e : sclR (rowsD d B m) m (d m) = rowsD d B (m + 1) := by
      funext i j
      unfold sclR rowsD
      by_cases hi : i = m
      · subst hi; rw [if_pos rfl, if_neg (Nat.lt_irrefl _), if_pos (Nat.lt_succ_self _)]
      · rw [if_neg hi]
        by_cases h2 : i < m
        · rw [if_pos h2, if_pos (by omega)]
        · rw [if_neg h2, if_neg (by omega)]
    rw [← e, this, ih, prodR]; grind
theorem det_id (n : Nat) : det n idM = 1 := by
  rw [det_tri (M := idM) fun r k _ hk => if_neg (by omega)]
  have : ∀ d i, diagP idM d i = 1 := by
    intro d
    induction d with
    | zero => intro i; rfl
    | succ d ih => intro i; rw [diagP, ih, idM, if_pos rfl]; grind
  exact this n 0
/-- The determinant of a product. -/
theorem det_mul (n : Nat) (A B : MX) : det n (mulM n A B) = det n A * det n B := by
  obtain ⟨N, s, h, hN⟩ := red_end n A
  have e1 := h.det (Nat.le_refl n)
  have e2 := (h.mul B).det (Nat.le_refl n)
  have h0 := h.ne0
  rcases hN with hd | ⟨r, hr, hz⟩
  · have e3 : det n (mulM n N B) = det n N * det n B := by
      have a1 := det_rows (n := n) (fun i => N i i) B n (Nat.le_refl n)
      have a2 := det_rows (n := n) (fun i => N i i) idM n (Nat.le_refl n)
      rw [det_id] at a2
      have b1 : det n (mulM n N B) = det n (rowsD (fun i => N i i) B n) := det_congr fun i j hi hj => by
        unfold rowsD
        rw [if_pos hi]
        exact sumR_one hi fun k hk hne => by rw [hd i k hi hk (fun e => hne e.symm)]; grind
      have b2 : det n N = det n (rowsD (fun i => N i i) idM n) := det_congr fun i j hi hj => by
        unfold rowsD idM
        rw [if_pos hi]
        by_cases e : i = j
        · subst e; rw [if_pos rfl]; grind
        · rw [if_neg e, hd i j hi hj e]; grind
      rw [b1, a1, b2, a2]; grind
    grind
  · have z1 := det_row0 (M := N) hr hz
    have z2 := det_row0 (M := mulM n N B) hr fun k hk => sumR_all0 fun j hj => by rw [hz j hj]; grind
    grind
/-! ### Transposes -/
theorem RE.tr (h : RE n n M N s) : Ab.det n (trM N) = s * Ab.det n (trM M) := by
  induction h with
  | refl => grind
  | add N s r t f h hr ht hne ih =>
    have e : Ab.det n (trM (addR N r t f)) = Ab.det n (mulM n (trM N) (trM (addR idM r t f))) := det_congr fun i j hi hj => by
      unfold trM mulM addR
      by_cases e : j = t
      · simp only [if_pos e]
        have := sumR_lin 1 (-f) (fun k => N k i * idM t k) (fun k => N k i * idM r k) n
        rw [sumR_congr (f := fun k => N k i * (idM t k - f * idM r k)) (g := fun k => 1 * (N k i * idM t k) + -f * (N k i * idM r k)) fun k _ => by grind, this,
          sumR_one ht fun k _ hk => by unfold idM; rw [if_neg (fun e => hk e.symm)]; grind, sumR_one hr fun k _ hk => by unfold idM; rw [if_neg (fun e => hk e.symm)]; grind]
        unfold idM; rw [if_pos rfl, if_pos rfl]; grind
      · simp only [if_neg e]
        rw [sumR_one hj fun k _ hk => by unfold idM; rw [if_neg (fun e => hk e.symm)]; grind]
        unfold idM; rw [if_pos rfl]; grind
    have e2 : Ab.det n (trM (addR idM r t f)) = 1 := by
      have : Ab.det n (trM (addR idM r t f)) = Ab.det n (addR idM t r f) := det_congr fun i j _ _ => by
        unfold trM addR idM
        by_cases a : j = t
        · by_cases b : i = r
          · simp only [if_pos a, if_pos b]; subst a; subst b; simp only [if_true, if_neg hne, if_neg hne.symm]
          · simp only [if_pos a, if_neg b]
            by_cases d : i = t
            · subst a; subst d; simp only [if_true, if_neg hne]; grind
            · rw [if_neg (fun e => d e.symm), if_neg (fun e => b e.symm), if_neg (fun e => d (e.trans a))]; grind
        · by_cases b : i = r
          · simp only [if_neg a, if_pos b]
            by_cases d : j = r
            · subst b; subst d; simp only [if_true, if_neg hne.symm]; grind
            · rw [if_neg (fun e => d (e.trans b)), if_neg (fun e => d e.symm), if_neg (fun e => a e.symm)]; grind
          · simp only [if_neg a, if_neg b]
            by_cases d : i = j
            · rw [if_pos d, if_pos d.symm]
            · rw [if_neg d, if_neg (fun e => d e.symm)]
      rw [this, det_add idM f ht hr hne.symm, det_id]
    rw [e, det_mul, e2, ih]; grind
  | swp N s r t h hr ht hne ih =>
    have e : Ab.det n (trM (swpR N r t)) = Ab.det n (mulM n (trM N) (trM (swpR idM r t))) := det_congr fun i j hi hj => by
      unfold trM mulM swpR
      have one : ∀ q, q < n → sumR n (fun k => N k i * idM q k) = N q i := fun q hq => by
        rw [sumR_one hq fun k _ hk => by unfold idM; rw [if_neg (fun e => hk e.symm)]; grind]
        unfold idM; rw [if_pos rfl]; grind
      by_cases a : j = r
      · simp only [if_pos a]; exact (one t ht).symm
      · by_cases b : j = t
        · simp only [if_neg a, if_pos b]; exact (one r hr).symm
        · simp only [if_neg a, if_neg b]; exact (one j hj).symm
    have e2 : Ab.det n (trM (swpR idM r t)) = -1 := by
      have : Ab.det n (trM (swpR idM r t)) = Ab.det n (swpR idM r t) := det_congr fun i j _ _ => by
        unfold trM swpR idM
        by_cases a : j = r
        · by_cases b : i = r
          · simp only [if_pos a, if_pos b]; rw [a, b]
          · by_cases d : i = t
            · simp only [if_pos a, if_neg b, if_pos d]; rw [a, d]; simp
            · simp only [if_pos a, if_neg b, if_neg d]
              rw [if_neg (fun e => d e.symm), if_neg (fun e => b (e.trans a))]
        · by_cases b : j = t
          · by_cases d : i = r
            · simp only [if_neg a, if_pos b, if_pos d]; rw [b, d]; simp
            · by_cases g : i = t
              · simp only [if_neg a, if_pos b, if_neg d, if_pos g]; rw [b, g]
              · simp only [if_neg a, if_pos b, if_neg d, if_neg g]
                rw [if_neg (fun e => d e.symm), if_neg (fun e => g (e.trans b))]
          · by_cases d : i = r
            · simp only [if_neg a, if_neg b, if_pos d]
              rw [if_neg (fun e => a (e.trans d)), if_neg (fun e => b e.symm)]
            · by_cases g : i = t
              · simp only [if_neg a, if_neg b, if_neg d, if_pos g]
                rw [if_neg (fun e => b (e.trans g)), if_neg (fun e => a e.symm)]
              · simp only [if_neg a, if_neg b, if_neg d, if_neg g]
                by_cases e : i = j
                · rw [if_pos e, if_pos e.symm]
                · rw [if_neg e, if_neg (fun h => e h.symm)]
      rw [this, det_swp idM hr ht hne, det_id]
    rw [e, det_mul, e2, ih]; grind
  | scl N s r a h hr ha ih =>
    have e : Ab.det n (trM (sclR N r a)) = Ab.det n (mulM n (trM N) (trM (sclR idM r a))) := det_congr fun i j hi hj => by
      unfold trM mulM sclR
      by_cases b : j = r
      · simp only [if_pos b]
        rw [sumR_one hr fun k _ hk => by unfold idM; rw [if_neg (fun e => hk e.symm)]; grind]
        unfold idM; rw [if_pos rfl]; grind
      · simp only [if_neg b]
        rw [sumR_one hj fun k _ hk => by unfold idM; rw [if_neg (fun e => hk e.symm)]; grind]
        unfold idM; rw [if_pos rfl]; grind
    have e2 : Ab.det n (trM (sclR idM r a)) = a := by
      have : Ab.det n (trM (sclR idM r a)) = Ab.det n (sclR idM r a) := det_congr fun i j _ _ => by
        unfold trM sclR idM
        by_cases e : i = j
        · subst e; rfl
        · by_cases b : j = r
          · by_cases d : i = r
            · exact absurd (d.trans b.symm) e
            · simp only [if_pos b, if_neg d, if_neg e]
              rw [if_neg (fun h => d h.symm)]; grind
          · by_cases d : i = r
            · simp only [if_neg b, if_pos d]
              rw [if_neg (fun h => e h.symm), if_neg (fun h => b h.symm)]; grind
            · simp only [if_neg b, if_neg d]
              rw [if_neg e, if_neg (fun h => e h.symm)]
      rw [this, det_scl idM a hr, det_id]; grind
    rw [e, det_mul, e2, ih]; grind
  | cong N N' s h e ih =>
    rw [← ih]; exact det_congr fun i j hi hj => (e j i hj hi).symm
/-- The determinant of a transpose. -/
theorem det_tr (n : Nat) (A : MX) : det n (trM A) = det n A := by
  obtain ⟨N, s, h, hN⟩ := red_end n A
  have e1 := h.det (Nat.le_refl n)
  have e2 := h.tr
  have h0 := h.ne0
  rcases hN with hd | ⟨r, hr, hz⟩
  · have : det n (trM N) = det n N := det_congr fun i j hi hj => by
      unfold trM
      by_cases e : i = j
      · rw [e]
      · rw [hd i j hi hj e, hd j i hj hi (fun h => e h.symm)]
    grind
  · have z1 := det_row0 (M := N) hr hz
    have z2 := det_col0 (M := trM N) hr fun i hi => hz i hi
    grind
end
end Go.Ab

/- Systems of equations in plain Lean: solutions, inverses. -/
set_option linter.unusedVariables false
set_option linter.unusedSimpArgs false
set_option linter.unusedSectionVars false
namespace Go.Ab

theorem sumR_app (n b : Nat) (f : Nat → Rat) : sumR (n + b) f = sumR n f + sumR b fun q => f (n + q) := by
  induction b with
  | zero => simp only [sumR, Nat.add_zero]; grind
  | succ b ih => rw [← Nat.add_assoc, sumR, ih, sumR]; grind
def colV (n : Nat) (X : MX) (k : Nat) : Nat → Rat := fun j => if j < n then X j k else if j = n + k then -1 else 0
theorem rowS_colV {n b : Nat} (M X : MX) {k : Nat} (hk : k < b) (i : Nat) : rowS (n + b) M (colV n X k) i = sumR n (fun j => M i j * X j k) - M i (n + k) := by
  unfold rowS
  rw [sumR_app, sumR_congr (n := n) (g := fun j => M i j * X j k) fun j hj => by unfold colV; rw [if_pos hj],
    sumR_one (n := b) hk fun q _ hq => by unfold colV; rw [if_neg (by omega), if_neg (by omega)]; grind]
  unfold colV
  rw [if_neg (by omega), if_pos rfl]; grind
/-- The left n columns times X are the right b columns. -/
def Sol (n b : Nat) (M X : MX) : Prop := ∀ i k, i < n → k < b → sumR n (fun j => M i j * X j k) = M i (n + k)
theorem sol_sys {n b : Nat} {M X : MX} : Sol n b M X ↔ ∀ k, k < b → Sys n (n + b) M (colV n X k) := by
  constructor
  · intro h k hk i hi
    rw [rowS_colV M X hk, h i k hi hk]; grind
  · intro h i k hi hk
    have := h k hk i hi
    rw [rowS_colV M X hk] at this; grind
theorem RE.sol {n b : Nat} {M N X : MX} {s : Rat} (h : RE n (n + b) M N s) : Sol n b N X ↔ Sol n b M X := by
  rw [sol_sys, sol_sys]
  exact ⟨fun hs k hk => (h.sys _).1 (hs k hk), fun hs k hk => (h.sys _).2 (hs k hk)⟩
def Diag (n : Nat) (N : MX) : Prop := (∀ i, i < n → N i i ≠ 0) ∧ ∀ i j, i < n → j < n → i ≠ j → N i j = 0
theorem sol_diag {n b : Nat} {N X : MX} (h : Diag n N) : Sol n b N X ↔ ∀ i k, i < n → k < b → X i k = N i (n + k) / N i i := by
  have e : ∀ i k, i < n → sumR n (fun j => N i j * X j k) = N i i * X i k := fun i k hi =>
    sumR_one hi fun j hj hne => by rw [h.2 i j hi hj (fun e => hne e.symm)]; grind
  constructor
  · intro hs i k hi hk
    have := hs i k hi hk
    rw [e i k hi] at this
    have := h.1 i hi
    grind
  · intro hs i k hi hk
    rw [e i k hi, hs i k hi hk]
    have := h.1 i hi
    grind
/-- One solution and no other, where the matrix has been brought to a diagonal one. -/
theorem sol_of {n b : Nat} {M N : MX} {s : Rat} (h : RE n (n + b) M N s) (hd : Diag n N) (X : MX) : Sol n b M X ↔ ∀ i k, i < n → k < b → X i k = N i (n + k) / N i i :=
  h.sol.symm.trans (sol_diag hd)
/-! ### Ranks -/
theorem dep_left {n c : Nat} {M A : MX} (hc : n ≤ c) (h : ∀ i j, i < n → j < n → M i j = A i j) {k : Nat} (hk : k < n) : DepC n c M k ↔ DepC n n A k := by
  have e : ∀ x : Nat → Rat, (∀ j, k < j → x j = 0) → ∀ i, i < n → rowS c M x i = rowS n A x i := fun x hx i hi => by
    obtain ⟨b, rfl⟩ := Nat.exists_eq_add_of_le hc
    unfold rowS
    rw [sumR_app, sumR_congr (n := n) (g := fun j => A i j * x j) fun j hj => by rw [h i j hi hj], sumR_all0 (n := b) fun q _ => by rw [hx (n + q) (by omega)]; grind]
    grind
  exact ⟨fun ⟨x, h1, h2, h3⟩ => ⟨x, h1, h2, fun i hi => by rw [← e x h2 i hi]; exact h3 i hi⟩, fun ⟨x, h1, h2, h3⟩ => ⟨x, h1, h2, fun i hi => by rw [e x h2 i hi]; exact h3 i hi⟩⟩
theorem rank_left {n c : Nat} {M A : MX} (hc : n ≤ c) (h : ∀ i j, i < n → j < n → M i j = A i j) : cntU (pivB n c M) n = cntU (pivB n n A) n :=
  cnt_same fun k hk => by
    by_cases hd : DepC n n A k
    · rw [pivB_f hd, pivB_f ((dep_left hc h hk).2 hd)]
    · rw [pivB_t hd, pivB_t fun hh => hd ((dep_left hc h hk).1 hh)]
theorem full_of {n c : Nat} {M : MX} (h : ∀ k, k < n → ¬ DepC n c M k) : cntU (pivB n c M) n = n := by
  have : ∀ m, m ≤ n → cntU (pivB n c M) m = m := by
    intro m
    induction m with
    | zero => intro _; rfl
    | succ m ih => intro hm; rw [cntU, ih (by omega), pivB_t (h m (by omega))]; rfl
  exact this n (Nat.le_refl n)
/-- What has an inverse from the right is itself of full rank. -/
theorem full_inv {n : Nat} {A X : MX} (h : ∀ i k, i < n → k < n → mulM n A X i k = idM i k) : cntU (pivB n n X) n = n := by
  refine full_of fun k hk ⟨v, h1, h2, h3⟩ => h1 ?_
  have e : sumR n (fun j => mulM n A X k j * v j) = v k := by
    rw [sumR_one hk fun j hj hne => by rw [h k j hk hj]; unfold idM; rw [if_neg (fun e => hne e.symm)]; grind, h k k hk hk]
    unfold idM; rw [if_pos rfl]; grind
  rw [← e]
  have e2 : sumR n (fun j => mulM n A X k j * v j) = sumR n fun l => A k l * rowS n X v l := by
    have := mulM_assoc n A X (fun j _ => v j) k 0
    unfold mulM at this
    exact this
  rw [e2]
  exact sumR_all0 fun l hl => by rw [h3 l hl]; grind
/-- The inverse of the inverse. -/
theorem inv_inv {n : Nat} {A X Y : MX} (h1 : ∀ i k, i < n → k < n → mulM n A X i k = idM i k) (h2 : ∀ i k, i < n → k < n → mulM n X Y i k = idM i k) : ∀ i k, i < n → k < n → Y i k = A i k := fun i k hi hk => by
  have e1 : mulM n (mulM n A X) Y i k = Y i k := by
    rw [mulM_congr (A' := idM) (B' := Y) h1 (fun _ _ _ _ => rfl) i k hi hk, mulM_id Y i k hi hk]
  rw [mulM_assoc] at e1
  rw [← e1, mulM_congr (A' := A) (B' := idM) (fun _ _ _ _ => rfl) h2 i k hi hk]
  unfold mulM idM
  rw [sumR_one hk fun j _ hj => by rw [if_neg hj]; grind, if_pos rfl]; grind
end Go.Ab

/- The program's clear and swap, by value. -/
set_option linter.unusedVariables false
set_option linter.unusedSimpArgs false
set_option linter.unusedSectionVars false
set_option maxRecDepth 100000
namespace Go.Ab
open Go.Proofs.Try

/-! ### A matrix whose cells are written to -/
abbrev aM (rows cols : Int) (nm L : Nat) : AV := .agg [.int .i64 rows, .int .i64 cols, .arr nm 0 L (some 3)]
theorem box_aM (m : Mem) (rows cols : Int) (nm L : Nat) : boxA none (some 3) m (aM rows cols nm L) = some (.ptr m.length 0, m ++ [cB rows cols nm L]) := rfl
section
variable {m : Mem} {b : Nat} {rows cols : Int} {nm L : Nat}
theorem bL0 (h : m[b]? = some (cB rows cols nm L)) : loadA none m (.ptr b 0) = some (.int .i64 rows) := by simp [loadA, mobj h, cutSh]
theorem bL1 (h : m[b]? = some (cB rows cols nm L)) : loadA none m (.ptr b 1) = some (.int .i64 cols) := by simp [loadA, mobj h, cutSh]
theorem bL2 (h : m[b]? = some (cB rows cols nm L)) : loadA none m (.ptr b 2) = some (.arr nm 0 L (some 3)) := by simp [loadA, mobj h, cutSh]
theorem bLA (h : m[b]? = some (cB rows cols nm L)) : loadA (some 3) m (.ptr b 0) = some (aM rows cols nm L) := by simp [loadA, mobj h, cutSh]
end
theorem kn_app (nm : Nat) (m e : Mem) : Kn nm m (m ++ e) := (Kp.app m e).kn nm
theorem kn_set {nm : Nat} {m m' : Mem} (h : Kn nm m m') (e : Option Ent) : Kn nm m (m'.set nm e) := ⟨by rw [List.length_set]; exact h.1, fun p bx cs hp hh => by
  rw [List.getElem?_set_ne (fun e => hp e.symm)]; exact h.2 p bx cs hp hh⟩
theorem kn_refl (nm : Nat) (m : Mem) : Kn nm m m := (Kp.refl m).kn nm
theorem Kn.cB {nm b : Nat} {m m' : Mem} {rows cols : Int} {n2 L : Nat} (h : Kn nm m m') (hb : m[b]? = some (cB rows cols n2 L)) (hne : b ≠ nm) : m'[b]? = some (Ab.cB rows cols n2 L) := h.2 b _ _ hne hb
theorem app_get {m e : Mem} {b : Nat} {x : Option Ent} (h : m[b]? = some x) : (m ++ e)[b]? = some x := by
  rw [List.getElem?_append_left]; exact h
  exact (List.getElem?_eq_some_iff.1 h).1
theorem set_same {m : Mem} {nm : Nat} {x : Option Ent} (h : nm < m.length) : (m.set nm x)[nm]? = some x := by rw [List.getElem?_set_self h]
theorem q0_of {r : RV} (h : r.num.ds.length = 0) : r.q = 0 := by
  have : r.num.v = 0 := by
    have h2 : r.num.ds = [] := List.length_eq_zero_iff.1 h
    unfold NV.v
    rw [h2]; rfl
  rw [RV.q, this, qOf_num0]
theorem Can.nz {r : RV} {q : Rat} (h : Can r q) (hl : r.num.ds.length ≠ 0) : q ≠ 0 := fun e => hl (by rw [h.num, e]; exact congrArg List.length digs_zero)
/-- The cells stand in memory, each with its value. -/
structure WM (m : Mem) (nm : Nat) (es : List RV) (n c : Nat) (kf : Nat → Nat) (N : MX) : Prop where
  hm : m[nm]? = some (cA es)
  len : es.length = n * c
  fr : ∀ r ∈ es, r.fr = r
  can : ∀ i j, i < n → j < c → ∀ h : i * c + j < es.length, Can es[i * c + j] (N i j)
  bd : ∀ i j, i < n → j < c → Bd (kf i) (N i j)
section
variable {m : Mem} {nm : Nat} {es : List RV} {n c k : Nat} {kf : Nat → Nat} {N : MX}
theorem WM.at (h : WM m nm es n c kf N) {i j : Nat} (hi : i < n) (hj : j < c) : i * c + j < es.length := by rw [h.len]; exact cell_lt60 hi hj
theorem WM.mono (h : WM m nm es n c kf N) {kg : Nat → Nat} (hk : ∀ i, i < n → kf i ≤ kg i) : WM m nm es n c kg N := ⟨h.hm, h.len, h.fr, h.can, fun i j hi hj => (h.bd i j hi hj).mono (hk i hi)⟩
theorem WM.congr (h : WM m nm es n c kf N) {N' : MX} (e : Agr n c N N') : WM m nm es n c kf N' :=
  ⟨h.hm, h.len, h.fr, fun i j hi hj hh => by rw [← e i j hi hj]; exact h.can i j hi hj hh, fun i j hi hj => by rw [← e i j hi hj]; exact h.bd i j hi hj⟩
theorem cell_inj {i j i' j' c : Nat} (hj : j < c) (hj' : j' < c) (e : i * c + j = i' * c + j') : i = i' ∧ j = j' := by
  have h1 := row_col (i := i) hj
  have h2 := row_col (i := i') hj'
  rw [e, h2.1, h2.2] at h1
  exact ⟨h1.1.symm, h1.2.symm⟩
/-! ### clear -/
/-- Row t, cleared by so much of row r up to column j. -/
structure CL (es0 es : List RV) (n c k t j : Nat) (N : MX) (u : Nat → Rat) : Prop where
  len : es.length = n * c
  old : ∀ p (h : p < es.length) (h0 : p < es0.length), ¬ (t * c ≤ p ∧ p < t * c + j) → es[p] = es0[p]
  new : ∀ q, q < j → ∀ h : t * c + q < es.length, Can es[t * c + q] (u q) ∧ es[t * c + q].fr = es[t * c + q]
  bd : ∀ q, q < c → Bd k (u q)
theorem W117 (hn : n ≤ 60) (hc : c ≤ 60) {es0 : List RV} {m0 : Mem} (W0 : WM m0 nm es0 n c kf N) {r t : Nat} (hr : r < n) (ht : t < n) (hrt : r ≠ t) (hkr : kf r ≤ k) (hkt : kf t ≤ k) (hk1 : 1 ≤ k) (hk : 4 * k + 1 < 2 ^ 36) {f : RV} {fq : Rat} (hf : Can f fq) (hff : f.fr = f) (hfb : Bd (k + k) fq) {b bf : Nat} (hbn : b ≠ nm) (hbf : bf ≠ nm) (K : Ex → St → Option (AV × Mem)) : ∀ (d j : Nat) (m : Mem) (es : List RV), j + d = c → m[nm]? = some (cA es) → m[b]? = some (cB n c nm (n * c)) → m[bf]? = some (cR f) → CL es0 es n c (4 * k + 1) t j N (fun q => N t q - fq * N r q) →
    ∃ (m' : Mem) (es' : List RV), L117_4 (.int .i64 r) (.int .i64 t) (.ptr b 0) (.ptr bf 0) (.int .i64 c) (.int .i64 j) m K = K (.exit 0) (O117_4 m') ∧ m'[nm]? = some (cA es') ∧ CL es0 es' n c (4 * k + 1) t c N (fun q => N t q - fq * N r q) ∧ Kn nm m m' := by
  intro d
  induction d with
  | zero =>
    intro j m es hj hm hb hfm C
    obtain rfl : j = c := by omega
    refine ⟨m, es, ?_, hm, C, kn_refl _ _⟩
    rw [L117_4_eq, n_lss, Option.bind_some, ifA_dec, if_neg (by omega)]
  | succ d ih =>
    intro j m es hj hm hb hfm C
    have hjc : j < c := by omega
    obtain ⟨a1, a2⟩ := at_cell (i := r) (c := c) (j := j) (by omega) hc (by omega)
    obtain ⟨b1, b2⟩ := at_cell (i := t) (c := c) (j := j) (by omega) hc (by omega)
    have p1 : r * c + j < n * c := cell_lt60 hr hjc
    have p2 : t * c + j < n * c := cell_lt60 ht hjc
    have p1' : r * c + j < es.length := by rw [C.len]; exact p1
    have p2' : t * c + j < es.length := by rw [C.len]; exact p2
    have p10 : r * c + j < es0.length := by rw [W0.len]; exact p1
    have p20 : t * c + j < es0.length := by rw [W0.len]; exact p2
    have hrow : ¬ (t * c ≤ r * c + j ∧ r * c + j < t * c + j) := fun h => by
      rcases Nat.lt_or_gt_of_ne hrt with h3 | h3
      · have := Nat.mul_le_mul_right c (show r + 1 ≤ t by omega)
        rw [Nat.add_mul, Nat.one_mul] at this; omega
      · have := Nat.mul_le_mul_right c (show t + 1 ≤ r by omega)
        rw [Nat.add_mul, Nat.one_mul] at this; omega
    have ex : es[r * c + j] = es0[r * c + j] := C.old _ p1' p10 hrow
    have ey : es[t * c + j] = es0[t * c + j] := C.old _ p2' p20 (by omega)
    have cx := W0.can r j hr hjc p10
    have cy := W0.can t j ht hjc p20
    have fx := W0.fr _ (List.getElem_mem p10)
    have fy := W0.fr _ (List.getElem_mem p20)
    have bx := (W0.bd r j hr hjc).mono hkr
    have by' := (W0.bd t j ht hjc).mono hkt
    rw [← ex] at cx fx
    rw [← ey] at cy fy
    have nmlt : nm < m.length := (List.getElem?_eq_some_iff.1 hm).1
    have hm10 : (m ++ [cR es[r * c + j]])[nm]? = some (cA es) := app_get hm
    have hb10 : (m ++ [cR es[r * c + j]])[b]? = some (cB n c nm (n * c)) := app_get hb
    have hf10 : (m ++ [cR es[r * c + j]])[bf]? = some (cR f) := app_get hfm
    have e0 : L117_4 (.int .i64 r) (.int .i64 t) (.ptr b 0) (.ptr bf 0) (.int .i64 c) (.int .i64 j) m K = _ := L117_4_eq _ _ _ _ _ _ _ _
    rw [n_lss, Option.bind_some, ifA_dec, if_pos hjc, fld2, Option.bind_some, bL2 hb, Option.bind_some, fld1, Option.bind_some, bL1 hb, Option.bind_some, a1, Option.bind_some, a2, Option.bind_some, arr_index p1, Option.bind_some, arr_load hm p1', Option.bind_some] at e0
    rw [show (newAt none m (Ent.obj true [(.bool false), (.lst none true .full []), (.lst none true .full [])])).2 = m ++ [cR zR] from rfl, show (newAt none m Ent.resv).1 = m.length from rfl, st_last, Option.bind_some, fld1, Option.bind_some, rld1 get_last, Option.bind_some, len_nv, Option.bind_some, gtr0, Option.bind_some, ifA_dec] at e0
    have mv : ∀ (es' : List RV) (z : RV), Can z (N t j - fq * N r j) → z.fr = z → es' = es.set (t * c + j) z → CL es0 es' n c (4 * k + 1) t (j + 1) N (fun q => N t q - fq * N r q) := fun es' z hz hzf he => by
      subst he
      refine ⟨by rw [List.length_set]; exact C.len, fun p h h0 hp => ?_, fun q hq h => ?_, C.bd⟩
      · rw [List.getElem_set_ne (by omega)]
        exact C.old p (by simpa using h) h0 (by omega)
      · by_cases hqj : q = j
        · subst hqj
          rw [List.getElem_set_self]; exact ⟨hz, hzf⟩
        · rw [List.getElem_set_ne (by omega)]
          exact C.new q (by omega) (by simpa using h)
    by_cases hx0 : es[r * c + j].num.ds.length > 0
    · have ox := cx.ok bx (by omega)
      have oy := cy.ok by' (by omega)
      have of := hf.ok hfb (by omega)
      obtain ⟨pr, t1, t2, t3⟩ := V78 of (ox.mono (show k ≤ k + k by omega)) (by omega) (by omega)
      rw [hf.q, cx.q] at t2
      have opr := t2.ok (Bd_mul hfb bx (by omega)) (by omega)
      obtain ⟨u, u1, u2, u3⟩ := V135 (k := k + k + k) (oy.mono (by omega)) opr (by omega) (by omega)
      rw [cy.q, t2.q] at u2
      have C' := mv _ u u2 u3 rfl
      obtain ⟨m', es', e, h1, h2, h3⟩ := ih (j + 1) ((m ++ [cR es[r * c + j]]).set nm (cA (es.set (t * c + j) u))) (es.set (t * c + j) u) (by omega) (set_same (by simp; omega)) (by rw [List.getElem?_set_ne (fun e => hbn e.symm)]; exact hb10) (by rw [List.getElem?_set_ne (fun e => hbf e.symm)]; exact hf10) C'
      refine ⟨m', es', ?_, h1, h2, Kn.trans (kn_set (kn_app _ _ _) _) h3⟩
      rw [e0, if_pos hx0, Option.bind_some, bL2 hb10, Option.bind_some, Option.bind_some, bL1 hb10, Option.bind_some, b1, Option.bind_some, b2, Option.bind_some, Option.bind_some, bL2 hb10, Option.bind_some, Option.bind_some, bL1 hb10, Option.bind_some, b1, Option.bind_some, b2, Option.bind_some, arr_index p2, Option.bind_some, arr_load hm10 p2', Option.bind_some, rldA hf10, Option.bind_some, rldA get_last, Option.bind_some, pcRR, hff, fx, t1, Option.map_some, Option.bind_some]
      dsimp only
      rw [pcRR, fy, t3, u1, Option.map_some, Option.bind_some]
      dsimp only
      rw [Option.bind_some, arr_store hm10 p2' u3, Option.bind_some, i_add1 (by omega), Option.bind_some]
      exact e
    · have hq0 := q0_of (r := es[r * c + j]) (by omega)
      rw [cx.q] at hq0
      have C' : CL es0 es n c (4 * k + 1) t (j + 1) N (fun q => N t q - fq * N r q) := mv es es[t * c + j] (by rw [hq0, show N t j - fq * 0 = N t j by grind]; exact cy) fy (by rw [List.set_getElem_self])
      obtain ⟨m', es', e, h1, h2, h3⟩ := ih (j + 1) (m ++ [cR es[r * c + j]]) es (by omega) hm10 hb10 hf10 C'
      refine ⟨m', es', ?_, h1, h2, Kn.trans (kn_app _ _ _) h3⟩
      rw [e0, if_neg hx0, i_add1 (by omega), Option.bind_some]
      exact e
/-- clear: a row is taken away from another. -/
theorem C117 (hn : n ≤ 60) (hc : c ≤ 60) (W : WM m nm es n c kf N) {r t col : Nat} (hr : r < n) (ht : t < n) (hrt : r ≠ t) (hcol : col < c) (hp : N r col ≠ 0) (hkr : kf r ≤ k) (hkt : kf t ≤ k) (hk1 : 1 ≤ k) (hk : 4 * k + 1 < 2 ^ 36) :
    ∃ (m' : Mem) (es' : List RV), AC cfg 117 [aM n c nm (n * c), .int .i64 r, .int .i64 t, .int .i64 col] m = some (.tup [], m') ∧ WM m' nm es' n c (fun i => if i = t then 4 * k + 1 else kf i) (addR N r t (N t col / N r col)) ∧ Kn nm m m' := by
  obtain ⟨a1, a2⟩ := at_cell (i := r) (c := c) (j := col) (by omega) hc (by omega)
  obtain ⟨b1, b2⟩ := at_cell (i := t) (c := c) (j := col) (by omega) hc (by omega)
  have p1 : r * c + col < n * c := cell_lt60 hr hcol
  have p2 : t * c + col < n * c := cell_lt60 ht hcol
  have p1' := W.at hr hcol
  have p2' := W.at ht hcol
  have cx := W.can r col hr hcol p1'
  have cy := W.can t col ht hcol p2'
  have fx := W.fr _ (List.getElem_mem p1')
  have fy := W.fr _ (List.getElem_mem p2')
  have br := fun q hq => (W.bd r q hr hq).mono hkr
  have bt := fun q hq => (W.bd t q ht hq).mono hkt
  have ox := cx.ok (br col hcol) (by omega)
  have oy := cy.ok (bt col hcol) (by omega)
  obtain ⟨f, f1, f2, f3⟩ := V122 oy ox hk1 (by omega) (by rw [cx.q]; exact hp)
  rw [cx.q, cy.q] at f2
  have fb : Bd (k + k) (N t col / N r col) := Bd_div (bt col hcol) (br col hcol) hk1 hp
  have bdu : ∀ q, q < c → Bd (4 * k + 1) (N t q - N t col / N r col * N r q) := fun q hq =>
    (Bd_sub (bt q hq) (Bd_mul fb (br q hq) (by omega)) hk1).mono (by omega)
  have nmlt : nm < m.length := (List.getElem?_eq_some_iff.1 W.hm).1
  -- memory
  have hb1 : (m ++ [cB n c nm (n * c)] ++ [some Ent.resv])[m.length]? = some (cB n c nm (n * c)) := app_get get_last
  have hm1 : (m ++ [cB n c nm (n * c)] ++ [some Ent.resv])[nm]? = some (cA es) := app_get (app_get W.hm)
  have hb2 : (m ++ [cB n c nm (n * c)] ++ [cR f])[m.length]? = some (cB n c nm (n * c)) := app_get get_last
  have hm2 : (m ++ [cB n c nm (n * c)] ++ [cR f])[nm]? = some (cA es) := app_get (app_get W.hm)
  have hf2 : (m ++ [cB n c nm (n * c)] ++ [cR f])[(m ++ [cB n c nm (n * c)]).length]? = some (cR f) := get_last
  have nw : ∀ e : Ent, newAt (some (m ++ [cB n c nm (n * c)]).length) (m ++ [cB n c nm (n * c)] ++ [some Ent.resv]) e = ((m ++ [cB n c nm (n * c)]).length, m ++ [cB n c nm (n * c)] ++ [some e]) := fun e => by
    show ((m ++ [cB n c nm (n * c)]).length, (m ++ [cB n c nm (n * c)] ++ [some Ent.resv]).set (m ++ [cB n c nm (n * c)]).length (some e)) = _
    rw [List.set_append_right _ _ (Nat.le_refl _), Nat.sub_self]; rfl
  have e0 := T117 (aM n c nm (n * c)) (.int .i64 r) (.int .i64 t) (.int .i64 col) m
  rw [box_aM, Option.bind_some] at e0
  dsimp only at e0
  rw [res1, fld2, Option.bind_some, bL2 hb1, Option.bind_some, fld1, Option.bind_some, bL1 hb1, Option.bind_some, b1, Option.bind_some, b2, Option.bind_some, arr_index p2, Option.bind_some, arr_load hm1 p2', Option.bind_some, Option.bind_some, bL2 hb1, Option.bind_some, Option.bind_some, bL1 hb1, Option.bind_some, a1, Option.bind_some, a2, Option.bind_some, arr_index p1, Option.bind_some, arr_load hm1 p1', Option.bind_some, pcRR, fx, fy, f1, Option.map_some, Option.bind_some, ex0, Option.bind_some, ex1, Option.bind_some] at e0
  dsimp only at e0
  rw [nw, nw] at e0
  dsimp only at e0
  rw [show some (Ent.obj true [(.bool false), (.lst none true .full []), (.lst none true .full [])]) = cR zR from rfl, st_last, Option.bind_some, fld1, Option.bind_some, rld1 get_last, Option.bind_some, len_nv, Option.bind_some, binA_eql, Option.bind_some, ifA_dec] at e0
  by_cases hf0 : f.num.ds.length = 0
  · rw [if_pos (by omega)] at e0
    have hq0 := q0_of hf0
    rw [f2.q] at hq0
    refine ⟨_, es, e0, ?_, (kn_app _ _ _).trans (kn_app _ _ _)⟩
    refine WM.congr (N := N) ⟨hm2, W.len, W.fr, W.can, fun i j hi hj => (W.bd i j hi hj).mono (by split <;> rename_i h <;> first | (rw [h]; omega) | exact Nat.le_refl _)⟩ fun i j _ _ => ?_
    unfold addR
    split
    · rename_i e; rw [hq0, e]; grind
    · rfl
  · rw [if_neg (by omega), Option.bind_some, bL1 hb2, Option.bind_some] at e0
    obtain ⟨m', es', e, h1, h2, h3⟩ := W117 hn hc W hr ht hrt hkr hkt hk1 hk f2 f3 fb (b := m.length) (bf := (m ++ [cB n c nm (n * c)]).length) (by omega) (by simp; omega) (K117_4 (finK cfg.P f117.results.toList)) c 0 _ es (by omega) hm2 hb2 hf2 ⟨W.len, fun p h h0 _ => rfl, fun q hq => by omega, bdu⟩
    refine ⟨m', es', ?_, ?_, Kn.trans ((kn_app _ _ _).trans (kn_app _ _ _)) h3⟩
    · have e : L117_4 (.int .i64 r) (.int .i64 t) (.ptr m.length 0) (.ptr (m ++ [cB n c nm (n * c)]).length 0) (.int .i64 c) (.int .i64 0) (m ++ [cB n c nm (n * c)] ++ [cR f]) (K117_4 (finK cfg.P f117.results.toList)) = _ := e
      rw [e0, e, K117_4_x0]
    · have cell : ∀ i j, i < n → j < c → ∀ h : i * c + j < es'.length, Can es'[i * c + j] (addR N r t (N t col / N r col) i j) ∧ es'[i * c + j].fr = es'[i * c + j] := fun i j hi hj h => by
        unfold addR
        by_cases hit : i = t
        · subst hit
          rw [if_pos rfl]
          exact h2.new j hj h
        · rw [if_neg hit]
          have h0 := W.at hi hj
          have : es'[i * c + j] = es[i * c + j] := h2.old _ h h0 fun hh => by
            rcases Nat.lt_or_gt_of_ne hit with h3 | h3
            · have := Nat.mul_le_mul_right c (show i + 1 ≤ t by omega)
              rw [Nat.add_mul, Nat.one_mul] at this; omega
            · have := Nat.mul_le_mul_right c (show t + 1 ≤ i by omega)
              rw [Nat.add_mul, Nat.one_mul] at this; omega
          rw [this]
          exact ⟨W.can i j hi hj h0, W.fr _ (List.getElem_mem h0)⟩
      refine ⟨h1, h2.len, fun x hx => ?_, fun i j hi hj h => (cell i j hi hj h).1, fun i j hi hj => ?_⟩
      · obtain ⟨p, hp', rfl⟩ := List.getElem_of_mem hx
        have hpl : p < n * c := by rw [← h2.len]; exact hp'
        have hc0 : 0 < c := by omega
        have e1 : p = p / c * c + p % c := by rw [Nat.mul_comm]; exact (Nat.div_add_mod p c).symm
        have hi : p / c < n := Nat.div_lt_of_lt_mul (by rw [Nat.mul_comm]; exact hpl)
        have := (cell (p / c) (p % c) hi (Nat.mod_lt _ hc0) (by rw [← e1]; exact hp')).2
        simpa only [← e1] using this
      · unfold addR
        split
        · rename_i e; exact bdu j hj
        · exact W.bd i j hi hj
end
end Go.Ab

/- The program's swap and pivot, by value. -/
set_option linter.unusedVariables false
set_option linter.unusedSimpArgs false
set_option linter.unusedSectionVars false
set_option maxRecDepth 100000
namespace Go.Ab
open Go.Proofs.Try

section
variable {m : Mem} {nm : Nat} {es : List RV} {n c k : Nat} {kf : Nat → Nat} {N : MX}
theorem row_apart {r t c j q : Nat} (h : r ≠ t) (hj : j < c) (hq : q < c) : r * c + j ≠ t * c + q := fun e => h (cell_inj hj hq e).1
/-! ### swap -/
structure SW (es0 es : List RV) (n c r t j : Nat) : Prop where
  len : es.length = n * c
  old : ∀ i q, q < c → (i ≠ r ∧ i ≠ t ∨ j ≤ q) → ∀ (h : i * c + q < es.length) (h0 : i * c + q < es0.length), es[i * c + q] = es0[i * c + q]
  sr : ∀ q, q < j → ∀ (h : r * c + q < es.length) (h0 : t * c + q < es0.length), es[r * c + q] = es0[t * c + q]
  st : ∀ q, q < j → ∀ (h : t * c + q < es.length) (h0 : r * c + q < es0.length), es[t * c + q] = es0[r * c + q]
theorem names_ne {b nm o p : Nat} (h : b ≠ nm) : namesV (.ptr b o) (.ptr nm p) = true := by simp [namesV, h]
theorem W116 (hn : n ≤ 60) (hc : c ≤ 60) {es0 : List RV} (hl0 : es0.length = n * c) (hfr0 : ∀ r ∈ es0, r.fr = r) {r t : Nat} (hr : r < n) (ht : t < n) (hrt : r ≠ t) {b : Nat} (hbn : b ≠ nm) (K : Ex → St → Option (AV × Mem)) : ∀ (d j : Nat) (m : Mem) (es : List RV), j + d = c → m[nm]? = some (cA es) → m[b]? = some (cB n c nm (n * c)) → SW es0 es n c r t j →
    ∃ (m' : Mem) (es' : List RV), L116_2 (.int .i64 r) (.int .i64 t) (.ptr b 0) (.int .i64 c) (.int .i64 j) m K = K (.exit 0) (O116_2 m') ∧ m'[nm]? = some (cA es') ∧ SW es0 es' n c r t c ∧ Kn nm m m' := by
  intro d
  induction d with
  | zero =>
    intro j m es hj hm hb C
    obtain rfl : j = c := by omega
    refine ⟨m, es, ?_, hm, C, kn_refl _ _⟩
    rw [L116_2_eq, n_lss, Option.bind_some, ifA_dec, if_neg (by omega)]
  | succ d ih =>
    intro j m es hj hm hb C
    have hjc : j < c := by omega
    obtain ⟨a1, a2⟩ := at_cell (i := r) (c := c) (j := j) (by omega) hc (by omega)
    obtain ⟨b1, b2⟩ := at_cell (i := t) (c := c) (j := j) (by omega) hc (by omega)
    have p1 : r * c + j < n * c := cell_lt60 hr hjc
    have p2 : t * c + j < n * c := cell_lt60 ht hjc
    have p1' : r * c + j < es.length := by rw [C.len]; exact p1
    have p2' : t * c + j < es.length := by rw [C.len]; exact p2
    have p10 : r * c + j < es0.length := by rw [hl0]; exact p1
    have p20 : t * c + j < es0.length := by rw [hl0]; exact p2
    have ex : es[r * c + j] = es0[r * c + j] := C.old r j hjc (.inr (Nat.le_refl _)) p1' p10
    have ey : es[t * c + j] = es0[t * c + j] := C.old t j hjc (.inr (Nat.le_refl _)) p2' p20
    have fx := hfr0 _ (List.getElem_mem p10)
    have fy := hfr0 _ (List.getElem_mem p20)
    rw [← ex] at fx
    rw [← ey] at fy
    have nmlt : nm < m.length := (List.getElem?_eq_some_iff.1 hm).1
    have hm1 : (m.set nm (cA (es.set (r * c + j) es[t * c + j])))[nm]? = some (cA (es.set (r * c + j) es[t * c + j])) := set_same nmlt
    have hne := row_apart hrt hjc hjc
    have C' : SW es0 ((es.set (r * c + j) es[t * c + j]).set (t * c + j) es[r * c + j]) n c r t (j + 1) := by
      refine ⟨by rw [List.length_set, List.length_set]; exact C.len, fun i q hq hh h h0 => ?_, fun q hq h h0 => ?_, fun q hq h h0 => ?_⟩
      · have e1 : t * c + j ≠ i * c + q := fun e => by
          obtain ⟨u, v⟩ := cell_inj hjc hq e
          rcases hh with hh | hh <;> omega
        have e2 : r * c + j ≠ i * c + q := fun e => by
          obtain ⟨u, v⟩ := cell_inj hjc hq e
          rcases hh with hh | hh <;> omega
        rw [List.getElem_set_ne e1, List.getElem_set_ne e2]
        refine C.old i q hq ?_ (by simpa using h) h0
        rcases hh with hh | hh
        · exact .inl hh
        · exact .inr (by omega)
      · rw [List.getElem_set_ne (fun e => row_apart hrt (by omega) hjc e.symm)]
        by_cases hqj : q = j
        · subst hqj
          rw [List.getElem_set_self]; exact ey
        · rw [List.getElem_set_ne (by omega)]
          exact C.sr q (by omega) (by simpa using h) h0
      · by_cases hqj : q = j
        · subst hqj
          rw [List.getElem_set_self]; exact ex
        · rw [List.getElem_set_ne (by omega), List.getElem_set_ne (row_apart hrt hjc (by omega))]
          exact C.st q (by omega) (by simpa using h) h0
    obtain ⟨m', es', e, h1, h2, h3⟩ := ih (j + 1) ((m.set nm (cA (es.set (r * c + j) es[t * c + j]))).set nm (cA ((es.set (r * c + j) es[t * c + j]).set (t * c + j) es[r * c + j]))) _ (by omega) (set_same (by simpa using nmlt)) (by rw [List.getElem?_set_ne (fun e => hbn e.symm), List.getElem?_set_ne (fun e => hbn e.symm)]; exact hb) C'
    refine ⟨m', es', ?_, h1, h2, Kn.trans (kn_set (kn_set (kn_refl _ _) _) _) h3⟩
    rw [L116_2_eq, n_lss, Option.bind_some, ifA_dec, if_pos hjc, fld2, Option.bind_some, bL2 hb, Option.bind_some, fld1, Option.bind_some, bL1 hb, Option.bind_some, a1, Option.bind_some, a2, Option.bind_some, Option.bind_some, bL2 hb, Option.bind_some, Option.bind_some, bL1 hb, Option.bind_some, b1, Option.bind_some, b2, Option.bind_some, Option.bind_some, bL2 hb, Option.bind_some, Option.bind_some, bL1 hb, Option.bind_some, b1, Option.bind_some, b2, Option.bind_some, arr_index p2, Option.bind_some, arr_load hm p2', Option.bind_some, Option.bind_some, bL2 hb, Option.bind_some, Option.bind_some, bL1 hb, Option.bind_some, a1, Option.bind_some, a2, Option.bind_some, arr_index p1, Option.bind_some, arr_load hm p1', Option.bind_some, Option.bind_some, arr_store hm p1' fy, Option.bind_some, Option.bind_some, arr_store hm1 (by rw [List.length_set]; exact p2') fx, Option.bind_some, names_ne hbn, names_ne hbn]
    simp only [ifB]
    rw [i_add1 (by omega), Option.bind_some]
    exact e
theorem C116 (hn : n ≤ 60) (hc : c ≤ 60) (W : WM m nm es n c kf N) {r t : Nat} (hr : r < n) (ht : t < n) (hrt : r ≠ t) :
    ∃ (m' : Mem) (es' : List RV), AC cfg 116 [aM n c nm (n * c), .int .i64 r, .int .i64 t] m = some (.tup [], m') ∧ WM m' nm es' n c (fun i => if i = r then kf t else if i = t then kf r else kf i) (swpR N r t) ∧ Kn nm m m' := by
  have nmlt : nm < m.length := (List.getElem?_eq_some_iff.1 W.hm).1
  have hb1 : (m ++ [cB n c nm (n * c)])[m.length]? = some (cB n c nm (n * c)) := get_last
  have hm1 : (m ++ [cB n c nm (n * c)])[nm]? = some (cA es) := app_get W.hm
  obtain ⟨m', es', e, h1, C, h3⟩ := W116 (nm := nm) hn hc W.len W.fr hr ht hrt (b := m.length) (by omega) (K116_2 (finK cfg.P f116.results.toList)) c 0 _ es (by omega) hm1 hb1 ⟨W.len, fun _ _ _ _ _ _ => rfl, fun q hq => by omega, fun q hq => by omega⟩
  refine ⟨m', es', ?_, ?_, Kn.trans (kn_app _ _ _) h3⟩
  · have e : L116_2 (.int .i64 r) (.int .i64 t) (.ptr m.length 0) (.int .i64 c) (.int .i64 0) (m ++ [cB n c nm (n * c)]) (K116_2 (finK cfg.P f116.results.toList)) = _ := e
    rw [T116, box_aM, Option.bind_some]
    dsimp only
    rw [fld1, Option.bind_some, bL1 hb1, Option.bind_some, e, K116_2_x0]
  · have cell : ∀ i j, i < n → j < c → ∀ h : i * c + j < es'.length, ∃ i0, i0 < n ∧ (swpR N r t i j = N i0 j) ∧ (if i = r then kf t else if i = t then kf r else kf i) = kf i0 ∧ ∃ h0 : i0 * c + j < es.length, es'[i * c + j] = es[i0 * c + j] := fun i j hi hj h => by
      unfold swpR
      by_cases h1 : i = r
      · subst h1
        exact ⟨t, ht, if_pos rfl, if_pos rfl, W.at ht hj, C.sr j hj h (W.at ht hj)⟩
      · by_cases h2 : i = t
        · subst h2
          exact ⟨r, hr, by rw [if_neg h1, if_pos rfl], by rw [if_neg h1, if_pos rfl], W.at hr hj, C.st j hj h (W.at hr hj)⟩
        · exact ⟨i, hi, by rw [if_neg h1, if_neg h2], by rw [if_neg h1, if_neg h2], W.at hi hj, C.old i j hj (.inl ⟨h1, h2⟩) h (W.at hi hj)⟩
    refine ⟨h1, C.len, fun x hx => ?_, fun i j hi hj h => ?_, fun i j hi hj => ?_⟩
    · obtain ⟨p, hp', rfl⟩ := List.getElem_of_mem hx
      have hpl : p < n * c := by rw [← C.len]; exact hp'
      have hc0 : 0 < c := Nat.pos_of_ne_zero fun e => by rw [e] at hpl; omega
      have e1 : p = p / c * c + p % c := by rw [Nat.mul_comm]; exact (Nat.div_add_mod p c).symm
      have hi : p / c < n := Nat.div_lt_of_lt_mul (by rw [Nat.mul_comm]; exact hpl)
      obtain ⟨i0, _, _, _, h0, e2⟩ := cell (p / c) (p % c) hi (Nat.mod_lt _ hc0) (by rw [← e1]; exact hp')
      have : es'[p] = es[i0 * c + p % c] := by rw [← e2]; congr 1
      rw [this]; exact W.fr _ (List.getElem_mem h0)
    · obtain ⟨i0, hi0, e1, _, h0, e2⟩ := cell i j hi hj h
      rw [e1, e2]; exact W.can i0 j hi0 hj h0
    · obtain ⟨i0, hi0, e1, e3, _⟩ := cell i j hi hj (by rw [C.len]; exact cell_lt60 hi hj)
      rw [e1, e3]; exact W.bd i0 j hi0 hj
/-! ### pivot -/
def PVt (N : MX) (col a i : Nat) (best : Int) : Prop := (best = -1 ∧ ∀ q, a ≤ q → q < i → N q col = 0) ∨ ∃ p : Nat, best = (p : Int) ∧ a ≤ p ∧ p < i ∧ N p col ≠ 0
theorem W115 (hn : n ≤ 60) (hc : c ≤ 60) {kb : Nat} (hkb : kb < 2 ^ 36) (hkf : ∀ i, i < n → kf i ≤ kb) {col a : Nat} (hcol : col < c) {b : Nat} (K : Ex → St → Option (AV × Mem)) : ∀ (d i : Nat) (m : Mem) (best : Int), i + d = n → a ≤ i → WM m nm es n c kf N → m[b]? = some (cB n c nm (n * c)) → PVt N col a i best →
    ∃ (e : Mem) (best' : Int), L115_3 (.int .i64 col) (.ptr b 0) (.int .i64 best) (.int .i64 i) m K = K (.exit 0) (O115_3 (.int .i64 best') (m ++ e)) ∧ PVt N col a n best' := by
  intro d
  induction d with
  | zero =>
    intro i m best hi ha W hb P
    obtain rfl : i = n := by omega
    refine ⟨[], best, ?_, P⟩
    rw [L115_3_eq, fld0, Option.bind_some, bL0 hb, Option.bind_some, n_lss, Option.bind_some, ifA_dec, if_neg (by omega), List.append_nil]
  | succ d ih =>
    intro i m best hi ha W hb P
    have hin : i < n := by omega
    obtain ⟨a1, a2⟩ := at_cell (i := i) (c := c) (j := col) (by omega) hc (by omega)
    have p1 : i * c + col < n * c := cell_lt60 hin hcol
    have p1' := W.at hin hcol
    have cx := W.can i col hin hcol p1'
    have fx := W.fr _ (List.getElem_mem p1')
    have hb10 : (m ++ [cR es[i * c + col]])[b]? = some (cB n c nm (n * c)) := app_get hb
    have hm10 : (m ++ [cR es[i * c + col]])[nm]? = some (cA es) := app_get W.hm
    have W10 : WM (m ++ [cR es[i * c + col]]) nm es n c kf N := ⟨hm10, W.len, W.fr, W.can, W.bd⟩
    have e0 : L115_3 (.int .i64 col) (.ptr b 0) (.int .i64 best) (.int .i64 i) m K = _ := L115_3_eq _ _ _ _ _ _
    rw [fld0, Option.bind_some, bL0 hb, Option.bind_some, n_lss, Option.bind_some, ifA_dec, if_pos hin, fld2, Option.bind_some, bL2 hb, Option.bind_some, fld1, Option.bind_some, bL1 hb, Option.bind_some, a1, Option.bind_some, a2, Option.bind_some, arr_index p1, Option.bind_some, arr_load W.hm p1', Option.bind_some] at e0
    rw [show (newAt none m (Ent.obj true [(.bool false), (.lst none true .full []), (.lst none true .full [])])).2 = m ++ [cR zR] from rfl, show (newAt none m Ent.resv).1 = m.length from rfl, st_last, Option.bind_some, fld1, Option.bind_some, rld1 get_last, Option.bind_some, len_nv, Option.bind_some, gtr0, Option.bind_some, ifA_dec] at e0
    have go : ∀ best', PVt N col a (i + 1) best' → ∃ (e : Mem) (best2 : Int), L115_3 (.int .i64 col) (.ptr b 0) (.int .i64 best') (.int .i64 (i + 1 : Nat)) (m ++ [cR es[i * c + col]]) K = K (.exit 0) (O115_3 (.int .i64 best2) (m ++ e)) ∧ PVt N col a n best2 := fun best' hP => by
      obtain ⟨e, best2, h1, h2⟩ := ih (i + 1) (m ++ [cR es[i * c + col]]) best' (by omega) (by omega) W10 hb10 hP
      exact ⟨[cR es[i * c + col]] ++ e, best2, by rw [h1, List.append_assoc], h2⟩
    by_cases hx0 : es[i * c + col].num.ds.length > 0
    · have hne : N i col ≠ 0 := cx.nz (by omega)
      have Pi : PVt N col a (i + 1) (i : Nat) := .inr ⟨i, rfl, ha, by omega, hne⟩
      rw [if_pos hx0, binA_lss, Option.bind_some, ifA_dec] at e0
      by_cases hneg : best < 0
      · rw [if_pos hneg, i_add1 (by omega), Option.bind_some] at e0
        obtain ⟨e, best2, h1, h2⟩ := go _ Pi
        exact ⟨e, best2, e0.trans h1, h2⟩
      · rw [if_neg hneg] at e0
        rcases P with ⟨h, _⟩ | ⟨p, rfl, hap, hpi, hpn⟩
        · omega
        obtain ⟨c1, c2⟩ := at_cell (i := p) (c := c) (j := col) (by omega) hc (by omega)
        have q1 : p * c + col < n * c := cell_lt60 (by omega) hcol
        have q1' := W.at (show p < n by omega) hcol
        have cy := W.can p col (by omega) hcol q1'
        have fy := W.fr _ (List.getElem_mem q1')
        obtain ⟨w1, v1, l1⟩ := V134 (cx.ok ((W.bd i col hin hcol).mono (hkf i hin)) (by omega)) (by omega)
        obtain ⟨w2, v2, l2⟩ := V134 (cy.ok ((W.bd p col (by omega) hcol).mono (hkf p (by omega))) (by omega)) (by omega)
        have Pp : PVt N col a (i + 1) (p : Nat) := .inr ⟨p, rfl, hap, by omega, hpn⟩
        rw [rldA get_last, Option.bind_some, pcR, fx, v1, Option.map_some, Option.bind_some] at e0
        dsimp only at e0
        rw [Option.bind_some, bL2 hb10, Option.bind_some, Option.bind_some, bL1 hb10, Option.bind_some, c1, Option.bind_some, c2, Option.bind_some, arr_index q1, Option.bind_some, arr_load hm10 q1', Option.bind_some, pcR, fy, v2, Option.map_some, Option.bind_some] at e0
        dsimp only at e0
        rw [n_lss, Option.bind_some, ifA_dec, i_add1 (by omega), Option.bind_some, Option.bind_some] at e0
        by_cases hw : w1 < w2
        · rw [if_pos hw] at e0
          obtain ⟨e, best2, h1, h2⟩ := go _ Pi
          exact ⟨e, best2, e0.trans h1, h2⟩
        · rw [if_neg hw] at e0
          obtain ⟨e, best2, h1, h2⟩ := go _ Pp
          exact ⟨e, best2, e0.trans h1, h2⟩
    · have hq0 := q0_of (r := es[i * c + col]) (by omega)
      rw [cx.q] at hq0
      rw [if_neg hx0, i_add1 (by omega), Option.bind_some] at e0
      have P' : PVt N col a (i + 1) best := by
        rcases P with ⟨h, hh⟩ | ⟨p, h, hap, hpi, hpn⟩
        · exact .inl ⟨h, fun q h1 h2 => by
            by_cases e : q = i
            · rw [e]; exact hq0
            · exact hh q h1 (by omega)⟩
        · exact .inr ⟨p, h, hap, by omega, hpn⟩
      obtain ⟨e, best2, h1, h2⟩ := go _ P'
      exact ⟨e, best2, e0.trans h1, h2⟩
theorem C115 (hn : n ≤ 60) (hc : c ≤ 60) {kb : Nat} (hkb : kb < 2 ^ 36) (hkf : ∀ i, i < n → kf i ≤ kb) (W : WM m nm es n c kf N) {col a : Nat} (hcol : col < c) (ha : a ≤ n) :
    ∃ (e : Mem) (best : Int), AC cfg 115 [aM n c nm (n * c), .int .i64 a, .int .i64 col] m = some (.int .i64 best, m ++ e) ∧ PVt N col a n best := by
  have hb1 : (m ++ [cB n c nm (n * c)])[m.length]? = some (cB n c nm (n * c)) := get_last
  have W1 : WM (m ++ [cB n c nm (n * c)]) nm es n c kf N := ⟨app_get W.hm, W.len, W.fr, W.can, W.bd⟩
  obtain ⟨e, best, h1, h2⟩ := W115 hn hc hkb hkf hcol (b := m.length) (K115_3 (finK cfg.P f115.results.toList)) (n - a) a _ (-1) (by omega) (Nat.le_refl a) W1 hb1 (.inl ⟨rfl, fun q h1 h2 => by omega⟩)
  refine ⟨[cB n c nm (n * c)] ++ e, best, ?_, h2⟩
  rw [T115, box_aM, Option.bind_some]
  dsimp only
  rw [h1, K115_3_x0, List.append_assoc]
end
end Go.Ab

/- The program's steps, by value. -/
set_option linter.unusedVariables false
set_option linter.unusedSimpArgs false
set_option linter.unusedSectionVars false
set_option maxRecDepth 100000
namespace Go.Ab
open Go.Proofs.Try

/-- How many digits there may be behind so many columns. -/
def kk (k : Nat) : Nat → Nat
  | 0 => k
  | t + 1 => 4 * kk k t + 1
theorem kk_mono (k : Nat) {a b : Nat} (h : a ≤ b) : kk k a ≤ kk k b := by
  obtain ⟨d, rfl⟩ := Nat.exists_eq_add_of_le h
  induction d with
  | zero => exact Nat.le_refl _
  | succ d ih => rw [← Nat.add_assoc, kk]; have := ih (by omega); omega
def sgO (b : Bool) : Rat := if b then -1 else 1
theorem sgO_not (b : Bool) : sgO (!b) = - sgO b := by cases b <;> decide
theorem clrB_step {a i : Nat} {N : MX} {r col : Nat} (ha : a ≤ i) (hir : i ≠ r) : addR (clrB a i N r col) r i (clrB a i N r col i col / clrB a i N r col r col) = clrB a (i + 1) N r col := by
  funext q j
  unfold addR
  have e1 : clrB a i N r col i col = N i col := clrB_not (by omega)
  have e3 : clrB a i N r col i j = N i j := clrB_not (by omega)
  rw [e1, clrB_row, clrB_row, e3]
  unfold clrB
  by_cases hq : q = i
  · subst hq
    rw [if_pos rfl, if_pos (by omega)]
  · rw [if_neg hq]
    by_cases h2 : a ≤ q ∧ q < i ∧ q ≠ r
    · rw [if_pos h2, if_pos (by omega)]
    · rw [if_neg h2, if_neg (by omega)]
theorem un_not' (b : Bool) : unA .not (.bool b) = some (.bool (!b)) := rfl
section
variable {nm n c k : Nat} {P : MX}
theorem W88c (hn : n ≤ 60) (hc : c ≤ 60) {r col : Nat} (hr : r < n) (hcol : col < c) (hp : P r col ≠ 0) (hk1 : 1 ≤ k) (hk : 4 * k + 1 < 2 ^ 36) {b : Nat} (hbn : b ≠ nm) (x1 x7 : AV) (K : Ex → St → Option (AV × Mem)) : ∀ (d i : Nat) (m : Mem) (es : List RV), i + d = n → r < i → WM m nm es n c (fun q => if r + 1 ≤ q ∧ q < i then 4 * k + 1 else k) (clrB (r + 1) i P r col) → m[b]? = some (cB n c nm (n * c)) →
    ∃ (m' : Mem) (es' : List RV), L88_11 x1 (.ptr b 0) (.int .i64 r) x7 (.int .i64 col) (.int .i64 i) m K = K (.exit 2) (O88_11 x1 (.ptr b 0) (.int .i64 r) x7 (.int .i64 col) m') ∧ WM m' nm es' n c (fun _ => 4 * k + 1) (clrB (r + 1) n P r col) ∧ m'[b]? = some (cB n c nm (n * c)) ∧ Kn nm m m' := by
  intro d
  induction d with
  | zero =>
    intro i m es hi hri W hb
    obtain rfl : i = n := by omega
    refine ⟨m, es, ?_, W.mono fun q _ => ?_, hb, kn_refl _ _⟩
    · rw [L88_11_eq, fld0, Option.bind_some, bL0 hb, Option.bind_some, n_lss, Option.bind_some, ifA_dec, if_neg (by omega)]
    · split <;> omega
  | succ d ih =>
    intro i m es hi hri W hb
    have hin : i < n := by omega
    have e1 : clrB (r + 1) i P r col r col = P r col := clrB_row
    obtain ⟨m1, es1, e117, W1, kn1⟩ := C117 hn hc W hr hin (by omega) hcol (by rw [e1]; exact hp) (show (if r + 1 ≤ r ∧ r < i then 4 * k + 1 else k) ≤ k by rw [if_neg (by omega)]; exact Nat.le_refl _) (show (if r + 1 ≤ i ∧ i < i then 4 * k + 1 else k) ≤ k by rw [if_neg (by omega)]; exact Nat.le_refl _) hk1 hk
    rw [clrB_step (by omega) (by omega)] at W1
    have hb1 := kn1.cB hb hbn
    obtain ⟨m', es', e, h1, h2, h3⟩ := ih (i + 1) m1 es1 (by omega) (by omega) (W1.mono fun q _ => by
      split
      · rw [if_pos (by omega)]; exact Nat.le_refl _
      · split
        · rw [if_pos (by omega)]; exact Nat.le_refl _
        · split <;> omega) hb1
    refine ⟨m', es', ?_, h1, h2, Kn.trans kn1 h3⟩
    rw [L88_11_eq, fld0, Option.bind_some, bL0 hb, Option.bind_some, n_lss, Option.bind_some, ifA_dec, if_pos hin, bLA hb, Option.bind_some, e117, Option.bind_some, i_add1 (by omega), Option.bind_some]
    exact e
theorem W88 (hn : n ≤ 60) (hc : c ≤ 60) {k0 cols : Nat} (hk1 : 1 ≤ k0) (hK : kk k0 cols < 2 ^ 36) (hcols : cols ≤ c) {M : MX} {b : Nat} (hbn : b ≠ nm) : ∀ (d col r : Nat) (N : MX) (s : Rat) (cs : Nat → Nat) (m : Mem) (es : List RV) (odd : Bool), col + d = cols → EC n c M N s r col cs → s = sgO odd → WM m nm es n c (fun _ => kk k0 col) N → m[b]? = some (cB n c nm (n * c)) →
    ∃ (m' : Mem) (es' : List RV) (N' : MX) (s' : Rat) (r' : Nat) (cs' : Nat → Nat) (odd' : Bool), L88_3 (.int .i64 cols) (.ptr b 0) (.int .i64 r) (.bool odd) (.int .i64 col) m (K88_3 (finK cfg.P f88.results.toList)) = some (.tup [.int .i64 r', .bool odd'], m') ∧ EC n c M N' s' r' cols cs' ∧ s' = sgO odd' ∧ WM m' nm es' n c (fun _ => kk k0 cols) N' ∧ Kn nm m m' := by
  intro d
  induction d with
  | zero =>
    intro col r N s cs m es odd hd E hs W hb
    obtain rfl : col = cols := by omega
    refine ⟨m, es, N, s, r, cs, odd, ?_, E, hs, W, kn_refl _ _⟩
    rw [L88_3_eq, n_lss, Option.bind_some, ifA_dec, if_neg (by omega), K88_3_x0]
  | succ d ih =>
    intro col r N s cs m es odd hd E hs W hb
    have hcc : col < cols := by omega
    have hrn := E.ech.le
    have hkc : kk k0 col ≤ kk k0 cols := kk_mono k0 (by omega)
    have hk2 : 4 * kk k0 col + 1 ≤ kk k0 cols := kk_mono k0 (show col + 1 ≤ cols by omega)
    have hk0 : k0 ≤ kk k0 col := kk_mono k0 (Nat.zero_le col)
    have e0 : L88_3 (.int .i64 cols) (.ptr b 0) (.int .i64 r) (.bool odd) (.int .i64 col) m (K88_3 (finK cfg.P f88.results.toList)) = _ := L88_3_eq _ _ _ _ _ _ _
    rw [n_lss, Option.bind_some, ifA_dec, if_pos hcc, fld0, Option.bind_some, bL0 hb, Option.bind_some, n_lss, Option.bind_some, ifA_dec] at e0
    by_cases hrf : r < n
    · rw [if_pos hrf, bLA hb, Option.bind_some] at e0
      obtain ⟨e, best, e115, PV⟩ := C115 hn hc (show kk k0 cols < 2 ^ 36 from hK) (kf := fun _ => kk k0 col) (fun _ _ => hkc) W (show col < c by omega) (show r ≤ n by omega)
      rw [e115, Option.bind_some, binA_lss, Option.bind_some, ifA_dec] at e0
      have W1 : WM (m ++ e) nm es n c (fun _ => kk k0 col) N := ⟨app_get W.hm, W.len, W.fr, W.can, W.bd⟩
      have hb1 : (m ++ e)[b]? = some (cB n c nm (n * c)) := app_get hb
      rcases PV with ⟨rfl, hz⟩ | ⟨p, rfl, hrp, hpn, hpne⟩
      · rw [if_pos (by decide), i_add1 (by omega), Option.bind_some] at e0
        obtain ⟨m', es', N', s', r', cs', odd', h1, h2, h3, h4, h5⟩ := ih (col + 1) r N s cs (m ++ e) es odd (by omega) (E.skip (by omega) hz) hs (W1.mono fun _ _ => kk_mono k0 (Nat.le_succ col)) hb1
        exact ⟨m', es', N', s', r', cs', odd', e0.trans h1, h2, h3, h4, Kn.trans (kn_app _ _ _) h5⟩
      · rw [if_neg (by omega), binA_neq, Option.bind_some, ifA_dec] at e0
        -- the pivot's row has been brought up
        have fin : ∀ (m2 : Mem) (es2 : List RV) (P : MX) (s2 : Rat) (odd2 : Bool), WM m2 nm es2 n c (fun _ => kk k0 col) P → m2[b]? = some (cB n c nm (n * c)) → Kn nm m m2 → RE n c M P s2 → s2 = sgO odd2 → (∀ i j, i < r → P i j = N i j) → (∀ i j, r ≤ i → i < n → j < col → P i j = 0) → P r col ≠ 0 →
            ∃ (m' : Mem) (es' : List RV) (N' : MX) (s' : Rat) (r' : Nat) (cs' : Nat → Nat) (odd' : Bool), L88_11 (.int .i64 cols) (.ptr b 0) (.int .i64 r) (.bool odd2) (.int .i64 col) (.int .i64 (r + 1 : Nat)) m2 (K88_11 (K88_3 (finK cfg.P f88.results.toList))) = some (.tup [.int .i64 r', .bool odd'], m') ∧ EC n c M N' s' r' cols cs' ∧ s' = sgO odd' ∧ WM m' nm es' n c (fun _ => kk k0 cols) N' ∧ Kn nm m m' := by
          intro m2 es2 P s2 odd2 W2 hb2 kn2 re hs2 u1 u2 u3
          have c0 : clrB (r + 1) (r + 1) P r col = P := by funext i j; exact clrB_not (by omega)
          obtain ⟨m3, es3, e3, W3, hb3, kn3⟩ := W88c (k := kk k0 col) hn hc hrf (show col < c by omega) u3 (by omega) (by omega) hbn (.int .i64 cols) (.bool odd2) (K88_11 (K88_3 (finK cfg.P f88.results.toList))) (n - (r + 1)) (r + 1) m2 es2 (by omega) (by omega) (by rw [c0]; exact W2.mono fun q _ => by split <;> omega) hb2
          have E' := E.take (N1 := clrB (r + 1) n P r col) (show col < c by omega) hrf (re.clr hrf (r + 1) n (Nat.le_refl n)) (fun i j hi hj => by rw [clrB_not (by omega)]; exact u1 i j hi) (fun i j a b d => by rw [clrB_zero (u2 r j (Nat.le_refl _) hrf d)]; exact u2 i j a b d) (by rw [clrB_row]; exact u3) (fun i a b => clrB_col u3 ⟨by omega, b, by omega⟩)
          obtain ⟨m', es', N', s', r', cs', odd', h1, h2, h3, h4, h5⟩ := ih (col + 1) (r + 1) _ s2 _ m3 es3 odd2 (by omega) E' hs2 W3 hb3
          refine ⟨m', es', N', s', r', cs', odd', ?_, h2, h3, h4, Kn.trans kn2 (Kn.trans kn3 h5)⟩
          rw [e3, K88_11_x2, i_add1 (by omega), Option.bind_some, i_add1 (by omega), Option.bind_some]
          exact h1
        by_cases hpr : p = r
        · subst hpr
          rw [if_neg (by omega), i_add1 (by omega), Option.bind_some] at e0
          obtain ⟨m', es', N', s', r', cs', odd', h1, h2⟩ := fin (m ++ e) es N s odd W1 hb1 (kn_app _ _ _) E.re hs (fun _ _ _ => rfl) (fun i j a b d => E.ech.rest i a b j d) hpne
          exact ⟨m', es', N', s', r', cs', odd', e0.trans h1, h2⟩
        · have hne2 : (p : Int) ≠ (r : Int) := by omega
          obtain ⟨m2, es2, e116, W2, kn2⟩ := C116 hn hc W1 hpn hrf hpr
          rw [if_pos hne2, bLA hb1, Option.bind_some, e116, Option.bind_some, un_not', Option.bind_some, i_add1 (by omega), Option.bind_some] at e0
          have hz : ∀ i j, r ≤ i → i < n → j < col → swpR N p r i j = 0 := fun i j a b d => by
            unfold swpR
            split
            · exact E.ech.rest r (Nat.le_refl _) hrf j d
            · split
              · exact E.ech.rest p hrp hpn j d
              · exact E.ech.rest i a b j d
          obtain ⟨m', es', N', s', r', cs', odd', h1, h2⟩ := fin m2 es2 (swpR N p r) (-s) (!odd) (W2.mono fun q _ => by split <;> first | exact Nat.le_refl _ | (split <;> exact Nat.le_refl _)) (kn2.cB hb1 hbn) (Kn.trans (kn_app _ _ _) kn2) (.swp N s p r E.re hpn hrf hpr) (by rw [sgO_not, hs]) (fun i j hi => by unfold swpR; rw [if_neg (by omega), if_neg (by omega)]) hz (by unfold swpR; rw [if_neg (fun e => hpr e.symm), if_pos rfl]; exact hpne)
          exact ⟨m', es', N', s', r', cs', odd', e0.trans h1, h2⟩
    · have hrn2 : r = n := by omega
      subst hrn2
      rw [if_neg (by omega), K88_3_x0] at e0
      have E' := E.full (d + 1) (by omega)
      rw [hd] at E'
      exact ⟨m, es, N, s, r, cs, odd, e0, E', hs, W.mono fun _ _ => hkc, kn_refl _ _⟩
end
end Go.Ab

/- Powers of matrices: plain sums, and how great their fractions can be. -/
set_option linter.unusedVariables false
set_option linter.unusedSimpArgs false
set_option maxRecDepth 100000
namespace Go.Ab
open Go.Proofs.Try

/-! ### Matrices as functions -/
abbrev MF := Nat → Nat → Rat
def mulF (n : Nat) (A B : MF) : MF := fun i j => sumN (fun l => A i l * B l j) n
def idF : MF := fun i j => if i = j then 1 else 0
def powF (n : Nat) (A : MF) : Nat → MF
  | 0 => idF
  | e + 1 => mulF n (powF n A e) A
/-! ### Fractions over one denominator -/
def Ud (D M : Nat) (q : Rat) : Prop := ∃ z : Int, z.natAbs ≤ M ∧ q = mkRat z D
theorem Ud.zero (D M : Nat) : Ud D M 0 := ⟨0, Nat.zero_le _, (Rat.zero_mkRat D).symm⟩
theorem Ud.add {D M M' : Nat} {p q : Rat} (hD : D ≠ 0) (hp : Ud D M p) (hq : Ud D M' q) : Ud D (M + M') (p + q) := by
  obtain ⟨z, h1, rfl⟩ := hp
  obtain ⟨w, h3, rfl⟩ := hq
  refine ⟨z + w, by omega, ?_⟩
  rw [Rat.mkRat_add_mkRat _ _ hD hD, ← Int.add_mul, Rat.mkRat_mul_right hD]
end Go.Ab

/- Powers of matrices, in values. -/
set_option linter.unusedVariables false
set_option linter.unusedSimpArgs false
set_option maxRecDepth 100000
namespace Go.Ab
open Go.Proofs.Try

def ent (x : MV) (n : Nat) : MF := fun i j => qAt x (i * n + j)
/-- The matrix is a power. -/
structure PM (K n : Nat) (A : MF) (e : Nat) (z : MV) : Prop where
  fr : z.fr = z
  ok : LOk K z.lv
  rows : z.rows = n
  cols : z.cols = n
  len : z.lv.es.length = n * n
  q : ∀ i j, i < n → j < n → ent z n i j = powF n A e i j
end Go.Ab

/- Power, in values: both sides. -/
set_option linter.unusedVariables false
set_option linter.unusedSimpArgs false
set_option maxRecDepth 100000
namespace Go.Ab
open Go.Proofs.Try

theorem right_cells {x : MV} (h : rightM x = true) : ∀ u ∈ x.lv.es, rightR u = true := by
  unfold rightM at h
  rw [Bool.and_eq_true] at h
  exact List.all_eq_true.1 h.2
end Go.Ab

/- clone brought to the caller; steps as a call; Rank. -/
set_option linter.unusedVariables false
set_option linter.unusedSimpArgs false
set_option linter.unusedSectionVars false
set_option maxRecDepth 100000
namespace Go.Ab
open Go.Proofs.Try

theorem T56' {x : MV} {k : Nat} (hx : LOk k x.lv) (hlen : x.lv.es.length < 4500) : ∃ m' l', RowAt m' l' ∧ l'.es = x.lv.es.map copyR ∧ AC cfg 56 [x.av] [] = some (MV.av ⟨x.rows, x.cols, l'⟩, m') := by
  obtain ⟨m', l', q1, q2, q3, q4, q5⟩ := W56 hx hlen (K56_3 (finK cfg.P f56.results.toList)) x.lv.es.length 0 [cM x, cM zM, cM ⟨x.rows, x.cols, nilL⟩] nilL (by omega) rfl rfl (.inl rfl) rfl
  have hl1 : 1 < m'.length := by
    apply Classical.byContradiction
    intro hc
    rw [List.getElem?_eq_none (by omega)] at q1
    cases q1
  refine ⟨m'.set 1 (cM ⟨x.rows, x.cols, l'⟩), l', q3.set q1 _, q4, ?_⟩
  have e1 : ([cM x, cM zM] : Mem)[0]? = some (cM x) := rfl
  have e2 : ([cM x, cM zM, cM zM] : Mem)[2]? = some (cM zM) := rfl
  have e3 : ([cM x, cM zM, cM ⟨x.rows, x.cols, nilL⟩] : Mem)[0]? = some (cM x) := rfl
  rw [T56]
  simp only [Option.bind_some, box_mv, new_m, new_r, fld0, fld1, fld2, List.length_nil, List.nil_append, List.length_cons, List.cons_append, Nat.zero_add, Nat.reduceAdd]
  rw [mld0 e1, Option.bind_some, mld1 e1, Option.bind_some, bldM01, Option.bind_some, mstA e2, Option.bind_some]
  simp only [List.set_cons_succ, List.set_cons_zero]
  rw [mld2 e3, Option.bind_some, len_lv, Option.bind_some]
  refine q5.trans ?_
  rw [K56_3_x0, mldA q2, Option.bind_some, mstA q1, Option.bind_some, mldA (by rw [List.getElem?_set_self hl1])]
  rfl
theorem T58' {g : Nat} {cs : List AV} {F : Nat → Nat → RV} {rows cols k : Nat} (h : FillOk g cs F rows cols k) (hr : rows ≤ 60) (hc : cols ≤ 60) : ∃ m' l', RowAt m' l' ∧ l'.es = cellsF F cols rows ∧ AC cfg 58 [.int .i64 rows, .int .i64 cols, .fn g cs] [] = some (MV.av ⟨rows, cols, l'⟩, m') := by
  obtain ⟨m', l', q1, q2, q3, q4, q5⟩ := W58_3 h hr hc (K58_3 (finK cfg.P f58.results.toList)) rows 0 [cM zM, cM ⟨rows, cols, nilL⟩] nilL (by omega) rfl rfl (.inl rfl) rfl
  have hl1 : 0 < m'.length := by
    apply Classical.byContradiction
    intro hcc
    rw [List.getElem?_eq_none (by omega)] at q1
    cases q1
  refine ⟨m'.set 0 (cM ⟨rows, cols, l'⟩), l', q3.set q1 _, q4, ?_⟩
  have e2 : ([cM zM, cM zM] : Mem)[1]? = some (cM zM) := rfl
  rw [T58, bldM01, Option.bind_some]
  simp only [new_m, new_r, List.length_nil, List.nil_append, List.length_cons, List.cons_append, Nat.zero_add]
  rw [mstA e2, Option.bind_some]
  simp only [List.set_cons_succ, List.set_cons_zero]
  refine q5.trans ?_
  rw [K58_3_x0, mldA q2, Option.bind_some, mstA q1, Option.bind_some, mldA (by rw [List.getElem?_set_self hl1])]
  rfl
/-- A matrix that a call hands over: its cells may be written to. -/
theorem thawM {g : Nat} {args rs : List AV} {ns : List Nat} {m m' : Mem} {a b : Int} {l' : LV} (hf : mapF (frz m fuelF) args = some (rs, ns)) (hc : AC cfg g rs [] = some (MV.av ⟨a, b, l'⟩, m')) (hr : RowAt m' l') (hfr : ∀ r ∈ l'.es, r.fr = r) :
    (l' = nilL ∧ thawCall (AC cfg) m g args = some (MV.av ⟨a, b, nilL⟩, kill m ns)) ∨ (l'.es ≠ [] ∧ thawCall (AC cfg) m g args = some (aM a b m.length l'.es.length, kill m ns ++ [cA l'.es])) := by
  rcases hr with rfl | ⟨g1, g2, g3, nm, g4, g5⟩
  · refine .inl ⟨rfl, ?_⟩
    unfold thawCall
    rw [hf, Option.bind_some, hc, Option.bind_some]
    show some (_, kill m ns ++ []) = _
    rw [List.append_nil]; rfl
  · refine .inr ⟨g3, ?_⟩
    unfold thawCall
    rw [hf, Option.bind_some, hc, Option.bind_some]
    obtain ⟨sh, z, o, es⟩ := l'
    simp only at g1 g2 g3 g4 g5 hfr
    subst g1; subst g2; subst g4
    have hall : ((es.map RV.av).flatMap AV.cells).all rowC = true := by rw [flatR_eq]; exact flat_rowC es hfr
    have ht : thawA m.length m' (MV.av ⟨a, b, ⟨some 3, false, .tok nm 43, es⟩⟩) = some (.agg [.int .i64 a, .int .i64 b, .arr m.length 0 (es.map RV.av).length (some 3)], [some (.obj false ((es.map RV.av).flatMap AV.cells))]) := by
      unfold thawA MV.av LV.av
      simp only [mget g5, List.length_map, hall, and_self, if_true]
    rw [ht, Option.map_some, flatR_eq, List.length_map]
    rfl
theorem can_copy {r : RV} {q : Rat} (h : Can r q) : Can (copyR r) q := by
  have e : ∀ ds : List Nat, (rowN ds).z = true → (rowN ds).ds = [] := fun ds => by
    unfold rowN
    split
    · intro _; rfl
    · intro hh; cases hh
  exact ⟨h.neg, by rw [copyR, rowN_ds]; exact h.num, by rw [copyR, rowN_ds]; exact h.den, e _, e _⟩
/-- The matrix of an argument. -/
def mxOf (x : MV) (c : Nat) : MX := fun i j => qAt x (i * c + j)
section
variable {n c k : Nat}
/-- steps, as a call. -/
theorem C88 (hn : n ≤ 60) (hc : c ≤ 60) {k0 cols : Nat} (hk1 : 1 ≤ k0) (hK : kk k0 cols < 2 ^ 36) (hcols : cols ≤ c) {M : MX} {m : Mem} {nm : Nat} {es : List RV} (W : WM m nm es n c (fun _ => k0) M) :
    ∃ (m' : Mem) (es' : List RV) (N : MX) (s : Rat) (r : Nat) (cs : Nat → Nat) (odd : Bool), AC cfg 88 [aM n c nm (n * c), .int .i64 cols] m = some (.tup [.int .i64 r, .bool odd], m') ∧ EC n c M N s r cols cs ∧ s = sgO odd ∧ WM m' nm es' n c (fun _ => kk k0 cols) N ∧ Kn nm m m' := by
  have hnm : nm < m.length := (List.getElem?_eq_some_iff.1 W.hm).1
  have W1 : WM (m ++ [cB n c nm (n * c)]) nm es n c (fun _ => kk k0 0) M := ⟨app_get W.hm, W.len, W.fr, W.can, W.bd⟩
  obtain ⟨m', es', N, s, r, cs, odd, h1, h2, h3, h4, h5⟩ := W88 hn hc hk1 hK hcols (b := m.length) (by omega) cols 0 0 M 1 (fun _ => 0) _ es false (by omega) (ec0 n c M _) rfl W1 get_last
  refine ⟨m', es', N, s, r, cs, odd, ?_, h2, h3, h4, Kn.trans (kn_app _ _ _) h5⟩
  rw [T88, box_aM, Option.bind_some]
  exact h1
/-- No cells: no step. -/
theorem C88z {a b : Int} {cols : Nat} (h : cols = 0 ∨ a = 0) (hcols : cols ≤ 60) (m : Mem) : ∃ m', AC cfg 88 [MV.av ⟨a, b, nilL⟩, .int .i64 cols] m = some (.tup [.int .i64 0, .bool false], m') ∧ Kp m m' := by
  have key : ∀ (d col : Nat), col + d = cols → L88_3 (.int .i64 cols) (.ptr m.length 0) (.int .i64 0) (.bool false) (.int .i64 col) (m ++ [cM ⟨a, b, nilL⟩]) (K88_3 (finK cfg.P f88.results.toList)) = some (.tup [.int .i64 0, .bool false], m ++ [cM ⟨a, b, nilL⟩]) := by
    intro d col hd
    rw [L88_3_eq, n_lss, Option.bind_some, ifA_dec]
    by_cases hl : col < cols
    · rw [if_pos hl, fld0, Option.bind_some, mld0 get_last, Option.bind_some, binA_lss, Option.bind_some, ifA_dec, if_neg (by simp only; omega), K88_3_x0]
    · rw [if_neg hl, K88_3_x0]
  refine ⟨m ++ [cM ⟨a, b, nilL⟩], ?_, Kp.app m _⟩
  rw [T88, box_mv, Option.bind_some]
  exact key cols 0 (by omega)
/-- The copied cells of a right matrix. -/
theorem wm_copy {x : MV} (hx : LOk k x.lv) (hk1 : 1 ≤ k) (hr : ∀ u ∈ x.lv.es, rightR u = true) (hl : x.lv.es.length = n * c) {m : Mem} {nm : Nat} (hm : m[nm]? = some (cA (x.lv.es.map copyR))) : WM m nm (x.lv.es.map copyR) n c (fun _ => k) (mxOf x c) := by
  refine ⟨hm, by rw [List.length_map, hl], fun r hr => ?_, fun i j hi hj h => ?_, fun i j hi hj => qAt_bd hx hk1⟩
  · obtain ⟨r', _, rfl⟩ := List.mem_map.1 hr
    exact copyR_fr _
  · have h2 : i * c + j < x.lv.es.length := by simpa using h
    have hm2 := List.getElem_mem h2
    rw [List.getElem_map, mxOf, qAt_get h2]
    exact can_copy (rightR_can (hr _ hm2) (hx.ok _ hm2).num.nil (hx.ok _ hm2).den.nil)
end
/-- The rank of a matrix. -/
noncomputable def rkM (x : MV) : Nat := cntU (pivB x.rows.toNat x.cols.toNat (mxOf x x.cols.toNat)) x.cols.toNat
theorem fz_ii (a b : Int) : Fz (.tup [.int .i64 a, .int .i64 b]) (.tup [.int .i64 a, .int .i64 b]) := fun _ => rfl
theorem cnt_zero0 {n c : Nat} {M : MX} (h : n = 0 ∨ c = 0) : cntU (pivB n c M) c = 0 := by
  have e := (ec0 n c M (fun _ => 0))
  rcases h with rfl | rfl
  · have := (e.full c (by omega)).cnt
    rw [Nat.zero_add] at this; exact this
  · rfl
theorem V50 {x : MV} {k : Nat} (hx : IsM k x) (hk1 : 1 ≤ k) (hk : k < 2 ^ 38) (hK : rightM x = true → kk k x.cols.toNat < 2 ^ 36) : AP cfg 50 [x.av] = some (.tup [.int .i64 (if rightM x = true then (rkM x : Int) else 0), .int .i64 (if rightM x = true then 0 else 1)]) := by
  have e20 := V20 hx.ok hk (by have := hx.len; omega)
  have gx : ∀ e : Mem, (cM x :: e)[0]? = some (cM x) := fun _ => rfl
  have start : AC cfg 50 [x.av] [] = AC cfg 50 [x.av] [] := rfl
  conv at start => rhs; rw [T50, box_mv, Option.bind_some]
  simp only [List.length_nil, List.nil_append] at start
  rw [mldA (gx _), Option.bind_some, pcM, hx.fr, e20, Option.map_some, Option.bind_some, not_b, Option.bind_some] at start
  cases hb : rightM x with
  | false =>
    rw [hb, Bool.not_false, ifA_true] at start
    rw [if_neg (by decide), if_neg (by decide)]
    exact AP_ofz _ _ (fz_ii _ _) rfl start
  | true =>
    obtain ⟨n, c, hn, hc, hn60, hc60, hl⟩ := right_len hb
    have hcc := right_cells hb
    have hK := hK hb
    have hc' : x.cols.toNat = c := by rw [hc]; rfl
    have hn' : x.rows.toNat = n := by rw [hn]; rfl
    obtain ⟨m1, l1, r1, r2, r3⟩ := T56' hx.ok (by have := hx.len; omega)
    have hf : mapF (frz [cM x] fuelF) [x.av] = some ([x.av], []) := by
      simp [mapF, fz_mv x [cM x], hx.fr]
    have ht := thawM (m := [cM x]) hf r3 r1 (by rw [r2]; intro r hr; obtain ⟨r', _, rfl⟩ := List.mem_map.1 hr; exact copyR_fr _)
    rw [hb, Bool.not_true, ifA_false, mldA (gx _), Option.bind_some, fld1, Option.bind_some, mld1 (gx _), Option.bind_some] at start
    rw [if_pos rfl, if_pos rfl]
    unfold rkM
    rw [hc', hn']
    rw [hc'] at hK
    rcases ht with ⟨hz, ht⟩ | ⟨hz, ht⟩
    · have h0 : n * c = 0 := by
        rw [hz] at r2
        have := congrArg List.length r2
        rw [List.length_map, hl] at this
        exact this.symm
      have h0' : n = 0 ∨ c = 0 := Nat.mul_eq_zero.1 h0
      obtain ⟨m2, h2, kp⟩ := C88z (a := x.rows) (b := x.cols) (cols := c) (by rcases h0' with h | h; exact .inr (by rw [hn, h]; rfl); exact .inl h) hc60 [cM x]
      rw [ht, Option.bind_some] at start
      simp only [kill, List.foldl_nil] at start
      rw [hc] at h2
      rw [ifP_pos (by rw [mld1 (gx _)]; rfl), hc, h2, Option.bind_some] at start
      rw [cnt_zero0 h0']
      exact AP_ofz _ _ (fz_ii _ _) rfl start
    · have hl1 : l1.es.length = n * c := by rw [r2, List.length_map, hl]
      have W : WM [cM x, cA l1.es] 1 l1.es n c (fun _ => k) (mxOf x c) := by
        rw [r2]
        exact wm_copy hx.ok hk1 hcc hl rfl
      obtain ⟨m2, es2, N, s, r, cs, odd, h2, E, _⟩ := C88 hn60 hc60 hk1 hK (Nat.le_refl c) W
      rw [ht, Option.bind_some] at start
      simp only [kill, List.foldl_nil, List.length_cons, List.length_nil, List.cons_append, List.nil_append, Nat.zero_add] at start
      rw [ifP_pos (by rw [mld1 (gx _)]; rfl), hn, hc, hl1, h2, Option.bind_some] at start
      rw [E.cnt]
      exact AP_ofz _ _ (fz_ii _ _) rfl start
end Go.Ab

/- What the interpreter does, function by function. -/
set_option maxRecDepth 100000
set_option linter.unusedVariables false
namespace Go.Ab
open Go.Proofs.Try
/-! ### sortilege/matrix.solved$1 -/
theorem T120 (a0 a1 a2 a3 a4 : AV) (m : Mem) : AC cfg 120 [a0, a1, a2, a3, a4] m =
  (loadA none (newAt none m (.obj true [(.bool false), (.lst none true .full []), (.lst none true .full [])])).2 a2).bind fun v1 =>
  (binA .other .lss a1 v1).bind fun v2 =>
  ifA v2 (
  (fieldAddrA 2 a3).bind fun v3 =>
  (loadA none (newAt none m (.obj true [(.bool false), (.lst none true .full []), (.lst none true .full [])])).2 v3).bind fun v4 =>
  (loadA none (newAt none m (.obj true [(.bool false), (.lst none true .full []), (.lst none true .full [])])).2 a2).bind fun v5 =>
  (binA .other .mul a0 v5).bind fun v6 =>
  (binA .other .add v6 a1).bind fun v7 =>
  (indexAddrA (some 3) v4 v7).bind fun v8 =>
  (loadA (some 3) (newAt none m (.obj true [(.bool false), (.lst none true .full []), (.lst none true .full [])])).2 v8).bind fun v9 =>
  (pcall (AP cfg) none (newAt none m (.obj true [(.bool false), (.lst none true .full []), (.lst none true .full [])])).2 67 [v9]).bind fun r10 =>
  (storeA (some 3) r10.2 (.ptr (newAt none m .resv).1 0) r10.1).bind fun m11 =>
  (loadA (some 3) m11 (.ptr (newAt none m .resv).1 0)).bind fun v12 =>
  some (v12, m11)) (
  (fieldAddrA 2 a4).bind fun v13 =>
  (loadA none (newAt none m (.obj true [(.bool false), (.lst none true .full []), (.lst none true .full [])])).2 v13).bind fun v14 =>
  (fieldAddrA 1 a4).bind fun v15 =>
  (loadA none (newAt none m (.obj true [(.bool false), (.lst none true .full []), (.lst none true .full [])])).2 v15).bind fun v16 =>
  (binA .other .mul a0 v16).bind fun v17 =>
  (binA .other .add v17 a1).bind fun v18 =>
  (loadA none (newAt none m (.obj true [(.bool false), (.lst none true .full []), (.lst none true .full [])])).2 a2).bind fun v19 =>
  (binA .other .sub v18 v19).bind fun v20 =>
  (indexAddrA (some 3) v14 v20).bind fun v21 =>
  (loadA (some 3) (newAt none m (.obj true [(.bool false), (.lst none true .full []), (.lst none true .full [])])).2 v21).bind fun v22 =>
  (pcall (AP cfg) none (newAt none m (.obj true [(.bool false), (.lst none true .full []), (.lst none true .full [])])).2 67 [v22]).bind fun r23 =>
  (storeA (some 3) r23.2 (.ptr (newAt none m .resv).1 0) r23.1).bind fun m24 =>
  (loadA (some 3) m24 (.ptr (newAt none m .resv).1 0)).bind fun v25 =>
  some (v25, m24)) :=
(AC_eq cfg 120 [a0, a1, a2, a3, a4] m (fn := f120) (c := bodyOf f120) at120 rfl).trans (by kernel_rfl)
/-! ### sortilege/matrix.solved$2 -/
theorem T121 (a0 a1 a2 a3 : AV) (m : Mem) : AC cfg 121 [a0, a1, a2, a3] m =
  (fieldAddrA 2 a2).bind fun v1 =>
  (loadA none (reserve (newAt none m (.obj true [(.bool false), (.lst none true .full []), (.lst none true .full [])])).2 1) v1).bind fun v2 =>
  (fieldAddrA 1 a2).bind fun v3 =>
  (loadA none (reserve (newAt none m (.obj true [(.bool false), (.lst none true .full []), (.lst none true .full [])])).2 1) v3).bind fun v4 =>
  (binA .other .mul a0 v4).bind fun v5 =>
  (loadA none (reserve (newAt none m (.obj true [(.bool false), (.lst none true .full []), (.lst none true .full [])])).2 1) a3).bind fun v6 =>
  (binA .other .add v5 v6).bind fun v7 =>
  (binA .other .add v7 a1).bind fun v8 =>
  (indexAddrA (some 3) v2 v8).bind fun v9 =>
  (loadA (some 3) (reserve (newAt none m (.obj true [(.bool false), (.lst none true .full []), (.lst none true .full [])])).2 1) v9).bind fun v10 =>
  (fieldAddrA 2 a2).bind fun v11 =>
  (loadA none (reserve (newAt none m (.obj true [(.bool false), (.lst none true .full []), (.lst none true .full [])])).2 1) v11).bind fun v12 =>
  (fieldAddrA 1 a2).bind fun v13 =>
  (loadA none (reserve (newAt none m (.obj true [(.bool false), (.lst none true .full []), (.lst none true .full [])])).2 1) v13).bind fun v14 =>
  (binA .other .mul a0 v14).bind fun v15 =>
  (binA .other .add v15 a0).bind fun v16 =>
  (indexAddrA (some 3) v12 v16).bind fun v17 =>
  (loadA (some 3) (reserve (newAt none m (.obj true [(.bool false), (.lst none true .full []), (.lst none true .full [])])).2 1) v17).bind fun v18 =>
  (pcall (AP cfg) (some (newAt none m (.obj true [(.bool false), (.lst none true .full []), (.lst none true .full [])])).2.length) (reserve (newAt none m (.obj true [(.bool false), (.lst none true .full []), (.lst none true .full [])])).2 1) 122 [v10, v18]).bind fun r19 =>
  (extractA r19.1 0).bind fun v20 =>
  (extractA r19.1 1).bind fun v21 =>
  (storeA (some 3) (newAt (some (newAt none m (.obj true [(.bool false), (.lst none true .full []), (.lst none true .full [])])).2.length) r19.2 (.obj true [(.bool false), (.lst none true .full []), (.lst none true .full [])])).2 (.ptr (newAt (some (newAt none m (.obj true [(.bool false), (.lst none true .full []), (.lst none true .full [])])).2.length) r19.2 .resv).1 0) v20).bind fun m22 =>
  (loadA (some 3) m22 (.ptr (newAt (some (newAt none m (.obj true [(.bool false), (.lst none true .full []), (.lst none true .full [])])).2.length) r19.2 .resv).1 0)).bind fun v23 =>
  (storeA (some 3) m22 (.ptr (newAt none m .resv).1 0) v23).bind fun m24 =>
  (loadA (some 3) m24 (.ptr (newAt none m .resv).1 0)).bind fun v25 =>
  some (v25, m24) :=
(AC_eq cfg 121 [a0, a1, a2, a3] m (fn := f121) (c := bodyOf f121) at121 rfl).trans (by kernel_rfl)
end Go.Ab

/- solved's two closures, and its way back. -/
set_option linter.unusedVariables false
set_option linter.unusedSimpArgs false
set_option linter.unusedSectionVars false
set_option maxRecDepth 100000
namespace Go.Ab
open Go.Proofs.Try

def vI (n : Int) : AV := .vptr [.int .i64 n]
theorem frz_vI (n : Int) (m : Mem) (k : Nat) : frz m (k + 2) (vI n) = some (vI n, []) := rfl
theorem vIl (n : Int) (m : Mem) : loadA none m (vI n) = some (.int .i64 n) := rfl
/-- Two matrices side by side. -/
def augM (x y : MV) (n b : Nat) : MX := fun i j => if j < n then qAt x (i * n + j) else qAt y (i * b + (j - n))
theorem right_at {x : MV} {k p : Nat} (hx : LOk k x.lv) (hr : ∀ u ∈ x.lv.es, rightR u = true) (h : p < x.lv.es.length) : Can x.lv.es[p] (qAt x p) := by
  have hm2 := List.getElem_mem h
  rw [qAt_get h]
  exact rightR_can (hr _ hm2) (hx.ok _ hm2).num.nil (hx.ok _ hm2).den.nil
theorem V120 {x y : MV} {k n b i j : Nat} (hx : LOk k x.lv) (hy : LOk k y.lv) (hrx : ∀ u ∈ x.lv.es, rightR u = true) (hry : ∀ u ∈ y.lv.es, rightR u = true) (hyc : y.cols = b) (hi : i < n) (hj : j < n + b) (hnb : n + b ≤ 60) (hlx : x.lv.es.length = n * n) (hly : y.lv.es.length = n * b) :
    ∃ s : RV, AP cfg 120 [.int .i64 i, .int .i64 j, vI n, vM x, vM y] = some s.av ∧ Can s (augM x y n b i j) ∧ s.fr = s ∧ ROk k s := by
  unfold augM
  have e0 := T120 (.int .i64 i) (.int .i64 j) (vI n) (vM x) (vM y) []
  simp only [new_z', new_r, List.length_nil, List.nil_append] at e0
  rw [vIl, Option.bind_some, n_lss, Option.bind_some, ifA_dec] at e0
  by_cases hjn : j < n
  · rw [if_pos hjn] at e0 ⊢
    obtain ⟨a1, a2⟩ := at_cell (i := i) (c := n) (j := j) (by omega) (by omega) (by omega)
    have h1 : i * n + j < x.lv.es.length := by rw [hlx]; exact cell_lt60 hi hjn
    have e := V67 (hx.ok _ (List.getElem_mem h1))
    have f1 := hx.fr _ (List.getElem_mem h1)
    refine ⟨copyR x.lv.es[i * n + j], (AP_ofz _ _ (fz_rv (copyR x.lv.es[i * n + j])) (noV_rv _) (m := [cR (copyR x.lv.es[i * n + j])]) ?_).trans (by rw [copyR_fr]), can_copy (right_at hx hrx h1), copyR_fr _, copyR_ok (hx.ok _ (List.getElem_mem h1))⟩
    refine e0.trans ?_
    rw [vMf2, Option.bind_some, vMl2, Option.bind_some, Option.bind_some, a1, Option.bind_some, a2, Option.bind_some, index_lv hx h1, Option.bind_some, load_row, Option.bind_some, pcR, f1, e, Option.map_some, Option.bind_some, rstA (x := zR) rfl, Option.bind_some]
    simp only [List.set_cons_zero]
    rw [rldA (x := copyR x.lv.es[i * n + j]) rfl]
    rfl
  · rw [if_neg hjn] at e0 ⊢
    obtain ⟨a1, a2⟩ := at_cell (i := i) (c := b) (j := j) (by omega) (by omega) (by omega)
    have h1 : i * b + (j - n) < y.lv.es.length := by rw [hly]; exact cell_lt60 hi (by omega)
    have a3 : binA .other .sub (.int .i64 (i * b + j : Nat)) (.int .i64 n) = some (.int .i64 (i * b + (j - n) : Nat)) := by
      have : i * b ≤ 60 * 60 := Nat.mul_le_mul (by omega) (by omega)
      rw [show i * b + (j - n) = i * b + j - n by omega]
      exact i_sub (by omega) (by omega)
    have e := V67 (hy.ok _ (List.getElem_mem h1))
    have f1 := hy.fr _ (List.getElem_mem h1)
    refine ⟨copyR y.lv.es[i * b + (j - n)], (AP_ofz _ _ (fz_rv (copyR y.lv.es[i * b + (j - n)])) (noV_rv _) (m := [cR (copyR y.lv.es[i * b + (j - n)])]) ?_).trans (by rw [copyR_fr]), can_copy (right_at hy hry h1), copyR_fr _, copyR_ok (hy.ok _ (List.getElem_mem h1))⟩
    refine e0.trans ?_
    rw [vMf2, Option.bind_some, vMl2, Option.bind_some, vMf1, Option.bind_some, vMl1, Option.bind_some, hyc, a1, Option.bind_some, a2, Option.bind_some, Option.bind_some, a3, Option.bind_some, index_lv hy h1, Option.bind_some, load_row, Option.bind_some, pcR, f1, e, Option.map_some, Option.bind_some, rstA (x := zR) rfl, Option.bind_some]
    simp only [List.set_cons_zero]
    rw [rldA (x := copyR y.lv.es[i * b + (j - n)]) rfl]
    rfl
theorem V121 {x : MV} {k n c i j : Nat} (hx : LOk k x.lv) (hk1 : 1 ≤ k) (hk : k < 2 ^ 36) (hxc : x.cols = c) (hi : i < n) (hj : n + j < c) (hc : c ≤ 60) (hlx : x.lv.es.length = n * c) (h0 : qAt x (i * c + i) ≠ 0) :
    ∃ s : RV, AP cfg 121 [.int .i64 i, .int .i64 j, vM x, vI n] = some s.av ∧ Can s (qAt x (i * c + (n + j)) / qAt x (i * c + i)) ∧ s.fr = s := by
  obtain ⟨a1, a2⟩ := at_cell (i := i) (c := c) (j := n) (by omega) (by omega) (by omega)
  obtain ⟨_, b2⟩ := at_cell (i := i) (c := c) (j := i) (by omega) (by omega) (by omega)
  have hic : i * c ≤ 60 * 60 := Nat.mul_le_mul (by omega) hc
  have a3 : binA .other .add (.int .i64 (i * c + n : Nat)) (.int .i64 j) = some (.int .i64 (i * c + (n + j) : Nat)) := by
    rw [← Nat.add_assoc]
    exact i_add (by omega)
  have h1 : i * c + (n + j) < x.lv.es.length := by rw [hlx]; exact cell_lt60 hi (by omega)
  have h2 : i * c + i < x.lv.es.length := by rw [hlx]; exact cell_lt60 hi (by omega)
  have f1 := hx.fr _ (List.getElem_mem h1)
  have f2 := hx.fr _ (List.getElem_mem h2)
  obtain ⟨s, s1, s2, s3⟩ := V122 (hx.ok _ (List.getElem_mem h1)) (hx.ok _ (List.getElem_mem h2)) hk1 hk (by rw [← qAt_get h2]; exact h0)
  rw [← qAt_get h1, ← qAt_get h2] at s2
  refine ⟨s, (AP_ofz _ _ (fz_rv s) (noV_rv _) (m := [cR s, cR s]) ?_).trans (by rw [s3]), s2, s3⟩
  have e0 := T121 (.int .i64 i) (.int .i64 j) (vM x) (vI n) []
  rw [show newAt none [] (Ent.obj true [(.bool false), (.lst none true .full []), (.lst none true .full [])]) = (0, [cR zR]) from rfl, show newAt none [] Ent.resv = (0, [some .resv]) from rfl] at e0
  dsimp only at e0
  rw [show reserve [cR zR] 1 = [cR zR, some .resv] from rfl, vMf2, Option.bind_some, vMl2, Option.bind_some, vMf1, Option.bind_some, vMl1, Option.bind_some, hxc, a1, Option.bind_some, vIl, Option.bind_some, a2, Option.bind_some, a3, Option.bind_some, index_lv hx h1, Option.bind_some, load_row, Option.bind_some, Option.bind_some, vMl2, Option.bind_some, Option.bind_some, show loadA none [cR zR, some .resv] (.vptr [.int .i64 (c : Int), x.lv.av]) = some (.int .i64 (c : Int)) from rfl, Option.bind_some, a1, Option.bind_some, b2, Option.bind_some, index_lv hx h2, Option.bind_some, load_row, Option.bind_some, pcRR, f1, f2, s1, Option.map_some, Option.bind_some, ex0, Option.bind_some, ex1, Option.bind_some] at e0
  rw [show [cR zR].length = 1 from rfl, show newAt (some 1) [cR zR, some Ent.resv] (Ent.obj true [(.bool false), (.lst none true .full []), (.lst none true .full [])]) = (1, [cR zR, cR zR]) from rfl, show newAt (some 1) [cR zR, some Ent.resv] Ent.resv = (1, [cR zR, some .resv]) from rfl] at e0
  dsimp only at e0
  rw [rstA (x := zR) rfl, Option.bind_some, rldA (x := s) rfl, Option.bind_some, rstA (x := zR) rfl, Option.bind_some, rldA (x := s) rfl, Option.bind_some] at e0
  exact e0

/-! ### The way back -/
/-- Upper triangular; behind column t there is the diagonal alone. -/
structure Upt (n t : Nat) (N : MX) : Prop where
  ne : ∀ i, i < n → N i i ≠ 0
  lo : ∀ i j, i < n → j < i → N i j = 0
  up : ∀ i j, i < j → j < n → t ≤ j → N i j = 0
theorem Upt.diag {n : Nat} {N : MX} (h : Upt n 0 N) : Diag n N := ⟨h.ne, fun i j hi hj hne => by
  rcases Nat.lt_or_gt_of_ne hne with h1 | h1
  · exact h.up i j h1 hj (by omega)
  · exact h.lo i j hi h1⟩
theorem Upt.step {n i : Nat} {N : MX} (h : Upt n (i + 1) N) (hi : i < n) : Upt n i (clrB 0 i N i i) := by
  have z : ∀ j, j < n → j ≠ i → N i j = 0 := fun j hj hne => by
    rcases Nat.lt_or_gt_of_ne hne with h1 | h1
    · exact h.lo i j hi h1
    · exact h.up i j h1 hj (by omega)
  refine ⟨fun q hq => ?_, fun q j hq hj => ?_, fun q j hq hj ht => ?_⟩
  · by_cases hqi : q = i
    · subst hqi; rw [clrB_row]; exact h.ne q hq
    · rw [clrB_zero (z q hq hqi)]; exact h.ne q hq
  · by_cases hji : j = i
    · subst hji; rw [clrB_not (by omega)]; exact h.lo q j hq hj
    · rw [clrB_zero (z j (by omega) hji)]; exact h.lo q j hq hj
  · by_cases hji : j = i
    · subst hji; exact clrB_col (h.ne j hj) ⟨by omega, by omega, by omega⟩
    · rw [clrB_zero (z j hj hji)]; exact h.up q j hq hj (by omega)
theorem Ech.upt {n : Nat} {N : MX} {cs : Nat → Nat} (E : Ech n N n n cs) : Upt n n N := by
  have hid := E.id
  exact ⟨fun i hi => by have := E.piv i hi; rwa [hid i hi] at this, fun i j hi hj => E.lead i hi j (by rw [hid i hi]; exact hj), fun i j h1 h2 h3 => by omega⟩
section
variable {nm n c k : Nat} {P : MX}
theorem W92c (hn : n ≤ 60) (hc : c ≤ 60) {r : Nat} (hr : r < n) (hcol : r < c) (hp : P r r ≠ 0) (hk1 : 1 ≤ k) (hk : 4 * k + 1 < 2 ^ 36) {b : Nat} (hbn : b ≠ nm) (x3 x4 x6 : AV) (K : Ex → St → Option (AV × Mem)) : ∀ (d i : Nat) (m : Mem) (es : List RV), i + d = r → WM m nm es n c (fun q => if q < i then 4 * k + 1 else k) (clrB 0 i P r r) → m[b]? = some (cB n c nm (n * c)) →
    ∃ (m' : Mem) (es' : List RV), L92_10 x3 x4 x6 (.ptr b 0) (.int .i64 r) (.int .i64 r) (.int .i64 i) m K = K (.exit 2) (O92_10 x3 x4 x6 (.ptr b 0) (.int .i64 r) m') ∧ WM m' nm es' n c (fun _ => 4 * k + 1) (clrB 0 r P r r) ∧ m'[b]? = some (cB n c nm (n * c)) ∧ Kn nm m m' := by
  intro d
  induction d with
  | zero =>
    intro i m es hi W hb
    obtain rfl : i = r := by omega
    refine ⟨m, es, ?_, W.mono fun q _ => ?_, hb, kn_refl _ _⟩
    · rw [L92_10_eq, n_lss, Option.bind_some, ifA_dec, if_neg (by omega)]
    · split <;> omega
  | succ d ih =>
    intro i m es hi W hb
    have hir : i < r := by omega
    have e1 : clrB 0 i P r r r r = P r r := clrB_row
    obtain ⟨m1, es1, e117, W1, kn1⟩ := C117 hn hc W hr (t := i) (by omega) (by omega) hcol (by rw [e1]; exact hp) (show (if r < i then 4 * k + 1 else k) ≤ k by rw [if_neg (by omega)]; exact Nat.le_refl _) (show (if i < i then 4 * k + 1 else k) ≤ k by rw [if_neg (by omega)]; exact Nat.le_refl _) hk1 hk
    rw [clrB_step (by omega) (by omega)] at W1
    have hb1 := kn1.cB hb hbn
    obtain ⟨m', es', e, h1, h2, h3⟩ := ih (i + 1) m1 es1 (by omega) (W1.mono fun q _ => by
      split
      · rw [if_pos (by omega)]; exact Nat.le_refl _
      · split
        · rw [if_pos (by omega)]; exact Nat.le_refl _
        · split <;> omega) hb1
    refine ⟨m', es', ?_, h1, h2, Kn.trans kn1 h3⟩
    rw [L92_10_eq, n_lss, Option.bind_some, ifA_dec, if_pos hir, bLA hb, Option.bind_some, e117, Option.bind_some, i_add1 (by omega), Option.bind_some]
    exact e
theorem W92 (hn : n ≤ 60) (hc : c ≤ 60) (hnc : n ≤ c) {k0 : Nat} (hk1 : 1 ≤ k0) (hK : kk k0 n < 2 ^ 36) {M : MX} {s : Rat} {b : Nat} (hbn : b ≠ nm) (x3 x4 x6 : AV) (K : Ex → St → Option (AV × Mem)) (hKx : ∀ m' i, K92_10 (K92_7 K) (.exit 2) (O92_10 x3 x4 x6 (.ptr b 0) i m') = (binA .other .sub i (.int .i64 1)).bind fun v => L92_7 x3 x4 x6 (.ptr b 0) v m' (K92_7 K)) : ∀ (t : Nat) (N : MX) (m : Mem) (es : List RV), t ≤ n → RE n c M N s → Upt n t N → WM m nm es n c (fun _ => kk k0 (n - t)) N → m[b]? = some (cB n c nm (n * c)) →
    ∃ (m' : Mem) (es' : List RV) (N' : MX), L92_7 x3 x4 x6 (.ptr b 0) (.int .i64 ((t : Int) - 1)) m (K92_7 K) = K92_7 K (.exit 0) (O92_7 x3 x4 x6 (.ptr b 0) m') ∧ RE n c M N' s ∧ Diag n N' ∧ WM m' nm es' n c (fun _ => kk k0 n) N' ∧ m'[b]? = some (cB n c nm (n * c)) ∧ Kn nm m m' := by
  intro t
  induction t with
  | zero =>
    intro N m es ht re up W hb
    refine ⟨m, es, N, ?_, re, up.diag, W, hb, kn_refl _ _⟩
    rw [L92_7_eq, binA_geq, Option.bind_some, ifA_dec, if_neg (by omega)]
  | succ t ih =>
    intro N m es ht re up W hb
    have htn : t < n := by omega
    have k1 : kk k0 (n - t) = 4 * kk k0 (n - (t + 1)) + 1 := by
      rw [show n - t = (n - (t + 1)) + 1 by omega]; rfl
    have k2 : kk k0 (n - t) ≤ kk k0 n := kk_mono k0 (by omega)
    have k3 : k0 ≤ kk k0 (n - (t + 1)) := kk_mono k0 (Nat.zero_le _)
    have c0 : clrB 0 0 N t t = N := by funext i j; exact clrB_not (by omega)
    obtain ⟨m1, es1, e1, W1, hb1, kn1⟩ := W92c (k := kk k0 (n - (t + 1))) hn hc htn (show t < c by omega) (up.ne t htn) (by omega) (by omega) hbn x3 x4 x6 (K92_10 (K92_7 K)) t 0 m es (by omega) (by rw [c0]; exact W.mono fun q _ => by split <;> omega) hb
    rw [← k1] at W1
    have e1' : L92_10 x3 x4 x6 (.ptr b 0) (.int .i64 t) (.int .i64 t) (.int .i64 0) m (K92_10 (K92_7 K)) = _ := e1
    obtain ⟨m', es', N', h1, h2, h3, h4, h5, h6⟩ := ih (clrB 0 t N t t) m1 es1 (by omega) (re.clr htn 0 t (by omega)) (up.step htn) W1 hb1
    refine ⟨m', es', N', ?_, h2, h3, h4, h5, Kn.trans kn1 h6⟩
    rw [show (((t + 1 : Nat) : Int) - 1) = (t : Int) by omega, L92_7_eq, binA_geq, Option.bind_some, ifA_dec, if_pos (by omega), e1', hKx, i_sub1z (by omega), Option.bind_some]
    exact h1
end
end Go.Ab

/- solved, by value. -/
set_option linter.unusedVariables false
set_option linter.unusedSimpArgs false
set_option linter.unusedSectionVars false
set_option maxRecDepth 100000
namespace Go.Ab
open Go.Proofs.Try

theorem kk_add (k a : Nat) : ∀ b, kk (kk k a) b = kk k (a + b)
  | 0 => rfl
  | b + 1 => by rw [kk, kk_add k a b]; rfl
/-- A matrix that a closure fills, not yet frozen. -/
theorem fillT {g : Nat} {cs : List AV} {rows cols k : Nat} {Q : Nat → Nat → Rat} (hi : cfg.inl 58 g = false ∧ cfg.lib g = none) (hcs : ∀ m, mapF (frz m fuelF) cs = some (cs, [])) (hr : rows ≤ 60) (hc : cols ≤ 60)
    (h : ∀ i j, i < rows → j < cols → ∃ s : RV, AP cfg g ([.int .i64 i, .int .i64 j] ++ cs) = some s.av ∧ Can s (Q i j) ∧ s.fr = s ∧ ROk k s) :
    ∃ m' l', RowAt m' l' ∧ l'.es.length = rows * cols ∧ (∀ i j, i < rows → j < cols → ∀ h : i * cols + j < l'.es.length, Can l'.es[i * cols + j] (Q i j)) ∧ (∀ r ∈ l'.es, r.fr = r) ∧ (∀ r ∈ l'.es, ROk k r ∧ rightR r = true) ∧ AC cfg 58 [.int .i64 rows, .int .i64 cols, .fn g cs] [] = some (MV.av ⟨rows, cols, l'⟩, m') := by
  obtain ⟨F, hF⟩ := choose2 h
  obtain ⟨m', l', q1, q2, q3⟩ := T58' (F := F) ⟨hi.1, hi.2, hcs, fun i j h1 h2 => (hF i j h1 h2).1, fun i j h1 h2 => (hF i j h1 h2).2.2.1, fun i j h1 h2 => (hF i j h1 h2).2.2.2⟩ hr hc
  refine ⟨m', l', q1, by rw [q2, cellsF_length], fun i j h1 h2 hp => ?_, fun r hr => ?_, fun r hr => ?_, q3⟩
  · have hp' : i * cols + j < rows * cols := cell_lt60 h1 h2
    have e := cellsF_get F cols rows _ hp'
    rw [← q2, List.getElem?_eq_getElem hp] at e
    obtain ⟨e1, e2⟩ := row_col (i := i) h2
    rw [e1, e2] at e
    rw [Option.some.inj e]
    exact (hF i j h1 h2).2.1
  · rw [q2] at hr
    obtain ⟨a, b, h1, h2, rfl⟩ := cellsF_mem hr
    exact (hF a b h1 h2).2.2.1
  · rw [q2] at hr
    obtain ⟨a, b, h1, h2, rfl⟩ := cellsF_mem hr
    exact ⟨(hF a b h1 h2).2.2.2, can_rightR (hF a b h1 h2).2.1⟩
/-- The cells of a matrix in memory, frozen. -/
theorem WM.lok {m : Mem} {nm : Nat} {es : List RV} {n c k : Nat} {N : MX} (W : WM m nm es n c (fun _ => k) N) (hk : k < 2 ^ 40) : LOk k ⟨some 3, false, .no, es⟩ ∧ ∀ i j, i < n → j < c → qAt ⟨n, c, ⟨some 3, false, .no, es⟩⟩ (i * c + j) = N i j := by
  refine ⟨⟨.inl rfl, fun h => (by cases h), W.fr, fun r hr => ?_⟩, fun i j hi hj => ?_⟩
  · obtain ⟨p, hp, rfl⟩ := List.getElem_of_mem (show r ∈ es from hr)
    have hp' : p < n * c := by rw [← W.len]; exact hp
    have hc0 : 0 < c := by
      rcases Nat.eq_zero_or_pos c with h0 | h0
      · rw [h0, Nat.mul_zero] at hp'; omega
      · exact h0
    have h1 : p / c < n := Nat.div_lt_of_lt_mul (by rw [Nat.mul_comm]; exact hp')
    have h2 : p % c < c := Nat.mod_lt _ hc0
    have e := div_mod_mul p c
    have h3 : p / c * c + p % c < es.length := by rw [e]; exact hp
    have := (W.can _ _ h1 h2 h3).ok (W.bd _ _ h1 h2) hk
    simp only [e] at this
    exact this
  · have h := W.at hi hj
    rw [qAt_get (x := ⟨n, c, ⟨some 3, false, .no, es⟩⟩) h]
    exact (W.can i j hi hj h).q
def cI (n : Int) : Option Ent := some (.obj true [.int .i64 n])
theorem new_i (m : Mem) : newAt none m (.obj true [.int .i64 0]) = (m.length, m ++ [cI 0]) := rfl
theorem ldI {m : Mem} {b : Nat} {n : Int} (h : m[b]? = some (cI n)) : loadA none m (.ptr b 0) = some (.int .i64 n) := by simp [loadA, mobj h, cutSh]
theorem frz_ptrI {m : Mem} {b : Nat} {n : Int} (h : m[b]? = some (cI n)) : frz m 8 (.ptr b 0) = some (vI n, []) := by
  have e : frz m 8 (.ptr b 0) = (m.obj? b).bind fun o => if o.1 then (mapF (frz m 7) (o.2.drop 0)).map fun r => (.vptr r.1, r.2) else none := rfl
  rw [e, mobj h]; rfl
theorem frz_ptrW {m : Mem} {b nm : Nat} {n c : Int} {es : List RV} (h : m[b]? = some (cB n c nm es.length)) (hm : m[nm]? = some (cA es)) (hf : ∀ r ∈ es, r.fr = r) : frz m 8 (.ptr b 0) = some (vM ⟨n, c, ⟨some 3, false, .no, es⟩⟩, [nm]) := by
  have e : frz m 8 (.ptr b 0) = (m.obj? b).bind fun o => if o.1 then (mapF (frz m 7) (o.2.drop 0)).map fun r => (.vptr r.1, r.2) else none := rfl
  have ha := frz_arrR (k := 5) hm hf
  have hi : ∀ x : Int, frz m 7 (.int .i64 x) = some (.int .i64 x, []) := fun _ => rfl
  rw [e, mobj h]
  simp [mapF, hi, ha, vM, LV.av]
theorem kill_get {m : Mem} {ns : List Nat} (h : ns = [] ∨ ns = [4]) {p : Nat} (hp : p ≠ 4) : (kill m ns)[p]? = m[p]? := by
  rcases h with rfl | rfl
  · rfl
  · exact List.getElem?_set_ne (by omega)
theorem kill_len {m : Mem} {ns : List Nat} (h : ns = [] ∨ ns = [4]) : (kill m ns).length = m.length := by
  rcases h with rfl | rfl
  · rfl
  · exact List.length_set
theorem tail92 {m : Mem} {p : Nat} {vx : AV} {ns : List Nat} {y : MV} {n b K : Nat} {Q : Nat → Nat → Rat} (h1 : m[1]? = some (cM y)) (h2 : m[2]? = some (cM zM)) (h3 : m[3]? = some (cI n)) (hyc : y.cols = b) (hz : frz m 8 (.ptr p 0) = some (vx, ns)) (hns : ns = [] ∨ ns = [4]) (hvx : ∀ m k, frz m (k + 2) vx = some (vx, []))
    (hcell : ∀ i j, i < n → j < b → ∃ s : RV, AP cfg 121 [.int .i64 i, .int .i64 j, vx, vI n] = some s.av ∧ Can s (Q i j) ∧ s.fr = s ∧ ROk K s) (hn : n ≤ 60) (hb : b ≤ 60) :
    ∃ v mm z l, K92_7 (finK cfg.P f92.results.toList) (.exit 0) (O92_7 (.ptr 1 0) (.ptr 2 0) (.ptr 3 0) (.ptr p 0) m) = some (v, mm) ∧ frz mm fuelF v = some (.tup [MV.av z, .bool true], l) ∧ z.fr = z ∧ z.rows = n ∧ z.cols = b ∧ z.lv.es.length = n * b ∧ LOk K z.lv ∧ (∀ u ∈ z.lv.es, rightR u = true) ∧ ∀ i k, i < n → k < b → qAt z (i * b + k) = Q i k := by
  obtain ⟨m0, l0, t1, t2, t3, t4, t5, t6⟩ := fillT (g := 121) (cs := [vx, vI n]) (rows := n) (cols := b) (k := K) (Q := Q) ⟨rfl, rfl⟩ (csz2 hvx (frz_vI n)) hn hb hcell
  have hf : mapF (frz m fuelF) [.int .i64 n, .int .i64 b, .fn 121 [.ptr p 0, .ptr 3 0]] = some ([.int .i64 n, .int .i64 b, .fn 121 [vx, vI n]], ns) := by
    have e1 := frz_ptrI h3
    have e : frz m fuelF (.fn 121 [.ptr p 0, .ptr 3 0]) = some (.fn 121 [vx, vI n], ns) := by
      have e' : frz m fuelF (.fn 121 [.ptr p 0, .ptr 3 0]) = (mapF (frz m 8) [.ptr p 0, .ptr 3 0]).map fun r => (.fn 121 r.1, r.2) := rfl
      rw [e']; simp [mapF, e1, hz]
    have ei : ∀ z : Int, frz m fuelF (.int .i64 z) = some (.int .i64 z, []) := fun _ => rfl
    simp [mapF, ei, e]
  have e0 := K92_7_x0 (.ptr 1 0) (.ptr 2 0) (.ptr 3 0) (.ptr p 0) m
  rw [ldI h3, Option.bind_some, fld1, Option.bind_some, mld1 h1, Option.bind_some, hyc] at e0
  have k2 : (kill m ns)[2]? = some (cM zM) := (kill_get hns (by decide)).trans h2
  rcases thawM hf t6 t1 t4 with ⟨z1, z2⟩ | ⟨z1, z2⟩
  · have h0 : n * b = 0 := by
      rw [z1] at t2
      exact t2.symm
    rw [z2, Option.bind_some, mstA (y := ⟨n, b, nilL⟩) k2, Option.bind_some, mldA (x := ⟨n, b, nilL⟩) (by rw [List.getElem?_set_self (List.getElem?_eq_some_iff.1 k2).1]), Option.bind_some] at e0
    refine ⟨_, _, ⟨n, b, nilL⟩, [], e0, fz_tupM2 ⟨n, b, nilL⟩ (fza_bool _) _, rfl, rfl, rfl, h0.symm, zM_ok K, by simp [nilL], fun i q hi hq => ?_⟩
    have := cell_lt60 hi hq
    omega
  · have k3 : (kill m ns ++ [cA l0.es])[2]? = some (cM zM) := app_get k2
    have l2 := (List.getElem?_eq_some_iff.1 k3).1
    have hmm := (List.getElem?_eq_some_iff.1 k2).1
    rw [kill_len hns] at hmm
    rw [z2, Option.bind_some, bldMz _ k3 _ _ _ rfl, Option.bind_some, show (some (Ent.obj true [AV.int .i64 n, AV.int .i64 b, AV.arr m.length 0 l0.es.length (some 3)])) = cB n b m.length l0.es.length from rfl, bLA (List.getElem?_set_self l2), Option.bind_some] at e0
    have ga : ((kill m ns ++ [cA l0.es]).set 2 (cB n b m.length l0.es.length))[m.length]? = some (cA l0.es) := by
      rw [List.getElem?_set_ne (by omega), ← kill_len hns (m := m)]; exact get_last
    have hfz : frz ((kill m ns ++ [cA l0.es]).set 2 (cB n b m.length l0.es.length)) fuelF (.tup [aM n b m.length l0.es.length, .bool true]) = some (.tup [MV.av ⟨n, b, ⟨some 3, false, .no, l0.es⟩⟩, .bool true], [m.length]) := by
      have e : ∀ (m : Mem) (a b c : AV), frz m fuelF (.tup [.agg [a, b, c], .bool true]) = (mapF (frz m 8) [.agg [a, b, c], .bool true]).map fun r => (.tup r.1, r.2) := fun _ _ _ _ => rfl
      have e2 : ∀ (m : Mem) (a b c : AV), frz m 8 (.agg [a, b, c]) = (mapF (frz m 7) [a, b, c]).map fun r => (.agg r.1, r.2) := fun _ _ _ _ => rfl
      have ha := frz_arrR (k := 5) ga t4
      have hi : ∀ (m : Mem) (x : Int), frz m 7 (.int .i64 x) = some (.int .i64 x, []) := fun _ _ => rfl
      have hb : ∀ (m : Mem) (x : Bool), frz m 8 (.bool x) = some (.bool x, []) := fun _ _ => rfl
      rw [e]
      simp only [mapF, e2, hi, hb, ha, Option.bind_some, Option.map_some, List.nil_append, List.append_nil, MV.av, LV.av]
    refine ⟨_, _, ⟨n, b, ⟨some 3, false, .no, l0.es⟩⟩, [m.length], e0, hfz, rfl, rfl, rfl, t2, ⟨.inl rfl, (fun h => absurd (show false = true from h) (by decide)), t4, fun r hr => (t5 r hr).1⟩, fun u hu => (t5 u hu).2, fun i q hi hq => ?_⟩
    have hp : i * b + q < l0.es.length := by rw [t2]; exact cell_lt60 hi hq
    rw [qAt_get (x := ⟨n, b, ⟨some 3, false, .no, l0.es⟩⟩) hp]
    exact (t3 i q hi hq hp).q
/-- What solved finds: n rows of b unknowns. -/
structure SolR (x y : MV) (n b K : Nat) (z : MV) (ok : Bool) : Prop where
  rank : ok = decide (cntU (pivB n n (mxOf x n)) n = n)
  fr : z.fr = z
  lok : LOk K z.lv
  bad : ok = false → z = zM
  rows : ok = true → z.rows = n
  cols : ok = true → z.cols = b
  len : ok = true → z.lv.es.length = n * b
  right : ∀ u ∈ z.lv.es, rightR u = true
  sol : ok = true → Sol n b (augM x y n b) (mxOf z b)
theorem V92 {x y : MV} {k n b : Nat} (hx : IsM k x) (hy : IsM k y) (hrx : ∀ u ∈ x.lv.es, rightR u = true) (hry : ∀ u ∈ y.lv.es, rightR u = true) (hxn : x.rows = n) (hyc : y.cols = b) (hlx : x.lv.es.length = n * n) (hly : y.lv.es.length = n * b) (hnb : n + b ≤ 60) (hk1 : 1 ≤ k) (hK : kk k (n + n) < 2 ^ 36) :
    ∃ z ok, AP cfg 92 [x.av, y.av] = some (.tup [z.av, .bool ok]) ∧ SolR x y n b (kk k (n + n) + kk k (n + n)) z ok := by
  have gx : ∀ e : Mem, (cM x :: e)[0]? = some (cM x) := fun _ => rfl
  have gy : ∀ e : Mem, (cM x :: cM y :: e)[1]? = some (cM y) := fun _ => rfl
  have kk0 : k ≤ kk k (n + n) := kk_mono k (Nat.zero_le _)
  have kkn : kk k n ≤ kk k (n + n) := kk_mono k (by omega)
  have hrk : cntU (pivB n (n + b) (augM x y n b)) n = cntU (pivB n n (mxOf x n)) n := rank_left (by omega) fun i j hi hj => by unfold augM mxOf; rw [if_pos hj]
  have start : AC cfg 92 [x.av, y.av] [] = AC cfg 92 [x.av, y.av] [] := rfl
  conv at start => rhs; rw [T92, box_mv, Option.bind_some, box_mv, Option.bind_some]
  simp only [new_m, new_i, new_r, List.length_nil, List.nil_append, List.length_cons, List.cons_append, Nat.zero_add, Nat.reduceAdd] at start
  rw [fld0, Option.bind_some, mld0 (gx _), Option.bind_some, hxn, show storeA none [cM x, cM y, cM zM, cI 0] (.ptr 3 0) (.int .i64 n) = some [cM x, cM y, cM zM, cI n] from rfl, Option.bind_some, ldI (n := n) rfl, Option.bind_some, Option.bind_some, fld1, Option.bind_some, mld1 (gy _), Option.bind_some, hyc, i_add (by omega), Option.bind_some] at start
  obtain ⟨m0, l0, t1, t2, t3, t4, t5, t6⟩ := fillT (g := 120) (cs := [vI n, vM x, vM y]) (rows := n) (cols := n + b) (k := k) (Q := augM x y n b) ⟨rfl, rfl⟩ (fun m => by
    have e1 : frz m fuelF (vI n) = some (vI n, []) := frz_vI n m 7
    have e2 : frz m fuelF (vM x) = some (vM x, []) := frz_vM hx.fr m 7
    have e3 : frz m fuelF (vM y) = some (vM y, []) := frz_vM hy.fr m 7
    simp [mapF, e1, e2, e3]) (by omega) hnb (fun i j hi hj => V120 hx.ok hy.ok hrx hry hyc hi hj hnb hlx hly)
  have hf : mapF (frz [cM x, cM y, cM zM, cI n] fuelF) [.int .i64 n, .int .i64 (n + b : Nat), .fn 120 [.ptr 3 0, .ptr 0 0, .ptr 1 0]] = some ([.int .i64 n, .int .i64 (n + b : Nat), .fn 120 [vI n, vM x, vM y]], []) := by
    have e1 := frz_ptrI (m := [cM x, cM y, cM zM, cI n]) (b := 3) (n := n) rfl
    have e2 := frz_ptrM (m := [cM x, cM y, cM zM, cI n]) (gx _)
    have e3 := frz_ptrM (m := [cM x, cM y, cM zM, cI n]) (gy _)
    rw [hx.fr] at e2
    rw [hy.fr] at e3
    have e : frz [cM x, cM y, cM zM, cI n] fuelF (.fn 120 [.ptr 3 0, .ptr 0 0, .ptr 1 0]) = some (.fn 120 [vI n, vM x, vM y], []) := by
      have e' : frz [cM x, cM y, cM zM, cI n] fuelF (.fn 120 [.ptr 3 0, .ptr 0 0, .ptr 1 0]) = (mapF (frz [cM x, cM y, cM zM, cI n] 8) [.ptr 3 0, .ptr 0 0, .ptr 1 0]).map fun r => (.fn 120 r.1, r.2) := rfl
      rw [e']; simp [mapF, e1, e2, e3]
    have ei : ∀ z : Int, frz [cM x, cM y, cM zM, cI n] fuelF (.int .i64 z) = some (.int .i64 z, []) := fun _ => rfl
    simp [mapF, ei, e]
  have ht := thawM (m := [cM x, cM y, cM zM, cI n]) hf t6 t1 t4
  have exn : ∀ v : AV, extractA (.tup [v, .bool true]) 0 = some v := fun _ => rfl
  rcases ht with ⟨hz, ht⟩ | ⟨hz, ht⟩
  · -- no rows
    have hn0 : n = 0 := by
      rw [hz] at t2
      have h0 : n * (n + b) = 0 := t2.symm
      rcases Nat.mul_eq_zero.1 h0 with h | h <;> omega
    subst hn0
    rw [ht, Option.bind_some] at start
    simp only [kill, List.foldl_nil, List.length_cons, List.length_nil, List.cons_append, List.nil_append, Nat.zero_add, Nat.reduceAdd] at start
    rw [mstA (x := zM) (y := ⟨(0 : Nat), (b : Nat), nilL⟩) rfl, Option.bind_some] at start
    simp only [List.set_cons_succ, List.set_cons_zero] at start
    obtain ⟨m1, h88, kp⟩ := C88z (a := (0 : Nat)) (b := (b : Nat)) (cols := 0) (.inl rfl) (by omega) [cM x, cM y, cM zM, cI (0 : Nat), cM ⟨(0 : Nat), (b : Nat), nilL⟩]
    rw [mldA (x := ⟨(0 : Nat), (b : Nat), nilL⟩) rfl, Option.bind_some, ldI (n := (0 : Nat)) rfl, Option.bind_some, h88, Option.bind_some, ex0, Option.bind_some, ex1, Option.bind_some] at start
    have i1 : m1[1]? = some (cM y) := kp.2 1 true _ rfl
    have i2 : m1[2]? = some (cM zM) := kp.2 2 true _ rfl
    have i3 : m1[3]? = some (cI (0 : Nat)) := kp.2 3 true _ rfl
    have i4 : m1[4]? = some (cM ⟨(0 : Nat), (b : Nat), nilL⟩) := kp.2 4 true _ rfl
    obtain ⟨v, mm, z, ls, u1, u2, u3, u4, u5, u6, u7, u8, u9⟩ := tail92 (K := kk k (0 + 0) + kk k (0 + 0)) (Q := fun _ _ => 0) i1 i2 i3 hyc (frz_ptrM i4) (.inl rfl) (frz_vM rfl) (fun i j hi hj => by omega) (by omega) (by omega)
    rw [ldI i3, Option.bind_some, binA_lss, Option.bind_some, ifA_dec, if_neg (by omega), Option.bind_some, i_sub1z (by omega), Option.bind_some, L92_7_eq, binA_geq, Option.bind_some, ifA_dec, if_neg (by omega), u1] at start
    exact ⟨z, true, AP_of start u2 (by rw [show noV (.tup [z.av, .bool true]) = true from rfl, Bool.or_true]), (decide_eq_true rfl).symm, u3, u7, fun h => (by cases h), fun _ => u4, fun _ => u5, fun _ => u6, u8, fun _ i k hi hk => by omega⟩
  · -- rows
    have hn0 : 0 < n := by
      rcases Nat.eq_zero_or_pos n with h | h
      · subst h
        rw [Nat.zero_mul] at t2
        exact absurd (List.length_eq_zero_iff.1 t2) hz
      · exact h
    rw [ht, Option.bind_some] at start
    simp only [kill, List.foldl_nil, List.length_cons, List.length_nil, List.cons_append, List.nil_append, Nat.zero_add, Nat.reduceAdd] at start
    rw [t2, bldMz _ (n := 5) (x := zM) rfl _ _ _ rfl, Option.bind_some] at start
    simp only [List.set_cons_succ, List.set_cons_zero] at start
    have g5 : ([cM x, cM y, cM zM, cI n, cA l0.es, cB n (n + b : Nat) 4 (n * (n + b))] : Mem)[5]? = some (cB n (n + b : Nat) 4 (n * (n + b))) := rfl
    have W : WM [cM x, cM y, cM zM, cI n, cA l0.es, cB n (n + b : Nat) 4 (n * (n + b))] 4 l0.es n (n + b) (fun _ => k) (augM x y n b) := ⟨rfl, t2, t4, t3, fun i j hi hj => by
      unfold augM
      split
      · exact qAt_bd hx.ok hk1
      · exact qAt_bd hy.ok hk1⟩
    obtain ⟨m1, es1, N, s, r, cs, odd, h88, E, _, W1, kn⟩ := C88 (by omega) hnb hk1 (k0 := k) (cols := n) (by omega) (by omega) W
    rw [show (some (Ent.obj true [AV.int .i64 n, AV.int .i64 (n + b : Nat), AV.arr 4 0 (n * (n + b)) (some 3)])) = cB n (n + b : Nat) 4 (n * (n + b)) from rfl, bLA g5, Option.bind_some, ldI (n := n) rfl, Option.bind_some, h88, Option.bind_some, ex0, Option.bind_some, ex1, Option.bind_some] at start
    have i0 : m1[0]? = some (cM x) := kn.2 0 true _ (by decide) rfl
    have i1 : m1[1]? = some (cM y) := kn.2 1 true _ (by decide) rfl
    have i2 : m1[2]? = some (cM zM) := kn.2 2 true _ (by decide) rfl
    have i3 : m1[3]? = some (cI n) := kn.2 3 true _ (by decide) rfl
    have i5 : m1[5]? = some (cB n (n + b : Nat) 4 (n * (n + b))) := kn.2 5 true _ (by decide) rfl
    rw [ldI i3, Option.bind_some, n_lss, Option.bind_some, ifA_dec] at start
    have hcnt := E.cnt
    rw [hrk] at hcnt
    by_cases hrn : r < n
    · rw [if_pos hrn, bldM, Option.bind_some, mstA i2, Option.bind_some, mldA (x := zM) (by rw [List.getElem?_set_self (List.getElem?_eq_some_iff.1 i2).1]), Option.bind_some] at start
      exact ⟨zM, false, AP_ofz _ _ (fz_tupM2 zM (fza_bool _)) rfl start, by rw [hcnt]; exact (decide_eq_false (by omega)).symm, rfl, zM_ok _, fun _ => rfl, fun h => (by cases h), fun h => (by cases h), fun h => (by cases h), by simp [zM, nilL], fun h => (by cases h)⟩
    · have hrn' : r = n := by have := E.ech.le; omega
      subst hrn'
      rw [if_neg hrn, Option.bind_some, i_sub1z (by omega), Option.bind_some] at start
      obtain ⟨m2, es2, N2, h7, re, dg, W2, j5, kn2⟩ := W92 (k0 := kk k r) (s := s) (b := 5) (by omega) hnb (by omega) (Nat.le_trans hk1 (kk_mono k (Nat.zero_le r))) (by rw [kk_add]; exact hK) (by decide) (.ptr 1 0) (.ptr 2 0) (.ptr 3 0) (finK cfg.P f92.results.toList) (fun m' i => K92_10_x2 _ _ _ _ _ _ _) r N m1 es1 (Nat.le_refl r) E.re E.ech.upt (W1.mono fun _ _ => by rw [Nat.sub_self]; exact Nat.le_refl _) i5
      rw [kk_add] at W2
      have j1 : m2[1]? = some (cM y) := kn2.2 1 true _ (by decide) i1
      have j2 : m2[2]? = some (cM zM) := kn2.2 2 true _ (by decide) i2
      have j3 : m2[3]? = some (cI r) := kn2.2 3 true _ (by decide) i3
      obtain ⟨lk, lq⟩ := W2.lok (show kk k (r + r) < 2 ^ 40 by omega)
      have hw := frz_ptrW (b := 5) (es := es2) (by rw [W2.len]; exact j5) W2.hm W2.fr
      obtain ⟨v, mm, z, ls, u1, u2, u3, u4, u5, u6, u7, u8, u9⟩ := tail92 (K := kk k (r + r) + kk k (r + r)) (Q := fun i j => N2 i (r + j) / N2 i i) j1 j2 j3 hyc hw (.inr rfl) (frz_vM (x := ⟨r, (r + b : Nat), ⟨some 3, false, .no, es2⟩⟩) rfl) (fun i j hi hj => by
        have hd := dg.1 i hi
        obtain ⟨t, t1, t2, t3⟩ := V121 (x := ⟨r, (r + b : Nat), ⟨some 3, false, .no, es2⟩⟩) (n := r) (c := r + b) (i := i) (j := j) lk (by omega) hK rfl hi (by omega) hnb W2.len (by rw [lq i i hi (by omega)]; exact hd)
        rw [lq i (r + j) hi (by omega), lq i i hi (by omega)] at t2
        exact ⟨t, t1, t2, t3, t2.ok (Bd_div (W2.bd i (r + j) hi (by omega)) (W2.bd i i hi (by omega)) (by omega) hd) (by omega)⟩) (by omega) (by omega)
      rw [h7, u1] at start
      refine ⟨z, true, AP_of start u2 (by rw [show noV (.tup [z.av, .bool true]) = true from rfl, Bool.or_true]), by rw [hcnt]; exact (decide_eq_true rfl).symm, u3, u7, fun h => (by cases h), fun _ => u4, fun _ => u5, fun _ => u6, u8, fun _ => ?_⟩
      exact (sol_of re dg (mxOf z b)).2 fun i q hi hq => u9 i q hi hq
end Go.Ab

/- A right matrix, cut, is right. -/
set_option linter.unusedVariables false
set_option linter.unusedSimpArgs false
set_option maxRecDepth 100000
namespace Go.Ab
open Go.Proofs.Try

theorem cutR_right {r : RV} (h : ROk 3 r) : rightR (cutR r) = rightR r := by
  have e1 : r.num.ds.take 3 = r.num.ds := List.take_of_length_le h.ln
  have e2 : r.den.ds.take 3 = r.den.ds := List.take_of_length_le h.ld
  simp only [rightR, cutR, cutN, NV.v, e1, e2]
  rfl
theorem V13r {x : MV} {n : Nat} (hn : n ≤ 60) (hx0 : LOk 3 x.lv) (hfx : x.fr = x) (hrt : rightM x = true) : ∃ y : MV, AP cfg 13 [x.av, .int .i64 n] = some y.av ∧ LOk 3 y.lv ∧ y.lv.es.length ≤ 4000 ∧ y.fr = y ∧ rightM y = true ∧ y.rows = min x.rows n ∧ y.cols = min x.cols n := by
  have hx : XM x := hx0.xm
  obtain ⟨m', l', q0, q1, q2, q3, q4, q5⟩ := W13_3 hx (.int .i64 n) (K13_3 (finK cfg.P f13.results.toList)) (headL x.lv).es.length 0 [cM x, cM zM, cM ⟨x.rows, x.cols, nilL⟩] nilL (by omega) rfl rfl rfl (.inl rfl) rfl
  have hlen : l'.es.length ≤ 4000 := by
    rw [q4, List.length_map]
    show (x.lv.es.take 4000).length ≤ 4000
    rw [List.length_take]; omega
  have hlo : LOk 3 l' := rowAt_lok q3 (by rw [q4]; intro r hr; obtain ⟨r', _, rfl⟩ := List.mem_map.1 hr; exact cutR_fr _) (by rw [q4]; intro r hr; obtain ⟨r', h', rfl⟩ := List.mem_map.1 hr; exact cutR_ok (hx.es r' (List.mem_of_mem_take h')))
  have hl1 : 1 < m'.length := by
    apply Classical.byContradiction
    intro hc
    rw [List.getElem?_eq_none (by omega)] at q1
    cases q1
  have e1 := V21 (x := (MV.mk x.rows x.cols l').fr) hlo.fr' (k := 3) (by omega) (by show l'.es.length < _; omega)
  have hrf : rightM (MV.mk x.rows x.cols l').fr = rightM ⟨x.rows, x.cols, l'⟩ := rfl
  rw [hrf] at e1
  have a1 : ([cM x, cM zM] : Mem)[0]? = some (cM x) := rfl
  have a2 : ([cM x, cM zM, cM zM] : Mem)[2]? = some (cM zM) := rfl
  have a3 : ([cM x, cM zM, cM ⟨x.rows, x.cols, nilL⟩] : Mem)[0]? = some (cM x) := rfl
  have hmin : maxA false (.int .i64 x.lv.es.length) (.int .i64 4000) = some (.int .i64 (min x.lv.es.length 4000 : Nat)) := min_int _ 4000
  have fin : ((loadA (some 3) m' (.ptr 2 0)).bind fun v4 => (storeA (some 3) m' (.ptr 1 0) v4).bind fun m5 => (loadA (some 3) m5 (.ptr 1 0)).bind fun v6 => some (v6, m5)) = some (MV.av ⟨x.rows, x.cols, l'⟩, m'.set 1 (cM ⟨x.rows, x.cols, l'⟩)) := by
    rw [mldA q2, Option.bind_some, mstA q1, Option.bind_some, mldA (by rw [List.getElem?_set_self hl1])]
    rfl
  have pre : AC cfg 13 [x.av, .int .i64 n] [] = K13_3 (finK cfg.P f13.results.toList) (.exit 0) (O13_3 (.int .i64 n) (.ptr 0 0) (.ptr 1 0) (.ptr 2 0) m') := by
    rw [T13]
    simp only [Option.bind_some, box_mv, new_m, new_r, fld0, fld1, fld2, List.length_nil, List.nil_append, List.length_cons, List.cons_append, Nat.zero_add, Nat.reduceAdd]
    rw [mld0 a1, Option.bind_some, mld1 a1, Option.bind_some, bldM01, Option.bind_some, mstA a2, Option.bind_some]
    simp only [List.set_cons_succ, List.set_cons_zero]
    rw [mld2 a3, Option.bind_some, Option.bind_some, len_lv, Option.bind_some, hmin, Option.bind_some, slice_head _ hx.sh, Option.bind_some, len_lv, Option.bind_some]
    refine Eq.trans ?_ q5
    rfl
  have out : ∀ (z : MV) (mm : Mem), K13_3 (finK cfg.P f13.results.toList) (.exit 0) (O13_3 (.int .i64 n) (.ptr 0 0) (.ptr 1 0) (.ptr 2 0) m') = some (z.av, mm) → AP cfg 13 [x.av, .int .i64 n] = some z.fr.av := fun z mm h => AP_ofz _ _ (fz_mv z) (noV_mv _) (pre.trans h)
  have outl := out ⟨x.rows, x.cols, l'⟩ (m'.set 1 (cM ⟨x.rows, x.cols, l'⟩))
  rw [K13_3_x0, mldA q2, Option.bind_some, pcM, e1, Option.map_some, Option.bind_some, not_b, Option.bind_some] at outl
  have hall : ∀ u ∈ l'.es, rightR u = true := by
    rw [q4]; intro r hr; obtain ⟨r', h', rfl⟩ := List.mem_map.1 hr
    have hm := List.mem_of_mem_take h'
    rw [cutR_right (hx0.ok r' hm)]
    exact right_cells hrt r' hm
  have hbt : rightM ⟨x.rows, x.cols, l'⟩ = true := by
    obtain ⟨r0, c0, a1, a2, a3, a4, a5⟩ := right_len hrt
    refine right_of (r := r0) (c := c0) a1 a2 a3 a4 ?_ hall
    show l'.es.length = _
    rw [q4, List.length_map]
    show (x.lv.es.take 4000).length = _
    have : r0 * c0 ≤ 60 * 60 := Nat.mul_le_mul a3 a4
    rw [List.length_take, a5]; omega
  cases hb : rightM ⟨x.rows, x.cols, l'⟩ with
  | false => rw [hbt] at hb; cases hb
  | true =>
    have hsz : sizeB ⟨x.rows, x.cols, l'⟩ = true := by unfold rightM at hb; rw [Bool.and_eq_true] at hb; exact hb.1
    unfold sizeB at hsz
    obtain ⟨z1, z2, z3, z4, z5⟩ := of_decide_eq_true hsz
    have z1 : 0 ≤ x.rows := z1
    have z2 : x.rows ≤ 60 := z2
    have z3 : 0 ≤ x.cols := z3
    have z4 : x.cols ≤ 60 := z4
    have z5 : (l'.es.length : Int) = x.rows * x.cols := z5
    obtain ⟨rr, hrr⟩ := Int.eq_ofNat_of_zero_le z1
    obtain ⟨cc, hcc⟩ := Int.eq_ofNat_of_zero_le z3
    rw [hb, Bool.not_true, ifA_false, fld0, Option.bind_some, mld0 q0, Option.bind_some, binA_leq, Option.bind_some, ifA_dec] at outl
    have hlen2 : l'.es.length = rr * cc := by
      rw [hrr, hcc] at z5
      rw [← Int.natCast_mul] at z5
      exact Int.ofNat_inj.1 z5
    have hL := idx_lt q2
    obtain ⟨m2, l2, w1, w2, w3, w4, w5⟩ := W13_11 (rows := rr) (cols := cc) (o := l') (x0 := x) (R := min rr n) (C := min cc n) (L := m'.length) (by omega) (by omega) (by omega) (by omega) hlen2 (rowAt_sh q3) (by omega) hcc (K13_11 (finK cfg.P f13.results.toList)) (min rr n) 0 (m' ++ [cM ⟨(min rr n : Nat), (min cc n : Nat), nilL⟩]) nilL (by omega)
      (by rw [List.getElem?_append_left (by omega)]; exact q0) (by rw [List.getElem?_append_left (by omega)]; exact q1) (by rw [List.getElem?_append_left (by omega)]; exact q2) get_last (.inl rfl) rfl
    have fin2 : (loadA none m' (.ptr 0 0)).bind (fun v17 => (maxA false v17 (.int .i64 n)).bind fun v18 => (fieldAddrA 1 (.ptr 0 0)).bind fun v19 => (loadA none m' v19).bind fun v20 => (maxA false v20 (.int .i64 n)).bind fun v21 => (buildA (.agg [(.int .i64 0), (.int .i64 0), (.lst none true .full [])]) [(0, none, v18), (1, none, v21)]).bind fun v22 =>
        (storeA (some 3) (newAt none m' (.obj true [(.int .i64 0), (.int .i64 0), (.lst none true .full [])])).2 (.ptr (newAt none m' .resv).1 0) v22).bind fun m23 => L13_11 (.ptr 0 0) (.ptr 1 0) (.ptr 2 0) (.ptr (newAt none m' .resv).1 0) (.int .i64 0) m23 (K13_11 (finK cfg.P f13.results.toList))) = some (MV.av ⟨(min rr n : Nat), (min cc n : Nat), l2⟩, m2.set 1 (cM ⟨(min rr n : Nat), (min cc n : Nat), l2⟩)) := by
      rw [mld0 q0, Option.bind_some, hrr, min_int, Option.bind_some, fld1, Option.bind_some, mld1 q0, Option.bind_some, hcc, min_int, Option.bind_some, bldM01, Option.bind_some, new_m, new_r]
      rw [mstA (x := zM) get_last, Option.bind_some]
      rw [show (m' ++ [cM zM]).set m'.length (cM ⟨(min rr n : Nat), (min cc n : Nat), nilL⟩) = m' ++ [cM ⟨(min rr n : Nat), (min cc n : Nat), nilL⟩] by simp]
      refine w5.trans ?_
      rw [K13_11_x2, mldA w2, Option.bind_some, mstA w1, Option.bind_some, mldA (by rw [List.getElem?_set_self (idx_lt w1)])]
      rfl
    have hlo2 : LOk 3 l2 := rowAt_lok w3 (by rw [w4]; intro r hr; exact hlo.fr r (cutE_mem hr)) (by rw [w4]; intro r hr; exact hlo.ok r (cutE_mem hr))
    have hlen3 : l2.es.length ≤ 4000 := by
      rw [w4, cutE_length (by omega) (by rw [hlen2]; exact Nat.mul_le_mul_right _ (by omega))]
      have : min rr n * min cc n ≤ 60 * 60 := Nat.mul_le_mul (by omega) (by omega)
      omega
    have done2 : ∀ {R : Prop}, (AP cfg 13 [x.av, .int .i64 n] = some (MV.fr ⟨(min rr n : Nat), (min cc n : Nat), l2⟩).av) → ∃ y : MV, AP cfg 13 [x.av, .int .i64 n] = some y.av ∧ LOk 3 y.lv ∧ y.lv.es.length ≤ 4000 ∧ y.fr = y ∧ rightM y = true ∧ y.rows = min x.rows n ∧ y.cols = min x.cols n := by
      intro _ h
      refine ⟨_, h, hlo2.fr', hlen3, by simp only [MV.fr, rowAt_fr w3], right_of (r := min rr n) (c := min cc n) rfl rfl (by omega) (by omega) (by show l2.es.length = _; rw [w4, cutE_length (by omega) (by rw [hlen2]; exact Nat.mul_le_mul_right _ (by omega))]) (by show ∀ t ∈ l2.es, _; rw [w4]; intro r hr; exact hall r (cutE_mem hr)), ?_, ?_⟩
      · show ((min rr n : Nat) : Int) = _; rw [hrr]; omega
      · show ((min cc n : Nat) : Int) = _; rw [hcc]; omega
    have outc := out ⟨(min rr n : Nat), (min cc n : Nat), l2⟩ (m2.set 1 (cM ⟨(min rr n : Nat), (min cc n : Nat), l2⟩))
    rw [K13_3_x0, mldA q2, Option.bind_some, pcM, e1, Option.map_some, Option.bind_some, not_b, Option.bind_some, hb, Bool.not_true, ifA_false, fld0, Option.bind_some, mld0 q0, Option.bind_some, binA_leq, Option.bind_some, ifA_dec] at outc
    by_cases d1 : x.rows ≤ n
    · rw [if_pos d1, fld1, Option.bind_some, mld1 q0, Option.bind_some, binA_leq, Option.bind_some, ifA_dec] at outl outc
      by_cases d2 : x.cols ≤ n
      · rw [if_pos d2] at outl
        exact ⟨_, outl fin, hlo.fr', hlen, by simp only [MV.fr, rowAt_fr q3], hrf.trans hb, by show x.rows = _; omega, by show x.cols = _; omega⟩
      · rw [if_neg d2] at outc
        exact done2 (R := True) (outc fin2)
    · rw [if_neg d1] at outc
      exact done2 (R := True) (outc fin2)
theorem slice_to {l : LV} {b : Nat} (hs : l.sh = some 3 ∨ l.es = []) (h2 : b ≤ l.es.length) : sliceT (some 3) l.av none (some (.int .i64 b)) none = some (LV.av ⟨l.sh, l.z, .no, l.es.take b⟩) := by
  have e1 : (l.es.map RV.av).take b = (l.es.take b).map RV.av := by rw [List.map_take]
  have e2 : l.sh = some 3 ∨ l.es.map RV.av = [] := hs.elim .inl (fun h => .inr (by rw [h]; rfl))
  have e3 : (0 : Int) ≤ (b : Nat) := by omega
  have e4 : ((b : Nat) : Int) ≤ (l.es.map RV.av).length := by rw [List.length_map]; omega
  simp only [sliceT, LV.av, if_pos e2, sliceA, boundA, e3, e4, and_self, if_true, Option.bind_some, Int.toNat_natCast, e1]
  trace_state
  rfl
end Go.Ab

/- Small steps of the laws. -/
set_option linter.unusedVariables false
set_option linter.unusedSimpArgs false
set_option maxRecDepth 100000
namespace Go.Ab
open Go.Proofs.Try

theorem P26' {m : Mem} {d : Option Nat} : pcall (AP cfg) d m 26 [] = some (.bool true, m) := by
  rw [pcall0, V26]; rfl
theorem ext0' (a b : AV) : extractA (.tup [a, b]) 0 = some a := rfl
theorem ext1' (a b : AV) : extractA (.tup [a, b]) 1 = some b := rfl
theorem pcMM {m : Mem} {d : Option Nat} {g : Nat} (x y : MV) : pcall (AP cfg) d m g [x.av, y.av] = (AP cfg g [x.fr.av, y.fr.av]).map fun v => (v, m) := pcall2 (fz_mv x) (fz_mv y)
theorem mv_frfr' (x : MV) : x.fr.fr = x.fr := by
  obtain ⟨a, b, ⟨c, d, o, es⟩⟩ := x
  cases o <;> rfl
end Go.Ab

/- Cramer's rule and bounds in plain Lean. -/
set_option linter.unusedVariables false
set_option linter.unusedSimpArgs false
set_option linter.unusedSectionVars false
namespace Go.Ab

def rowRep (M : MX) (t : Nat) (u : Nat → Rat) : MX := fun i j => if i = t then u j else M i j
theorem det_rep_lin {n : Nat} (M : MX) {t : Nat} (ht : t < n) (a b : Rat) (u v : Nat → Rat) : det n (rowRep M t fun k => a * u k + b * v k) = a * det n (rowRep M t u) + b * det n (rowRep M t v) :=
  Dt_lin (t := t) (fun k => by unfold rowRep; rw [if_pos rfl, if_pos rfl, if_pos rfl]) (fun r k h => by unfold rowRep; rw [if_neg h, if_neg h]) (fun r k h => by unfold rowRep; rw [if_neg h, if_neg h]) n 0 _ (Nat.zero_le _) (by omega)
theorem det_rep_zero {n : Nat} (M : MX) {t : Nat} (ht : t < n) {u : Nat → Rat} (h : ∀ k, k < n → u k = 0) : det n (rowRep M t u) = 0 :=
  det_row0 ht fun k hk => by unfold rowRep; rw [if_pos rfl]; exact h k hk
theorem det_rep_sum {n : Nat} (M : MX) {t : Nat} (ht : t < n) (x : Nat → Rat) (U : MX) : ∀ m, det n (rowRep M t fun k => sumR m fun l => x l * U l k) = sumR m fun l => x l * det n (rowRep M t (U l))
  | 0 => det_rep_zero M ht fun _ _ => rfl
  | m + 1 => by
    rw [sumR, ← det_rep_sum M ht x U m]
    have := det_rep_lin M ht 1 (x m) (fun k => sumR m fun l => x l * U l k) (U m)
    have e : (fun k => sumR (m + 1) fun l => x l * U l k) = fun k => 1 * (sumR m fun l => x l * U l k) + x m * U m k := by funext k; rw [sumR]; grind
    rw [e, this]; grind
theorem det_rep_id {n t : Nat} (ht : t < n) (x : Nat → Rat) : det n (rowRep idM t x) = x t := by
  have e : det n (rowRep idM t x) = det n (rowRep idM t fun k => sumR n fun l => x l * idM l k) := det_congr fun i k _ hk => by
    unfold rowRep
    by_cases h : i = t
    · rw [if_pos h, if_pos h]
      show x k = sumR n fun l => x l * idM l k
      rw [sumR_one hk fun l _ hl => by unfold idM; rw [if_neg hl]; grind]
      unfold idM; rw [if_pos rfl]; grind
    · rw [if_neg h, if_neg h]
  rw [e, det_rep_sum idM ht, sumR_one ht fun l hl hne => ?_]
  · have : rowRep idM t (idM t) = idM := by
      funext i j; unfold rowRep; split
      · rename_i h; rw [h]
      · rfl
    rw [this, det_id]; grind
  · have h1 := det_add (rowRep idM t (idM l)) (r := l) (t := t) 1 hl ht hne
    have h2 : det n (addR (rowRep idM t (idM l)) l t 1) = 0 := det_row0 ht fun k hk => by
      unfold addR rowRep
      rw [if_pos rfl, if_pos rfl, if_neg hne]; grind
    rw [← h1, h2]; grind
/-- Cramer's rule. -/
theorem cramer {n : Nat} {A X : MX} (h : ∀ i k, i < n → k < n → mulM n A X i k = idM i k) {j k : Nat} (hj : j < n) (hk : k < n) : X j k * det n A = det n (rowRep (trM A) j (idM k)) := by
  have e := det_mul n (rowRep idM j fun l => X l k) (trM A)
  rw [det_rep_id hj, det_tr] at e
  rw [← e]
  refine det_congr fun i q hi hq => ?_
  unfold mulM rowRep
  by_cases hij : i = j
  · simp only [if_pos hij]
    have := h q k hq hk
    unfold mulM at this
    unfold trM
    rw [sumR_congr (g := fun l => A q l * X l k) fun l _ => by grind, this]
    unfold idM
    by_cases hqk : q = k
    · rw [if_pos hqk, if_pos hqk.symm]
    · rw [if_neg hqk, if_neg fun e => hqk e.symm]
  · simp only [if_neg hij]
    rw [sumR_one hi fun l _ hl => by unfold idM; rw [if_neg (fun e => hl e.symm)]; grind]
    unfold idM; rw [if_pos rfl]; grind
theorem det_ne0 {n : Nat} {A X : MX} (h : ∀ i k, i < n → k < n → mulM n A X i k = idM i k) : det n A ≠ 0 := by
  have e : det n (mulM n A X) = 1 := by rw [det_congr h, det_id]
  rw [det_mul] at e
  grind
/-! ### Bounds -/
/-- So many parts of one over D. -/
def Fr1 (D B : Nat) (q : Rat) : Prop := ∃ a : Int, q = (a : Rat) / (D : Rat) ∧ a.natAbs ≤ B
theorem fr1_zero (D B : Nat) : Fr1 D B 0 := ⟨0, by grind, by simp⟩
theorem fr1_neg {D B : Nat} {q : Rat} (h : Fr1 D B q) : Fr1 D B (-q) := by
  obtain ⟨a, e, h⟩ := h
  exact ⟨-a, by rw [e, Rat.intCast_neg]; grind, by rw [Int.natAbs_neg]; exact h⟩
theorem fr1_add {D B B' : Nat} {p q : Rat} (h : Fr1 D B p) (k : Fr1 D B' q) : Fr1 D (B + B') (p + q) := by
  obtain ⟨a, e, h⟩ := h
  obtain ⟨b, f, k⟩ := k
  exact ⟨a + b, by rw [e, f, Rat.intCast_add]; grind, Nat.le_trans (Int.natAbs_add_le _ _) (Nat.add_le_add h k)⟩
theorem fr1_mul {D E B B' : Nat} {p q : Rat} (h : Fr1 D B p) (k : Fr1 E B' q) : Fr1 (D * E) (B * B') (p * q) := by
  obtain ⟨a, e, h⟩ := h
  obtain ⟨b, f, k⟩ := k
  refine ⟨a * b, ?_, by rw [Int.natAbs_mul]; exact Nat.mul_le_mul h k⟩
  rw [e, f, Rat.intCast_mul, Rat.natCast_mul]
  by_cases hD : (D : Rat) = 0
  · rw [hD]; grind
  · by_cases hE : (E : Rat) = 0
    · rw [hE]; grind
    · grind
theorem fr1_sum {D B : Nat} {f : Nat → Rat} : ∀ {n : Nat}, (∀ k, k < n → Fr1 D B (f k)) → Fr1 D (n * B) (sumR n f)
  | 0, _ => by rw [Nat.zero_mul]; exact fr1_zero _ _
  | n + 1, h => by
    rw [sumR, Nat.add_mul, Nat.one_mul]
    exact fr1_add (fr1_sum fun k hk => h k (by omega)) (h n (by omega))
theorem sgU_abs (U : Nat → Bool) : ∀ (d j : Nat), sgU U d j = 1 ∨ sgU U d j = -1
  | 0, _ => .inl rfl
  | d + 1, j => by
    rw [sgU]
    rcases sgU_abs U d (j + 1) with h | h <;> rw [h] <;> by_cases hU : U j = true
    · right; rw [if_pos hU]; grind
    · left; rw [if_neg hU]; grind
    · left; rw [if_pos hU]; grind
    · right; rw [if_neg hU]; grind
theorem Dt_fr1 {n D B : Nat} {M : MX} (h : ∀ i j, i < n → j < n → Fr1 D B (M i j)) : ∀ (d i : Nat) (U : Nat → Bool), i + d ≤ n → Fr1 (D ^ d) ((n * B) ^ d) (Dt n M d i U)
  | 0, i, U, _ => ⟨1, by rw [Dt, Nat.pow_zero]; simp; grind, by simp⟩
  | d + 1, i, U, hd => by
    rw [Dt, Nat.pow_succ, Nat.pow_succ]
    have e : (n * B) ^ d * (n * B) = n * (B * (n * B) ^ d) := by rw [Nat.mul_comm, Nat.mul_assoc]
    rw [e]
    refine fr1_sum fun k hk => ?_
    split
    · exact fr1_zero _ _
    · have h1 := fr1_mul (h i k (by omega) hk) (Dt_fr1 h d (i + 1) (use U k) (by omega))
      rw [Nat.mul_comm D] at h1
      rcases sgU_abs U (n - (k + 1)) (k + 1) with hs | hs
      · rw [hs, show 1 * M i k * Dt n M d (i + 1) (use U k) = M i k * Dt n M d (i + 1) (use U k) by grind]; exact h1
      · rw [hs, show -1 * M i k * Dt n M d (i + 1) (use U k) = -(M i k * Dt n M d (i + 1) (use U k)) by grind]; exact fr1_neg h1
theorem common_den {b : Nat} (hb : 1 ≤ b) {q : Nat → Rat} : ∀ L : Nat, (∀ p, p < L → ∃ (a : Int) (d : Nat), 0 < d ∧ d ≤ b ∧ a.natAbs ≤ b ∧ q p = (a : Rat) / (d : Rat)) → ∃ D, 0 < D ∧ D ≤ b ^ L ∧ ∀ p, p < L → Fr1 D (b ^ L) (q p)
  | 0, _ => ⟨1, by omega, by simp, fun p hp => by omega⟩
  | L + 1, h => by
    obtain ⟨D, h0, h1, h2⟩ := common_den hb L fun p hp => h p (by omega)
    obtain ⟨a, d, hd0, hd, ha, e⟩ := h L (by omega)
    have hdr : (d : Rat) ≠ 0 := by
      intro hh
      have : d = 0 := by exact_mod_cast hh
      omega
    have hDr : (D : Rat) ≠ 0 := by
      intro hh
      have : D = 0 := by exact_mod_cast hh
      omega
    refine ⟨D * d, Nat.mul_pos h0 hd0, by rw [Nat.pow_succ]; exact Nat.mul_le_mul h1 hd, fun p hp => ?_⟩
    by_cases hpL : p < L
    · obtain ⟨a', e', h'⟩ := h2 p hpL
      refine ⟨a' * d, ?_, by rw [Int.natAbs_mul, Nat.pow_succ]; exact Nat.mul_le_mul h' (by simpa using hd)⟩
      rw [e', Rat.intCast_mul, Rat.natCast_mul, Rat.intCast_natCast]; grind
    · obtain rfl : p = L := by omega
      refine ⟨a * D, ?_, by rw [Int.natAbs_mul, Nat.pow_succ, Nat.mul_comm]; exact Nat.mul_le_mul (by simpa using h1) ha⟩
      rw [e, Rat.intCast_mul, Rat.natCast_mul, Rat.intCast_natCast]; grind
/-- The inverse's cells are fractions of whole numbers that are not great. -/
theorem inv_bound {n b : Nat} (hb : 1 ≤ b) {A X : MX} (hA : ∀ i j, i < n → j < n → ∃ (a : Int) (d : Nat), 0 < d ∧ d ≤ b ∧ a.natAbs ≤ b ∧ A i j = (a : Rat) / (d : Rat)) (h : ∀ i k, i < n → k < n → mulM n A X i k = idM i k) {j k : Nat} (hj : j < n) (hk : k < n) :
    ∃ u v : Int, v ≠ 0 ∧ u.natAbs ≤ (n * b ^ (n * n)) ^ n ∧ v.natAbs ≤ (n * b ^ (n * n)) ^ n ∧ X j k = (u : Rat) / (v : Rat) := by
  obtain ⟨D, h0, h1, h2⟩ := common_den hb (q := fun p => A (p / n) (p % n)) (n * n) fun p hp => by
    have hn : 0 < n := by omega
    exact hA _ _ (Nat.div_lt_of_lt_mul hp) (Nat.mod_lt _ hn)
  have hD : ∀ i j, i < n → j < n → Fr1 D (b ^ (n * n)) (A i j) := fun i j hi hj => by
    have hn : 0 < n := by omega
    have hlt : i * n + j < n * n := by
      have := Nat.mul_le_mul_right n (show i + 1 ≤ n by omega)
      rw [Nat.add_mul, Nat.one_mul] at this; omega
    have := h2 (i * n + j) hlt
    have e1 : (i * n + j) / n = i := by rw [Nat.mul_comm, Nat.mul_add_div hn, Nat.div_eq_of_lt hj]; omega
    have e2 : (i * n + j) % n = j := by rw [Nat.mul_comm, Nat.mul_add_mod, Nat.mod_eq_of_lt hj]
    simp only [e1, e2] at this
    exact this
  have hDr : (D : Rat) ≠ 0 := by
    intro hh
    have : D = 0 := by exact_mod_cast hh
    omega
  have d1 := Dt_fr1 (n := n) (M := A) hD n 0 (fun _ => false) (by omega)
  have d2 := Dt_fr1 (n := n) (M := rowRep (trM A) j (idM k)) (D := D) (B := b ^ (n * n)) (fun p q hp hq => by
    unfold rowRep
    split
    · unfold idM
      split
      · exact ⟨D, by rw [Rat.intCast_natCast]; grind, by simpa using h1⟩
      · exact fr1_zero _ _
    · exact hD q p hq hp) n 0 (fun _ => false) (by omega)
  have hc := cramer h hj hk
  have hn0 := det_ne0 h
  have e1 : Dt n A n 0 (fun _ => false) = det n A := rfl
  have e2 : Dt n (rowRep (trM A) j (idM k)) n 0 (fun _ => false) = det n (rowRep (trM A) j (idM k)) := rfl
  rw [e1] at d1
  rw [e2, ← hc] at d2
  obtain ⟨v, ev, hv⟩ := d1
  obtain ⟨u, eu, hu⟩ := d2
  have hP : ((D ^ n : Nat) : Rat) ≠ 0 := by
    intro hh
    have : D ^ n = 0 := by exact_mod_cast hh
    have := Nat.pow_pos (n := n) h0
    omega
  have hv0 : (v : Rat) ≠ 0 := by
    intro hh
    apply hn0
    rw [ev, hh]; grind
  refine ⟨u, v, fun hh => hv0 (by rw [hh]; rfl), hu, hv, ?_⟩
  grind
end Go.Ab

/- Solve and Inverse, by value, for right matrices. -/
set_option linter.unusedVariables false
set_option linter.unusedSimpArgs false
set_option maxRecDepth 100000
namespace Go.Ab
open Go.Proofs.Try

theorem V52r {x y : MV} {k n b : Nat} (hx : IsM k x) (hy : IsM k y) (hbx : rightM x = true) (hby : rightM y = true) (hxn : x.rows = n) (hxc : x.cols = n) (hyn : y.rows = n) (hyc : y.cols = b) (hnb : n + b ≤ 60) (hk1 : 1 ≤ k) (hk : k < 2 ^ 36) (hK : kk k (n + n) < 2 ^ 36) :
    ∃ z ok, AP cfg 52 [x.av, y.av] = some (.tup [z.av, .int .i64 (if ok = true then 0 else 31)]) ∧ SolR x y n b (kk k (n + n) + kk k (n + n)) z ok := by
  have e20 := V20 hx.ok (by omega) (by have := hx.len; omega)
  have e20' := V20 hy.ok (by omega) (by have := hy.len; omega)
  have gx : ∀ e : Mem, (cM x :: e)[0]? = some (cM x) := fun _ => rfl
  have gy : ∀ e : Mem, (cM x :: cM y :: e)[1]? = some (cM y) := fun _ => rfl
  have hlx : x.lv.es.length = n * n := by
    obtain ⟨r, c, a1, a2, _, _, a5⟩ := right_len hbx
    rw [a5, show r = n by omega, show c = n by omega]
  have hly : y.lv.es.length = n * b := by
    obtain ⟨r, c, a1, a2, _, _, a5⟩ := right_len hby
    rw [a5, show r = n by omega, show c = b by omega]
  obtain ⟨z, ok, s1, s2⟩ := V92 hx hy (right_cells hbx) (right_cells hby) hxn hyc hlx hly hnb hk1 hK
  have start : AC cfg 52 [x.av, y.av] [] = AC cfg 52 [x.av, y.av] [] := rfl
  conv at start => rhs; rw [T52, box_mv, Option.bind_some, box_mv, Option.bind_some]
  simp only [new_m, new_r, List.length_nil, List.nil_append, List.length_cons, List.cons_append, Nat.zero_add, Nat.reduceAdd] at start
  rw [mldA (gx _), Option.bind_some, pcM, hx.fr, e20, Option.map_some, Option.bind_some, not_b, Option.bind_some] at start
  rw [hbx, Bool.not_true, ifA_false, mldA (gy _), Option.bind_some, pcM, hy.fr, e20', Option.map_some, Option.bind_some, not_b, Option.bind_some] at start
  rw [hby, Bool.not_true, ifA_false, fld0, Option.bind_some, mld0 (gx _), Option.bind_some, fld1, Option.bind_some, mld1 (gx _), Option.bind_some, binA_neq, Option.bind_some, ifA_dec, if_neg (by omega), fld0, Option.bind_some, mld0 (gy _), Option.bind_some, Option.bind_some, mld0 (gx _), Option.bind_some, binA_neq, Option.bind_some, ifA_dec, if_neg (by omega), mldA (gx _), Option.bind_some, mldA (gy _), Option.bind_some, pcMM, hx.fr, hy.fr, s1, Option.map_some, Option.bind_some, ext0', Option.bind_some, ext1', Option.bind_some] at start
  simp only [new_m, new_r, List.length_nil, List.nil_append, List.length_cons, List.cons_append, Nat.zero_add, Nat.reduceAdd] at start
  rw [mstA (x := zM) rfl, Option.bind_some] at start
  simp only [List.set_cons_zero, List.set_cons_succ] at start
  rw [not_b, Option.bind_some] at start
  cases ok with
  | false =>
    rw [Bool.not_false, ifA_true, bldM, Option.bind_some, mstA (x := zM) rfl, Option.bind_some] at start
    simp only [List.set_cons_zero, List.set_cons_succ] at start
    rw [mldA (x := zM) rfl, Option.bind_some] at start
    have hz := s2.bad rfl
    refine ⟨z, false, ?_, s2⟩
    rw [hz, if_neg (by decide)]
    exact retM2 start rfl
  | true =>
    rw [Bool.not_true, ifA_false, mldA (x := z) rfl, Option.bind_some, mstA (x := zM) rfl, Option.bind_some] at start
    simp only [List.set_cons_zero, List.set_cons_succ] at start
    rw [mldA (x := z) rfl, Option.bind_some] at start
    exact ⟨z, true, by rw [if_pos rfl]; exact retM2 start s2.fr, s2⟩
theorem unit_right (a b : Nat) : rightR (unitR a b) = true := by
  unfold unitR
  split
  · exact can_rightR can_one
  · exact can_rightR can_zero
theorem unit_q (a b : Nat) : (unitR a b).q = idM a b := by
  unfold unitR idM
  split
  · exact can_one.q
  · exact can_zero.q
theorem unit_cells {n : Nat} {y : MV} (h : y.lv.es = cellsF unitR n n) : y.lv.es.length = n * n ∧ (∀ u ∈ y.lv.es, rightR u = true) ∧ ∀ i k, i < n → k < n → qAt y (i * n + k) = idM i k := by
  refine ⟨by rw [h, cellsF_length], fun u hu => ?_, fun i k hi hk => ?_⟩
  · rw [h] at hu
    obtain ⟨a, b, _, _, rfl⟩ := cellsF_mem hu
    exact unit_right a b
  · have e := cellsF_get unitR n n (i * n + k) (cell_lt60 hi hk)
    obtain ⟨e1, e2⟩ := row_col (i := i) hk
    unfold qAt
    rw [List.getD_eq_getElem?_getD, List.getElem?_map, h, e, e1, e2]
    exact unit_q i k
/-- What Inverse finds. -/
structure InvR (x : MV) (n K : Nat) (z : MV) (ok : Bool) : Prop where
  rank : ok = decide (cntU (pivB n n (mxOf x n)) n = n)
  fr : z.fr = z
  lok : LOk K z.lv
  bad : ok = false → z = zM
  rows : ok = true → z.rows = n
  cols : ok = true → z.cols = n
  len : ok = true → z.lv.es.length = n * n
  right : ∀ u ∈ z.lv.es, rightR u = true
  inv : ok = true → ∀ i k, i < n → k < n → mulM n (mxOf x n) (mxOf z n) i k = idM i k
theorem V54r {x : MV} {k n : Nat} (hx : IsM k x) (hbx : rightM x = true) (hxn : x.rows = n) (hxc : x.cols = n) (hnb : n + n ≤ 60) (hk1 : 1 ≤ k) (hk : k < 2 ^ 36) (hK : kk k (n + n) < 2 ^ 36) :
    ∃ z ok, AP cfg 54 [x.av] = some (.tup [z.av, .int .i64 (if ok = true then 0 else 31)]) ∧ InvR x n (kk k (n + n) + kk k (n + n)) z ok := by
  have e20 := V20 hx.ok (by omega) (by have := hx.len; omega)
  have gx : ∀ e : Mem, (cM x :: e)[0]? = some (cM x) := fun _ => rfl
  obtain ⟨y, f1, f2, f3, f4, f5, f6⟩ := V58 (fill62 n n) (by omega) (by omega)
  obtain ⟨u1, u2, u3⟩ := unit_cells f4
  have iy : IsM k y := ⟨f5.mono hk1, f6, by have : n * n ≤ 60 * 60 := Nat.mul_le_mul (by omega) (by omega); omega⟩
  obtain ⟨z, ok, s1, s2⟩ := V52r hx iy hbx (right_of f2 f3 (by omega) (by omega) u1 u2) hxn hxc f2 f3 hnb hk1 hk hK
  have start : AC cfg 54 [x.av] [] = AC cfg 54 [x.av] [] := rfl
  conv at start => rhs; rw [T54, box_mv, Option.bind_some]
  simp only [new_m, new_r, List.length_nil, List.nil_append, List.length_cons, List.cons_append, Nat.zero_add, Nat.reduceAdd] at start
  rw [mldA (gx _), Option.bind_some, pcM, hx.fr, e20, Option.map_some, Option.bind_some, not_b, Option.bind_some, hbx, Bool.not_true, ifA_false, mldA (gx _), Option.bind_some, fld0, Option.bind_some, mld0 (gx _), Option.bind_some, Option.bind_some, mld0 (gx _), Option.bind_some, hxn, pcall3 (fz_int _ _) (fz_int _ _) (fz_fn0 62), f1, Option.map_some, Option.bind_some, pcMM, hx.fr, f6, s1, Option.map_some, Option.bind_some, ext0', Option.bind_some, ext1', Option.bind_some, mstA (x := zM) rfl, Option.bind_some] at start
  simp only [List.set_cons_zero, List.set_cons_succ] at start
  rw [mldA (x := z) rfl, Option.bind_some] at start
  refine ⟨z, ok, retM2 start s2.fr, s2.rank, s2.fr, s2.lok, s2.bad, s2.rows, s2.cols, s2.len, s2.right, fun h i q hi hq => ?_⟩
  have h2 := s2.sol h i q hi hq
  have e : augM x y n n i (n + q) = idM i q := by
    unfold augM
    rw [if_neg (by omega), show n + q - n = q by omega]
    exact u3 i q hi hq
  rw [e] at h2
  rw [← h2]
  exact sumR_congr fun j hj => by unfold augM mxOf; rw [if_pos hj]

/-! ### How long the inverse's cells are -/
theorem lt_of_digs {n k : Nat} (h : (digs n).length ≤ k) : n < (4294967296) ^ k := by
  have := val_lt (dg_digs n)
  rw [val_digs] at this
  exact Nat.lt_of_lt_of_le this (Nat.pow_le_pow_right (by decide) h)
theorem q_split (q : Rat) : q = (q.num : Rat) / (q.den : Rat) := by
  rw [← Rat.intCast_natCast, ← Rat.divInt_eq_div, Rat.num_divInt_den]
theorem Bd_int {u : Int} {k : Nat} (hu : (digs u.natAbs).length ≤ k) (hk : 1 ≤ k) : Bd k (u : Rat) := by
  refine ⟨by rw [Rat.num_intCast]; exact hu, ?_⟩
  rw [Rat.den_intCast]
  exact Nat.le_trans ln_one hk
theorem Bd_frac {u v : Int} {k : Nat} (hu : (digs u.natAbs).length ≤ k) (hv : (digs v.natAbs).length ≤ k) (hk : 1 ≤ k) (h0 : v ≠ 0) : Bd (k + k) ((u : Rat) / (v : Rat)) :=
  Bd_div (Bd_int hu hk) (Bd_int hv hk) hk (fun h => h0 (by exact_mod_cast h))
theorem inv_bd {x z : MV} {n K : Nat} (hn : n ≤ 6) (hx : LOk 3 x.lv) (H : InvR x n K z true) : LOk (649 + 649) z.lv := by
  refine ⟨H.lok.sh, H.lok.z, H.lok.fr, fun r hr => ?_⟩
  obtain ⟨p, hp, rfl⟩ := List.getElem_of_mem hr
  have hp' : p < n * n := by rw [← H.len rfl]; exact hp
  have hn0 : 0 < n := by
    rcases Nat.eq_zero_or_pos n with h0 | h0
    · rw [h0, Nat.mul_zero] at hp'; omega
    · exact h0
  have h1 : p / n < n := Nat.div_lt_of_lt_mul hp'
  have h2 : p % n < n := Nat.mod_lt _ hn0
  have e := div_mod_mul p n
  obtain ⟨u, v, hv0, hu, hv, hq⟩ := inv_bound (b := 4294967296 ^ 3) (Nat.pow_pos (by decide)) (A := mxOf x n) (X := mxOf z n) (fun i j hi hj => by
    have hb := qAt_bd (p := i * n + j) hx (by omega)
    refine ⟨(mxOf x n i j).num, (mxOf x n i j).den, (mxOf x n i j).den_pos, Nat.le_of_lt (lt_of_digs hb.2), Nat.le_of_lt (lt_of_digs hb.1), q_split _⟩) (H.inv rfl) h1 h2
  have hbig : (n * (4294967296 ^ 3) ^ (n * n)) ^ n < 4294967296 ^ 649 := by
    have a1 : (4294967296 ^ 3) ^ (n * n) ≤ (4294967296 ^ 3) ^ (6 * 6) := Nat.pow_le_pow_right (Nat.pow_pos (by decide)) (Nat.mul_le_mul hn hn)
    have a2 : n * (4294967296 ^ 3) ^ (n * n) ≤ 6 * (4294967296 ^ 3) ^ (6 * 6) := Nat.mul_le_mul hn a1
    have a3 : (n * (4294967296 ^ 3) ^ (n * n)) ^ n ≤ (6 * (4294967296 ^ 3) ^ (6 * 6)) ^ 6 := Nat.le_trans (Nat.pow_le_pow_left a2 n) (Nat.pow_le_pow_right (Nat.mul_pos (by decide) (Nat.pow_pos (Nat.pow_pos (by decide)))) hn)
    exact Nat.lt_of_le_of_lt a3 (by decide +kernel)
  have bd : Bd (649 + 649) (mxOf z n (p / n) (p % n)) := by
    rw [hq]
    exact Bd_frac (digs_length_le (Nat.lt_of_le_of_lt hu hbig)) (digs_length_le (Nat.lt_of_le_of_lt hv hbig)) (by omega) hv0
  have hc := right_at H.lok H.right hp
  have : mxOf z n (p / n) (p % n) = qAt z p := by unfold mxOf; rw [e]
  rw [this] at bd
  exact hc.ok bd (by omega)
end Go.Ab

/- What the interpreter does, function by function. -/
set_option maxRecDepth 100000
set_option linter.unusedVariables false
namespace Go.Ab
open Go.Proofs.Try
/-! ### sortilege/sortilegelaw19.MatrixBack -/
theorem T12 (a0 a1 : AV) (m : Mem) : AC cfg 12 [a0, a1] m =
  (boxA none (some 3) m a0).bind fun r1 =>
  (boxA none (some 3) r1.2 a1).bind fun r2 =>
  (loadA (some 3) r2.2 r1.1).bind fun v3 =>
  (pcall (AP cfg) (some r2.2.length) r2.2 43 [v3, (.int .i64 6)]).bind fun r4 =>
  (loadA (some 3) r4.2 r2.1).bind fun v5 =>
  (pcall (AP cfg) (some r2.2.length) r4.2 13 [v5, (.int .i64 6)]).bind fun r6 =>
  (storeA (some 3) r6.2 r1.1 r4.1).bind fun m7 =>
  (storeA (some 3) m7 r2.1 r6.1).bind fun m8 =>
  (loadA (some 3) m8 r1.1).bind fun v9 =>
  (pcall (AP cfg) none m8 21 [v9]).bind fun r10 =>
  (unA .not r10.1).bind fun v11 =>
  ifA v11 (
  (pcall (AP cfg) none r10.2 26 []).bind fun r12 =>
  some (r12.1, r12.2)) (
  (loadA (some 3) r10.2 r2.1).bind fun v13 =>
  (pcall (AP cfg) none r10.2 21 [v13]).bind fun r14 =>
  (unA .not r14.1).bind fun v15 =>
  ifA v15 (
  (pcall (AP cfg) none r14.2 26 []).bind fun r16 =>
  some (r16.1, r16.2)) (
  (fieldAddrA 0 r1.1).bind fun v17 =>
  (loadA none r14.2 v17).bind fun v18 =>
  (fieldAddrA 0 r2.1).bind fun v19 =>
  (loadA none r14.2 v19).bind fun v20 =>
  (maxA false v18 v20).bind fun v21 =>
  (loadA (some 3) r14.2 r1.1).bind fun v22 =>
  (pcall (AP cfg) (some r14.2.length) r14.2 13 [v22, v21]).bind fun r23 =>
  (fieldAddrA 1 r2.1).bind fun v24 =>
  (loadA none r23.2 v24).bind fun v25 =>
  (fieldAddrA 2 r2.1).bind fun v26 =>
  (loadA none r23.2 v26).bind fun v27 =>
  (fieldAddrA 1 r2.1).bind fun v28 =>
  (loadA none r23.2 v28).bind fun v29 =>
  (binA .other .mul v21 v29).bind fun v30 =>
  (sliceT (some 3) v27 none (some v30) none).bind fun v31 =>
  (buildA (.agg [(.int .i64 0), (.int .i64 0), (.lst none true .full [])]) [(0, none, v21), (1, none, v25), (2, none, v31)]).bind fun v32 =>
  (pcall (AP cfg) (some r14.2.length) r23.2 13 [v32, (.int .i64 6)]).bind fun r33 =>
  (storeA (some 3) r33.2 r1.1 r23.1).bind fun m34 =>
  (storeA (some 3) m34 r2.1 r33.1).bind fun m35 =>
  (loadA (some 3) m35 r1.1).bind fun v36 =>
  (pcall (AP cfg) none m35 50 [v36]).bind fun r37 =>
  (extractA r37.1 0).bind fun v38 =>
  (extractA r37.1 1).bind fun v39 =>
  (loadA (some 3) r37.2 r1.1).bind fun v40 =>
  (pcall (AP cfg) none r37.2 54 [v40]).bind fun r41 =>
  (extractA r41.1 0).bind fun v42 =>
  (extractA r41.1 1).bind fun v43 =>
  (storeA (some 3) (newAt none r41.2 (.obj true [(.int .i64 0), (.int .i64 0), (.lst none true .full [])])).2 (.ptr (newAt none r41.2 .resv).1 0) v42).bind fun m44 =>
  (fieldAddrA 0 r1.1).bind fun v45 =>
  (loadA none m44 v45).bind fun v46 =>
  (binA .other .neq v38 v46).bind fun v47 =>
  ifA v47 (
  (loadA (some 3) m44 r1.1).bind fun v48 =>
  (loadA (some 3) m44 r2.1).bind fun v49 =>
  (pcall (AP cfg) none m44 52 [v48, v49]).bind fun r50 =>
  (extractA r50.1 0).bind fun v51 =>
  (extractA r50.1 1).bind fun v52 =>
  (storeA (some 3) (newAt none r50.2 (.obj true [(.int .i64 0), (.int .i64 0), (.lst none true .full [])])).2 (.ptr (newAt none r50.2 .resv).1 0) v51).bind fun m53 =>
  (binA .other .eql v43 (.int .i64 31)).bind fun v54 =>
  ifA v54 (
  (binA .other .eql v52 (.int .i64 31)).bind fun v55 =>
  ifA v55 (
  (pcall (AP cfg) none m53 26 []).bind fun r56 =>
  some (r56.1, r56.2)) (
  some ((.bool false), m53))) (
  some ((.bool false), m53))) (
  (loadA (some 3) m44 r1.1).bind fun v57 =>
  (loadA (some 3) m44 r2.1).bind fun v58 =>
  (pcall (AP cfg) none m44 52 [v57, v58]).bind fun r59 =>
  (extractA r59.1 0).bind fun v60 =>
  (extractA r59.1 1).bind fun v61 =>
  (storeA (some 3) (newAt none r59.2 (.obj true [(.int .i64 0), (.int .i64 0), (.lst none true .full [])])).2 (.ptr (newAt none r59.2 .resv).1 0) v60).bind fun m62 =>
  (loadA (some 3) m62 r1.1).bind fun v63 =>
  (loadA (some 3) m62 (.ptr (newAt none r59.2 .resv).1 0)).bind fun v64 =>
  (pcall (AP cfg) none m62 41 [v63, v64]).bind fun r65 =>
  (extractA r65.1 0).bind fun v66 =>
  (extractA r65.1 1).bind fun v67 =>
  (storeA (some 3) (newAt none r65.2 (.obj true [(.int .i64 0), (.int .i64 0), (.lst none true .full [])])).2 (.ptr (newAt none r65.2 .resv).1 0) v66).bind fun m68 =>
  (loadA (some 3) m68 (.ptr (newAt none r41.2 .resv).1 0)).bind fun v69 =>
  (pcall (AP cfg) none m68 54 [v69]).bind fun r70 =>
  (extractA r70.1 0).bind fun v71 =>
  (extractA r70.1 1).bind fun v72 =>
  (storeA (some 3) (newAt none r70.2 (.obj true [(.int .i64 0), (.int .i64 0), (.lst none true .full [])])).2 (.ptr (newAt none r70.2 .resv).1 0) v71).bind fun m73 =>
  (loadA (some 3) m73 r1.1).bind fun v74 =>
  (loadA (some 3) m73 (.ptr (newAt none r41.2 .resv).1 0)).bind fun v75 =>
  (pcall (AP cfg) none m73 41 [v74, v75]).bind fun r76 =>
  (extractA r76.1 0).bind fun v77 =>
  (extractA r76.1 1).bind fun v78 =>
  (storeA (some 3) (newAt none r76.2 (.obj true [(.int .i64 0), (.int .i64 0), (.lst none true .full [])])).2 (.ptr (newAt none r76.2 .resv).1 0) v77).bind fun m79 =>
  (fieldAddrA 0 r1.1).bind fun v80 =>
  (loadA none m79 v80).bind fun v81 =>
  (pcall (AP cfg) none m79 18 [v81]).bind fun r82 =>
  (extractA r82.1 0).bind fun v83 =>
  (extractA r82.1 1).bind fun v84 =>
  (storeA (some 3) (newAt none r82.2 (.obj true [(.int .i64 0), (.int .i64 0), (.lst none true .full [])])).2 (.ptr (newAt none r82.2 .resv).1 0) v83).bind fun m85 =>
  (binA .other .eql v43 (.int .i64 0)).bind fun v86 =>
  ifA v86 (
  (binA .other .eql v61 (.int .i64 0)).bind fun v87 =>
  ifA v87 (
  (binA .other .eql v72 (.int .i64 0)).bind fun v88 =>
  ifA v88 (
  (loadA (some 3) m85 (.ptr (newAt none r65.2 .resv).1 0)).bind fun v89 =>
  (loadA (some 3) m85 r2.1).bind fun v90 =>
  (pcall (AP cfg) none m85 39 [v89, v90]).bind fun r91 =>
  ifA r91.1 (
  (loadA (some 3) r91.2 (.ptr (newAt none r70.2 .resv).1 0)).bind fun v92 =>
  (loadA (some 3) r91.2 r1.1).bind fun v93 =>
  (pcall (AP cfg) none r91.2 39 [v92, v93]).bind fun r94 =>
  ifA r94.1 (
  (loadA (some 3) r94.2 (.ptr (newAt none r76.2 .resv).1 0)).bind fun v95 =>
  (loadA (some 3) r94.2 (.ptr (newAt none r82.2 .resv).1 0)).bind fun v96 =>
  (pcall (AP cfg) none r94.2 39 [v95, v96]).bind fun r97 =>
  ifA r97.1 (
  (pcall (AP cfg) none r97.2 26 []).bind fun r98 =>
  some (r98.1, r98.2)) (
  some ((.bool false), r97.2))) (
  some ((.bool false), r94.2))) (
  some ((.bool false), r91.2))) (
  some ((.bool false), m85))) (
  some ((.bool false), m85))) (
  some ((.bool false), m85))))) :=
(AC_eq cfg 12 [a0, a1] m (fn := f12) (c := bodyOf f12) at12 rfl).trans (by kernel_rfl)
end Go.Ab

/- The law of Solve and Inverse, in values. -/
set_option linter.unusedVariables false
set_option linter.unusedSimpArgs false
set_option maxRecDepth 100000
namespace Go.Ab
open Go.Proofs.Try

theorem sumN_sumR (f : Nat → Rat) : ∀ n, sumN f n = sumR n f
  | 0 => rfl
  | n + 1 => by rw [sumN, sumR, sumN_sumR f n]
theorem mulQ_at {x y : MV} {c d i j : Nat} (hj : j < d) : mulQ x y c d (i * d + j) = mulM c (mxOf x c) (mxOf y d) i j := by
  obtain ⟨e1, e2⟩ := row_col (i := i) hj
  unfold mulQ dotQ
  rw [e1, e2, sumN_sumR]; rfl
theorem kk12 : kk 3 12 = 55924053 := by decide
theorem kk12' : kk (649 + 649) 12 = 21782418773 := by decide
theorem minE {x y : Nat} : maxA false (.int .i64 x) (.int .i64 y) = some (.int .i64 (min x y : Nat)) := min_int x y
theorem sameM_at {x y : MV} {r c : Nat} (h1 : x.rows = r) (h2 : x.cols = c) (h3 : y.rows = r) (h4 : y.cols = c) (h5 : x.lv.es.length = r * c) (h6 : y.lv.es.length = r * c) (h : ∀ i j, i < r → j < c → qAt x (i * c + j) = qAt y (i * c + j)) : sameM x y = true := by
  refine sameM_ext (h1.trans h3.symm) (h2.trans h4.symm) (h5.trans h6.symm) fun p hp => ?_
  rw [h5] at hp
  have hc0 : 0 < c := by
    rcases Nat.eq_zero_or_pos c with h0 | h0
    · rw [h0, Nat.mul_zero] at hp; omega
    · exact h0
  have := h (p / c) (p % c) (Nat.div_lt_of_lt_mul (by rw [Nat.mul_comm]; exact hp)) (Nat.mod_lt _ hc0)
  rwa [div_mod_mul] at this
theorem MatrixBack_law {a b : MV} (ha : XM a.fr) (hb : XM b.fr) : ∃ m', AC cfg 12 [a.av, b.av] [] = some (.bool true, m') := by
  obtain ⟨x, x1, x2, x3, x4, x5⟩ := V43 (n := 6) (by omega) ha (mv_frfr' a)
  obtain ⟨y, y1, y2, y3, y4, y5⟩ := V13 (n := 6) (by omega) hb (mv_frfr' b)
  have r21 := V21 (x := x) x2 (k := 3) (by omega) (by omega)
  have s21 := V21 (x := y) y2 (k := 3) (by omega) (by omega)
  have start : AC cfg 12 [a.av, b.av] [] = AC cfg 12 [a.av, b.av] [] := rfl
  conv at start => rhs; rw [T12, box_mv, Option.bind_some, box_mv, Option.bind_some]
  simp only [List.length_nil, List.nil_append, List.length_cons, List.cons_append, Nat.zero_add, Nat.reduceAdd] at start
  rw [mldA (x := a) rfl, Option.bind_some, pcMI, show ((6 : Int)) = ((6 : Nat) : Int) from rfl, x1, Option.map_some, Option.bind_some, mldA (x := b) rfl, Option.bind_some, pcMI, y1, Option.map_some, Option.bind_some, mstA (x := a) rfl, Option.bind_some] at start
  simp only [List.set_cons_zero, List.set_cons_succ] at start
  rw [mstA (x := b) rfl, Option.bind_some] at start
  simp only [List.set_cons_zero, List.set_cons_succ] at start
  rw [mldA (x := x) rfl, Option.bind_some, pcM, x4, r21, Option.map_some, Option.bind_some, not_b, Option.bind_some] at start
  cases hbx : rightM x with
  | false =>
    rw [hbx, Bool.not_false, ifA_true, P26', Option.bind_some] at start
    exact ⟨_, start⟩
  | true =>
  rw [hbx, Bool.not_true, ifA_false, mldA (x := y) rfl, Option.bind_some, pcM, y4, s21, Option.map_some, Option.bind_some, not_b, Option.bind_some] at start
  cases hby : rightM y with
  | false =>
    rw [hby, Bool.not_false, ifA_true, P26', Option.bind_some] at start
    exact ⟨_, start⟩
  | true =>
  obtain ⟨x6, x7⟩ := x5 hbx
  obtain ⟨y6, y7⟩ := y5 hby
  obtain ⟨r, r', hr, hr', _, _, hlx⟩ := right_len hbx
  obtain ⟨s, c, hs, hc, _, _, hly⟩ := right_len hby
  obtain rfl : r = r' := by omega
  have hr6 : r ≤ 6 := by omega
  have hs6 : s ≤ 6 := by omega
  have hc6 : c ≤ 6 := by omega
  -- the two cuts
  obtain ⟨n, hn⟩ : ∃ n, n = min r s := ⟨_, rfl⟩
  have hn6 : n ≤ 6 := by omega
  obtain ⟨u, u1, u2, u3, u4, u5, u6, u7⟩ := V13r (x := x) (n := n) (by omega) x2 x4 hbx
  have hnc : n * c ≤ y.lv.es.length := by rw [hly]; exact Nat.mul_le_mul_right c (by omega)
  have htl : (y.lv.es.take (n * c)).length = n * c := by rw [List.length_take]; omega
  have hyr := right_cells hby
  have ht2 : LOk 3 ⟨y.lv.sh, y.lv.z, .no, y.lv.es.take (n * c)⟩ := ⟨y2.sh.elim .inl fun h => .inr (by show y.lv.es.take _ = []; rw [h]; simp), fun h => by show y.lv.es.take _ = []; rw [y2.z h]; simp, fun t ht => y2.fr t (List.mem_of_mem_take ht), fun t ht => y2.ok t (List.mem_of_mem_take ht)⟩
  obtain ⟨v, v1, v2, v3, v4, v5, v6, v7⟩ := V13r (x := ⟨n, c, ⟨y.lv.sh, y.lv.z, .no, y.lv.es.take (n * c)⟩⟩) (n := 6) (by omega) ht2 rfl (right_of rfl rfl (by omega) (by omega) htl fun t ht => hyr t (List.mem_of_mem_take ht))
  have u6 : u.rows = n := by rw [u6]; omega
  have u7 : u.cols = n := by rw [u7]; omega
  have v6 : v.rows = n := by rw [v6]; show min (n : Int) _ = _; omega
  have v7 : v.cols = c := by rw [v7]; show min (c : Int) _ = _; omega
  have iu : IsM 3 u := ⟨u2, u4, u3⟩
  have iv : IsM 3 v := ⟨v2, v4, v3⟩
  have hlu : u.lv.es.length = n * n := by
    obtain ⟨r1, c1, a1, a2, _, _, a5⟩ := right_len u5
    rw [a5, show r1 = n by omega, show c1 = n by omega]
  have hlv : v.lv.es.length = n * c := by
    obtain ⟨r1, c1, a1, a2, _, _, a5⟩ := right_len v5
    rw [a5, show r1 = n by omega, show c1 = c by omega]
  have k1 : kk 3 (n + n) ≤ 55924053 := by rw [← kk12]; exact kk_mono 3 (by omega)
  have k2 : kk (649 + 649) (n + n) ≤ 21782418773 := by rw [← kk12']; exact kk_mono _ (by omega)
  have k4 : 649 + 649 ≤ kk (649 + 649) (n + n) := kk_mono (649 + 649) (Nat.zero_le (n + n))
  have k3 : kk 3 n ≤ 55924053 := Nat.le_trans (kk_mono 3 (by omega)) k1
  have un : u.cols.toNat = n := by rw [u7]; rfl
  have um : u.rows.toNat = n := by rw [u6]; rfl
  have e50 := V50 iu (by omega) (by omega) (fun _ => by rw [un]; omega)
  rw [if_pos u5, if_pos u5] at e50
  have hrk : rkM u = cntU (pivB n n (mxOf u n)) n := by unfold rkM; rw [un, um]
  obtain ⟨i, oki, i1, I⟩ := V54r iu u5 u6 u7 (by omega) (by omega) (by omega) (by omega)
  obtain ⟨z, okz, z1, Z⟩ := V52r iu iv u5 v5 u6 u7 v6 v7 (by omega) (by omega) (by omega) (by omega)
  rw [hby, Bool.not_true, ifA_false, fld0, Option.bind_some, mld0 (x := x) rfl, Option.bind_some, fld0, Option.bind_some, mld0 (x := y) rfl, Option.bind_some, hr, hs, minE, ← hn, Option.bind_some, mldA (x := x) rfl, Option.bind_some, pcMI, x4, u1, Option.map_some, Option.bind_some, fld1, Option.bind_some, mld1 (x := y) rfl, Option.bind_some, fld2, Option.bind_some, mld2 (x := y) rfl, Option.bind_some, Option.bind_some, mld1 (x := y) rfl, Option.bind_some, hc, n_mul60 (by omega) (by omega), Option.bind_some, slice_to y2.sh hnc, Option.bind_some, bldM012, Option.bind_some, pcMI] at start
  rw [show (MV.fr ⟨n, c, ⟨y.lv.sh, y.lv.z, .no, y.lv.es.take (n * c)⟩⟩) = ⟨n, c, ⟨y.lv.sh, y.lv.z, .no, y.lv.es.take (n * c)⟩⟩ from rfl, v1, Option.map_some, Option.bind_some, mstA (x := x) rfl, Option.bind_some] at start
  simp only [List.set_cons_zero, List.set_cons_succ] at start
  rw [mstA (x := y) rfl, Option.bind_some] at start
  simp only [List.set_cons_zero, List.set_cons_succ] at start
  rw [mldA (x := u) rfl, Option.bind_some, pcM, u4, e50, Option.map_some, Option.bind_some, ext0', Option.bind_some, ext1', Option.bind_some, mldA (x := u) rfl, Option.bind_some, pcM, u4, i1, Option.map_some, Option.bind_some, ext0', Option.bind_some, ext1', Option.bind_some] at start
  simp only [new_m, new_r, List.length_nil, List.nil_append, List.length_cons, List.cons_append, Nat.zero_add, Nat.reduceAdd] at start
  rw [mstA (x := zM) rfl, Option.bind_some] at start
  simp only [List.set_cons_zero, List.set_cons_succ] at start
  rw [Option.bind_some, mld0 (x := u) rfl, Option.bind_some, u6, n_neq, Option.bind_some, ifA_dec] at start
  by_cases hrn : rkM u ≠ n
  · have oi : oki = false := by rw [I.rank, ← hrk]; exact decide_eq_false hrn
    have oz : okz = false := by rw [Z.rank, ← hrk]; exact decide_eq_false hrn
    subst oi; subst oz
    rw [if_neg (by decide)] at z1
    rw [if_pos hrn, mldA (x := u) rfl, Option.bind_some, mldA (x := v) rfl, Option.bind_some, pcMM, u4, v4, z1, Option.map_some, Option.bind_some, ext0', Option.bind_some, ext1', Option.bind_some] at start
    simp only [new_m, new_r, List.length_nil, List.nil_append, List.length_cons, List.cons_append, Nat.zero_add, Nat.reduceAdd] at start
    rw [mstA (x := zM) rfl, Option.bind_some] at start
    simp only [List.set_cons_zero, List.set_cons_succ] at start
    rw [if_neg (by decide), binA_eql, Option.bind_some, ifA_dec, if_pos rfl, Option.bind_some, ifA_dec, if_pos rfl, P26', Option.bind_some] at start
    exact ⟨_, start⟩
  · have hrn' : rkM u = n := Classical.byContradiction hrn
    have oi : oki = true := by rw [I.rank, ← hrk]; exact decide_eq_true hrn'
    have oz : okz = true := by rw [Z.rank, ← hrk]; exact decide_eq_true hrn'
    subst oi; subst oz
    rw [if_pos rfl] at z1
    have iz : IsM 111848106 z := ⟨Z.lok.mono (by omega), Z.fr, by rw [Z.len rfl]; have : n * c ≤ 60 * 60 := Nat.mul_le_mul (by omega) (by omega); omega⟩
    have il : LOk (649 + 649) i.lv := inv_bd hn6 u2 I
    have hnn : n * n ≤ 60 * 60 := Nat.mul_le_mul (by omega) (by omega)
    have ii : IsM (649 + 649) i := ⟨il, I.fr, by rw [I.len rfl]; omega⟩
    have hrz : rightM z = true := right_of (Z.rows rfl) (Z.cols rfl) (by omega) (by omega) (Z.len rfl) Z.right
    have hri : rightM i = true := right_of (I.rows rfl) (I.cols rfl) (by omega) (by omega) (I.len rfl) I.right
    have iu' : IsM 111848106 u := ⟨u2.mono (by omega), u4, u3⟩
    have iu'' : IsM (649 + 649) u := ⟨u2.mono (by omega), u4, u3⟩
    obtain ⟨w, ew, w1, W, _⟩ := V41 (K := 14000000000) iu' iz (by omega) (by omega) (by omega)
    have m1 : mulE u z = 0 := by unfold mulE; rw [if_pos ⟨u5, hrz⟩, if_pos (by rw [u7, Z.rows rfl])]
    have zc : z.cols.toNat = c := by rw [Z.cols rfl]; rfl
    rw [m1, um, un, zc] at W
    obtain ⟨bk, okb, b1, B⟩ := V54r ii hri (I.rows rfl) (I.cols rfl) (by omega) (by omega) (by omega) (by omega)
    have hfull := full_inv (I.inv rfl)
    have ob : okb = true := by rw [B.rank]; exact decide_eq_true hfull
    subst ob
    obtain ⟨on, eo, o1, O, _⟩ := V41 (K := 200000) iu'' ii (by omega) (by omega) (by omega)
    have m2 : mulE u i = 0 := by unfold mulE; rw [if_pos ⟨u5, hri⟩, if_pos (by rw [u7, I.rows rfl])]
    have ic : i.cols.toNat = n := by rw [I.cols rfl]; rfl
    rw [m2, um, un, ic] at O
    obtain ⟨id, d1, d2, d3, d4⟩ := V18 (n : Int)
    have hse : sizeE n n = 0 := by unfold sizeE; rw [if_neg (show ¬ ((n : Int) < 0 ∨ (n : Int) < 0) by omega), if_neg (show ¬ ((n : Int) > 60 ∨ (n : Int) > 60) by omega)]
    rw [hse] at d1
    obtain ⟨_, d5, d6, d7⟩ := d4.resolve_left fun h => h.1 hse
    have d7 : id.lv.es = cellsF unitR n n := d7
    obtain ⟨q1, q2, q3⟩ := unit_cells d7
    have c1 : sameM w v = true := sameM_at (W.rows rfl) (W.cols rfl) v6 v7 (W.len rfl) hlv fun p q hp hq => by
      rw [W.q rfl _ (cell_lt60 hp hq), mulQ_at hq]
      have h2 := Z.sol rfl p q hp hq
      have e : augM u v n c p (n + q) = qAt v (p * c + q) := by
        unfold augM
        rw [if_neg (by omega), show n + q - n = q by omega]
      rw [e] at h2
      rw [← h2]
      exact sumR_congr fun j hj => by unfold augM mxOf; rw [if_pos hj]
    have c2 : sameM bk u = true := sameM_at (B.rows rfl) (B.cols rfl) u6 u7 (B.len rfl) hlu fun p q hp hq => inv_inv (I.inv rfl) (B.inv rfl) p q hp hq
    have c3 : sameM on id = true := sameM_at (O.rows rfl) (O.cols rfl) d5 d6 (O.len rfl) q1 fun p q hp hq => by
      rw [O.q rfl _ (cell_lt60 hp hq), mulQ_at hq, I.inv rfl p q hp hq, q3 p q hp hq]
    have f1 := V39 (x := w) (y := v) W.ok (v2.mono (by omega)) (by omega) (by omega) (by rw [W.len rfl]; have : n * c ≤ 60 * 60 := Nat.mul_le_mul (by omega) (by omega); omega)
    have f2 := V39 (x := bk) (y := u) B.lok (u2.mono (by omega)) (by omega) (by omega) (by rw [B.len rfl]; omega)
    have f3 := V39 (x := on) (y := id) O.ok (d3.mono (by omega)) (by omega) (by omega) (by rw [O.len rfl]; omega)
    rw [c1] at f1
    rw [c2] at f2
    rw [c3] at f3
    rw [if_pos rfl] at b1
    have L1 : ∀ (m : Mem) (p : Nat) (x : MV), m[p]? = some (cM zM) → storeA (some 3) m (.ptr p 0) x.av = some (m.set p (cM x)) := fun m p x h => mstA h
    rw [if_neg hrn, mldA (x := u) rfl, Option.bind_some, mldA (x := v) rfl, Option.bind_some, pcMM, u4, v4, z1, Option.map_some, Option.bind_some, ext0', Option.bind_some, ext1', Option.bind_some] at start
    simp only [new_m, new_r, List.length_nil, List.nil_append, List.length_cons, List.cons_append, Nat.zero_add, Nat.reduceAdd] at start
    rw [mstA (x := zM) rfl, Option.bind_some] at start
    simp only [List.set_cons_zero, List.set_cons_succ] at start
    rw [mldA (x := u) rfl, Option.bind_some, mldA (x := z) rfl, Option.bind_some, pcMM, u4, Z.fr, w1, Option.map_some, Option.bind_some, ext0', Option.bind_some, ext1', Option.bind_some] at start
    simp only [new_m, new_r, List.length_nil, List.nil_append, List.length_cons, List.cons_append, Nat.zero_add, Nat.reduceAdd] at start
    rw [mstA (x := zM) rfl, Option.bind_some] at start
    simp only [List.set_cons_zero, List.set_cons_succ] at start
    rw [mldA (x := i) rfl, Option.bind_some, pcM, I.fr, b1, Option.map_some, Option.bind_some, ext0', Option.bind_some, ext1', Option.bind_some] at start
    simp only [new_m, new_r, List.length_nil, List.nil_append, List.length_cons, List.cons_append, Nat.zero_add, Nat.reduceAdd] at start
    rw [mstA (x := zM) rfl, Option.bind_some] at start
    simp only [List.set_cons_zero, List.set_cons_succ] at start
    rw [mldA (x := u) rfl, Option.bind_some, mldA (x := i) rfl, Option.bind_some, pcMM, u4, I.fr, o1, Option.map_some, Option.bind_some, ext0', Option.bind_some, ext1', Option.bind_some] at start
    simp only [new_m, new_r, List.length_nil, List.nil_append, List.length_cons, List.cons_append, Nat.zero_add, Nat.reduceAdd] at start
    rw [mstA (x := zM) rfl, Option.bind_some] at start
    simp only [List.set_cons_zero, List.set_cons_succ] at start
    rw [Option.bind_some, mld0 (x := u) rfl, Option.bind_some, u6, pcall1 (fz_int _ _), d1, Option.map_some, Option.bind_some, ext0', Option.bind_some, ext1', Option.bind_some] at start
    simp only [new_m, new_r, List.length_nil, List.nil_append, List.length_cons, List.cons_append, Nat.zero_add, Nat.reduceAdd] at start
    rw [mstA (x := zM) rfl, Option.bind_some] at start
    simp only [List.set_cons_zero, List.set_cons_succ] at start
    rw [if_pos trivial, binA_eql, Option.bind_some, ifA_dec, if_pos rfl, Option.bind_some, ifA_dec, if_pos rfl, Option.bind_some, ifA_dec, if_pos rfl] at start
    rw [mldA (x := w) rfl, Option.bind_some, mldA (x := v) rfl, Option.bind_some, pcMM, W.fr, v4, f1, Option.map_some, Option.bind_some, ifA_true, mldA (x := bk) rfl, Option.bind_some, mldA (x := u) rfl, Option.bind_some, pcMM, B.fr, u4, f2, Option.map_some, Option.bind_some, ifA_true, mldA (x := on) rfl, Option.bind_some, mldA (x := id) rfl, Option.bind_some, pcMM, O.fr, d2, f3, Option.map_some, Option.bind_some, ifA_true, P26', Option.bind_some] at start
    exact ⟨_, start⟩
end Go.Ab

/- Arguments that can be read as data, as values of the interpreter. -/
set_option linter.unusedVariables false
set_option linter.unusedSimpArgs false
set_option maxRecDepth 100000
namespace Go.Ab
open Go.Proofs Go.Proofs.Try Go.RowKit

instance : WInv := ⟨fun _ => True⟩
def g0 : G := ⟨fun _ _ => False, fun _ => False, fun _ => none, fun _ _ => none⟩
theorem get_nil (nm : Nat) : Mem.get ([] : Mem) nm = none := by simp [Mem.get]
theorem memR0 (w : World) : MemR w.heap.size w g0 [] where
  obj nm bx cs h := by rw [get_nil] at h; cases h
  tok nm n sz h := by rw [get_nil] at h; cases h
  resv nm h := ⟨rfl, fun _ => rfl⟩
  fresh nm h := ⟨rfl, fun _ => rfl⟩
  inj nm nm' b h := by unfold blk at h; rw [get_nil] at h; cases h
  wrLt b off h := h.elim
  inv _ _ := trivial
  boxLt b h := h.elim
  mp nm kk es h := by rw [get_nil] at h; cases h
theorem cfgOk : CfgOk cfg where
  ben g h caps := by
    have h : false = true := h
    cases h
  libm g h hh := by
    have hh : (none : Option (List AV → Mem → Option (AV × Mem))) = some h := hh
    cases hh
  name g fn h := by
    have hall : (Try.prog.funcs.toList.all fun fn => !(fn.name == "runtime.NumGoroutine")) = true := by kernel_rfl
    have hm : fn ∈ Try.prog.funcs.toList := by
      rw [Array.mem_toList_iff]
      exact Array.mem_of_getElem? h
    have := List.all_eq_true.1 hall fn hm
    simpa using this
  lib g h hh := by
    by_cases e1 : g = 45
    · subst e1
      obtain rfl : (fun _ => none) = h := Option.some.inj hh
      exact ⟨⟨Try.f45, by kernel_rfl, rfl⟩, fun vs v hv => by cases hv⟩
    · by_cases e2 : g = 47
      · subst e2
        obtain rfl : (fun _ => none) = h := Option.some.inj hh
        exact ⟨⟨Try.f47, by kernel_rfl, rfl⟩, fun vs v hv => by cases hv⟩
      · have b1 : Nat.beq g 45 = false := by
          cases hb : Nat.beq g 45 with
          | false => rfl
          | true => exact absurd (Nat.eq_of_beq_eq_true hb) e1
        have b2 : Nat.beq g 47 = false := by
          cases hb : Nat.beq g 47 with
          | false => rfl
          | true => exact absurd (Nat.eq_of_beq_eq_true hb) e2
        have hh' : (match Nat.beq g 45 with | true => some (fun _ => none) | false => match Nat.beq g 47 with | true => some (fun _ => none) | false => none) = some h := hh
        rw [b1, b2] at hh'
        cases hh'
/-- A law that answers true in values answers true on the machine, and turns nothing that was there. -/
theorem law_calls {f : Nat} {args : List AV} {vs : Array Value} {W : World} (h : ∃ m', AC cfg f args [] = some (.bool true, m')) (hl : args.length = vs.size) (hv : ∀ j, j < args.length → V W g0 (args.getD j .any) (vs.getD j undef)) :
    Calls Try.prog f vs W fun e W' => e = .returned (.bool true) ∧ Below W.heap.size W W' := by
  obtain ⟨m', hm'⟩ := h
  refine ((AC_sound cfgOk f args [] _ _ hm').1 W.heap.size W g0 vs (memR0 W) (Nat.le_refl _) hl hv).mono ?_
  rintro e W' ⟨v', g', rfl, hs, _, hv'⟩
  cases hv'
  exact ⟨rfl, hs.below⟩

/-! ### Types -/
theorem u3 : Try.prog.underlying 3 = some (.int .i64) := by kernel_rfl
theorem u4 : Try.prog.underlying 4 = some .bool := by kernel_rfl
theorem u116 : Try.prog.underlying 116 = some (.int .u32) := by kernel_rfl
theorem u41 : Try.prog.underlying 41 = some (.slice 116) := by kernel_rfl
theorem u22 : Try.prog.underlying 22 = some (.slice 43) := by kernel_rfl
theorem c3 : Try.prog.cellsOf 3 = 1 := by kernel_rfl
theorem c4 : Try.prog.cellsOf 4 = 1 := by kernel_rfl
theorem c22 : Try.prog.cellsOf 22 = 1 := by kernel_rfl
theorem c24 : Try.prog.cellsOf 24 = 3 := by kernel_rfl
theorem c41 : Try.prog.cellsOf 41 = 1 := by kernel_rfl
theorem c43 : Try.prog.cellsOf 43 = 3 := by kernel_rfl
theorem c116 : Try.prog.cellsOf 116 = 1 := by kernel_rfl
noncomputable def fieldsOf (t : Nat) : Array Field := match Try.prog.underlying t with
  | some (.struct fs) => fs
  | _ => #[]
theorem u43 : Try.prog.underlying 43 = some (.struct (fieldsOf 43)) := by kernel_rfl
theorem u24 : Try.prog.underlying 24 = some (.struct (fieldsOf 24)) := by kernel_rfl
theorem f43 : (fieldsOf 43).toList.map (fun f => (f.type, f.offset)) = [(4, 0), (41, 1), (41, 2)] := by kernel_rfl
theorem f24 : (fieldsOf 24).toList.map (fun f => (f.type, f.offset)) = [(3, 0), (3, 1), (22, 2)] := by kernel_rfl

/-! ### Cells -/
theorem cells_get {w : World} {a : Addr} {n : Nat} {cs : List Value} (h : w.cells? 0 a n = some cs) : cs.length = n ∧ ∀ j, j < n → w.cell? (a.add j) = cs[j]? := by
  unfold World.cells? at h
  rw [if_pos (Nat.zero_le _)] at h
  refine ⟨by simpa using mapM_some_length h, fun j hj => mapM_some_get h j j (by simp [hj])⟩
theorem cell_spot {w : World} {a : Addr} {u : Value} (h : w.cell? a = some u) : a.spot = none := World.cell?_spot h
theorem add_mk {a : Addr} (h : a.spot = none) (j : Nat) : a.add j = ⟨a.block, a.off + j, none⟩ := by
  obtain ⟨b, o, s⟩ := a
  subst h
  exact Addr_add b o j
theorem three {α : Type} {cs : List α} (h : cs.length = 3) : ∃ a b c, cs = [a, b, c] := by
  match cs, h with
  | [a, b, c], _ => exact ⟨a, b, c, rfl⟩

section
variable {H : Type} {enc : TypeId × Value → H} {W : World} {fuel : Nat} {cs : List Value} {x : DataW H × List MemPlace}

theorem field_read {t : Nat} (ht : Try.prog.underlying t = some (.struct (fieldsOf t))) (h : DataW.trod enc Try.prog W 0 (fun _ => true) true fuel t cs = some x) {t' off i : Nat} (hi : ((fieldsOf t).toList.map (fun f => (f.type, f.offset)))[i]? = some (t', off)) :
    ∃ n y, DataW.trod enc Try.prog W 0 (fun _ => true) true n t' ((cs.drop off).take (Try.prog.cellsOf t')) = some y := by
  obtain ⟨xs, n, rfl, _, _, hl, hf⟩ := DataW.trod_struct ht h
  rw [List.getElem?_map, Option.map_eq_some_iff] at hi
  obtain ⟨f, h1, h2⟩ := hi
  obtain ⟨rfl, rfl⟩ := Prod.mk.inj h2
  have hfi : (fieldsOf t)[i]? = some f := by rw [← h1, Array.getElem?_toList]
  have := hf i f hfi
  have hlt : i < xs.length := by
    rw [hl]
    obtain ⟨h, _⟩ := Array.getElem?_eq_some_iff.1 hfi
    exact h
  rw [List.getElem?_eq_getElem hlt] at this
  exact ⟨n, _, this⟩

theorem u32_at {a : Addr} {i : Nat} (h : (W.cells? 0 (a.add (i * Try.prog.cellsOf 116)) (Try.prog.cellsOf 116)).bind (DataW.trod enc Try.prog W 0 (fun _ => true) true fuel 116) = some x) : ∃ d : Nat, d < 4294967296 ∧ W.cell? (a.add i) = some (.int .u32 d) := by
  rw [c116, Nat.mul_one] at h
  obtain ⟨cs, h1, h2⟩ := Option.bind_eq_some_iff.1 h
  obtain ⟨n, rfl, _, hw⟩ := DataW.trod_int u116 h2
  have h3 := (cells_get h1).2 0 (by omega)
  have hw2 : 0 ≤ n ∧ n ≤ 4294967295 := by
    simp only [Lit.wf, Bool.and_eq_true, decide_eq_true_eq] at hw
    exact hw
  refine ⟨n.toNat, by omega, ?_⟩
  rw [Int.toNat_of_nonneg hw2.1]
  exact h3

/-- A number. -/
theorem nat_read (h : DataW.trod enc Try.prog W 0 (fun _ => true) true fuel 41 cs = some x) : ∃ v, ∃ y : NV, cs = [v] ∧ V W g0 y.av v ∧ XN y ∧ y.o = .no := by
  rcases DataW.trod_slice u41 h with ⟨rfl, _⟩ | ⟨a, len, cap, elems, rest, n, _, rfl, _, _, hl, hm, he, hel, hre, _⟩
  · exact ⟨_, ⟨true, .no, []⟩, rfl, .nils none .no (.inr rfl), ⟨fun i => by simp, fun _ => rfl⟩, rfl⟩
  · obtain ⟨hrl, hre⟩ := hre rfl
    have cell : ∀ i, ∃ d : Nat, i < cap → d < 4294967296 ∧ W.cell? (a.add i) = some (.int .u32 d) := by
      intro i
      by_cases hi : i < cap
      · by_cases hi2 : i < len
        · have h1 := hel i hi2
          rw [List.getElem?_eq_getElem (by omega)] at h1
          obtain ⟨d, hd⟩ := u32_at h1
          exact ⟨d, fun _ => hd⟩
        · have h1 := hre (i - len) (by omega)
          rw [List.getElem?_eq_getElem (by omega), show len + (i - len) = i by omega] at h1
          obtain ⟨d, hd⟩ := u32_at h1
          exact ⟨d, fun _ => hd⟩
      · exact ⟨0, fun h => absurd h hi⟩
    obtain ⟨f, hf⟩ := Classical.axiomOfChoice cell
    have hsp : cap = 0 ∨ a.spot = none := by
      by_cases h0 : cap = 0
      · exact .inl h0
      · exact .inr (cell_spot (hf 0 (by omega)).2)
    have hfl : flat (((List.range len).map f).map dg) = ((List.range len).map f).map dg := by
      generalize (List.range len).map f = l
      induction l with
      | nil => rfl
      | cons d l ih =>
        show (dg d).cells ++ flat (l.map dg) = _
        rw [ih]; rfl
    have hlen : (((List.range len).map f).map dg).length = len := by simp
    refine ⟨_, ⟨false, .no, (List.range len).map f⟩, rfl, ?_, ⟨fun i => ?_, fun h => by cases h⟩, rfl⟩
    · have hV := V.lst (w := W) (g := g0) none .no (((List.range len).map f).map dg) a cap (fun j => .int .u32 (f j)) hsp (by rw [hlen]; exact hl) hm
        (fun e he => by
          obtain ⟨d, _, rfl⟩ := List.mem_map.1 he
          exact ⟨rfl, rfl⟩)
        (fun j hj => by
          rw [hfl, hlen] at hj
          refine ⟨?_, fun h => h, fun h => h⟩
          have := (hf j (by omega)).2
          rw [add_mk (hsp.resolve_left (by omega))] at this
          exact this)
        (fun j hj => by
          rw [hfl, hlen] at hj
          rw [hfl, List.getD_eq_getElem?_getD, List.getElem?_map, List.getElem?_map, List.getElem?_range hj]
          exact .int _ _) trivial
      rw [hlen] at hV
      exact hV
    · show ((List.range len).map f).getD i 0 < _
      rw [List.getD_eq_getElem?_getD, List.getElem?_map]
      by_cases hi : i < len
      · rw [List.getElem?_range hi]
        exact (hf i (by omega)).1
      · rw [List.getElem?_eq_none (by simp; omega)]
        exact (by omega : 0 < 4294967296)

/-- A fraction. -/
theorem ratio_read (h : DataW.trod enc Try.prog W 0 (fun _ => true) true fuel 43 cs = some x) : ∃ c0 c1 c2, ∃ r : RV, cs = [c0, c1, c2] ∧ V W g0 (.bool r.neg) c0 ∧ V W g0 r.num.av c1 ∧ V W g0 r.den.av c2 ∧ XR r ∧ r.num.o = .no ∧ r.den.o = .no := by
  have hlen : cs.length = 3 := by
    obtain ⟨_, _, _, _, h1, _⟩ := DataW.trod_struct u43 h
    rw [h1, c43]
  obtain ⟨c0, c1, c2, rfl⟩ := three hlen
  obtain ⟨n0, y0, h0⟩ := field_read u43 h (t' := 4) (off := 0) (i := 0) (by rw [f43]; rfl)
  obtain ⟨n1, y1, h1⟩ := field_read u43 h (t' := 41) (off := 1) (i := 1) (by rw [f43]; rfl)
  obtain ⟨n2, y2, h2⟩ := field_read u43 h (t' := 41) (off := 2) (i := 2) (by rw [f43]; rfl)
  rw [c4] at h0
  rw [c41] at h1 h2
  obtain ⟨b, e0, _⟩ := DataW.trod_bool u4 h0
  obtain ⟨v1, z1, e1, q1, q2, q3⟩ := nat_read h1
  obtain ⟨v2, z2, e2, r1, r2, r3⟩ := nat_read h2
  simp only [List.drop_zero, List.drop_succ_cons, List.take_succ_cons, List.take_zero, List.cons.injEq, and_true] at e0 e1 e2
  subst e0; subst e1; subst e2
  refine ⟨_, _, _, ⟨b, z1, z2⟩, rfl, .bool b, q1, r1, ⟨q2, r2, ?_⟩, q3, r3⟩
  obtain ⟨a1, o1, d1⟩ := z1
  obtain ⟨a2, o2, d2⟩ := z2
  subst q3; subst r3
  rfl

theorem flat3 : ∀ (es : List RV) (j : Nat), j < es.length * 3 → (flat (es.map RV.av)).getD j .any = ((es.getD (j / 3) ⟨false, ⟨true, .no, []⟩, ⟨true, .no, []⟩⟩).av.cells).getD (j % 3) .any
  | [], j, h => by simp at h
  | r :: es, 0, h => rfl
  | r :: es, 1, h => rfl
  | r :: es, 2, h => rfl
  | r :: es, j + 3, h => by
    have ih := flat3 es j (by simp only [List.length_cons] at h; omega)
    have e1 : (j + 3) / 3 = j / 3 + 1 := by omega
    have e2 : (j + 3) % 3 = j % 3 := by omega
    rw [e1, e2, List.getD_cons_succ, ← ih]
    rfl
theorem flat3_len (es : List RV) : (flat (es.map RV.av)).length = es.length * 3 := by
  induction es with
  | nil => rfl
  | cons r es ih =>
    show (_ :: _ :: _ :: flat (es.map RV.av)).length = _
    rw [List.length_cons, List.length_cons, List.length_cons, ih, List.length_cons]; omega

theorem ratio_at {a : Addr} {i : Nat} (ha : i = 0 ∨ a.spot = none) (h : (W.cells? 0 (a.add (i * Try.prog.cellsOf 43)) (Try.prog.cellsOf 43)).bind (DataW.trod enc Try.prog W 0 (fun _ => true) true fuel 43) = some x) :
    a.spot = none ∧ ∃ r : RV, (XR r ∧ r.num.o = .no ∧ r.den.o = .no) ∧ ∀ j, j < 3 → ∃ u, W.cell? ⟨a.block, a.off + (i * 3 + j), none⟩ = some u ∧ V W g0 (r.av.cells.getD j .any) u := by
  rw [c43] at h
  obtain ⟨cs, h1, h2⟩ := Option.bind_eq_some_iff.1 h
  obtain ⟨c0, c1, c2, r, rfl, v0, v1, v2, xr, o1, o2⟩ := ratio_read h2
  have h3 := (cells_get h1).2
  have hs : a.spot = none := by
    rcases ha with rfl | ha
    · rw [Nat.zero_mul] at h3
      exact cell_spot (h3 0 (by omega))
    · exact ha
  refine ⟨hs, r, ⟨xr, o1, o2⟩, fun j hj => ?_⟩
  have h4 := h3 j hj
  rw [add_mk hs, Addr_add, Nat.add_assoc] at h4
  match j, hj with
  | 0, _ => exact ⟨c0, h4, v0⟩
  | 1, _ => exact ⟨c1, h4, v1⟩
  | 2, _ => exact ⟨c2, h4, v2⟩

theorem sh_rv {r : RV} (h1 : r.num.o = .no) (h2 : r.den.o = .no) : shOk (some 3) r.av = true ∧ pl r.av = true := by
  obtain ⟨b, ⟨a1, o1, d1⟩, ⟨a2, o2, d2⟩⟩ := r
  subst h1; subst h2
  exact ⟨rfl, rfl⟩

/-- A row of fractions. -/
theorem row_read (h : DataW.trod enc Try.prog W 0 (fun _ => true) true fuel 22 cs = some x) : ∃ v, ∃ l : LV, cs = [v] ∧ V W g0 l.av v ∧ (l.sh = some 3 ∨ l.es = []) ∧ (l.z = true → l.es = []) ∧ (∀ r ∈ l.es, XR r) ∧ l.o = .no := by
  rcases DataW.trod_slice u22 h with ⟨rfl, _⟩ | ⟨a, len, cap, elems, rest, n, _, rfl, _, _, hl, hm, he, hel, hre, _⟩
  · exact ⟨_, ⟨some 3, true, .no, []⟩, rfl, .nils _ .no (.inr rfl), .inl rfl, fun _ => rfl, (fun r hr => by cases hr), rfl⟩
  · obtain ⟨hrl, hre⟩ := hre rfl
    have raw : ∀ i, i < cap → ∃ y, (W.cells? 0 (a.add (i * Try.prog.cellsOf 43)) (Try.prog.cellsOf 43)).bind (DataW.trod enc Try.prog W 0 (fun _ => true) true n 43) = some y := by
      intro i hi
      by_cases hi2 : i < len
      · have h1 := hel i hi2
        rw [List.getElem?_eq_getElem (by omega)] at h1
        exact ⟨_, h1⟩
      · have h1 := hre (i - len) (by omega)
        rw [List.getElem?_eq_getElem (by omega), show len + (i - len) = i by omega] at h1
        exact ⟨_, h1⟩
    have hsp : cap = 0 ∨ a.spot = none := by
      by_cases h0 : cap = 0
      · exact .inl h0
      · obtain ⟨y, hy⟩ := raw 0 (by omega)
        exact .inr (ratio_at (.inl rfl) hy).1
    have cell : ∀ i, ∃ r : RV, i < cap → (XR r ∧ r.num.o = .no ∧ r.den.o = .no) ∧ ∀ j, j < 3 → ∃ u, W.cell? ⟨a.block, a.off + (i * 3 + j), none⟩ = some u ∧ V W g0 (r.av.cells.getD j .any) u := by
      intro i
      by_cases hi : i < cap
      · obtain ⟨y, hy⟩ := raw i hi
        obtain ⟨r, hr⟩ := (ratio_at (.inr (hsp.resolve_left (by omega))) hy).2
        exact ⟨r, fun _ => hr⟩
      · exact ⟨⟨false, ⟨true, .no, []⟩, ⟨true, .no, []⟩⟩, fun h => absurd h hi⟩
    obtain ⟨f, hf⟩ := Classical.axiomOfChoice cell
    have hlen : (((List.range len).map f).map RV.av).length = len := by simp
    have hlen0 : ((List.range len).map f).length = len := by simp
    have hget : ∀ j, j < len * 3 → ((List.range len).map f).getD (j / 3) ⟨false, ⟨true, .no, []⟩, ⟨true, .no, []⟩⟩ = f (j / 3) := by
      intro j hj
      rw [List.getD_eq_getElem?_getD, List.getElem?_map, List.getElem?_range (by omega)]
      rfl
    have hmem : ∀ r ∈ (List.range len).map f, XR r ∧ r.num.o = .no ∧ r.den.o = .no := by
      intro r hr
      obtain ⟨i, hi, rfl⟩ := List.mem_map.1 hr
      exact (hf i (by have := List.mem_range.1 hi; omega)).1
    have hcl : ∀ j, j < len * 3 → ∃ u, W.cell? ⟨a.block, a.off + j, none⟩ = some u ∧ V W g0 ((flat (((List.range len).map f).map RV.av)).getD j .any) u := by
      intro j hj
      rw [flat3 _ j (by rw [hlen0]; exact hj), hget j hj]
      have h1 := (hf (j / 3) (by omega)).2 (j % 3) (by omega)
      rw [show j / 3 * 3 + j % 3 = j by omega] at h1
      exact h1
    have hus : ∀ j, ∃ u, j < len * 3 → W.cell? ⟨a.block, a.off + j, none⟩ = some u ∧ V W g0 ((flat (((List.range len).map f).map RV.av)).getD j .any) u := by
      intro j
      by_cases hj : j < len * 3
      · obtain ⟨u, hu⟩ := hcl j hj
        exact ⟨u, fun _ => hu⟩
      · exact ⟨undef, fun h => absurd h hj⟩
    obtain ⟨us, hus⟩ := Classical.axiomOfChoice hus
    refine ⟨_, ⟨some 3, false, .no, (List.range len).map f⟩, rfl, ?_, .inl rfl, (fun h => by cases h), fun r hr => (hmem r hr).1, rfl⟩
    have hV := V.lst (w := W) (g := g0) (some 3) .no (((List.range len).map f).map RV.av) a cap us hsp (by rw [hlen]; exact hl) hm
      (fun e he => by
        obtain ⟨r, hr, rfl⟩ := List.mem_map.1 he
        exact sh_rv (hmem r hr).2.1 (hmem r hr).2.2)
      (fun j hj => by
        rw [flat3_len, hlen0] at hj
        exact ⟨(hus j hj).1, fun h => h, fun h => h⟩)
      (fun j hj => by
        rw [flat3_len, hlen0] at hj
        exact (hus j hj).2) trivial
    rw [hlen] at hV
    exact hV

/-- A matrix. -/
theorem mat_read {v : Value} {d : DataW H} {ps : List MemPlace} (hv : ∃ cs, v = .agg cs) (h : DataW.Trod enc Try.prog W 0 (fun _ => true) true 24 v d ps) : ∃ y : MV, V W g0 y.av v ∧ XM y ∧ y.fr = y := by
  obtain ⟨cs, rfl⟩ := hv
  obtain ⟨fuel, h⟩ := h
  have hlen : cs.toList.length = 3 := by
    obtain ⟨_, _, _, _, h1, _⟩ := DataW.trod_struct u24 h
    rw [c24] at h1
    exact h1
  have h : DataW.trod enc Try.prog W 0 (fun _ => true) true fuel 24 cs.toList = some (d, ps) := h
  obtain ⟨v0, v1, v2, hcs⟩ := three hlen
  obtain rfl : cs = #[v0, v1, v2] := by
    cases cs
    simp_all
  obtain ⟨n0, y0, h0⟩ := field_read u24 h (t' := 3) (off := 0) (i := 0) (by rw [f24]; rfl)
  obtain ⟨n1, y1, h1⟩ := field_read u24 h (t' := 3) (off := 1) (i := 1) (by rw [f24]; rfl)
  obtain ⟨n2, y2, h2⟩ := field_read u24 h (t' := 22) (off := 2) (i := 2) (by rw [f24]; rfl)
  rw [c3] at h0 h1
  rw [c22] at h2
  obtain ⟨a, e0, _⟩ := DataW.trod_int u3 h0
  obtain ⟨b, e1, _⟩ := DataW.trod_int u3 h1
  obtain ⟨v, l, e2, q1, q2, q3, q4, q5⟩ := row_read h2
  simp only [List.drop_zero, List.drop_succ_cons, List.take_succ_cons, List.take_zero, List.cons.injEq, and_true] at e0 e1 e2
  subst e0; subst e1; subst e2
  refine ⟨⟨a, b, l⟩, .agg _ _ rfl fun j hj => ?_, ⟨q2, q3, q4⟩, ?_⟩
  · match j, hj with
    | 0, _ => exact .int _ _
    | 1, _ => exact .int _ _
    | 2, _ => exact q1
  · obtain ⟨sh, z, o, es⟩ := l
    subst q5
    rfl
theorem okWide_agg {base : Nat} {t : Nat} {v : Value} {fs : Array Field} (ht : Try.prog.underlying t = some (.struct fs)) (h : Value.okWide Try.prog W .any base t v) : ∃ cs, v = .agg cs := by
  simp only [Value.okWide, ht] at h
  obtain ⟨cs, h, _⟩ := h
  exact ⟨cs, h⟩
end
end Go.Ab
