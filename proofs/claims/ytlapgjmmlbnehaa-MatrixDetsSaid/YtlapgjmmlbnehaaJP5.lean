/- Row operations in plain Lean: chains, systems, steps, ranks. -/
import Derived.Test.YtlapgjmmlbnehaaJP4
import Derived.Test.YtlapgjmmlbnehaaJP1
import Derived.Test.YtlapgjmmlbnehaaJP2
import Derived.RangeFuncFrom
import Derived.RangeFuncLeaves
import Derived.ProofKit
import Derived.OpenShut
import Derived.ChangeArms
import Derived.KernelRfl
import Derived.OrdersIn
import Derived.Shelf.Abstract
set_option linter.unusedVariables false
set_option linter.unusedSimpArgs false
set_option linter.unusedSectionVars false
namespace Go.Ab

def Agr (n c : Nat) (M N : MX) : Prop := ∀ i k, i < n → k < c → M i k = N i k
/-- One matrix is brought to another by operations on its n rows; so much is its determinant multiplied by. -/
inductive RE (n c : Nat) (M : MX) : MX → Rat → Prop
  | refl : RE n c M M 1
  | add (N : MX) (s : Rat) (r t : Nat) (f : Rat) (h : RE n c M N s) (hr : r < n) (ht : t < n) (hne : r ≠ t) : RE n c M (addR N r t f) s
  | swp (N : MX) (s : Rat) (r t : Nat) (h : RE n c M N s) (hr : r < n) (ht : t < n) (hne : r ≠ t) : RE n c M (swpR N r t) (-s)
  | scl (N : MX) (s : Rat) (r : Nat) (a : Rat) (h : RE n c M N s) (hr : r < n) (ha : a ≠ 0) : RE n c M (sclR N r a) (a * s)
  | cong (N N' : MX) (s : Rat) (h : RE n c M N s) (e : Agr n c N N') : RE n c M N' s
section
variable {n c : Nat} {M N : MX} {s : Rat}
theorem RE.det (h : RE n c M N s) (hc : n ≤ c) : det n N = s * Ab.det n M := by
  induction h with
  | refl => grind
  | add N s r t f h hr ht hne ih => rw [det_add N f hr ht hne, ih]
  | swp N s r t h hr ht hne ih => rw [det_swp N hr ht hne, ih]; grind
  | scl N s r a h hr ha ih => rw [det_scl N a hr, ih]; grind
  | cong N N' s h e ih => rw [← ih]; exact det_congr fun r k hr hk => (e r k hr (by omega)).symm
theorem RE.ne0 (h : RE n c M N s) : s ≠ 0 := by
  induction h with
  | refl => decide
  | add N s r t f h hr ht hne ih => exact ih
  | swp N s r t h hr ht hne ih => intro e; apply ih; grind
  | scl N s r a h hr ha ih => intro e; apply ih; grind
  | cong N N' s h e ih => exact ih
/-- A system without right side. -/
def rowS (c : Nat) (M : MX) (x : Nat → Rat) (i : Nat) : Rat := sumR c fun j => M i j * x j
def Sys (n c : Nat) (M : MX) (x : Nat → Rat) : Prop := ∀ i, i < n → rowS c M x i = 0
theorem rowS_lin (a b : Rat) (u v x : Nat → Rat) : sumR c (fun j => (a * u j + b * v j) * x j) = a * sumR c (fun j => u j * x j) + b * sumR c (fun j => v j * x j) := by
  rw [← sumR_lin]; exact sumR_congr fun k _ => by grind
theorem rowS_add (N : MX) (r t : Nat) (f : Rat) (x : Nat → Rat) (i : Nat) : rowS c (addR N r t f) x i = if i = t then rowS c N x t - f * rowS c N x r else rowS c N x i := by
  unfold rowS addR
  by_cases h : i = t
  · simp only [if_pos h]
    have := rowS_lin (c := c) 1 (-f) (N t) (N r) x
    rw [sumR_congr (g := fun j => (1 * N t j + -f * N r j) * x j) fun k _ => by grind, this]; grind
  · simp only [if_neg h]
theorem rowS_scl (N : MX) (r : Nat) (a : Rat) (x : Nat → Rat) (i : Nat) : rowS c (sclR N r a) x i = if i = r then a * rowS c N x r else rowS c N x i := by
  unfold rowS sclR
  by_cases h : i = r
  · simp only [if_pos h]
    rw [← sumR_mul]; exact sumR_congr fun k _ => by grind
  · simp only [if_neg h]
theorem rowS_swp (N : MX) (r t : Nat) (x : Nat → Rat) (i : Nat) : rowS c (swpR N r t) x i = if i = r then rowS c N x t else if i = t then rowS c N x r else rowS c N x i := by
  unfold rowS swpR
  split
  · rfl
  · split <;> rfl
theorem RE.sys (h : RE n c M N s) (x : Nat → Rat) : Sys n c N x ↔ Sys n c M x := by
  induction h with
  | refl => exact Iff.rfl
  | add N s r t f h hr ht hne ih =>
    rw [← ih]
    constructor
    · intro hs i hi
      have h1 := hs i hi
      have h2 := hs r hr
      rw [rowS_add] at h1 h2
      rw [if_neg hne] at h2
      by_cases e : i = t
      · rw [if_pos e] at h1; subst e; grind
      · rw [if_neg e] at h1; exact h1
    · intro hs i hi
      rw [rowS_add]
      split
      · rw [hs t ht, hs r hr]; grind
      · exact hs i hi
  | swp N s r t h hr ht hne ih =>
    rw [← ih]
    constructor
    · intro hs i hi
      by_cases e : i = r
      · have := hs t ht
        rw [rowS_swp, if_neg hne.symm, if_pos rfl] at this
        rw [e]; exact this
      · by_cases e2 : i = t
        · have := hs r hr
          rw [rowS_swp, if_pos rfl] at this
          rw [e2]; exact this
        · have := hs i hi
          rw [rowS_swp, if_neg e, if_neg e2] at this
          exact this
    · intro hs i hi
      rw [rowS_swp]
      split
      · exact hs t ht
      · split
        · exact hs r hr
        · exact hs i hi
  | scl N s r a h hr ha ih =>
    rw [← ih]
    constructor
    · intro hs i hi
      have h1 := hs i hi
      rw [rowS_scl] at h1
      by_cases e : i = r
      · rw [if_pos e] at h1; subst e; grind
      · rw [if_neg e] at h1; exact h1
    · intro hs i hi
      rw [rowS_scl]
      split
      · rw [hs r hr]; grind
      · exact hs i hi
  | cong N N' s h e ih =>
    rw [← ih]
    have : ∀ i, i < n → rowS c N' x i = rowS c N x i := fun i hi => sumR_congr fun k hk => by rw [e i k hi hk]
    exact ⟨fun hs i hi => by rw [← this i hi]; exact hs i hi, fun hs i hi => by rw [this i hi]; exact hs i hi⟩
/-! ### A column cleared -/
/-- The rows from a to m, but r, are cleared in a column by row r. -/
def clrB (a m : Nat) (N : MX) (r col : Nat) : MX := fun i j => if a ≤ i ∧ i < m ∧ i ≠ r then N i j - N i col / N r col * N r j else N i j
theorem RE.clr (h : RE n c M N s) {r col : Nat} (hr : r < n) (a : Nat) : ∀ m, m ≤ n → RE n c M (clrB a m N r col) s
  | 0, _ => by
    have : clrB a 0 N r col = N := by funext i j; exact if_neg (by omega)
    rw [this]; exact h
  | m + 1, hm => by
    have ih := RE.clr h hr a (col := col) m (by omega)
    by_cases hc : a ≤ m ∧ m ≠ r
    · have := RE.add _ _ r m (N m col / N r col) ih hr (by omega) (fun e => hc.2 e.symm)
      have e : addR (clrB a m N r col) r m (N m col / N r col) = clrB a (m + 1) N r col := by
        funext i j
        unfold addR clrB
        by_cases hi : i = m
        · subst hi
          rw [if_pos rfl, if_neg (by omega), if_neg (by omega), if_pos (by omega)]
        · rw [if_neg hi]
          by_cases h2 : a ≤ i ∧ i < m ∧ i ≠ r
          · rw [if_pos h2, if_pos (by omega)]
          · rw [if_neg h2, if_neg (by omega)]
      rw [← e]; exact this
    · have e : clrB a (m + 1) N r col = clrB a m N r col := by
        funext i j
        unfold clrB
        by_cases h2 : a ≤ i ∧ i < m ∧ i ≠ r
        · rw [if_pos h2, if_pos (by omega)]
        · rw [if_neg h2, if_neg (by omega)]
      rw [e]; exact ih
/-! ### Steps -/
/-- The first col columns stand in r steps. -/
structure Ech (n : Nat) (N : MX) (r col : Nat) (cs : Nat → Nat) : Prop where
  le : r ≤ n
  lt : ∀ i, i < r → cs i < col
  mono : ∀ i j, i < j → j < r → cs i < cs j
  piv : ∀ i, i < r → N i (cs i) ≠ 0
  lead : ∀ i, i < r → ∀ j, j < cs i → N i j = 0
  rest : ∀ i, r ≤ i → i < n → ∀ j, j < col → N i j = 0
variable {r col : Nat} {cs : Nat → Nat}
theorem ech0 (n : Nat) (N : MX) (cs : Nat → Nat) : Ech n N 0 0 cs := ⟨Nat.zero_le _, fun i h => by omega, fun i j _ h => by omega, fun i h => by omega, fun i h => by omega, fun i _ _ j h => by omega⟩
theorem Ech.skip (E : Ech n N r col cs) (h : ∀ i, r ≤ i → i < n → N i col = 0) : Ech n N r (col + 1) cs :=
  ⟨E.le, fun i hi => by have := E.lt i hi; omega, E.mono, E.piv, E.lead, fun i h1 h2 j hj => by
    by_cases e : j = col
    · rw [e]; exact h i h1 h2
    · exact E.rest i h1 h2 j (by omega)⟩
theorem Ech.take (E : Ech n N r col cs) {N1 : MX} (hr : r < n) (h1 : ∀ i j, i < r → j < col → N1 i j = N i j) (h2 : ∀ i j, r ≤ i → i < n → j < col → N1 i j = 0) (h3 : N1 r col ≠ 0) (h4 : ∀ i, r < i → i < n → N1 i col = 0) : Ech n N1 (r + 1) (col + 1) (fun i => if i = r then col else cs i) := by
  refine ⟨by omega, fun i hi => ?_, fun i j hij hj => ?_, fun i hi => ?_, fun i hi j hj => ?_, fun i hi hn j hj => ?_⟩
  · split
    · omega
    · have := E.lt i (by omega); omega
  · by_cases e : j = r
    · rw [if_neg (by omega), if_pos e]; exact E.lt i (by omega)
    · rw [if_neg (by omega), if_neg e]; exact E.mono i j hij (by omega)
  · by_cases e : i = r
    · rw [if_pos e, e]; exact h3
    · rw [if_neg e, h1 i _ (by omega) (E.lt i (by omega))]; exact E.piv i (by omega)
  · by_cases e : i = r
    · rw [if_pos e] at hj; rw [e]; exact h2 r j (by omega) hr hj
    · rw [if_neg e] at hj
      have := E.lt i (by omega)
      rw [h1 i j (by omega) (by omega)]
      exact E.lead i (by omega) j hj
  · by_cases e : j = col
    · rw [e]; exact h4 i (by omega) hn
    · exact h2 i j (by omega) hn (by omega)
/-- A column hangs on those before it. -/
def DepC (n c : Nat) (M : MX) (k : Nat) : Prop := ∃ x : Nat → Rat, x k ≠ 0 ∧ (∀ j, k < j → x j = 0) ∧ Sys n c M x
theorem RE.dep (h : RE n c M N s) (k : Nat) : DepC n c N k ↔ DepC n c M k :=
  ⟨fun ⟨x, h1, h2, h3⟩ => ⟨x, h1, h2, (h.sys x).1 h3⟩, fun ⟨x, h1, h2, h3⟩ => ⟨x, h1, h2, (h.sys x).2 h3⟩⟩
theorem Ech.not_dep (E : Ech n N r col cs) (hc : col ≤ c) {i : Nat} (hi : i < r) : ¬ DepC n c N (cs i) := by
  rintro ⟨x, h1, h2, h3⟩
  have hlt := E.lt i hi
  have := h3 i (by have := E.le; omega)
  unfold rowS at this
  rw [sumR_one (show cs i < c by omega) fun k hk hne => ?_] at this
  · have h4 := E.piv i hi
    grind
  · by_cases hk2 : k < cs i
    · rw [E.lead i hi k hk2]; grind
    · rw [h2 k (by omega)]; grind
theorem Ech.dep (E : Ech n N r col cs) (hc : col ≤ c) {k : Nat} (hk : k < col) (hne : ∀ i, i < r → cs i ≠ k) : DepC n c N k := by
  have key : ∀ d m, m + d = r → ∃ x : Nat → Rat, x k = 1 ∧ (∀ j, k < j → x j = 0) ∧ ∀ i, m ≤ i → i < n → rowS c N x i = 0 := by
    intro d
    induction d with
    | zero =>
      intro m hm
      refine ⟨fun j => if j = k then 1 else 0, if_pos rfl, fun j hj => if_neg (by omega), fun i h1 h2 => ?_⟩
      unfold rowS
      refine sumR_all0 fun j hj => ?_
      by_cases e : j = k
      · rw [e, E.rest i (by omega) h2 k hk]; grind
      · simp only [if_neg e]; grind
    | succ d ih =>
      intro m hm
      obtain ⟨x, h1, h2, h3⟩ := ih (m + 1) (by omega)
      have hmr : m < r := by omega
      have hml := E.lt m hmr
      have hmn := hne m hmr
      by_cases hkm : k < cs m
      · refine ⟨x, h1, h2, fun i hi hn => ?_⟩
        by_cases e : i = m
        · subst e
          unfold rowS
          refine sumR_all0 fun j hj => ?_
          by_cases hj2 : j < cs i
          · rw [E.lead i hmr j hj2]; grind
          · rw [h2 j (by omega)]; grind
        · exact h3 i (by omega) hn
      · have hp := E.piv m hmr
        have hrow : ∀ i, rowS c N (fun j => if j = cs m then x j + -(rowS c N x m / N m (cs m)) else x j) i = rowS c N x i + N i (cs m) * -(rowS c N x m / N m (cs m)) := fun i => by
          have e1 : rowS c N (fun j => if j = cs m then x j + -(rowS c N x m / N m (cs m)) else x j) i = sumR c (fun j => N i j * x j + (if j = cs m then N i j * -(rowS c N x m / N m (cs m)) else 0)) := sumR_congr fun j _ => by split <;> grind
          rw [e1, sumR_add, sumR_one (f := fun j => if j = cs m then N i j * -(rowS c N x m / N m (cs m)) else 0) (show cs m < c by omega) fun j _ hj => if_neg hj, if_pos rfl]; rfl
        refine ⟨fun j => if j = cs m then x j + -(rowS c N x m / N m (cs m)) else x j, ?_, fun j hj => ?_, fun i hi hn => ?_⟩
        · show (if k = cs m then _ else x k) = 1
          rw [if_neg (fun e => hmn e.symm)]; exact h1
        · show (if j = cs m then _ else x j) = 0
          rw [if_neg (by omega)]; exact h2 j hj
        · rw [hrow i]
          by_cases e : i = m
          · subst e; grind
          · rw [h3 i (by omega) hn]
            have : N i (cs m) = 0 := by
              by_cases hir : i < r
              · exact E.lead i hir _ (E.mono m i (by omega) hir)
              · exact E.rest i (by omega) hn _ hml
            rw [this]; grind
  obtain ⟨x, h1, h2, h3⟩ := key r 0 (by omega)
  exact ⟨x, by rw [h1]; decide, h2, fun i hi => h3 i (Nat.zero_le _) hi⟩
/-! ### How many steps there are -/
open Classical in
noncomputable def pivB (n c : Nat) (M : MX) (k : Nat) : Bool := decide (¬ DepC n c M k)
theorem pivB_t {n c : Nat} {M : MX} {k : Nat} (h : ¬ DepC n c M k) : pivB n c M k = true := by unfold pivB; simp [h]
theorem pivB_f {n c : Nat} {M : MX} {k : Nat} (h : DepC n c M k) : pivB n c M k = false := by unfold pivB; simp [h]
/-- What a matrix has been brought to. -/
structure EC (n c : Nat) (M N : MX) (s : Rat) (r col : Nat) (cs : Nat → Nat) : Prop where
  ech : Ech n N r col cs
  re : RE n c M N s
  cnt : cntU (pivB n c M) col = r
theorem EC.skip (H : EC n c M N s r col cs) (hc : col < c) (h : ∀ i, r ≤ i → i < n → N i col = 0) : EC n c M N s r (col + 1) cs := by
  have E := H.ech.skip h
  refine ⟨E, H.re, ?_⟩
  have hd : DepC n c M col := (H.re.dep col).1 (E.dep hc (Nat.lt_succ_self _) fun i hi => by have := H.ech.lt i hi; omega)
  rw [cntU, H.cnt, pivB_f hd]; rfl
theorem EC.take (H : EC n c M N s r col cs) {N1 : MX} {s1 : Rat} (hc : col < c) (hr : r < n) (h : RE n c M N1 s1) (h1 : ∀ i j, i < r → j < col → N1 i j = N i j) (h2 : ∀ i j, r ≤ i → i < n → j < col → N1 i j = 0) (h3 : N1 r col ≠ 0) (h4 : ∀ i, r < i → i < n → N1 i col = 0) : EC n c M N1 s1 (r + 1) (col + 1) (fun i => if i = r then col else cs i) := by
  have E := H.ech.take hr h1 h2 h3 h4
  refine ⟨E, h, ?_⟩
  have hd : ¬ DepC n c M col := fun hh => by
    have := E.not_dep hc (i := r) (by omega)
    simp only [if_true] at this
    exact this ((h.dep col).2 hh)
  rw [cntU, H.cnt, pivB_t hd]; rfl
theorem EC.full (H : EC n c M N s n col cs) : ∀ d, col + d ≤ c → EC n c M N s n (col + d) cs
  | 0, _ => H
  | d + 1, h => (EC.full H d (by omega)).skip (by omega) fun i h1 h2 => by omega
theorem ec0 (n c : Nat) (M : MX) (cs : Nat → Nat) : EC n c M M 1 0 0 cs := ⟨ech0 n M cs, .refl, rfl⟩
/-- As many steps as columns: they stand one behind another. -/
theorem Ech.id (E : Ech n N n n cs) : ∀ i, i < n → cs i = i := by
  have lo : ∀ i, i < n → i ≤ cs i := by
    intro i
    induction i with
    | zero => intro _; omega
    | succ i ih => intro hi; have := ih (by omega); have := E.mono i (i + 1) (by omega) hi; omega
  have hi : ∀ d i, i + d + 1 = n → cs i ≤ i := by
    intro d
    induction d with
    | zero => intro i h; have := E.lt i (by omega); omega
    | succ d ih => intro i h; have := ih (i + 1) (by omega); have := E.mono i (i + 1) (by omega) (by omega); omega
  intro i h
  have := lo i h
  have := hi (n - i - 1) i (by omega)
  omega
theorem Ech.tri (E : Ech n N n n cs) : ∀ i k, i < n → k < i → N i k = 0 := fun i k hi hk => E.lead i hi k (by rw [E.id i hi]; exact hk)
end
end Go.Ab

/- Determinants in plain Lean: products and transposes. -/
set_option linter.unusedVariables false
set_option linter.unusedSimpArgs false
set_option linter.unusedSectionVars false
namespace Go.Ab

/-- A matrix brought to steps that are reduced. -/
structure Red (n : Nat) (M N : MX) (s : Rat) (r col : Nat) (cs : Nat → Nat) : Prop where
  ech : Ech n N r col cs
  re : RE n n M N s
  red : ∀ i, i < r → ∀ j, j < n → j ≠ i → N j (cs i) = 0
theorem clrB_row {a m : Nat} {N : MX} {r col : Nat} {j : Nat} : clrB a m N r col r j = N r j := if_neg (by omega)
theorem clrB_hit {a m : Nat} {N : MX} {r col : Nat} {i j : Nat} (h : a ≤ i ∧ i < m ∧ i ≠ r) : clrB a m N r col i j = N i j - N i col / N r col * N r j := if_pos h
theorem clrB_not {a m : Nat} {N : MX} {r col : Nat} {i j : Nat} (h : ¬ (a ≤ i ∧ i < m ∧ i ≠ r)) : clrB a m N r col i j = N i j := if_neg h
theorem clrB_zero {a m : Nat} {N : MX} {r col : Nat} {i j : Nat} (h : N r j = 0) : clrB a m N r col i j = N i j := by
  unfold clrB; split
  · rw [h]; grind
  · rfl
theorem clrB_col {a m : Nat} {N : MX} {r col : Nat} {i : Nat} (hp : N r col ≠ 0) (h : a ≤ i ∧ i < m ∧ i ≠ r) : clrB a m N r col i col = 0 := by
  rw [clrB_hit h]; grind
theorem Red.step {n : Nat} {M N : MX} {s : Rat} {r col : Nat} {cs : Nat → Nat} (R : Red n M N s r col cs) (hc : col < n) : ∃ N' s' r' cs', Red n M N' s' r' (col + 1) cs' := by
  by_cases h : ∀ i, r ≤ i → i < n → N i col = 0
  · exact ⟨N, s, r, cs, R.ech.skip h, R.re, R.red⟩
  · have : ∃ p, r ≤ p ∧ p < n ∧ N p col ≠ 0 := by
      refine Classical.byContradiction fun hn => h fun i h1 h2 => Classical.byContradiction fun h3 => hn ⟨i, h1, h2, h3⟩
    obtain ⟨p, h1, h2, h3⟩ := this
    -- the pivot's row goes up
    have up : ∃ (P : MX) (s1 : Rat), RE n n M P s1 ∧ (∀ i j, i < r → P i j = N i j) ∧ (∀ i j, r ≤ i → i < n → j < col → P i j = 0) ∧ P r col ≠ 0 ∧ ∀ i, i < r → ∀ q, r ≤ q → q < n → P q (cs i) = 0 := by
      by_cases e : p = r
      · subst e
        exact ⟨N, s, R.re, fun _ _ _ => rfl, fun i j a b d => R.ech.rest i a b j d, h3, fun i hi q a b => R.ech.rest q a b _ (R.ech.lt i hi)⟩
      · have hz : ∀ i j, r ≤ i → i < n → j < col → swpR N r p i j = 0 := fun i j a b d => by
          unfold swpR
          split
          · exact R.ech.rest p h1 h2 j d
          · split
            · exact R.ech.rest r (Nat.le_refl _) (by omega) j d
            · exact R.ech.rest i a b j d
        exact ⟨swpR N r p, -s, .swp N s r p R.re (by omega) h2 (fun e2 => e e2.symm), fun i j hi => by unfold swpR; rw [if_neg (by omega), if_neg (by omega)], hz, by unfold swpR; rw [if_pos rfl]; exact h3, fun i hi q a b => hz q _ a b (R.ech.lt i hi)⟩
    obtain ⟨P, s1, re, u1, u2, u3, u4⟩ := up
    have hr : r < n := by omega
    have E1 : Ech n (clrB 0 n P r col) (r + 1) (col + 1) (fun i => if i = r then col else cs i) := by
      refine R.ech.take hr (fun i j hi hj => ?_) (fun i j a b d => ?_) (by rw [clrB_row]; exact u3) (fun i a b => clrB_col u3 ⟨by omega, b, by omega⟩)
      · rw [clrB_zero (u2 r j (Nat.le_refl _) hr hj), u1 i j hi]
      · rw [clrB_zero (u2 r j (Nat.le_refl _) hr d)]; exact u2 i j a b d
    refine ⟨_, s1, r + 1, _, E1, re.clr hr 0 n (Nat.le_refl n), fun i hi j hj hne => ?_⟩
    by_cases e : i = r
    · simp only [if_pos e]
      exact clrB_col u3 ⟨by omega, hj, by omega⟩
    · simp only [if_neg e]
      rw [clrB_zero (u4 i (by omega) r (Nat.le_refl _) hr)]
      by_cases hjr : j < r
      · rw [u1 j _ hjr]; exact R.red i (by omega) j hj hne
      · exact u4 i (by omega) j (by omega) hj
theorem red_ex (n : Nat) (M : MX) : ∃ N s r cs, Red n M N s r n cs := by
  have : ∀ col, col ≤ n → ∃ N s r cs, Red n M N s r col cs := by
    intro col
    induction col with
    | zero => intro _; exact ⟨M, 1, 0, fun _ => 0, ech0 n M _, .refl, fun i h => by omega⟩
    | succ col ih =>
      intro h
      obtain ⟨N, s, r, cs, R⟩ := ih (by omega)
      exact R.step (by omega)
  exact this n (Nat.le_refl n)
/-- Diagonal, or with a row of zeros. -/
theorem red_end (n : Nat) (M : MX) : ∃ N s, RE n n M N s ∧ ((∀ i j, i < n → j < n → i ≠ j → N i j = 0) ∨ ∃ r, r < n ∧ ∀ j, j < n → N r j = 0) := by
  obtain ⟨N, s, r, cs, R⟩ := red_ex n M
  refine ⟨N, s, R.re, ?_⟩
  by_cases h : r = n
  · subst h
    left
    intro i j hi hj hne
    have := R.red j hj i hi hne
    rwa [R.ech.id j hj] at this
  · right
    exact ⟨r, by have := R.ech.le; omega, fun j hj => R.ech.rest r (Nat.le_refl _) (by have := R.ech.le; omega) j hj⟩
/-! ### Products -/
def mulM (n : Nat) (A B : MX) : MX := fun i k => sumR n fun j => A i j * B j k
def idM : MX := fun i j => if i = j then 1 else 0
def trM (A : MX) : MX := fun i j => A j i
section
variable {n : Nat} {M N : MX} {s : Rat}
/-- What brings A to N brings AB to NB. -/
theorem RE.mul (h : RE n n M N s) (B : MX) : RE n n (mulM n M B) (mulM n N B) s := by
  induction h with
  | refl => exact .refl
  | add N s r t f h hr ht hne ih =>
    refine .cong _ _ _ (.add _ s r t f ih hr ht hne) fun i k hi hk => ?_
    unfold addR mulM
    by_cases e : i = t
    · simp only [if_pos e]
      have := sumR_lin 1 (-f) (fun j => N t j * B j k) (fun j => N r j * B j k) n
      rw [sumR_congr (f := fun j => (N t j - f * N r j) * B j k) (g := fun j => 1 * (N t j * B j k) + -f * (N r j * B j k)) fun j _ => by grind, this]; grind
    · simp only [if_neg e]
  | swp N s r t h hr ht hne ih =>
    refine .cong _ _ _ (.swp _ s r t ih hr ht hne) fun i k hi hk => ?_
    unfold swpR mulM
    by_cases a : i = r
    · simp only [if_pos a]
    · by_cases b : i = t
      · simp only [if_neg a, if_pos b]
      · simp only [if_neg a, if_neg b]
  | scl N s r a h hr ha ih =>
    refine .cong _ _ _ (.scl _ s r a ih hr ha) fun i k hi hk => ?_
    unfold sclR mulM
    by_cases e : i = r
    · simp only [if_pos e]
      rw [← sumR_mul]; exact sumR_congr fun j _ => by grind
    · simp only [if_neg e]
  | cong N N' s h e ih =>
    refine .cong _ _ _ ih fun i k hi hk => sumR_congr fun j hj => by rw [e i j hi hj]
/-- Rows times numbers. -/
def rowsD (d : Nat → Rat) (B : MX) (m : Nat) : MX := fun i j => if i < m then d i * B i j else B i j
def prodR (d : Nat → Rat) : Nat → Rat
  | 0 => 1
  | m + 1 => prodR d m * d m
theorem det_rows (d : Nat → Rat) (B : MX) : ∀ m, m ≤ n → det n (rowsD d B m) = prodR d m * det n B
  | 0, _ => by
    have : rowsD d B 0 = B := by funext i j; exact if_neg (by omega)
    rw [this]; simp only [prodR]; grind
  | m + 1, h => by
    have ih := det_rows d B m (by omega)
    have := det_scl (n := n) (rowsD d B m) (r := m) (d m) (by omega)
    have e : sclR (rowsD d B m) m (d m) = rowsD d B (m + 1) := by
      funext i j
      unfold sclR rowsD
      by_cases hi : i = m
      · subst hi; rw [if_pos rfl, if_neg (Nat.lt_irrefl _), if_pos (Nat.lt_succ_self _)]
      · rw [if_neg hi]
        by_cases h2 : i < m
        · rw [if_pos h2, if_pos (by omega)]
        · rw [if_neg h2, if_neg (by omega)]
    rw [← e, this, ih, prodR]; grind
theorem det_id (n : Nat) : det n idM = 1 := by
  rw [det_tri (M := idM) fun r k _ hk => if_neg (by omega)]
  have : ∀ d i, diagP idM d i = 1 := by
    intro d
    induction d with
    | zero => intro i; rfl
    | succ d ih => intro i; rw [diagP, ih, idM, if_pos rfl]; grind
  exact this n 0
/-- The determinant of a product. -/
theorem det_mul (n : Nat) (A B : MX) : det n (mulM n A B) = det n A * det n B := by
  obtain ⟨N, s, h, hN⟩ := red_end n A
  have e1 := h.det (Nat.le_refl n)
  have e2 := (h.mul B).det (Nat.le_refl n)
  have h0 := h.ne0
  rcases hN with hd | ⟨r, hr, hz⟩
  · have e3 : det n (mulM n N B) = det n N * det n B := by
      have a1 := det_rows (n := n) (fun i => N i i) B n (Nat.le_refl n)
      have a2 := det_rows (n := n) (fun i => N i i) idM n (Nat.le_refl n)
      rw [det_id] at a2
      have b1 : det n (mulM n N B) = det n (rowsD (fun i => N i i) B n) := det_congr fun i j hi hj => by
        unfold rowsD
        rw [if_pos hi]
        exact sumR_one hi fun k hk hne => by rw [hd i k hi hk (fun e => hne e.symm)]; grind
      have b2 : det n N = det n (rowsD (fun i => N i i) idM n) := det_congr fun i j hi hj => by
        unfold rowsD idM
        rw [if_pos hi]
        by_cases e : i = j
        · subst e; rw [if_pos rfl]; grind
        · rw [if_neg e, hd i j hi hj e]; grind
      rw [b1, a1, b2, a2]; grind
    grind
  · have z1 := det_row0 (M := N) hr hz
    have z2 := det_row0 (M := mulM n N B) hr fun k hk => sumR_all0 fun j hj => by rw [hz j hj]; grind
    grind
/-! ### Transposes -/
theorem RE.tr (h : RE n n M N s) : Ab.det n (trM N) = s * Ab.det n (trM M) := by
  induction h with
  | refl => grind
  | add N s r t f h hr ht hne ih =>
    have e : Ab.det n (trM (addR N r t f)) = Ab.det n (mulM n (trM N) (trM (addR idM r t f))) := det_congr fun i j hi hj => by
      unfold trM mulM addR
      by_cases e : j = t
      · simp only [if_pos e]
        have := sumR_lin 1 (-f) (fun k => N k i * idM t k) (fun k => N k i * idM r k) n
        rw [sumR_congr (f := fun k => N k i * (idM t k - f * idM r k)) (g := fun k => 1 * (N k i * idM t k) + -f * (N k i * idM r k)) fun k _ => by grind, this,
          sumR_one ht fun k _ hk => by unfold idM; rw [if_neg (fun e => hk e.symm)]; grind, sumR_one hr fun k _ hk => by unfold idM; rw [if_neg (fun e => hk e.symm)]; grind]
        unfold idM; rw [if_pos rfl, if_pos rfl]; grind
      · simp only [if_neg e]
        rw [sumR_one hj fun k _ hk => by unfold idM; rw [if_neg (fun e => hk e.symm)]; grind]
        unfold idM; rw [if_pos rfl]; grind
    have e2 : Ab.det n (trM (addR idM r t f)) = 1 := by
      have : Ab.det n (trM (addR idM r t f)) = Ab.det n (addR idM t r f) := det_congr fun i j _ _ => by
        unfold trM addR idM
        by_cases a : j = t
        · by_cases b : i = r
          · simp only [if_pos a, if_pos b]; subst a; subst b; simp only [if_true, if_neg hne, if_neg hne.symm]
          · simp only [if_pos a, if_neg b]
            by_cases d : i = t
            · subst a; subst d; simp only [if_true, if_neg hne]; grind
            · rw [if_neg (fun e => d e.symm), if_neg (fun e => b e.symm), if_neg (fun e => d (e.trans a))]; grind
        · by_cases b : i = r
          · simp only [if_neg a, if_pos b]
            by_cases d : j = r
            · subst b; subst d; simp only [if_true, if_neg hne.symm]; grind
            · rw [if_neg (fun e => d (e.trans b)), if_neg (fun e => d e.symm), if_neg (fun e => a e.symm)]; grind
          · simp only [if_neg a, if_neg b]
            by_cases d : i = j
            · rw [if_pos d, if_pos d.symm]
            · rw [if_neg d, if_neg (fun e => d e.symm)]
      rw [this, det_add idM f ht hr hne.symm, det_id]
    rw [e, det_mul, e2, ih]; grind
  | swp N s r t h hr ht hne ih =>
    have e : Ab.det n (trM (swpR N r t)) = Ab.det n (mulM n (trM N) (trM (swpR idM r t))) := det_congr fun i j hi hj => by
      unfold trM mulM swpR
      have one : ∀ q, q < n → sumR n (fun k => N k i * idM q k) = N q i := fun q hq => by
        rw [sumR_one hq fun k _ hk => by unfold idM; rw [if_neg (fun e => hk e.symm)]; grind]
        unfold idM; rw [if_pos rfl]; grind
      by_cases a : j = r
      · simp only [if_pos a]; exact (one t ht).symm
      · by_cases b : j = t
        · simp only [if_neg a, if_pos b]; exact (one r hr).symm
        · simp only [if_neg a, if_neg b]; exact (one j hj).symm
    have e2 : Ab.det n (trM (swpR idM r t)) = -1 := by
      have : Ab.det n (trM (swpR idM r t)) = Ab.det n (swpR idM r t) := det_congr fun i j _ _ => by
        unfold trM swpR idM
        by_cases a : j = r
        · by_cases b : i = r
          · simp only [if_pos a, if_pos b]; rw [a, b]
          · by_cases d : i = t
            · simp only [if_pos a, if_neg b, if_pos d]; rw [a, d]; simp
            · simp only [if_pos a, if_neg b, if_neg d]
              rw [if_neg (fun e => d e.symm), if_neg (fun e => b (e.trans a))]
        · by_cases b : j = t
          · by_cases d : i = r
            · simp only [if_neg a, if_pos b, if_pos d]; rw [b, d]; simp
            · by_cases g : i = t
              · simp only [if_neg a, if_pos b, if_neg d, if_pos g]; rw [b, g]
              · simp only [if_neg a, if_pos b, if_neg d, if_neg g]
                rw [if_neg (fun e => d e.symm), if_neg (fun e => g (e.trans b))]
          · by_cases d : i = r
            · simp only [if_neg a, if_neg b, if_pos d]
              rw [if_neg (fun e => a (e.trans d)), if_neg (fun e => b e.symm)]
            · by_cases g : i = t
              · simp only [if_neg a, if_neg b, if_neg d, if_pos g]
                rw [if_neg (fun e => b (e.trans g)), if_neg (fun e => a e.symm)]
              · simp only [if_neg a, if_neg b, if_neg d, if_neg g]
                by_cases e : i = j
                · rw [if_pos e, if_pos e.symm]
                · rw [if_neg e, if_neg (fun h => e h.symm)]
      rw [this, det_swp idM hr ht hne, det_id]
    rw [e, det_mul, e2, ih]; grind
  | scl N s r a h hr ha ih =>
    have e : Ab.det n (trM (sclR N r a)) = Ab.det n (mulM n (trM N) (trM (sclR idM r a))) := det_congr fun i j hi hj => by
      unfold trM mulM sclR
      by_cases b : j = r
      · simp only [if_pos b]
        rw [sumR_one hr fun k _ hk => by unfold idM; rw [if_neg (fun e => hk e.symm)]; grind]
        unfold idM; rw [if_pos rfl]; grind
      · simp only [if_neg b]
        rw [sumR_one hj fun k _ hk => by unfold idM; rw [if_neg (fun e => hk e.symm)]; grind]
        unfold idM; rw [if_pos rfl]; grind
    have e2 : Ab.det n (trM (sclR idM r a)) = a := by
      have : Ab.det n (trM (sclR idM r a)) = Ab.det n (sclR idM r a) := det_congr fun i j _ _ => by
        unfold trM sclR idM
        by_cases e : i = j
        · subst e; rfl
        · by_cases b : j = r
          · by_cases d : i = r
            · exact absurd (d.trans b.symm) e
            · simp only [if_pos b, if_neg d, if_neg e]
              rw [if_neg (fun h => d h.symm)]; grind
          · by_cases d : i = r
            · simp only [if_neg b, if_pos d]
              rw [if_neg (fun h => e h.symm), if_neg (fun h => b h.symm)]; grind
            · simp only [if_neg b, if_neg d]
              rw [if_neg e, if_neg (fun h => e h.symm)]
      rw [this, det_scl idM a hr, det_id]; grind
    rw [e, det_mul, e2, ih]; grind
  | cong N N' s h e ih =>
    rw [← ih]; exact det_congr fun i j hi hj => (e j i hj hi).symm
/-- The determinant of a transpose. -/
theorem det_tr (n : Nat) (A : MX) : det n (trM A) = det n A := by
  obtain ⟨N, s, h, hN⟩ := red_end n A
  have e1 := h.det (Nat.le_refl n)
  have e2 := h.tr
  have h0 := h.ne0
  rcases hN with hd | ⟨r, hr, hz⟩
  · have : det n (trM N) = det n N := det_congr fun i j hi hj => by
      unfold trM
      by_cases e : i = j
      · rw [e]
      · rw [hd i j hi hj e, hd j i hj hi (fun h => e h.symm)]
    grind
  · have z1 := det_row0 (M := N) hr hz
    have z2 := det_col0 (M := trM N) hr fun i hi => hz i hi
    grind
end
end Go.Ab

/- Systems of equations in plain Lean: solutions, inverses. -/
set_option linter.unusedVariables false
set_option linter.unusedSimpArgs false
set_option linter.unusedSectionVars false
namespace Go.Ab

/-! ### Ranks -/
end Go.Ab

/- The program's clear and swap, by value. -/
set_option linter.unusedVariables false
set_option linter.unusedSimpArgs false
set_option linter.unusedSectionVars false
set_option maxRecDepth 100000
namespace Go.Ab
open Go.Proofs.Try

/-! ### A matrix whose cells are written to -/
abbrev aM (rows cols : Int) (nm L : Nat) : AV := .agg [.int .i64 rows, .int .i64 cols, .arr nm 0 L (some 3)]
theorem box_aM (m : Mem) (rows cols : Int) (nm L : Nat) : boxA none (some 3) m (aM rows cols nm L) = some (.ptr m.length 0, m ++ [cB rows cols nm L]) := rfl
section
variable {m : Mem} {b : Nat} {rows cols : Int} {nm L : Nat}
theorem bL0 (h : m[b]? = some (cB rows cols nm L)) : loadA none m (.ptr b 0) = some (.int .i64 rows) := by simp [loadA, mobj h, cutSh]
theorem bL1 (h : m[b]? = some (cB rows cols nm L)) : loadA none m (.ptr b 1) = some (.int .i64 cols) := by simp [loadA, mobj h, cutSh]
theorem bL2 (h : m[b]? = some (cB rows cols nm L)) : loadA none m (.ptr b 2) = some (.arr nm 0 L (some 3)) := by simp [loadA, mobj h, cutSh]
theorem bLA (h : m[b]? = some (cB rows cols nm L)) : loadA (some 3) m (.ptr b 0) = some (aM rows cols nm L) := by simp [loadA, mobj h, cutSh]
end
theorem kn_app (nm : Nat) (m e : Mem) : Kn nm m (m ++ e) := (Kp.app m e).kn nm
theorem kn_set {nm : Nat} {m m' : Mem} (h : Kn nm m m') (e : Option Ent) : Kn nm m (m'.set nm e) := ⟨by rw [List.length_set]; exact h.1, fun p bx cs hp hh => by
  rw [List.getElem?_set_ne (fun e => hp e.symm)]; exact h.2 p bx cs hp hh⟩
theorem kn_refl (nm : Nat) (m : Mem) : Kn nm m m := (Kp.refl m).kn nm
theorem Kn.cB {nm b : Nat} {m m' : Mem} {rows cols : Int} {n2 L : Nat} (h : Kn nm m m') (hb : m[b]? = some (cB rows cols n2 L)) (hne : b ≠ nm) : m'[b]? = some (Ab.cB rows cols n2 L) := h.2 b _ _ hne hb
theorem Kn.cR {nm b : Nat} {m m' : Mem} {r : RV} (h : Kn nm m m') (hb : m[b]? = some (cR r)) (hne : b ≠ nm) : m'[b]? = some (Ab.cR r) := h.2 b _ _ hne hb
theorem app_get {m e : Mem} {b : Nat} {x : Option Ent} (h : m[b]? = some x) : (m ++ e)[b]? = some x := by
  rw [List.getElem?_append_left]; exact h
  exact (List.getElem?_eq_some_iff.1 h).1
theorem set_same {m : Mem} {nm : Nat} {x : Option Ent} (h : nm < m.length) : (m.set nm x)[nm]? = some x := by rw [List.getElem?_set_self h]
theorem q0_of {r : RV} (h : r.num.ds.length = 0) : r.q = 0 := by
  have : r.num.v = 0 := by
    have h2 : r.num.ds = [] := List.length_eq_zero_iff.1 h
    unfold NV.v
    rw [h2]; rfl
  rw [RV.q, this, qOf_num0]
theorem Can.nz {r : RV} {q : Rat} (h : Can r q) (hl : r.num.ds.length ≠ 0) : q ≠ 0 := fun e => hl (by rw [h.num, e]; exact congrArg List.length digs_zero)
/-- The cells stand in memory, each with its value. -/
structure WM (m : Mem) (nm : Nat) (es : List RV) (n c : Nat) (kf : Nat → Nat) (N : MX) : Prop where
  hm : m[nm]? = some (cA es)
  len : es.length = n * c
  fr : ∀ r ∈ es, r.fr = r
  can : ∀ i j, i < n → j < c → ∀ h : i * c + j < es.length, Can es[i * c + j] (N i j)
  bd : ∀ i j, i < n → j < c → Bd (kf i) (N i j)
section
variable {m : Mem} {nm : Nat} {es : List RV} {n c k : Nat} {kf : Nat → Nat} {N : MX}
theorem WM.at (h : WM m nm es n c kf N) {i j : Nat} (hi : i < n) (hj : j < c) : i * c + j < es.length := by rw [h.len]; exact cell_lt60 hi hj
theorem WM.mono (h : WM m nm es n c kf N) {kg : Nat → Nat} (hk : ∀ i, i < n → kf i ≤ kg i) : WM m nm es n c kg N := ⟨h.hm, h.len, h.fr, h.can, fun i j hi hj => (h.bd i j hi hj).mono (hk i hi)⟩
theorem WM.congr (h : WM m nm es n c kf N) {N' : MX} (e : Agr n c N N') : WM m nm es n c kf N' :=
  ⟨h.hm, h.len, h.fr, fun i j hi hj hh => by rw [← e i j hi hj]; exact h.can i j hi hj hh, fun i j hi hj => by rw [← e i j hi hj]; exact h.bd i j hi hj⟩
theorem WM.kn (h : WM m nm es n c kf N) {m' : Mem} (hm : m'[nm]? = m[nm]?) : WM m' nm es n c kf N := ⟨hm.trans h.hm, h.len, h.fr, h.can, h.bd⟩
theorem cell_inj {i j i' j' c : Nat} (hj : j < c) (hj' : j' < c) (e : i * c + j = i' * c + j') : i = i' ∧ j = j' := by
  have h1 := row_col (i := i) hj
  have h2 := row_col (i := i') hj'
  rw [e, h2.1, h2.2] at h1
  exact ⟨h1.1.symm, h1.2.symm⟩
/-! ### clear -/
/-- Row t, cleared by so much of row r up to column j. -/
structure CL (es0 es : List RV) (n c k t j : Nat) (N : MX) (u : Nat → Rat) : Prop where
  len : es.length = n * c
  old : ∀ p (h : p < es.length) (h0 : p < es0.length), ¬ (t * c ≤ p ∧ p < t * c + j) → es[p] = es0[p]
  new : ∀ q, q < j → ∀ h : t * c + q < es.length, Can es[t * c + q] (u q) ∧ es[t * c + q].fr = es[t * c + q]
  bd : ∀ q, q < c → Bd k (u q)
theorem W117 (hn : n ≤ 60) (hc : c ≤ 60) {es0 : List RV} {m0 : Mem} (W0 : WM m0 nm es0 n c kf N) {r t : Nat} (hr : r < n) (ht : t < n) (hrt : r ≠ t) (hkr : kf r ≤ k) (hkt : kf t ≤ k) (hk1 : 1 ≤ k) (hk : 4 * k + 1 < 2 ^ 36) {f : RV} {fq : Rat} (hf : Can f fq) (hff : f.fr = f) (hfb : Bd (k + k) fq) {b bf : Nat} (hbn : b ≠ nm) (hbf : bf ≠ nm) (K : Ex → St → Option (AV × Mem)) : ∀ (d j : Nat) (m : Mem) (es : List RV), j + d = c → m[nm]? = some (cA es) → m[b]? = some (cB n c nm (n * c)) → m[bf]? = some (cR f) → CL es0 es n c (4 * k + 1) t j N (fun q => N t q - fq * N r q) →
    ∃ (m' : Mem) (es' : List RV), L117_4 (.int .i64 r) (.int .i64 t) (.ptr b 0) (.ptr bf 0) (.int .i64 c) (.int .i64 j) m K = K (.exit 0) (O117_4 m') ∧ m'[nm]? = some (cA es') ∧ CL es0 es' n c (4 * k + 1) t c N (fun q => N t q - fq * N r q) ∧ Kn nm m m' := by
  intro d
  induction d with
  | zero =>
    intro j m es hj hm hb hfm C
    obtain rfl : j = c := by omega
    refine ⟨m, es, ?_, hm, C, kn_refl _ _⟩
    rw [L117_4_eq, n_lss, Option.bind_some, ifA_dec, if_neg (by omega)]
  | succ d ih =>
    intro j m es hj hm hb hfm C
    have hjc : j < c := by omega
    obtain ⟨a1, a2⟩ := at_cell (i := r) (c := c) (j := j) (by omega) hc (by omega)
    obtain ⟨b1, b2⟩ := at_cell (i := t) (c := c) (j := j) (by omega) hc (by omega)
    have p1 : r * c + j < n * c := cell_lt60 hr hjc
    have p2 : t * c + j < n * c := cell_lt60 ht hjc
    have p1' : r * c + j < es.length := by rw [C.len]; exact p1
    have p2' : t * c + j < es.length := by rw [C.len]; exact p2
    have p10 : r * c + j < es0.length := by rw [W0.len]; exact p1
    have p20 : t * c + j < es0.length := by rw [W0.len]; exact p2
    have hrow : ¬ (t * c ≤ r * c + j ∧ r * c + j < t * c + j) := fun h => by
      rcases Nat.lt_or_gt_of_ne hrt with h3 | h3
      · have := Nat.mul_le_mul_right c (show r + 1 ≤ t by omega)
        rw [Nat.add_mul, Nat.one_mul] at this; omega
      · have := Nat.mul_le_mul_right c (show t + 1 ≤ r by omega)
        rw [Nat.add_mul, Nat.one_mul] at this; omega
    have ex : es[r * c + j] = es0[r * c + j] := C.old _ p1' p10 hrow
    have ey : es[t * c + j] = es0[t * c + j] := C.old _ p2' p20 (by omega)
    have cx := W0.can r j hr hjc p10
    have cy := W0.can t j ht hjc p20
    have fx := W0.fr _ (List.getElem_mem p10)
    have fy := W0.fr _ (List.getElem_mem p20)
    have bx := (W0.bd r j hr hjc).mono hkr
    have by' := (W0.bd t j ht hjc).mono hkt
    rw [← ex] at cx fx
    rw [← ey] at cy fy
    have nmlt : nm < m.length := (List.getElem?_eq_some_iff.1 hm).1
    have hm10 : (m ++ [cR es[r * c + j]])[nm]? = some (cA es) := app_get hm
    have hb10 : (m ++ [cR es[r * c + j]])[b]? = some (cB n c nm (n * c)) := app_get hb
    have hf10 : (m ++ [cR es[r * c + j]])[bf]? = some (cR f) := app_get hfm
    have e0 : L117_4 (.int .i64 r) (.int .i64 t) (.ptr b 0) (.ptr bf 0) (.int .i64 c) (.int .i64 j) m K = _ := L117_4_eq _ _ _ _ _ _ _ _
    rw [n_lss, Option.bind_some, ifA_dec, if_pos hjc, fld2, Option.bind_some, bL2 hb, Option.bind_some, fld1, Option.bind_some, bL1 hb, Option.bind_some, a1, Option.bind_some, a2, Option.bind_some, arr_index p1, Option.bind_some, arr_load hm p1', Option.bind_some] at e0
    rw [show (newAt none m (Ent.obj true [(.bool false), (.lst none true .full []), (.lst none true .full [])])).2 = m ++ [cR zR] from rfl, show (newAt none m Ent.resv).1 = m.length from rfl, st_last, Option.bind_some, fld1, Option.bind_some, rld1 get_last, Option.bind_some, len_nv, Option.bind_some, gtr0, Option.bind_some, ifA_dec] at e0
    have mv : ∀ (es' : List RV) (z : RV), Can z (N t j - fq * N r j) → z.fr = z → es' = es.set (t * c + j) z → CL es0 es' n c (4 * k + 1) t (j + 1) N (fun q => N t q - fq * N r q) := fun es' z hz hzf he => by
      subst he
      refine ⟨by rw [List.length_set]; exact C.len, fun p h h0 hp => ?_, fun q hq h => ?_, C.bd⟩
      · rw [List.getElem_set_ne (by omega)]
        exact C.old p (by simpa using h) h0 (by omega)
      · by_cases hqj : q = j
        · subst hqj
          rw [List.getElem_set_self]; exact ⟨hz, hzf⟩
        · rw [List.getElem_set_ne (by omega)]
          exact C.new q (by omega) (by simpa using h)
    by_cases hx0 : es[r * c + j].num.ds.length > 0
    · have ox := cx.ok bx (by omega)
      have oy := cy.ok by' (by omega)
      have of := hf.ok hfb (by omega)
      obtain ⟨pr, t1, t2, t3⟩ := V78 of (ox.mono (show k ≤ k + k by omega)) (by omega) (by omega)
      rw [hf.q, cx.q] at t2
      have opr := t2.ok (Bd_mul hfb bx (by omega)) (by omega)
      obtain ⟨u, u1, u2, u3⟩ := V135 (k := k + k + k) (oy.mono (by omega)) opr (by omega) (by omega)
      rw [cy.q, t2.q] at u2
      have C' := mv _ u u2 u3 rfl
      obtain ⟨m', es', e, h1, h2, h3⟩ := ih (j + 1) ((m ++ [cR es[r * c + j]]).set nm (cA (es.set (t * c + j) u))) (es.set (t * c + j) u) (by omega) (set_same (by simp; omega)) (by rw [List.getElem?_set_ne (fun e => hbn e.symm)]; exact hb10) (by rw [List.getElem?_set_ne (fun e => hbf e.symm)]; exact hf10) C'
      refine ⟨m', es', ?_, h1, h2, Kn.trans (kn_set (kn_app _ _ _) _) h3⟩
      rw [e0, if_pos hx0, Option.bind_some, bL2 hb10, Option.bind_some, Option.bind_some, bL1 hb10, Option.bind_some, b1, Option.bind_some, b2, Option.bind_some, Option.bind_some, bL2 hb10, Option.bind_some, Option.bind_some, bL1 hb10, Option.bind_some, b1, Option.bind_some, b2, Option.bind_some, arr_index p2, Option.bind_some, arr_load hm10 p2', Option.bind_some, rldA hf10, Option.bind_some, rldA get_last, Option.bind_some, pcRR, hff, fx, t1, Option.map_some, Option.bind_some]
      dsimp only
      rw [pcRR, fy, t3, u1, Option.map_some, Option.bind_some]
      dsimp only
      rw [Option.bind_some, arr_store hm10 p2' u3, Option.bind_some, i_add1 (by omega), Option.bind_some]
      exact e
    · have hq0 := q0_of (r := es[r * c + j]) (by omega)
      rw [cx.q] at hq0
      have C' : CL es0 es n c (4 * k + 1) t (j + 1) N (fun q => N t q - fq * N r q) := mv es es[t * c + j] (by rw [hq0, show N t j - fq * 0 = N t j by grind]; exact cy) fy (by rw [List.set_getElem_self])
      obtain ⟨m', es', e, h1, h2, h3⟩ := ih (j + 1) (m ++ [cR es[r * c + j]]) es (by omega) hm10 hb10 hf10 C'
      refine ⟨m', es', ?_, h1, h2, Kn.trans (kn_app _ _ _) h3⟩
      rw [e0, if_neg hx0, i_add1 (by omega), Option.bind_some]
      exact e
/-- clear: a row is taken away from another. -/
theorem C117 (hn : n ≤ 60) (hc : c ≤ 60) (W : WM m nm es n c kf N) {r t col : Nat} (hr : r < n) (ht : t < n) (hrt : r ≠ t) (hcol : col < c) (hp : N r col ≠ 0) (hkr : kf r ≤ k) (hkt : kf t ≤ k) (hk1 : 1 ≤ k) (hk : 4 * k + 1 < 2 ^ 36) :
    ∃ (m' : Mem) (es' : List RV), AC cfg 117 [aM n c nm (n * c), .int .i64 r, .int .i64 t, .int .i64 col] m = some (.tup [], m') ∧ WM m' nm es' n c (fun i => if i = t then 4 * k + 1 else kf i) (addR N r t (N t col / N r col)) ∧ Kn nm m m' := by
  obtain ⟨a1, a2⟩ := at_cell (i := r) (c := c) (j := col) (by omega) hc (by omega)
  obtain ⟨b1, b2⟩ := at_cell (i := t) (c := c) (j := col) (by omega) hc (by omega)
  have p1 : r * c + col < n * c := cell_lt60 hr hcol
  have p2 : t * c + col < n * c := cell_lt60 ht hcol
  have p1' := W.at hr hcol
  have p2' := W.at ht hcol
  have cx := W.can r col hr hcol p1'
  have cy := W.can t col ht hcol p2'
  have fx := W.fr _ (List.getElem_mem p1')
  have fy := W.fr _ (List.getElem_mem p2')
  have br := fun q hq => (W.bd r q hr hq).mono hkr
  have bt := fun q hq => (W.bd t q ht hq).mono hkt
  have ox := cx.ok (br col hcol) (by omega)
  have oy := cy.ok (bt col hcol) (by omega)
  obtain ⟨f, f1, f2, f3⟩ := V122 oy ox hk1 (by omega) (by rw [cx.q]; exact hp)
  rw [cx.q, cy.q] at f2
  have fb : Bd (k + k) (N t col / N r col) := Bd_div (bt col hcol) (br col hcol) hk1 hp
  have bdu : ∀ q, q < c → Bd (4 * k + 1) (N t q - N t col / N r col * N r q) := fun q hq =>
    (Bd_sub (bt q hq) (Bd_mul fb (br q hq) (by omega)) hk1).mono (by omega)
  have nmlt : nm < m.length := (List.getElem?_eq_some_iff.1 W.hm).1
  -- memory
  have hb1 : (m ++ [cB n c nm (n * c)] ++ [some Ent.resv])[m.length]? = some (cB n c nm (n * c)) := app_get get_last
  have hm1 : (m ++ [cB n c nm (n * c)] ++ [some Ent.resv])[nm]? = some (cA es) := app_get (app_get W.hm)
  have hb2 : (m ++ [cB n c nm (n * c)] ++ [cR f])[m.length]? = some (cB n c nm (n * c)) := app_get get_last
  have hm2 : (m ++ [cB n c nm (n * c)] ++ [cR f])[nm]? = some (cA es) := app_get (app_get W.hm)
  have hf2 : (m ++ [cB n c nm (n * c)] ++ [cR f])[(m ++ [cB n c nm (n * c)]).length]? = some (cR f) := get_last
  have nw : ∀ e : Ent, newAt (some (m ++ [cB n c nm (n * c)]).length) (m ++ [cB n c nm (n * c)] ++ [some Ent.resv]) e = ((m ++ [cB n c nm (n * c)]).length, m ++ [cB n c nm (n * c)] ++ [some e]) := fun e => by
    show ((m ++ [cB n c nm (n * c)]).length, (m ++ [cB n c nm (n * c)] ++ [some Ent.resv]).set (m ++ [cB n c nm (n * c)]).length (some e)) = _
    rw [List.set_append_right _ _ (Nat.le_refl _), Nat.sub_self]; rfl
  have e0 := T117 (aM n c nm (n * c)) (.int .i64 r) (.int .i64 t) (.int .i64 col) m
  rw [box_aM, Option.bind_some] at e0
  dsimp only at e0
  rw [res1, fld2, Option.bind_some, bL2 hb1, Option.bind_some, fld1, Option.bind_some, bL1 hb1, Option.bind_some, b1, Option.bind_some, b2, Option.bind_some, arr_index p2, Option.bind_some, arr_load hm1 p2', Option.bind_some, Option.bind_some, bL2 hb1, Option.bind_some, Option.bind_some, bL1 hb1, Option.bind_some, a1, Option.bind_some, a2, Option.bind_some, arr_index p1, Option.bind_some, arr_load hm1 p1', Option.bind_some, pcRR, fx, fy, f1, Option.map_some, Option.bind_some, ex0, Option.bind_some, ex1, Option.bind_some] at e0
  dsimp only at e0
  rw [nw, nw] at e0
  dsimp only at e0
  rw [show some (Ent.obj true [(.bool false), (.lst none true .full []), (.lst none true .full [])]) = cR zR from rfl, st_last, Option.bind_some, fld1, Option.bind_some, rld1 get_last, Option.bind_some, len_nv, Option.bind_some, binA_eql, Option.bind_some, ifA_dec] at e0
  by_cases hf0 : f.num.ds.length = 0
  · rw [if_pos (by omega)] at e0
    have hq0 := q0_of hf0
    rw [f2.q] at hq0
    refine ⟨_, es, e0, ?_, (kn_app _ _ _).trans (kn_app _ _ _)⟩
    refine WM.congr (N := N) ⟨hm2, W.len, W.fr, W.can, fun i j hi hj => (W.bd i j hi hj).mono (by split <;> rename_i h <;> first | (rw [h]; omega) | exact Nat.le_refl _)⟩ fun i j _ _ => ?_
    unfold addR
    split
    · rename_i e; rw [hq0, e]; grind
    · rfl
  · rw [if_neg (by omega), Option.bind_some, bL1 hb2, Option.bind_some] at e0
    obtain ⟨m', es', e, h1, h2, h3⟩ := W117 hn hc W hr ht hrt hkr hkt hk1 hk f2 f3 fb (b := m.length) (bf := (m ++ [cB n c nm (n * c)]).length) (by omega) (by simp; omega) (K117_4 (finK cfg.P f117.results.toList)) c 0 _ es (by omega) hm2 hb2 hf2 ⟨W.len, fun p h h0 _ => rfl, fun q hq => by omega, bdu⟩
    refine ⟨m', es', ?_, ?_, Kn.trans ((kn_app _ _ _).trans (kn_app _ _ _)) h3⟩
    · have e : L117_4 (.int .i64 r) (.int .i64 t) (.ptr m.length 0) (.ptr (m ++ [cB n c nm (n * c)]).length 0) (.int .i64 c) (.int .i64 0) (m ++ [cB n c nm (n * c)] ++ [cR f]) (K117_4 (finK cfg.P f117.results.toList)) = _ := e
      rw [e0, e, K117_4_x0]
    · have cell : ∀ i j, i < n → j < c → ∀ h : i * c + j < es'.length, Can es'[i * c + j] (addR N r t (N t col / N r col) i j) ∧ es'[i * c + j].fr = es'[i * c + j] := fun i j hi hj h => by
        unfold addR
        by_cases hit : i = t
        · subst hit
          rw [if_pos rfl]
          exact h2.new j hj h
        · rw [if_neg hit]
          have h0 := W.at hi hj
          have : es'[i * c + j] = es[i * c + j] := h2.old _ h h0 fun hh => by
            rcases Nat.lt_or_gt_of_ne hit with h3 | h3
            · have := Nat.mul_le_mul_right c (show i + 1 ≤ t by omega)
              rw [Nat.add_mul, Nat.one_mul] at this; omega
            · have := Nat.mul_le_mul_right c (show t + 1 ≤ i by omega)
              rw [Nat.add_mul, Nat.one_mul] at this; omega
          rw [this]
          exact ⟨W.can i j hi hj h0, W.fr _ (List.getElem_mem h0)⟩
      refine ⟨h1, h2.len, fun x hx => ?_, fun i j hi hj h => (cell i j hi hj h).1, fun i j hi hj => ?_⟩
      · obtain ⟨p, hp', rfl⟩ := List.getElem_of_mem hx
        have hpl : p < n * c := by rw [← h2.len]; exact hp'
        have hc0 : 0 < c := by omega
        have e1 : p = p / c * c + p % c := by rw [Nat.mul_comm]; exact (Nat.div_add_mod p c).symm
        have hi : p / c < n := Nat.div_lt_of_lt_mul (by rw [Nat.mul_comm]; exact hpl)
        have := (cell (p / c) (p % c) hi (Nat.mod_lt _ hc0) (by rw [← e1]; exact hp')).2
        simpa only [← e1] using this
      · unfold addR
        split
        · rename_i e; exact bdu j hj
        · exact W.bd i j hi hj
end
end Go.Ab

/- The program's swap and pivot, by value. -/
set_option linter.unusedVariables false
set_option linter.unusedSimpArgs false
set_option linter.unusedSectionVars false
set_option maxRecDepth 100000
namespace Go.Ab
open Go.Proofs.Try

section
variable {m : Mem} {nm : Nat} {es : List RV} {n c k : Nat} {kf : Nat → Nat} {N : MX}
theorem row_apart {r t c j q : Nat} (h : r ≠ t) (hj : j < c) (hq : q < c) : r * c + j ≠ t * c + q := fun e => h (cell_inj hj hq e).1
/-! ### swap -/
structure SW (es0 es : List RV) (n c r t j : Nat) : Prop where
  len : es.length = n * c
  old : ∀ i q, q < c → (i ≠ r ∧ i ≠ t ∨ j ≤ q) → ∀ (h : i * c + q < es.length) (h0 : i * c + q < es0.length), es[i * c + q] = es0[i * c + q]
  sr : ∀ q, q < j → ∀ (h : r * c + q < es.length) (h0 : t * c + q < es0.length), es[r * c + q] = es0[t * c + q]
  st : ∀ q, q < j → ∀ (h : t * c + q < es.length) (h0 : r * c + q < es0.length), es[t * c + q] = es0[r * c + q]
theorem names_ne {b nm o p : Nat} (h : b ≠ nm) : namesV (.ptr b o) (.ptr nm p) = true := by simp [namesV, h]
theorem W116 (hn : n ≤ 60) (hc : c ≤ 60) {es0 : List RV} (hl0 : es0.length = n * c) (hfr0 : ∀ r ∈ es0, r.fr = r) {r t : Nat} (hr : r < n) (ht : t < n) (hrt : r ≠ t) {b : Nat} (hbn : b ≠ nm) (K : Ex → St → Option (AV × Mem)) : ∀ (d j : Nat) (m : Mem) (es : List RV), j + d = c → m[nm]? = some (cA es) → m[b]? = some (cB n c nm (n * c)) → SW es0 es n c r t j →
    ∃ (m' : Mem) (es' : List RV), L116_2 (.int .i64 r) (.int .i64 t) (.ptr b 0) (.int .i64 c) (.int .i64 j) m K = K (.exit 0) (O116_2 m') ∧ m'[nm]? = some (cA es') ∧ SW es0 es' n c r t c ∧ Kn nm m m' := by
  intro d
  induction d with
  | zero =>
    intro j m es hj hm hb C
    obtain rfl : j = c := by omega
    refine ⟨m, es, ?_, hm, C, kn_refl _ _⟩
    rw [L116_2_eq, n_lss, Option.bind_some, ifA_dec, if_neg (by omega)]
  | succ d ih =>
    intro j m es hj hm hb C
    have hjc : j < c := by omega
    obtain ⟨a1, a2⟩ := at_cell (i := r) (c := c) (j := j) (by omega) hc (by omega)
    obtain ⟨b1, b2⟩ := at_cell (i := t) (c := c) (j := j) (by omega) hc (by omega)
    have p1 : r * c + j < n * c := cell_lt60 hr hjc
    have p2 : t * c + j < n * c := cell_lt60 ht hjc
    have p1' : r * c + j < es.length := by rw [C.len]; exact p1
    have p2' : t * c + j < es.length := by rw [C.len]; exact p2
    have p10 : r * c + j < es0.length := by rw [hl0]; exact p1
    have p20 : t * c + j < es0.length := by rw [hl0]; exact p2
    have ex : es[r * c + j] = es0[r * c + j] := C.old r j hjc (.inr (Nat.le_refl _)) p1' p10
    have ey : es[t * c + j] = es0[t * c + j] := C.old t j hjc (.inr (Nat.le_refl _)) p2' p20
    have fx := hfr0 _ (List.getElem_mem p10)
    have fy := hfr0 _ (List.getElem_mem p20)
    rw [← ex] at fx
    rw [← ey] at fy
    have nmlt : nm < m.length := (List.getElem?_eq_some_iff.1 hm).1
    have hm1 : (m.set nm (cA (es.set (r * c + j) es[t * c + j])))[nm]? = some (cA (es.set (r * c + j) es[t * c + j])) := set_same nmlt
    have hne := row_apart hrt hjc hjc
    have C' : SW es0 ((es.set (r * c + j) es[t * c + j]).set (t * c + j) es[r * c + j]) n c r t (j + 1) := by
      refine ⟨by rw [List.length_set, List.length_set]; exact C.len, fun i q hq hh h h0 => ?_, fun q hq h h0 => ?_, fun q hq h h0 => ?_⟩
      · have e1 : t * c + j ≠ i * c + q := fun e => by
          obtain ⟨u, v⟩ := cell_inj hjc hq e
          rcases hh with hh | hh <;> omega
        have e2 : r * c + j ≠ i * c + q := fun e => by
          obtain ⟨u, v⟩ := cell_inj hjc hq e
          rcases hh with hh | hh <;> omega
        rw [List.getElem_set_ne e1, List.getElem_set_ne e2]
        refine C.old i q hq ?_ (by simpa using h) h0
        rcases hh with hh | hh
        · exact .inl hh
        · exact .inr (by omega)
      · rw [List.getElem_set_ne (fun e => row_apart hrt (by omega) hjc e.symm)]
        by_cases hqj : q = j
        · subst hqj
          rw [List.getElem_set_self]; exact ey
        · rw [List.getElem_set_ne (by omega)]
          exact C.sr q (by omega) (by simpa using h) h0
      · by_cases hqj : q = j
        · subst hqj
          rw [List.getElem_set_self]; exact ex
        · rw [List.getElem_set_ne (by omega), List.getElem_set_ne (row_apart hrt hjc (by omega))]
          exact C.st q (by omega) (by simpa using h) h0
    obtain ⟨m', es', e, h1, h2, h3⟩ := ih (j + 1) ((m.set nm (cA (es.set (r * c + j) es[t * c + j]))).set nm (cA ((es.set (r * c + j) es[t * c + j]).set (t * c + j) es[r * c + j]))) _ (by omega) (set_same (by simpa using nmlt)) (by rw [List.getElem?_set_ne (fun e => hbn e.symm), List.getElem?_set_ne (fun e => hbn e.symm)]; exact hb) C'
    refine ⟨m', es', ?_, h1, h2, Kn.trans (kn_set (kn_set (kn_refl _ _) _) _) h3⟩
    rw [L116_2_eq, n_lss, Option.bind_some, ifA_dec, if_pos hjc, fld2, Option.bind_some, bL2 hb, Option.bind_some, fld1, Option.bind_some, bL1 hb, Option.bind_some, a1, Option.bind_some, a2, Option.bind_some, Option.bind_some, bL2 hb, Option.bind_some, Option.bind_some, bL1 hb, Option.bind_some, b1, Option.bind_some, b2, Option.bind_some, Option.bind_some, bL2 hb, Option.bind_some, Option.bind_some, bL1 hb, Option.bind_some, b1, Option.bind_some, b2, Option.bind_some, arr_index p2, Option.bind_some, arr_load hm p2', Option.bind_some, Option.bind_some, bL2 hb, Option.bind_some, Option.bind_some, bL1 hb, Option.bind_some, a1, Option.bind_some, a2, Option.bind_some, arr_index p1, Option.bind_some, arr_load hm p1', Option.bind_some, Option.bind_some, arr_store hm p1' fy, Option.bind_some, Option.bind_some, arr_store hm1 (by rw [List.length_set]; exact p2') fx, Option.bind_some, names_ne hbn, names_ne hbn]
    simp only [ifB]
    rw [i_add1 (by omega), Option.bind_some]
    exact e
theorem C116 (hn : n ≤ 60) (hc : c ≤ 60) (W : WM m nm es n c kf N) {r t : Nat} (hr : r < n) (ht : t < n) (hrt : r ≠ t) :
    ∃ (m' : Mem) (es' : List RV), AC cfg 116 [aM n c nm (n * c), .int .i64 r, .int .i64 t] m = some (.tup [], m') ∧ WM m' nm es' n c (fun i => if i = r then kf t else if i = t then kf r else kf i) (swpR N r t) ∧ Kn nm m m' := by
  have nmlt : nm < m.length := (List.getElem?_eq_some_iff.1 W.hm).1
  have hb1 : (m ++ [cB n c nm (n * c)])[m.length]? = some (cB n c nm (n * c)) := get_last
  have hm1 : (m ++ [cB n c nm (n * c)])[nm]? = some (cA es) := app_get W.hm
  obtain ⟨m', es', e, h1, C, h3⟩ := W116 (nm := nm) hn hc W.len W.fr hr ht hrt (b := m.length) (by omega) (K116_2 (finK cfg.P f116.results.toList)) c 0 _ es (by omega) hm1 hb1 ⟨W.len, fun _ _ _ _ _ _ => rfl, fun q hq => by omega, fun q hq => by omega⟩
  refine ⟨m', es', ?_, ?_, Kn.trans (kn_app _ _ _) h3⟩
  · have e : L116_2 (.int .i64 r) (.int .i64 t) (.ptr m.length 0) (.int .i64 c) (.int .i64 0) (m ++ [cB n c nm (n * c)]) (K116_2 (finK cfg.P f116.results.toList)) = _ := e
    rw [T116, box_aM, Option.bind_some]
    dsimp only
    rw [fld1, Option.bind_some, bL1 hb1, Option.bind_some, e, K116_2_x0]
  · have cell : ∀ i j, i < n → j < c → ∀ h : i * c + j < es'.length, ∃ i0, i0 < n ∧ (swpR N r t i j = N i0 j) ∧ (if i = r then kf t else if i = t then kf r else kf i) = kf i0 ∧ ∃ h0 : i0 * c + j < es.length, es'[i * c + j] = es[i0 * c + j] := fun i j hi hj h => by
      unfold swpR
      by_cases h1 : i = r
      · subst h1
        exact ⟨t, ht, if_pos rfl, if_pos rfl, W.at ht hj, C.sr j hj h (W.at ht hj)⟩
      · by_cases h2 : i = t
        · subst h2
          exact ⟨r, hr, by rw [if_neg h1, if_pos rfl], by rw [if_neg h1, if_pos rfl], W.at hr hj, C.st j hj h (W.at hr hj)⟩
        · exact ⟨i, hi, by rw [if_neg h1, if_neg h2], by rw [if_neg h1, if_neg h2], W.at hi hj, C.old i j hj (.inl ⟨h1, h2⟩) h (W.at hi hj)⟩
    refine ⟨h1, C.len, fun x hx => ?_, fun i j hi hj h => ?_, fun i j hi hj => ?_⟩
    · obtain ⟨p, hp', rfl⟩ := List.getElem_of_mem hx
      have hpl : p < n * c := by rw [← C.len]; exact hp'
      have hc0 : 0 < c := Nat.pos_of_ne_zero fun e => by rw [e] at hpl; omega
      have e1 : p = p / c * c + p % c := by rw [Nat.mul_comm]; exact (Nat.div_add_mod p c).symm
      have hi : p / c < n := Nat.div_lt_of_lt_mul (by rw [Nat.mul_comm]; exact hpl)
      obtain ⟨i0, _, _, _, h0, e2⟩ := cell (p / c) (p % c) hi (Nat.mod_lt _ hc0) (by rw [← e1]; exact hp')
      have : es'[p] = es[i0 * c + p % c] := by rw [← e2]; congr 1
      rw [this]; exact W.fr _ (List.getElem_mem h0)
    · obtain ⟨i0, hi0, e1, _, h0, e2⟩ := cell i j hi hj h
      rw [e1, e2]; exact W.can i0 j hi0 hj h0
    · obtain ⟨i0, hi0, e1, e3, _⟩ := cell i j hi hj (by rw [C.len]; exact cell_lt60 hi hj)
      rw [e1, e3]; exact W.bd i0 j hi0 hj
/-! ### pivot -/
def PVt (N : MX) (col a i : Nat) (best : Int) : Prop := (best = -1 ∧ ∀ q, a ≤ q → q < i → N q col = 0) ∨ ∃ p : Nat, best = (p : Int) ∧ a ≤ p ∧ p < i ∧ N p col ≠ 0
theorem W115 (hn : n ≤ 60) (hc : c ≤ 60) {kb : Nat} (hkb : kb < 2 ^ 36) (hkf : ∀ i, i < n → kf i ≤ kb) {col a : Nat} (hcol : col < c) {b : Nat} (K : Ex → St → Option (AV × Mem)) : ∀ (d i : Nat) (m : Mem) (best : Int), i + d = n → a ≤ i → WM m nm es n c kf N → m[b]? = some (cB n c nm (n * c)) → PVt N col a i best →
    ∃ (e : Mem) (best' : Int), L115_3 (.int .i64 col) (.ptr b 0) (.int .i64 best) (.int .i64 i) m K = K (.exit 0) (O115_3 (.int .i64 best') (m ++ e)) ∧ PVt N col a n best' := by
  intro d
  induction d with
  | zero =>
    intro i m best hi ha W hb P
    obtain rfl : i = n := by omega
    refine ⟨[], best, ?_, P⟩
    rw [L115_3_eq, fld0, Option.bind_some, bL0 hb, Option.bind_some, n_lss, Option.bind_some, ifA_dec, if_neg (by omega), List.append_nil]
  | succ d ih =>
    intro i m best hi ha W hb P
    have hin : i < n := by omega
    obtain ⟨a1, a2⟩ := at_cell (i := i) (c := c) (j := col) (by omega) hc (by omega)
    have p1 : i * c + col < n * c := cell_lt60 hin hcol
    have p1' := W.at hin hcol
    have cx := W.can i col hin hcol p1'
    have fx := W.fr _ (List.getElem_mem p1')
    have hb10 : (m ++ [cR es[i * c + col]])[b]? = some (cB n c nm (n * c)) := app_get hb
    have hm10 : (m ++ [cR es[i * c + col]])[nm]? = some (cA es) := app_get W.hm
    have W10 : WM (m ++ [cR es[i * c + col]]) nm es n c kf N := ⟨hm10, W.len, W.fr, W.can, W.bd⟩
    have e0 : L115_3 (.int .i64 col) (.ptr b 0) (.int .i64 best) (.int .i64 i) m K = _ := L115_3_eq _ _ _ _ _ _
    rw [fld0, Option.bind_some, bL0 hb, Option.bind_some, n_lss, Option.bind_some, ifA_dec, if_pos hin, fld2, Option.bind_some, bL2 hb, Option.bind_some, fld1, Option.bind_some, bL1 hb, Option.bind_some, a1, Option.bind_some, a2, Option.bind_some, arr_index p1, Option.bind_some, arr_load W.hm p1', Option.bind_some] at e0
    rw [show (newAt none m (Ent.obj true [(.bool false), (.lst none true .full []), (.lst none true .full [])])).2 = m ++ [cR zR] from rfl, show (newAt none m Ent.resv).1 = m.length from rfl, st_last, Option.bind_some, fld1, Option.bind_some, rld1 get_last, Option.bind_some, len_nv, Option.bind_some, gtr0, Option.bind_some, ifA_dec] at e0
    have go : ∀ best', PVt N col a (i + 1) best' → ∃ (e : Mem) (best2 : Int), L115_3 (.int .i64 col) (.ptr b 0) (.int .i64 best') (.int .i64 (i + 1 : Nat)) (m ++ [cR es[i * c + col]]) K = K (.exit 0) (O115_3 (.int .i64 best2) (m ++ e)) ∧ PVt N col a n best2 := fun best' hP => by
      obtain ⟨e, best2, h1, h2⟩ := ih (i + 1) (m ++ [cR es[i * c + col]]) best' (by omega) (by omega) W10 hb10 hP
      exact ⟨[cR es[i * c + col]] ++ e, best2, by rw [h1, List.append_assoc], h2⟩
    by_cases hx0 : es[i * c + col].num.ds.length > 0
    · have hne : N i col ≠ 0 := cx.nz (by omega)
      have Pi : PVt N col a (i + 1) (i : Nat) := .inr ⟨i, rfl, ha, by omega, hne⟩
      rw [if_pos hx0, binA_lss, Option.bind_some, ifA_dec] at e0
      by_cases hneg : best < 0
      · rw [if_pos hneg, i_add1 (by omega), Option.bind_some] at e0
        obtain ⟨e, best2, h1, h2⟩ := go _ Pi
        exact ⟨e, best2, e0.trans h1, h2⟩
      · rw [if_neg hneg] at e0
        rcases P with ⟨h, _⟩ | ⟨p, rfl, hap, hpi, hpn⟩
        · omega
        obtain ⟨c1, c2⟩ := at_cell (i := p) (c := c) (j := col) (by omega) hc (by omega)
        have q1 : p * c + col < n * c := cell_lt60 (by omega) hcol
        have q1' := W.at (show p < n by omega) hcol
        have cy := W.can p col (by omega) hcol q1'
        have fy := W.fr _ (List.getElem_mem q1')
        obtain ⟨w1, v1, l1⟩ := V134 (cx.ok ((W.bd i col hin hcol).mono (hkf i hin)) (by omega)) (by omega)
        obtain ⟨w2, v2, l2⟩ := V134 (cy.ok ((W.bd p col (by omega) hcol).mono (hkf p (by omega))) (by omega)) (by omega)
        have Pp : PVt N col a (i + 1) (p : Nat) := .inr ⟨p, rfl, hap, by omega, hpn⟩
        rw [rldA get_last, Option.bind_some, pcR, fx, v1, Option.map_some, Option.bind_some] at e0
        dsimp only at e0
        rw [Option.bind_some, bL2 hb10, Option.bind_some, Option.bind_some, bL1 hb10, Option.bind_some, c1, Option.bind_some, c2, Option.bind_some, arr_index q1, Option.bind_some, arr_load hm10 q1', Option.bind_some, pcR, fy, v2, Option.map_some, Option.bind_some] at e0
        dsimp only at e0
        rw [n_lss, Option.bind_some, ifA_dec, i_add1 (by omega), Option.bind_some, Option.bind_some] at e0
        by_cases hw : w1 < w2
        · rw [if_pos hw] at e0
          obtain ⟨e, best2, h1, h2⟩ := go _ Pi
          exact ⟨e, best2, e0.trans h1, h2⟩
        · rw [if_neg hw] at e0
          obtain ⟨e, best2, h1, h2⟩ := go _ Pp
          exact ⟨e, best2, e0.trans h1, h2⟩
    · have hq0 := q0_of (r := es[i * c + col]) (by omega)
      rw [cx.q] at hq0
      rw [if_neg hx0, i_add1 (by omega), Option.bind_some] at e0
      have P' : PVt N col a (i + 1) best := by
        rcases P with ⟨h, hh⟩ | ⟨p, h, hap, hpi, hpn⟩
        · exact .inl ⟨h, fun q h1 h2 => by
            by_cases e : q = i
            · rw [e]; exact hq0
            · exact hh q h1 (by omega)⟩
        · exact .inr ⟨p, h, hap, by omega, hpn⟩
      obtain ⟨e, best2, h1, h2⟩ := go _ P'
      exact ⟨e, best2, e0.trans h1, h2⟩
theorem C115 (hn : n ≤ 60) (hc : c ≤ 60) {kb : Nat} (hkb : kb < 2 ^ 36) (hkf : ∀ i, i < n → kf i ≤ kb) (W : WM m nm es n c kf N) {col a : Nat} (hcol : col < c) (ha : a ≤ n) :
    ∃ (e : Mem) (best : Int), AC cfg 115 [aM n c nm (n * c), .int .i64 a, .int .i64 col] m = some (.int .i64 best, m ++ e) ∧ PVt N col a n best := by
  have hb1 : (m ++ [cB n c nm (n * c)])[m.length]? = some (cB n c nm (n * c)) := get_last
  have W1 : WM (m ++ [cB n c nm (n * c)]) nm es n c kf N := ⟨app_get W.hm, W.len, W.fr, W.can, W.bd⟩
  obtain ⟨e, best, h1, h2⟩ := W115 hn hc hkb hkf hcol (b := m.length) (K115_3 (finK cfg.P f115.results.toList)) (n - a) a _ (-1) (by omega) (Nat.le_refl a) W1 hb1 (.inl ⟨rfl, fun q h1 h2 => by omega⟩)
  refine ⟨[cB n c nm (n * c)] ++ e, best, ?_, h2⟩
  rw [T115, box_aM, Option.bind_some]
  dsimp only
  rw [h1, K115_3_x0, List.append_assoc]
end
end Go.Ab

/- The program's steps, by value. -/
set_option linter.unusedVariables false
set_option linter.unusedSimpArgs false
set_option linter.unusedSectionVars false
set_option maxRecDepth 100000
namespace Go.Ab
open Go.Proofs.Try

/-- How many digits there may be behind so many columns. -/
def kk (k : Nat) : Nat → Nat
  | 0 => k
  | t + 1 => 4 * kk k t + 1
theorem kk_mono (k : Nat) {a b : Nat} (h : a ≤ b) : kk k a ≤ kk k b := by
  obtain ⟨d, rfl⟩ := Nat.exists_eq_add_of_le h
  induction d with
  | zero => exact Nat.le_refl _
  | succ d ih => rw [← Nat.add_assoc, kk]; have := ih (by omega); omega
def sgO (b : Bool) : Rat := if b then -1 else 1
theorem sgO_not (b : Bool) : sgO (!b) = - sgO b := by cases b <;> decide
theorem clrB_step {a i : Nat} {N : MX} {r col : Nat} (ha : a ≤ i) (hir : i ≠ r) : addR (clrB a i N r col) r i (clrB a i N r col i col / clrB a i N r col r col) = clrB a (i + 1) N r col := by
  funext q j
  unfold addR
  have e1 : clrB a i N r col i col = N i col := clrB_not (by omega)
  have e3 : clrB a i N r col i j = N i j := clrB_not (by omega)
  rw [e1, clrB_row, clrB_row, e3]
  unfold clrB
  by_cases hq : q = i
  · subst hq
    rw [if_pos rfl, if_pos (by omega)]
  · rw [if_neg hq]
    by_cases h2 : a ≤ q ∧ q < i ∧ q ≠ r
    · rw [if_pos h2, if_pos (by omega)]
    · rw [if_neg h2, if_neg (by omega)]
theorem un_not' (b : Bool) : unA .not (.bool b) = some (.bool (!b)) := rfl
section
variable {nm n c k : Nat} {P : MX}
theorem W88c (hn : n ≤ 60) (hc : c ≤ 60) {r col : Nat} (hr : r < n) (hcol : col < c) (hp : P r col ≠ 0) (hk1 : 1 ≤ k) (hk : 4 * k + 1 < 2 ^ 36) {b : Nat} (hbn : b ≠ nm) (x1 x7 : AV) (K : Ex → St → Option (AV × Mem)) : ∀ (d i : Nat) (m : Mem) (es : List RV), i + d = n → r < i → WM m nm es n c (fun q => if r + 1 ≤ q ∧ q < i then 4 * k + 1 else k) (clrB (r + 1) i P r col) → m[b]? = some (cB n c nm (n * c)) →
    ∃ (m' : Mem) (es' : List RV), L88_11 x1 (.ptr b 0) (.int .i64 r) x7 (.int .i64 col) (.int .i64 i) m K = K (.exit 2) (O88_11 x1 (.ptr b 0) (.int .i64 r) x7 (.int .i64 col) m') ∧ WM m' nm es' n c (fun _ => 4 * k + 1) (clrB (r + 1) n P r col) ∧ m'[b]? = some (cB n c nm (n * c)) ∧ Kn nm m m' := by
  intro d
  induction d with
  | zero =>
    intro i m es hi hri W hb
    obtain rfl : i = n := by omega
    refine ⟨m, es, ?_, W.mono fun q _ => ?_, hb, kn_refl _ _⟩
    · rw [L88_11_eq, fld0, Option.bind_some, bL0 hb, Option.bind_some, n_lss, Option.bind_some, ifA_dec, if_neg (by omega)]
    · split <;> omega
  | succ d ih =>
    intro i m es hi hri W hb
    have hin : i < n := by omega
    have e1 : clrB (r + 1) i P r col r col = P r col := clrB_row
    obtain ⟨m1, es1, e117, W1, kn1⟩ := C117 hn hc W hr hin (by omega) hcol (by rw [e1]; exact hp) (show (if r + 1 ≤ r ∧ r < i then 4 * k + 1 else k) ≤ k by rw [if_neg (by omega)]; exact Nat.le_refl _) (show (if r + 1 ≤ i ∧ i < i then 4 * k + 1 else k) ≤ k by rw [if_neg (by omega)]; exact Nat.le_refl _) hk1 hk
    rw [clrB_step (by omega) (by omega)] at W1
    have hb1 := kn1.cB hb hbn
    obtain ⟨m', es', e, h1, h2, h3⟩ := ih (i + 1) m1 es1 (by omega) (by omega) (W1.mono fun q _ => by
      split
      · rw [if_pos (by omega)]; exact Nat.le_refl _
      · split
        · rw [if_pos (by omega)]; exact Nat.le_refl _
        · split <;> omega) hb1
    refine ⟨m', es', ?_, h1, h2, Kn.trans kn1 h3⟩
    rw [L88_11_eq, fld0, Option.bind_some, bL0 hb, Option.bind_some, n_lss, Option.bind_some, ifA_dec, if_pos hin, bLA hb, Option.bind_some, e117, Option.bind_some, i_add1 (by omega), Option.bind_some]
    exact e
theorem W88 (hn : n ≤ 60) (hc : c ≤ 60) {k0 cols : Nat} (hk1 : 1 ≤ k0) (hK : kk k0 cols < 2 ^ 36) (hcols : cols ≤ c) {M : MX} {b : Nat} (hbn : b ≠ nm) : ∀ (d col r : Nat) (N : MX) (s : Rat) (cs : Nat → Nat) (m : Mem) (es : List RV) (odd : Bool), col + d = cols → EC n c M N s r col cs → s = sgO odd → WM m nm es n c (fun _ => kk k0 col) N → m[b]? = some (cB n c nm (n * c)) →
    ∃ (m' : Mem) (es' : List RV) (N' : MX) (s' : Rat) (r' : Nat) (cs' : Nat → Nat) (odd' : Bool), L88_3 (.int .i64 cols) (.ptr b 0) (.int .i64 r) (.bool odd) (.int .i64 col) m (K88_3 (finK cfg.P f88.results.toList)) = some (.tup [.int .i64 r', .bool odd'], m') ∧ EC n c M N' s' r' cols cs' ∧ s' = sgO odd' ∧ WM m' nm es' n c (fun _ => kk k0 cols) N' ∧ Kn nm m m' := by
  intro d
  induction d with
  | zero =>
    intro col r N s cs m es odd hd E hs W hb
    obtain rfl : col = cols := by omega
    refine ⟨m, es, N, s, r, cs, odd, ?_, E, hs, W, kn_refl _ _⟩
    rw [L88_3_eq, n_lss, Option.bind_some, ifA_dec, if_neg (by omega), K88_3_x0]
  | succ d ih =>
    intro col r N s cs m es odd hd E hs W hb
    have hcc : col < cols := by omega
    have hrn := E.ech.le
    have hkc : kk k0 col ≤ kk k0 cols := kk_mono k0 (by omega)
    have hk2 : 4 * kk k0 col + 1 ≤ kk k0 cols := kk_mono k0 (show col + 1 ≤ cols by omega)
    have hk0 : k0 ≤ kk k0 col := kk_mono k0 (Nat.zero_le col)
    have e0 : L88_3 (.int .i64 cols) (.ptr b 0) (.int .i64 r) (.bool odd) (.int .i64 col) m (K88_3 (finK cfg.P f88.results.toList)) = _ := L88_3_eq _ _ _ _ _ _ _
    rw [n_lss, Option.bind_some, ifA_dec, if_pos hcc, fld0, Option.bind_some, bL0 hb, Option.bind_some, n_lss, Option.bind_some, ifA_dec] at e0
    by_cases hrf : r < n
    · rw [if_pos hrf, bLA hb, Option.bind_some] at e0
      obtain ⟨e, best, e115, PV⟩ := C115 hn hc (show kk k0 cols < 2 ^ 36 from hK) (kf := fun _ => kk k0 col) (fun _ _ => hkc) W (show col < c by omega) (show r ≤ n by omega)
      rw [e115, Option.bind_some, binA_lss, Option.bind_some, ifA_dec] at e0
      have W1 : WM (m ++ e) nm es n c (fun _ => kk k0 col) N := ⟨app_get W.hm, W.len, W.fr, W.can, W.bd⟩
      have hb1 : (m ++ e)[b]? = some (cB n c nm (n * c)) := app_get hb
      rcases PV with ⟨rfl, hz⟩ | ⟨p, rfl, hrp, hpn, hpne⟩
      · rw [if_pos (by decide), i_add1 (by omega), Option.bind_some] at e0
        obtain ⟨m', es', N', s', r', cs', odd', h1, h2, h3, h4, h5⟩ := ih (col + 1) r N s cs (m ++ e) es odd (by omega) (E.skip (by omega) hz) hs (W1.mono fun _ _ => kk_mono k0 (Nat.le_succ col)) hb1
        exact ⟨m', es', N', s', r', cs', odd', e0.trans h1, h2, h3, h4, Kn.trans (kn_app _ _ _) h5⟩
      · rw [if_neg (by omega), binA_neq, Option.bind_some, ifA_dec] at e0
        -- the pivot's row has been brought up
        have fin : ∀ (m2 : Mem) (es2 : List RV) (P : MX) (s2 : Rat) (odd2 : Bool), WM m2 nm es2 n c (fun _ => kk k0 col) P → m2[b]? = some (cB n c nm (n * c)) → Kn nm m m2 → RE n c M P s2 → s2 = sgO odd2 → (∀ i j, i < r → P i j = N i j) → (∀ i j, r ≤ i → i < n → j < col → P i j = 0) → P r col ≠ 0 →
            ∃ (m' : Mem) (es' : List RV) (N' : MX) (s' : Rat) (r' : Nat) (cs' : Nat → Nat) (odd' : Bool), L88_11 (.int .i64 cols) (.ptr b 0) (.int .i64 r) (.bool odd2) (.int .i64 col) (.int .i64 (r + 1 : Nat)) m2 (K88_11 (K88_3 (finK cfg.P f88.results.toList))) = some (.tup [.int .i64 r', .bool odd'], m') ∧ EC n c M N' s' r' cols cs' ∧ s' = sgO odd' ∧ WM m' nm es' n c (fun _ => kk k0 cols) N' ∧ Kn nm m m' := by
          intro m2 es2 P s2 odd2 W2 hb2 kn2 re hs2 u1 u2 u3
          have c0 : clrB (r + 1) (r + 1) P r col = P := by funext i j; exact clrB_not (by omega)
          obtain ⟨m3, es3, e3, W3, hb3, kn3⟩ := W88c (k := kk k0 col) hn hc hrf (show col < c by omega) u3 (by omega) (by omega) hbn (.int .i64 cols) (.bool odd2) (K88_11 (K88_3 (finK cfg.P f88.results.toList))) (n - (r + 1)) (r + 1) m2 es2 (by omega) (by omega) (by rw [c0]; exact W2.mono fun q _ => by split <;> omega) hb2
          have E' := E.take (N1 := clrB (r + 1) n P r col) (show col < c by omega) hrf (re.clr hrf (r + 1) n (Nat.le_refl n)) (fun i j hi hj => by rw [clrB_not (by omega)]; exact u1 i j hi) (fun i j a b d => by rw [clrB_zero (u2 r j (Nat.le_refl _) hrf d)]; exact u2 i j a b d) (by rw [clrB_row]; exact u3) (fun i a b => clrB_col u3 ⟨by omega, b, by omega⟩)
          obtain ⟨m', es', N', s', r', cs', odd', h1, h2, h3, h4, h5⟩ := ih (col + 1) (r + 1) _ s2 _ m3 es3 odd2 (by omega) E' hs2 W3 hb3
          refine ⟨m', es', N', s', r', cs', odd', ?_, h2, h3, h4, Kn.trans kn2 (Kn.trans kn3 h5)⟩
          rw [e3, K88_11_x2, i_add1 (by omega), Option.bind_some, i_add1 (by omega), Option.bind_some]
          exact h1
        by_cases hpr : p = r
        · subst hpr
          rw [if_neg (by omega), i_add1 (by omega), Option.bind_some] at e0
          obtain ⟨m', es', N', s', r', cs', odd', h1, h2⟩ := fin (m ++ e) es N s odd W1 hb1 (kn_app _ _ _) E.re hs (fun _ _ _ => rfl) (fun i j a b d => E.ech.rest i a b j d) hpne
          exact ⟨m', es', N', s', r', cs', odd', e0.trans h1, h2⟩
        · have hne2 : (p : Int) ≠ (r : Int) := by omega
          obtain ⟨m2, es2, e116, W2, kn2⟩ := C116 hn hc W1 hpn hrf hpr
          rw [if_pos hne2, bLA hb1, Option.bind_some, e116, Option.bind_some, un_not', Option.bind_some, i_add1 (by omega), Option.bind_some] at e0
          have hz : ∀ i j, r ≤ i → i < n → j < col → swpR N p r i j = 0 := fun i j a b d => by
            unfold swpR
            split
            · exact E.ech.rest r (Nat.le_refl _) hrf j d
            · split
              · exact E.ech.rest p hrp hpn j d
              · exact E.ech.rest i a b j d
          obtain ⟨m', es', N', s', r', cs', odd', h1, h2⟩ := fin m2 es2 (swpR N p r) (-s) (!odd) (W2.mono fun q _ => by split <;> first | exact Nat.le_refl _ | (split <;> exact Nat.le_refl _)) (kn2.cB hb1 hbn) (Kn.trans (kn_app _ _ _) kn2) (.swp N s p r E.re hpn hrf hpr) (by rw [sgO_not, hs]) (fun i j hi => by unfold swpR; rw [if_neg (by omega), if_neg (by omega)]) hz (by unfold swpR; rw [if_neg (fun e => hpr e.symm), if_pos rfl]; exact hpne)
          exact ⟨m', es', N', s', r', cs', odd', e0.trans h1, h2⟩
    · have hrn2 : r = n := by omega
      subst hrn2
      rw [if_neg (by omega), K88_3_x0] at e0
      have E' := E.full (d + 1) (by omega)
      rw [hd] at E'
      exact ⟨m, es, N, s, r, cs, odd, e0, E', hs, W.mono fun _ _ => hkc, kn_refl _ _⟩
end
end Go.Ab

/- Powers of matrices: plain sums, and how great their fractions can be. -/
set_option linter.unusedVariables false
set_option linter.unusedSimpArgs false
set_option maxRecDepth 100000
namespace Go.Ab
open Go.Proofs.Try

/-! ### Matrices as functions -/
abbrev MF := Nat → Nat → Rat
def mulF (n : Nat) (A B : MF) : MF := fun i j => sumN (fun l => A i l * B l j) n
def idF : MF := fun i j => if i = j then 1 else 0
def powF (n : Nat) (A : MF) : Nat → MF
  | 0 => idF
  | e + 1 => mulF n (powF n A e) A
theorem mulF_assoc (n : Nat) (A B C : MF) (i j : Nat) : mulF n A (mulF n B C) i j = mulF n (mulF n A B) C i j := by
  unfold mulF
  have h1 : ∀ l, l < n → A i l * sumN (fun m => B l m * C m j) n = sumN (fun m => A i l * (B l m * C m j)) n := fun l _ => (sumN_mulL _ _ n).symm
  have h2 : ∀ m, m < n → sumN (fun l => A i l * B l m) n * C m j = sumN (fun l => A i l * B l m * C m j) n := fun m _ => (sumN_mulR _ _ n).symm
  rw [sumN_congr h1, sumN_congr h2, sumN_swap]
  refine sumN_congr fun m _ => sumN_congr fun l _ => ?_
  rw [Rat.mul_assoc]
theorem mulF_id (n : Nat) (A : MF) {i j : Nat} (hj : j < n) : mulF n A idF i j = A i j := by
  unfold mulF
  rw [sumN_one (p := j) (fun l _ hl => by unfold idF; rw [if_neg hl, Rat.mul_zero]), if_pos hj]
  unfold idF
  rw [if_pos rfl, Rat.mul_one]
theorem mulF_congr {n : Nat} {A A' B B' : MF} (hA : ∀ i j, i < n → j < n → A i j = A' i j) (hB : ∀ i j, i < n → j < n → B i j = B' i j) {i j : Nat} (hi : i < n) (hj : j < n) : mulF n A B i j = mulF n A' B' i j := by
  unfold mulF
  exact sumN_congr fun l hl => by rw [hA i l hi hl, hB l j hl hj]
theorem pow_add (n : Nat) (A : MF) (a : Nat) : ∀ (b : Nat) {i j : Nat}, i < n → j < n → mulF n (powF n A a) (powF n A b) i j = powF n A (a + b) i j
  | 0, i, j, hi, hj => by
    rw [Nat.add_zero, powF, mulF_id n _ hj]
  | b + 1, i, j, hi, hj => by
    show mulF n (powF n A a) (mulF n (powF n A b) A) i j = mulF n (powF n A (a + b)) A i j
    rw [mulF_assoc]
    exact mulF_congr (fun i j hi hj => pow_add n A a b hi hj) (fun _ _ _ _ => rfl) hi hj
/-! ### Fractions over one denominator -/
def Ud (D M : Nat) (q : Rat) : Prop := ∃ z : Int, z.natAbs ≤ M ∧ q = mkRat z D
theorem Ud.mono {D M M' : Nat} {q : Rat} (h : Ud D M q) (hM : M ≤ M') : Ud D M' q := by
  obtain ⟨z, h1, h2⟩ := h
  exact ⟨z, Nat.le_trans h1 hM, h2⟩
theorem Ud.zero (D M : Nat) : Ud D M 0 := ⟨0, Nat.zero_le _, (Rat.zero_mkRat D).symm⟩
theorem Ud.add {D M M' : Nat} {p q : Rat} (hD : D ≠ 0) (hp : Ud D M p) (hq : Ud D M' q) : Ud D (M + M') (p + q) := by
  obtain ⟨z, h1, rfl⟩ := hp
  obtain ⟨w, h3, rfl⟩ := hq
  refine ⟨z + w, by omega, ?_⟩
  rw [Rat.mkRat_add_mkRat _ _ hD hD, ← Int.add_mul, Rat.mkRat_mul_right hD]
theorem Ud.mul {D D' M M' : Nat} {p q : Rat} (hp : Ud D M p) (hq : Ud D' M' q) : Ud (D * D') (M * M') (p * q) := by
  obtain ⟨z, h1, rfl⟩ := hp
  obtain ⟨w, h3, rfl⟩ := hq
  refine ⟨z * w, by rw [Int.natAbs_mul]; exact Nat.mul_le_mul h1 h3, ?_⟩
  rw [Rat.mkRat_mul_mkRat]
theorem Ud.bd {D M k : Nat} {q : Rat} (h : Ud D M q) (hk : 1 ≤ k) (h1 : (digs D).length ≤ k) (h2 : (digs M).length ≤ k) : Bd k q := by
  obtain ⟨z, h3, rfl⟩ := h
  have e : mkRat z D = qOf (decide (z < 0)) z.natAbs D := by
    unfold qOf
    congr 1
    rw [sgn_nat]
    by_cases hz : z < 0
    · rw [decide_eq_true hz, if_pos rfl]; omega
    · rw [decide_eq_false hz, if_neg (by decide)]; omega
  rw [e]
  exact Bd_qOf (Nat.le_trans (digs_mono h3) h2) h1 hk
/-- All that a power needs: the sums on the way are short. -/
def PowB (K n : Nat) (A : MF) (N : Nat) : Prop := ∀ a b i j l, a + b ≤ N → i < n → j < n → l ≤ n → Bd K (sumN (fun l => powF n A a i l * powF n A b l j) l)
theorem PowB.mono {K n N N' : Nat} {A : MF} (h : PowB K n A N) (hN : N' ≤ N) : PowB K n A N' := fun a b i j l hab => h a b i j l (by omega)
theorem PowB.one {K n N : Nat} {A : MF} (h : PowB K n A N) {e i j : Nat} (he : e ≤ N) (hi : i < n) (hj : j < n) : Bd K (powF n A e i j) := by
  have := h e 0 i j n (by omega) hi hj (Nat.le_refl _)
  have e2 : sumN (fun l => powF n A e i l * powF n A 0 l j) n = powF n A e i j := mulF_id n (powF n A e) hj
  rw [e2] at this
  exact this
end Go.Ab

/- Powers of matrices, in values. -/
set_option linter.unusedVariables false
set_option linter.unusedSimpArgs false
set_option maxRecDepth 100000
namespace Go.Ab
open Go.Proofs.Try

def ent (x : MV) (n : Nat) : MF := fun i j => qAt x (i * n + j)
/-- The matrix is a power. -/
structure PM (K n : Nat) (A : MF) (e : Nat) (z : MV) : Prop where
  fr : z.fr = z
  ok : LOk K z.lv
  rows : z.rows = n
  cols : z.cols = n
  len : z.lv.es.length = n * n
  q : ∀ i j, i < n → j < n → ent z n i j = powF n A e i j
theorem dot_ent (x y : MV) (n i j l : Nat) : dotQ x y n n i j l = sumN (fun l => ent x n i l * ent y n l j) l := rfl
theorem PM.dot_bd {K n a b N : Nat} {A : MF} {x y : MV} (hx : PM K n A a x) (hy : PM K n A b y) (hP : PowB K n A N) (hab : a + b ≤ N) : ∀ i j l, i < n → j < n → l ≤ n → Bd K (dotQ x y n n i j l) := by
  intro i j l hi hj hl
  rw [dot_ent, sumN_congr (fun l' hl' => by rw [hx.q i l' hi (by omega), hy.q l' j (by omega) hj])]
  exact hP a b i j l hab hi hj hl
theorem PM.res {K n a b : Nat} {A : MF} {x y z : MV} (hx : PM K n A a x) (hy : PM K n A b y) (h : Res z 0 0 n n (mulQ x y n n) K) : PM K n A (a + b) z where
  fr := h.fr
  ok := h.ok
  rows := h.rows rfl
  cols := h.cols rfl
  len := h.len rfl
  q i j hi hj := by
    obtain ⟨e1, e2⟩ := row_col (i := i) hj
    show qAt z (i * n + j) = _
    rw [h.q rfl _ (cell_lt60 hi hj), mulQ, e1, e2, dot_ent, sumN_congr (fun l' hl' => by rw [hx.q i l' hi hl', hy.q l' j hl' hj])]
    exact pow_add n A a b hi hj
end Go.Ab

/- Power, in values: both sides. -/
set_option linter.unusedVariables false
set_option linter.unusedSimpArgs false
set_option maxRecDepth 100000
namespace Go.Ab
open Go.Proofs.Try

theorem right_cells {x : MV} (h : rightM x = true) : ∀ u ∈ x.lv.es, rightR u = true := by
  unfold rightM at h
  rw [Bool.and_eq_true] at h
  exact List.all_eq_true.1 h.2
end Go.Ab

/- clone brought to the caller; steps as a call; Rank. -/
set_option linter.unusedVariables false
set_option linter.unusedSimpArgs false
set_option linter.unusedSectionVars false
set_option maxRecDepth 100000
namespace Go.Ab
open Go.Proofs.Try

theorem T56' {x : MV} {k : Nat} (hx : LOk k x.lv) (hlen : x.lv.es.length < 4500) : ∃ m' l', RowAt m' l' ∧ l'.es = x.lv.es.map copyR ∧ AC cfg 56 [x.av] [] = some (MV.av ⟨x.rows, x.cols, l'⟩, m') := by
  obtain ⟨m', l', q1, q2, q3, q4, q5⟩ := W56 hx hlen (K56_3 (finK cfg.P f56.results.toList)) x.lv.es.length 0 [cM x, cM zM, cM ⟨x.rows, x.cols, nilL⟩] nilL (by omega) rfl rfl (.inl rfl) rfl
  have hl1 : 1 < m'.length := by
    apply Classical.byContradiction
    intro hc
    rw [List.getElem?_eq_none (by omega)] at q1
    cases q1
  refine ⟨m'.set 1 (cM ⟨x.rows, x.cols, l'⟩), l', q3.set q1 _, q4, ?_⟩
  have e1 : ([cM x, cM zM] : Mem)[0]? = some (cM x) := rfl
  have e2 : ([cM x, cM zM, cM zM] : Mem)[2]? = some (cM zM) := rfl
  have e3 : ([cM x, cM zM, cM ⟨x.rows, x.cols, nilL⟩] : Mem)[0]? = some (cM x) := rfl
  rw [T56]
  simp only [Option.bind_some, box_mv, new_m, new_r, fld0, fld1, fld2, List.length_nil, List.nil_append, List.length_cons, List.cons_append, Nat.zero_add, Nat.reduceAdd]
  rw [mld0 e1, Option.bind_some, mld1 e1, Option.bind_some, bldM01, Option.bind_some, mstA e2, Option.bind_some]
  simp only [List.set_cons_succ, List.set_cons_zero]
  rw [mld2 e3, Option.bind_some, len_lv, Option.bind_some]
  refine q5.trans ?_
  rw [K56_3_x0, mldA q2, Option.bind_some, mstA q1, Option.bind_some, mldA (by rw [List.getElem?_set_self hl1])]
  rfl
/-- A matrix that a call hands over: its cells may be written to. -/
theorem thawM {g : Nat} {args rs : List AV} {ns : List Nat} {m m' : Mem} {a b : Int} {l' : LV} (hf : mapF (frz m fuelF) args = some (rs, ns)) (hc : AC cfg g rs [] = some (MV.av ⟨a, b, l'⟩, m')) (hr : RowAt m' l') (hfr : ∀ r ∈ l'.es, r.fr = r) :
    (l' = nilL ∧ thawCall (AC cfg) m g args = some (MV.av ⟨a, b, nilL⟩, kill m ns)) ∨ (l'.es ≠ [] ∧ thawCall (AC cfg) m g args = some (aM a b m.length l'.es.length, kill m ns ++ [cA l'.es])) := by
  rcases hr with rfl | ⟨g1, g2, g3, nm, g4, g5⟩
  · refine .inl ⟨rfl, ?_⟩
    unfold thawCall
    rw [hf, Option.bind_some, hc, Option.bind_some]
    show some (_, kill m ns ++ []) = _
    rw [List.append_nil]; rfl
  · refine .inr ⟨g3, ?_⟩
    unfold thawCall
    rw [hf, Option.bind_some, hc, Option.bind_some]
    obtain ⟨sh, z, o, es⟩ := l'
    simp only at g1 g2 g3 g4 g5 hfr
    subst g1; subst g2; subst g4
    have hall : ((es.map RV.av).flatMap AV.cells).all rowC = true := by rw [flatR_eq]; exact flat_rowC es hfr
    have ht : thawA m.length m' (MV.av ⟨a, b, ⟨some 3, false, .tok nm 43, es⟩⟩) = some (.agg [.int .i64 a, .int .i64 b, .arr m.length 0 (es.map RV.av).length (some 3)], [some (.obj false ((es.map RV.av).flatMap AV.cells))]) := by
      unfold thawA MV.av LV.av
      simp only [mget g5, List.length_map, hall, and_self, if_true]
    rw [ht, Option.map_some, flatR_eq, List.length_map]
    rfl
theorem can_copy {r : RV} {q : Rat} (h : Can r q) : Can (copyR r) q := by
  have e : ∀ ds : List Nat, (rowN ds).z = true → (rowN ds).ds = [] := fun ds => by
    unfold rowN
    split
    · intro _; rfl
    · intro hh; cases hh
  exact ⟨h.neg, by rw [copyR, rowN_ds]; exact h.num, by rw [copyR, rowN_ds]; exact h.den, e _, e _⟩
/-- The matrix of an argument. -/
def mxOf (x : MV) (c : Nat) : MX := fun i j => qAt x (i * c + j)
section
variable {n c k : Nat}
/-- steps, as a call. -/
theorem C88 (hn : n ≤ 60) (hc : c ≤ 60) {k0 cols : Nat} (hk1 : 1 ≤ k0) (hK : kk k0 cols < 2 ^ 36) (hcols : cols ≤ c) {M : MX} {m : Mem} {nm : Nat} {es : List RV} (W : WM m nm es n c (fun _ => k0) M) :
    ∃ (m' : Mem) (es' : List RV) (N : MX) (s : Rat) (r : Nat) (cs : Nat → Nat) (odd : Bool), AC cfg 88 [aM n c nm (n * c), .int .i64 cols] m = some (.tup [.int .i64 r, .bool odd], m') ∧ EC n c M N s r cols cs ∧ s = sgO odd ∧ WM m' nm es' n c (fun _ => kk k0 cols) N ∧ Kn nm m m' := by
  have hnm : nm < m.length := (List.getElem?_eq_some_iff.1 W.hm).1
  have W1 : WM (m ++ [cB n c nm (n * c)]) nm es n c (fun _ => kk k0 0) M := ⟨app_get W.hm, W.len, W.fr, W.can, W.bd⟩
  obtain ⟨m', es', N, s, r, cs, odd, h1, h2, h3, h4, h5⟩ := W88 hn hc hk1 hK hcols (b := m.length) (by omega) cols 0 0 M 1 (fun _ => 0) _ es false (by omega) (ec0 n c M _) rfl W1 get_last
  refine ⟨m', es', N, s, r, cs, odd, ?_, h2, h3, h4, Kn.trans (kn_app _ _ _) h5⟩
  rw [T88, box_aM, Option.bind_some]
  exact h1
/-- No cells: no step. -/
theorem C88z {a b : Int} {cols : Nat} (h : cols = 0 ∨ a = 0) (hcols : cols ≤ 60) (m : Mem) : ∃ m', AC cfg 88 [MV.av ⟨a, b, nilL⟩, .int .i64 cols] m = some (.tup [.int .i64 0, .bool false], m') ∧ Kp m m' := by
  have key : ∀ (d col : Nat), col + d = cols → L88_3 (.int .i64 cols) (.ptr m.length 0) (.int .i64 0) (.bool false) (.int .i64 col) (m ++ [cM ⟨a, b, nilL⟩]) (K88_3 (finK cfg.P f88.results.toList)) = some (.tup [.int .i64 0, .bool false], m ++ [cM ⟨a, b, nilL⟩]) := by
    intro d col hd
    rw [L88_3_eq, n_lss, Option.bind_some, ifA_dec]
    by_cases hl : col < cols
    · rw [if_pos hl, fld0, Option.bind_some, mld0 get_last, Option.bind_some, binA_lss, Option.bind_some, ifA_dec, if_neg (by simp only; omega), K88_3_x0]
    · rw [if_neg hl, K88_3_x0]
  refine ⟨m ++ [cM ⟨a, b, nilL⟩], ?_, Kp.app m _⟩
  rw [T88, box_mv, Option.bind_some]
  exact key cols 0 (by omega)
/-- The copied cells of a right matrix. -/
theorem wm_copy {x : MV} (hx : LOk k x.lv) (hk1 : 1 ≤ k) (hr : ∀ u ∈ x.lv.es, rightR u = true) (hl : x.lv.es.length = n * c) {m : Mem} {nm : Nat} (hm : m[nm]? = some (cA (x.lv.es.map copyR))) : WM m nm (x.lv.es.map copyR) n c (fun _ => k) (mxOf x c) := by
  refine ⟨hm, by rw [List.length_map, hl], fun r hr => ?_, fun i j hi hj h => ?_, fun i j hi hj => qAt_bd hx hk1⟩
  · obtain ⟨r', _, rfl⟩ := List.mem_map.1 hr
    exact copyR_fr _
  · have h2 : i * c + j < x.lv.es.length := by simpa using h
    have hm2 := List.getElem_mem h2
    rw [List.getElem_map, mxOf, qAt_get h2]
    exact can_copy (rightR_can (hr _ hm2) (hx.ok _ hm2).num.nil (hx.ok _ hm2).den.nil)
end
end Go.Ab

/- What the interpreter does, function by function. -/
set_option maxRecDepth 100000
set_option linter.unusedVariables false
namespace Go.Ab
open Go.Proofs.Try
/-! ### sortilege/matrix.Stochastic -/
/-! ### sortilege/matrix.Det -/
theorem Q47_h0 (x0 : AV) (m : Mem) (K : Ex → St → Option (AV × Mem)) : execW cfg 47 (AP cfg) (AC cfg) (c1 (bodyOf f47)) ⟨[x0, .any, .any, .any, .any, .any, .any, .any, .any, .any, .any, .any, .any, .any, .any, .any, .any, .any, .any, .any, .any, .any, .any, .any, .any, .any, .any, .any, .any, .any, .any, .any, .any, .any, .any, .any, .any, .any, .any, .any, .any, .any, .any, .any, .any, .any, .any, .any, .any], m⟩ K =
  (boxA none (some 3) m x0).bind fun r1 =>
  K .normal ⟨[x0, r1.1, (.ptr (newAt none r1.2 .resv).1 0), (.int .i64 0), .any, .any, .any, .any, .any, .any, .any, .any, .any, .any, .any, .any, .any, .any, .any, .any, .any, .any, .any, .any, .any, .any, .any, .any, .any, .any, .any, .any, .any, .any, .any, .any, .any, .any, .any, .any, .any, .any, .any, .any, .any, .any, .any, .any, .any], (newAt none r1.2 (.obj true [(.bool false), (.lst none true .full []), (.lst none true .full [])])).2⟩ := by kernel_rfl
theorem Q47_h1 (x1 x2 : AV) (m : Mem) (K : Ex → St → Option (AV × Mem)) : execW cfg 47 (AP cfg) (AC cfg) (c1 (c2 (bodyOf f47))) ⟨[.any, x1, x2, .any, .any, .any, .any, .any, .any, .any, .any, .any, .any, .any, .any, .any, .any, .any, .any, .any, .any, .any, .any, .any, .any, .any, .any, .any, .any, .any, .any, .any, .any, .any, .any, .any, .any, .any, .any, .any, .any, .any, .any, .any, .any, .any, .any, .any, .any], m⟩ K =
  (loadA (some 3) m x1).bind fun v1 =>
  (pcall (AP cfg) none m 20 [v1]).bind fun r2 =>
  (unA .not r2.1).bind fun v3 =>
  ifA v3 (
  (buildA (.agg [(.bool false), (.lst none true .full []), (.lst none true .full [])]) []).bind fun v4 =>
  (storeA (some 3) r2.2 x2 v4).bind fun m5 =>
  K .ret ⟨[.any, x1, x2, (.int .i64 1), .any, .any, .any, .any, .any, .any, v1, r2.1, v3, v4, .any, .any, .any, .any, .any, .any, .any, .any, .any, .any, .any, .any, .any, .any, .any, .any, .any, .any, .any, .any, .any, .any, .any, .any, .any, .any, .any, .any, .any, .any, .any, .any, .any, .any, .any], m5⟩) (
  K .normal ⟨[.any, x1, x2, .any, .any, .any, .any, .any, .any, .any, v1, r2.1, v3, .any, .any, .any, .any, .any, .any, .any, .any, .any, .any, .any, .any, .any, .any, .any, .any, .any, .any, .any, .any, .any, .any, .any, .any, .any, .any, .any, .any, .any, .any, .any, .any, .any, .any, .any, .any], r2.2⟩) := by kernel_rfl
theorem Q47_h2 (x1 x2 : AV) (m : Mem) (K : Ex → St → Option (AV × Mem)) : execW cfg 47 (AP cfg) (AC cfg) (c1 (c2 (c2 (bodyOf f47)))) ⟨[.any, x1, x2, .any, .any, .any, .any, .any, .any, .any, .any, .any, .any, .any, .any, .any, .any, .any, .any, .any, .any, .any, .any, .any, .any, .any, .any, .any, .any, .any, .any, .any, .any, .any, .any, .any, .any, .any, .any, .any, .any, .any, .any, .any, .any, .any, .any, .any, .any], m⟩ K =
  (fieldAddrA 0 x1).bind fun v1 =>
  (loadA none m v1).bind fun v2 =>
  (fieldAddrA 1 x1).bind fun v3 =>
  (loadA none m v3).bind fun v4 =>
  (binA .other .neq v2 v4).bind fun v5 =>
  ifA v5 (
  (buildA (.agg [(.bool false), (.lst none true .full []), (.lst none true .full [])]) []).bind fun v6 =>
  (storeA (some 3) m x2 v6).bind fun m7 =>
  K .ret ⟨[.any, x1, x2, (.int .i64 30), .any, .any, .any, .any, .any, .any, .any, .any, .any, .any, v1, v2, v3, v4, v5, v6, .any, .any, .any, .any, .any, .any, .any, .any, .any, .any, .any, .any, .any, .any, .any, .any, .any, .any, .any, .any, .any, .any, .any, .any, .any, .any, .any, .any, .any], m7⟩) (
  K .normal ⟨[.any, x1, x2, .any, .any, .any, .any, .any, .any, .any, .any, .any, .any, .any, v1, v2, v3, v4, v5, .any, .any, .any, .any, .any, .any, .any, .any, .any, .any, .any, .any, .any, .any, .any, .any, .any, .any, .any, .any, .any, .any, .any, .any, .any, .any, .any, .any, .any, .any], m⟩) := by kernel_rfl
theorem Q47_h3 (x1 x2 : AV) (m : Mem) (K : Ex → St → Option (AV × Mem)) : execW cfg 47 (AP cfg) (AC cfg) (c1 (c2 (c2 (c2 (bodyOf f47))))) ⟨[.any, x1, x2, .any, .any, .any, .any, .any, .any, .any, .any, .any, .any, .any, .any, .any, .any, .any, .any, .any, .any, .any, .any, .any, .any, .any, .any, .any, .any, .any, .any, .any, .any, .any, .any, .any, .any, .any, .any, .any, .any, .any, .any, .any, .any, .any, .any, .any, .any], m⟩ K =
  (loadA (some 3) m x1).bind fun v1 =>
  (thawCall (AC cfg) m 56 [v1]).bind fun r2 =>
  (storeA (some 3) (newAt none r2.2 (.obj true [(.int .i64 0), (.int .i64 0), (.lst none true .full [])])).2 (.ptr (newAt none r2.2 .resv).1 0) r2.1).bind fun m3 =>
  K .normal ⟨[.any, x1, x2, .any, (.ptr (newAt none r2.2 .resv).1 0), .any, .any, .any, .any, .any, .any, .any, .any, .any, .any, .any, .any, .any, .any, .any, v1, r2.1, .any, .any, .any, .any, .any, .any, .any, .any, .any, .any, .any, .any, .any, .any, .any, .any, .any, .any, .any, .any, .any, .any, .any, .any, .any, .any, .any], m3⟩ := by kernel_rfl
theorem Q47_h4 (x2 x4 : AV) (m : Mem) (K : Ex → St → Option (AV × Mem)) : execW cfg 47 (AP cfg) (AC cfg) (c1 (c2 (c2 (c2 (c2 (bodyOf f47)))))) ⟨[.any, .any, x2, .any, x4, .any, .any, .any, .any, .any, .any, .any, .any, .any, .any, .any, .any, .any, .any, .any, .any, .any, .any, .any, .any, .any, .any, .any, .any, .any, .any, .any, .any, .any, .any, .any, .any, .any, .any, .any, .any, .any, .any, .any, .any, .any, .any, .any, .any], m⟩ K =
  (loadA (some 3) m x4).bind fun v1 =>
  (fieldAddrA 1 x4).bind fun v2 =>
  (loadA none m v2).bind fun v3 =>
  (AC cfg 88 [v1, v3] m).bind fun r4 =>
  (extractA r4.1 0).bind fun v5 =>
  (extractA r4.1 1).bind fun v6 =>
  K .normal ⟨[.any, .any, x2, .any, x4, v5, v6, .any, .any, .any, .any, .any, .any, .any, .any, .any, .any, .any, .any, .any, .any, .any, r4.1, v1, v2, v3, r4.1, v5, v6, .any, .any, .any, .any, .any, .any, .any, .any, .any, .any, .any, .any, .any, .any, .any, .any, .any, .any, .any, .any], r4.2⟩ := by kernel_rfl
theorem Q47_h5 (x2 x4 x5 x6 : AV) (m : Mem) (K : Ex → St → Option (AV × Mem)) : execW cfg 47 (AP cfg) (AC cfg) (c1 (c2 (c2 (c2 (c2 (c2 (bodyOf f47))))))) ⟨[.any, .any, x2, .any, x4, x5, x6, .any, .any, .any, .any, .any, .any, .any, .any, .any, .any, .any, .any, .any, .any, .any, .any, .any, .any, .any, .any, .any, .any, .any, .any, .any, .any, .any, .any, .any, .any, .any, .any, .any, .any, .any, .any, .any, .any, .any, .any, .any, .any], m⟩ K =
  (fieldAddrA 0 x4).bind fun v1 =>
  (loadA none m v1).bind fun v2 =>
  (binA .other .lss x5 v2).bind fun v3 =>
  ifA v3 (
  (pcall (AP cfg) none m 60 []).bind fun r4 =>
  (storeA (some 3) r4.2 x2 r4.1).bind fun m5 =>
  K .ret ⟨[.any, .any, x2, (.int .i64 0), x4, x5, x6, .any, .any, .any, .any, .any, .any, .any, .any, .any, .any, .any, .any, .any, .any, .any, .any, .any, .any, .any, .any, .any, .any, x5, v1, v2, v3, r4.1, .any, .any, .any, .any, .any, .any, .any, .any, .any, .any, .any, .any, .any, .any, .any], m5⟩) (
  K .normal ⟨[.any, .any, x2, .any, x4, x5, x6, .any, .any, .any, .any, .any, .any, .any, .any, .any, .any, .any, .any, .any, .any, .any, .any, .any, .any, .any, .any, .any, .any, x5, v1, v2, v3, .any, .any, .any, .any, .any, .any, .any, .any, .any, .any, .any, .any, .any, .any, .any, .any], m⟩) := by kernel_rfl
theorem Q47_h6 (x2 x4 x6 : AV) (m : Mem) (K : Ex → St → Option (AV × Mem)) : execW cfg 47 (AP cfg) (AC cfg) (c1 (c2 (c2 (c2 (c2 (c2 (c2 (bodyOf f47)))))))) ⟨[.any, .any, x2, .any, x4, .any, x6, .any, .any, .any, .any, .any, .any, .any, .any, .any, .any, .any, .any, .any, .any, .any, .any, .any, .any, .any, .any, .any, .any, .any, .any, .any, .any, .any, .any, .any, .any, .any, .any, .any, .any, .any, .any, .any, .any, .any, .any, .any, .any], m⟩ K =
  (pcall (AP cfg) none m 84 []).bind fun r1 =>
  (storeA (some 3) (newAt none r1.2 (.obj true [(.bool false), (.lst none true .full []), (.lst none true .full [])])).2 (.ptr (newAt none r1.2 .resv).1 0) r1.1).bind fun m2 =>
  K .normal ⟨[.any, .any, x2, .any, x4, .any, x6, (.ptr (newAt none r1.2 .resv).1 0), .any, .any, .any, .any, .any, .any, .any, .any, .any, .any, .any, .any, .any, .any, .any, .any, .any, .any, .any, .any, .any, .any, .any, .any, .any, .any, r1.1, .any, .any, .any, .any, .any, .any, .any, .any, .any, .any, .any, .any, .any, .any], m2⟩ := by kernel_rfl
theorem Q47_h7 (x2 x4 x6 x7 : AV) (m : Mem) (K : Ex → St → Option (AV × Mem)) : execW cfg 47 (AP cfg) (AC cfg) (c1 (c1 (c2 (c2 (c2 (c2 (c2 (c2 (c2 (bodyOf f47)))))))))) ⟨[.any, .any, x2, .any, x4, .any, x6, x7, .any, .any, .any, .any, .any, .any, .any, .any, .any, .any, .any, .any, .any, .any, .any, .any, .any, .any, .any, .any, .any, .any, .any, .any, .any, .any, .any, .any, .any, .any, .any, .any, .any, .any, .any, .any, .any, .any, .any, .any, .any], m⟩ K =
  (loadA (some 3) m x4).bind fun v1 =>
  (pcall (AP cfg) none m 82 [v1]).bind fun r2 =>
  K .normal ⟨[.any, .any, x2, .any, x4, .any, x6, x7, .any, .any, .any, .any, .any, .any, .any, .any, .any, .any, .any, .any, .any, .any, .any, .any, .any, .any, .any, .any, .any, .any, .any, .any, .any, .any, .any, v1, r2.1, .any, .any, .any, .any, .any, .any, .any, .any, .any, .any, .any, .any], r2.2⟩ := by kernel_rfl
theorem Q47_b (x7 x8 x9 : AV) (m : Mem) (K : Ex → St → Option (AV × Mem)) : execW cfg 47 (AP cfg) (AC cfg) (rB (c1 (c2 (c1 (c2 (c2 (c2 (c2 (c2 (c2 (c2 (bodyOf f47)))))))))))) ⟨[.any, .any, .any, .any, .any, .any, .any, x7, x8, x9, .any, .any, .any, .any, .any, .any, .any, .any, .any, .any, .any, .any, .any, .any, .any, .any, .any, .any, .any, .any, .any, .any, .any, .any, .any, .any, .any, .any, .any, .any, .any, .any, .any, .any, .any, .any, .any, .any, .any], m⟩ K =
  (loadA (some 3) m x7).bind fun v1 =>
  (indexAddrA (some 3) x9 x8).bind fun v2 =>
  (loadA (some 3) m v2).bind fun v3 =>
  (pcall (AP cfg) (some m.length) m 78 [v1, v3]).bind fun r4 =>
  (storeA (some 3) r4.2 x7 r4.1).bind fun m5 =>
  K .normal ⟨[.any, .any, .any, .any, .any, .any, .any, x7, x8, x9, .any, .any, .any, .any, .any, .any, .any, .any, .any, .any, .any, .any, .any, .any, .any, .any, .any, .any, .any, .any, .any, .any, .any, .any, .any, .any, .any, .any, .any, v1, x9, x8, v2, v3, r4.1, .any, .any, .any, .any], m5⟩ := by kernel_rfl
theorem Q47_h8 (x2 x6 x7 : AV) (m : Mem) (K : Ex → St → Option (AV × Mem)) : execW cfg 47 (AP cfg) (AC cfg) (c1 (c2 (c2 (c2 (c2 (c2 (c2 (c2 (c2 (bodyOf f47)))))))))) ⟨[.any, .any, x2, .any, .any, .any, x6, x7, .any, .any, .any, .any, .any, .any, .any, .any, .any, .any, .any, .any, .any, .any, .any, .any, .any, .any, .any, .any, .any, .any, .any, .any, .any, .any, .any, .any, .any, .any, .any, .any, .any, .any, .any, .any, .any, .any, .any, .any, .any], m⟩ K =
  ifA x6 (
  (loadA (some 3) m x7).bind fun v1 =>
  (pcall (AP cfg) none m 89 [v1]).bind fun r2 =>
  (storeA (some 3) r2.2 x7 r2.1).bind fun m3 =>
  K .normal ⟨[.any, .any, x2, .any, .any, .any, x6, x7, .any, .any, .any, .any, .any, .any, .any, .any, .any, .any, .any, .any, .any, .any, .any, .any, .any, .any, .any, .any, .any, .any, .any, .any, .any, .any, .any, .any, .any, .any, .any, .any, .any, .any, .any, .any, .any, x6, v1, r2.1, .any], m3⟩) (
  K .normal ⟨[.any, .any, x2, .any, .any, .any, x6, x7, .any, .any, .any, .any, .any, .any, .any, .any, .any, .any, .any, .any, .any, .any, .any, .any, .any, .any, .any, .any, .any, .any, .any, .any, .any, .any, .any, .any, .any, .any, .any, .any, .any, .any, .any, .any, .any, x6, .any, .any, .any], m⟩) := by kernel_rfl
theorem Q47_t (x2 x7 : AV) (m : Mem) (K : Ex → St → Option (AV × Mem)) : execW cfg 47 (AP cfg) (AC cfg) (c2 (c2 (c2 (c2 (c2 (c2 (c2 (c2 (c2 (bodyOf f47)))))))))) ⟨[.any, .any, x2, .any, .any, .any, .any, x7, .any, .any, .any, .any, .any, .any, .any, .any, .any, .any, .any, .any, .any, .any, .any, .any, .any, .any, .any, .any, .any, .any, .any, .any, .any, .any, .any, .any, .any, .any, .any, .any, .any, .any, .any, .any, .any, .any, .any, .any, .any], m⟩ K =
  (loadA (some 3) m x7).bind fun v1 =>
  (storeA (some 3) m x2 v1).bind fun m2 =>
  K .ret ⟨[.any, .any, x2, (.int .i64 0), .any, .any, .any, x7, .any, .any, .any, .any, .any, .any, .any, .any, .any, .any, .any, .any, .any, .any, .any, .any, .any, .any, .any, .any, .any, .any, .any, .any, .any, .any, .any, .any, .any, .any, .any, .any, .any, .any, .any, .any, .any, .any, .any, .any, v1], m2⟩ := by kernel_rfl
end Go.Ab

/- Det: the values of its pieces. -/
set_option linter.unusedVariables false
set_option linter.unusedSimpArgs false
set_option maxRecDepth 100000
namespace Go.Ab
open Go.Proofs.Try

/-- The cells of a matrix in memory, frozen. -/
theorem WM.lok {m : Mem} {nm : Nat} {es : List RV} {n c k : Nat} {N : MX} (W : WM m nm es n c (fun _ => k) N) (hk : k < 2 ^ 40) : LOk k ⟨some 3, false, .no, es⟩ ∧ ∀ i j, i < n → j < c → qAt ⟨n, c, ⟨some 3, false, .no, es⟩⟩ (i * c + j) = N i j := by
  refine ⟨⟨.inl rfl, fun h => (by cases h), W.fr, fun r hr => ?_⟩, fun i j hi hj => ?_⟩
  · obtain ⟨p, hp, rfl⟩ := List.getElem_of_mem (show r ∈ es from hr)
    have hp' : p < n * c := by rw [← W.len]; exact hp
    have hc0 : 0 < c := by
      rcases Nat.eq_zero_or_pos c with h0 | h0
      · rw [h0, Nat.mul_zero] at hp'; omega
      · exact h0
    have h1 : p / c < n := Nat.div_lt_of_lt_mul (by rw [Nat.mul_comm]; exact hp')
    have h2 : p % c < c := Nat.mod_lt _ hc0
    have e := div_mod_mul p c
    have h3 : p / c * c + p % c < es.length := by rw [e]; exact hp
    have := (W.can _ _ h1 h2 h3).ok (W.bd _ _ h1 h2) hk
    simp only [e] at this
    exact this
  · have h := W.at hi hj
    rw [qAt_get (x := ⟨n, c, ⟨some 3, false, .no, es⟩⟩) h]
    exact (W.can i j hi hj h).q
theorem D_h0 (x : MV) (K : Ex → St → Option (AV × Mem)) : execW cfg 47 (AP cfg) (AC cfg) (c1 (bodyOf f47)) ⟨[x.av, .any, .any, .any, .any, .any, .any, .any, .any, .any, .any, .any, .any, .any, .any, .any, .any, .any, .any, .any, .any, .any, .any, .any, .any, .any, .any, .any, .any, .any, .any, .any, .any, .any, .any, .any, .any, .any, .any, .any, .any, .any, .any, .any, .any, .any, .any, .any, .any], []⟩ K = K .normal ⟨[x.av, (.ptr 0 0), (.ptr 1 0), (.int .i64 0), .any, .any, .any, .any, .any, .any, .any, .any, .any, .any, .any, .any, .any, .any, .any, .any, .any, .any, .any, .any, .any, .any, .any, .any, .any, .any, .any, .any, .any, .any, .any, .any, .any, .any, .any, .any, .any, .any, .any, .any, .any, .any, .any, .any, .any], [cM x, cR zR]⟩ := by
  rw [Q47_h0, box_mv, Option.bind_some]
  rfl
theorem D_h1 {x : MV} {k : Nat} (hx : IsM k x) (hk : k < 2 ^ 38) (K : Ex → St → Option (AV × Mem)) : execW cfg 47 (AP cfg) (AC cfg) (c1 (c2 (bodyOf f47))) ⟨[.any, (.ptr 0 0), (.ptr 1 0), .any, .any, .any, .any, .any, .any, .any, .any, .any, .any, .any, .any, .any, .any, .any, .any, .any, .any, .any, .any, .any, .any, .any, .any, .any, .any, .any, .any, .any, .any, .any, .any, .any, .any, .any, .any, .any, .any, .any, .any, .any, .any, .any, .any, .any, .any], [cM x, cR zR]⟩ K =
    if rightM x = true then K .normal ⟨[.any, (.ptr 0 0), (.ptr 1 0), .any, .any, .any, .any, .any, .any, .any, x.av, (.bool true), (.bool false), .any, .any, .any, .any, .any, .any, .any, .any, .any, .any, .any, .any, .any, .any, .any, .any, .any, .any, .any, .any, .any, .any, .any, .any, .any, .any, .any, .any, .any, .any, .any, .any, .any, .any, .any, .any], [cM x, cR zR]⟩ else K .ret ⟨[.any, (.ptr 0 0), (.ptr 1 0), (.int .i64 1), .any, .any, .any, .any, .any, .any, x.av, (.bool false), (.bool true), zR.av, .any, .any, .any, .any, .any, .any, .any, .any, .any, .any, .any, .any, .any, .any, .any, .any, .any, .any, .any, .any, .any, .any, .any, .any, .any, .any, .any, .any, .any, .any, .any, .any, .any, .any, .any], [cM x, cR zR]⟩ := by
  rw [Q47_h1, mldA (x := x) rfl, Option.bind_some, pcM, hx.fr, V20 hx.ok hk (by have := hx.len; omega), Option.map_some, Option.bind_some, not_b, Option.bind_some]
  cases hb : rightM x with
  | false =>
    rw [Bool.not_false, ifA_true, if_neg (by decide), show buildA (.agg [(.bool false), (.lst none true .full []), (.lst none true .full [])]) [] = some zR.av from rfl, Option.bind_some, rstA (x := zR) rfl, Option.bind_some]
    rfl
  | true => rw [Bool.not_true, ifA_false, if_pos rfl]
theorem D_h2 {x : MV} (K : Ex → St → Option (AV × Mem)) : execW cfg 47 (AP cfg) (AC cfg) (c1 (c2 (c2 (bodyOf f47)))) ⟨[.any, (.ptr 0 0), (.ptr 1 0), .any, .any, .any, .any, .any, .any, .any, .any, .any, .any, .any, .any, .any, .any, .any, .any, .any, .any, .any, .any, .any, .any, .any, .any, .any, .any, .any, .any, .any, .any, .any, .any, .any, .any, .any, .any, .any, .any, .any, .any, .any, .any, .any, .any, .any, .any], [cM x, cR zR]⟩ K =
    if x.rows = x.cols then K .normal ⟨[.any, (.ptr 0 0), (.ptr 1 0), .any, .any, .any, .any, .any, .any, .any, .any, .any, .any, .any, (.ptr 0 0), (.int .i64 x.rows), (.ptr 0 1), (.int .i64 x.cols), (.bool (decide (x.rows ≠ x.cols))), .any, .any, .any, .any, .any, .any, .any, .any, .any, .any, .any, .any, .any, .any, .any, .any, .any, .any, .any, .any, .any, .any, .any, .any, .any, .any, .any, .any, .any, .any], [cM x, cR zR]⟩ else K .ret ⟨[.any, (.ptr 0 0), (.ptr 1 0), (.int .i64 30), .any, .any, .any, .any, .any, .any, .any, .any, .any, .any, (.ptr 0 0), (.int .i64 x.rows), (.ptr 0 1), (.int .i64 x.cols), (.bool (decide (x.rows ≠ x.cols))), zR.av, .any, .any, .any, .any, .any, .any, .any, .any, .any, .any, .any, .any, .any, .any, .any, .any, .any, .any, .any, .any, .any, .any, .any, .any, .any, .any, .any, .any, .any], [cM x, cR zR]⟩ := by
  rw [Q47_h2, fld0, Option.bind_some, mld0 (x := x) rfl, Option.bind_some, fld1, Option.bind_some, mld1 (x := x) rfl, Option.bind_some, binA_neq, Option.bind_some, ifA_dec]
  by_cases hc : x.rows = x.cols
  · rw [if_neg (fun h => h hc), if_pos hc]
  · rw [if_pos hc, if_neg hc, show buildA (.agg [(.bool false), (.lst none true .full []), (.lst none true .full [])]) [] = some zR.av from rfl, Option.bind_some, rstA (x := zR) rfl, Option.bind_some]
    rfl
/-- The matrix whose steps have been done, as it will be handed on. -/
structure Dn (x : MV) (k n : Nat) (m : Mem) (p r : Nat) (odd : Bool) (xx : MV) (ns : List Nat) : Prop where
  res : m[1]? = some (cR zR)
  row : loadA none m (.ptr p 0) = some (.int .i64 n)
  ec : ∃ (N : MX) (s : Rat) (cs : Nat → Nat), EC n n (mxOf x n) N s r n cs ∧ s = sgO odd ∧ ∀ i j, i < n → j < n → qAt xx (i * n + j) = N i j
  fr : xx.fr = xx
  rows : xx.rows = n
  cols : xx.cols = n
  lok : LOk (kk k n) xx.lv
  len : xx.lv.es.length = n * n
  frz : ∀ e : Mem, ∃ v, loadA (some 3) (m ++ e) (.ptr p 0) = some v ∧ mapF (Ab.frz (m ++ e) fuelF) [v] = some ([xx.av], ns)
  ns2 : ∀ q ∈ ns, q = 2
  p2 : 1 < m.length
  nq : m.length ∉ ns
theorem D34 {x : MV} {k n : Nat} (hx : IsM k x) (hb : rightM x = true) (hxn : x.rows = n) (hxc : x.cols = n) (hn : n ≤ 60) (hk1 : 1 ≤ k) (hK : kk k n < 2 ^ 36) :
    ∃ (ts1 : List AV) (m1 : Mem) (ts2 : List AV) (m2 : Mem) (p r : Nat) (odd : Bool) (xx : MV) (ns : List Nat),
      (∀ K : Ex → St → Option (AV × Mem), execW cfg 47 (AP cfg) (AC cfg) (c1 (c2 (c2 (c2 (bodyOf f47))))) ⟨[.any, (.ptr 0 0), (.ptr 1 0), .any, .any, .any, .any, .any, .any, .any, .any, .any, .any, .any, .any, .any, .any, .any, .any, .any, .any, .any, .any, .any, .any, .any, .any, .any, .any, .any, .any, .any, .any, .any, .any, .any, .any, .any, .any, .any, .any, .any, .any, .any, .any, .any, .any, .any, .any], [cM x, cR zR]⟩ K = K .normal ⟨ts1, m1⟩) ∧ (ts1.length = 49 ∧ ts1.getD 2 .any = .ptr 1 0 ∧ ts1.getD 4 .any = .ptr p 0) ∧
      (∀ K : Ex → St → Option (AV × Mem), execW cfg 47 (AP cfg) (AC cfg) (c1 (c2 (c2 (c2 (c2 (bodyOf f47)))))) ⟨[.any, .any, (.ptr 1 0), .any, (.ptr p 0), .any, .any, .any, .any, .any, .any, .any, .any, .any, .any, .any, .any, .any, .any, .any, .any, .any, .any, .any, .any, .any, .any, .any, .any, .any, .any, .any, .any, .any, .any, .any, .any, .any, .any, .any, .any, .any, .any, .any, .any, .any, .any, .any, .any], m1⟩ K = K .normal ⟨ts2, m2⟩) ∧ (ts2.length = 49 ∧ ts2.getD 2 .any = .ptr 1 0 ∧ ts2.getD 4 .any = .ptr p 0 ∧ ts2.getD 5 .any = .int .i64 r ∧ ts2.getD 6 .any = .bool odd) ∧ Dn x k n m2 p r odd xx ns := by
  have hl : x.lv.es.length = n * n := by
    obtain ⟨r, c, a1, a2, _, _, a5⟩ := right_len hb
    rw [a5, show r = n by omega, show c = n by omega]
  have hcc := right_cells hb
  have kle : k ≤ kk k n := kk_mono k (Nat.zero_le n)
  obtain ⟨m0, l1, r1, r2, r3⟩ := T56' hx.ok (by have := hx.len; omega)
  have hf : mapF (Ab.frz [cM x, cR zR] fuelF) [x.av] = some ([x.av], []) := by
    simp [mapF, fz_mv x [cM x, cR zR], hx.fr]
  have ht := thawM (m := [cM x, cR zR]) hf r3 r1 (by rw [r2]; intro r hr; obtain ⟨r', _, rfl⟩ := List.mem_map.1 hr; exact copyR_fr _)
  rcases ht with ⟨hz, ht⟩ | ⟨hz, ht⟩
  · have hn0 : n = 0 := by
      rw [hz] at r2
      have h := congrArg List.length r2
      rw [List.length_map, hl] at h
      have h : 0 = n * n := h
      rcases Nat.mul_eq_zero.1 h.symm with h | h <;> exact h
    subst hn0
    rw [hxn, hxc] at ht
    obtain ⟨m2, h88, kp⟩ := C88z (a := (0 : Nat)) (b := (0 : Nat)) (cols := 0) (.inl rfl) (by omega) [cM x, cR zR, cM ⟨(0 : Nat), (0 : Nat), nilL⟩]
    have g2 : m2[2]? = some (cM ⟨(0 : Nat), (0 : Nat), nilL⟩) := (kp.2 2 true _ rfl)
    have lm : m2.length = m2.length := rfl
    refine ⟨[.any, (.ptr 0 0), (.ptr 1 0), .any, (.ptr 2 0), .any, .any, .any, .any, .any, .any, .any, .any, .any, .any, .any, .any, .any, .any, .any, x.av, (MV.av ⟨(0 : Nat), (0 : Nat), nilL⟩), .any, .any, .any, .any, .any, .any, .any, .any, .any, .any, .any, .any, .any, .any, .any, .any, .any, .any, .any, .any, .any, .any, .any, .any, .any, .any, .any], [cM x, cR zR, cM ⟨(0 : Nat), (0 : Nat), nilL⟩], [.any, .any, (.ptr 1 0), .any, (.ptr 2 0), (.int .i64 0), (.bool false), .any, .any, .any, .any, .any, .any, .any, .any, .any, .any, .any, .any, .any, .any, .any, (.tup [.int .i64 0, .bool false]), (MV.av ⟨(0 : Nat), (0 : Nat), nilL⟩), (.ptr 2 1), (.int .i64 (0 : Nat)), (.tup [.int .i64 0, .bool false]), (.int .i64 0), (.bool false), .any, .any, .any, .any, .any, .any, .any, .any, .any, .any, .any, .any, .any, .any, .any, .any, .any, .any, .any, .any], m2, 2, 0, false, ⟨(0 : Nat), (0 : Nat), nilL⟩, [], fun K => ?_, ⟨?_, ?_, ?_⟩, fun K => ?_, ⟨?_, ?_, ?_, ?_, ?_⟩, ⟨(kp.2 1 true _ rfl), mld0 g2, ⟨mxOf x 0, 1, fun _ => 0, ec0 0 0 _ _, rfl, fun i j hi => by omega⟩, rfl, rfl, rfl, zM_ok _, rfl, fun e => ⟨_, mldA (app_get g2), ?_⟩, by simp, by rw [lm]; exact Nat.lt_of_lt_of_le (show 1 < 3 by decide) kp.1, by simp⟩⟩
    · rw [Q47_h3, mldA (x := x) rfl, Option.bind_some, ht, Option.bind_some]
      simp only [kill, List.foldl_nil, new_m, new_r, List.length_cons, List.length_nil, List.cons_append, List.nil_append, Nat.zero_add, Nat.reduceAdd]
      rw [mstA (x := zM) (y := ⟨(0 : Nat), (0 : Nat), nilL⟩) rfl, Option.bind_some]
      rfl
    · rfl
    · rfl
    · rfl
    · rw [Q47_h4, mldA (x := ⟨(0 : Nat), (0 : Nat), nilL⟩) rfl, Option.bind_some, fld1, Option.bind_some, mld1 (x := ⟨(0 : Nat), (0 : Nat), nilL⟩) rfl, Option.bind_some, h88, Option.bind_some, ex0, Option.bind_some, ex1, Option.bind_some]
    · rfl
    · rfl
    · rfl
    · rfl
    · rfl
    · simp [mapF, fz_mv ⟨(0 : Nat), (0 : Nat), nilL⟩ (m2 ++ e)]
      rfl
  · have hl1 : l1.es.length = n * n := by rw [r2, List.length_map, hl]
    have W : WM [cM x, cR zR, cA l1.es, cB n n 2 (n * n)] 2 l1.es n n (fun _ => k) (mxOf x n) := by
      rw [r2]
      exact wm_copy hx.ok hk1 hcc hl rfl
    obtain ⟨m2, es2, N, s, r, cs, odd, h2, E, hs, W2, kn⟩ := C88 hn hn hk1 hK (Nat.le_refl n) W
    have g3 : m2[3]? = some (cB n n 2 (n * n)) := (kn.2 3 true _ (by decide) rfl)
    have lm : m2.length = m2.length := rfl
    have g3' : ∀ e : Mem, (m2 ++ e)[3]? = some (cB n n 2 es2.length) := fun e => by rw [W2.len]; exact app_get g3
    obtain ⟨lk, lq⟩ := W2.lok (show kk k n < 2 ^ 40 by omega)
    rw [hxn, hxc, hl1] at ht
    refine ⟨[.any, (.ptr 0 0), (.ptr 1 0), .any, (.ptr 3 0), .any, .any, .any, .any, .any, .any, .any, .any, .any, .any, .any, .any, .any, .any, .any, x.av, (aM n n 2 (n * n)), .any, .any, .any, .any, .any, .any, .any, .any, .any, .any, .any, .any, .any, .any, .any, .any, .any, .any, .any, .any, .any, .any, .any, .any, .any, .any, .any], [cM x, cR zR, cA l1.es, cB n n 2 (n * n)], [.any, .any, (.ptr 1 0), .any, (.ptr 3 0), (.int .i64 r), (.bool odd), .any, .any, .any, .any, .any, .any, .any, .any, .any, .any, .any, .any, .any, .any, .any, (.tup [.int .i64 r, .bool odd]), (aM n n 2 (n * n)), (.ptr 3 1), (.int .i64 n), (.tup [.int .i64 r, .bool odd]), (.int .i64 r), (.bool odd), .any, .any, .any, .any, .any, .any, .any, .any, .any, .any, .any, .any, .any, .any, .any, .any, .any, .any, .any, .any], m2, 3, r, odd, ⟨n, n, ⟨some 3, false, .no, es2⟩⟩, [2], fun K => ?_, ⟨?_, ?_, ?_⟩, fun K => ?_, ⟨?_, ?_, ?_, ?_, ?_⟩, ⟨(kn.2 1 true _ (by decide) rfl), bL0 g3, ⟨N, s, cs, E, hs, lq⟩, rfl, rfl, rfl, lk, W2.len, fun e => ⟨_, bLA (g3' e), ?_⟩, by simp, by rw [lm]; exact Nat.lt_of_lt_of_le (show 1 < 4 by decide) kn.1, by have h4 : 4 ≤ m2.length := kn.1; simp; omega⟩⟩
    · rw [Q47_h3, mldA (x := x) rfl, Option.bind_some, ht, Option.bind_some]
      simp only [kill, List.foldl_nil, new_m, new_r, List.length_cons, List.length_nil, List.cons_append, List.nil_append, Nat.zero_add, Nat.reduceAdd]
      rw [bldMz _ (n := 3) (x := zM) rfl _ _ _ rfl, Option.bind_some]
      rfl
    · rfl
    · rfl
    · rfl
    · rw [Q47_h4, bLA (rows := n) (cols := n) (nm := 2) (L := n * n) rfl, Option.bind_some, fld1, Option.bind_some, bL1 (rows := n) (cols := n) (nm := 2) (L := n * n) rfl, Option.bind_some, h2, Option.bind_some, ex0, Option.bind_some, ex1, Option.bind_some]
    · rfl
    · rfl
    · rfl
    · rfl
    · rfl
    · have ha := frz_arrR (k := 6) (app_get (e := e) (W2.hm)) W2.fr
      have e1 : ∀ (m : Mem) (a b c : AV), Ab.frz m fuelF (.agg [a, b, c]) = (mapF (Ab.frz m 8) [a, b, c]).map fun r => (.agg r.1, r.2) := fun _ _ _ _ => rfl
      have hi : ∀ (m : Mem) (x : Int), Ab.frz m 8 (.int .i64 x) = some (.int .i64 x, []) := fun _ _ => rfl
      simp only [mapF, e1, hi, ha, Option.bind_some, Option.map_some, List.nil_append, List.append_nil, MV.av, LV.av]
end Go.Ab

/- Det: the values of its later pieces. -/
set_option linter.unusedVariables false
set_option linter.unusedSimpArgs false
set_option maxRecDepth 100000
namespace Go.Ab
open Go.Proofs.Try

section
variable {x : MV} {k n : Nat} {m : Mem} {p r : Nat} {odd : Bool} {xx : MV} {ns : List Nat}
theorem D_h5 (D : Dn x k n m p r odd xx ns) (K : Ex → St → Option (AV × Mem)) : execW cfg 47 (AP cfg) (AC cfg) (c1 (c2 (c2 (c2 (c2 (c2 (bodyOf f47))))))) ⟨[.any, .any, (.ptr 1 0), .any, (.ptr p 0), (.int .i64 r), (.bool odd), .any, .any, .any, .any, .any, .any, .any, .any, .any, .any, .any, .any, .any, .any, .any, .any, .any, .any, .any, .any, .any, .any, .any, .any, .any, .any, .any, .any, .any, .any, .any, .any, .any, .any, .any, .any, .any, .any, .any, .any, .any, .any], m⟩ K =
    if r < n then K .ret ⟨[.any, .any, (.ptr 1 0), (.int .i64 0), (.ptr p 0), (.int .i64 r), (.bool odd), .any, .any, .any, .any, .any, .any, .any, .any, .any, .any, .any, .any, .any, .any, .any, .any, .any, .any, .any, .any, .any, .any, (.int .i64 r), (.ptr p 0), (.int .i64 n), (.bool (decide (r < n))), zeroR.av, .any, .any, .any, .any, .any, .any, .any, .any, .any, .any, .any, .any, .any, .any, .any], m.set 1 (cR zeroR)⟩ else K .normal ⟨[.any, .any, (.ptr 1 0), .any, (.ptr p 0), (.int .i64 r), (.bool odd), .any, .any, .any, .any, .any, .any, .any, .any, .any, .any, .any, .any, .any, .any, .any, .any, .any, .any, .any, .any, .any, .any, (.int .i64 r), (.ptr p 0), (.int .i64 n), (.bool (decide (r < n))), .any, .any, .any, .any, .any, .any, .any, .any, .any, .any, .any, .any, .any, .any, .any, .any], m⟩ := by
  rw [Q47_h5, fld0, Option.bind_some, D.row, Option.bind_some, n_lss, Option.bind_some, ifA_dec]
  by_cases h : r < n
  · rw [if_pos h, if_pos h, pc0, V60, Option.map_some, Option.bind_some, rstA D.res, Option.bind_some]
  · rw [if_neg h, if_neg h]
theorem D_h6 (K : Ex → St → Option (AV × Mem)) : execW cfg 47 (AP cfg) (AC cfg) (c1 (c2 (c2 (c2 (c2 (c2 (c2 (bodyOf f47)))))))) ⟨[.any, .any, (.ptr 1 0), .any, (.ptr p 0), .any, (.bool odd), .any, .any, .any, .any, .any, .any, .any, .any, .any, .any, .any, .any, .any, .any, .any, .any, .any, .any, .any, .any, .any, .any, .any, .any, .any, .any, .any, .any, .any, .any, .any, .any, .any, .any, .any, .any, .any, .any, .any, .any, .any, .any], m⟩ K = K .normal ⟨[.any, .any, (.ptr 1 0), .any, (.ptr p 0), .any, (.bool odd), (.ptr m.length 0), .any, .any, .any, .any, .any, .any, .any, .any, .any, .any, .any, .any, .any, .any, .any, .any, .any, .any, .any, .any, .any, .any, .any, .any, .any, .any, oneR.av, .any, .any, .any, .any, .any, .any, .any, .any, .any, .any, .any, .any, .any, .any], m ++ [cR oneR]⟩ := by
  rw [Q47_h6, pc0, V84, Option.map_some, Option.bind_some, new_z', new_r, st_last, Option.bind_some]
theorem V82 (x : MV) (fr : x.fr = x) : AP cfg 82 [x.av] = some (.fn 114 [vM x]) := by
  refine AP_of (m := [cM x]) (v := .fn 114 [.ptr 0 0]) (l := []) ?_ ?_ rfl
  · rw [T82, box_mv]; rfl
  · have e : frz [cM x] fuelF (.fn 114 [.ptr 0 0]) = (mapF (frz [cM x] 8) [.ptr 0 0]).map fun q => (.fn 114 q.1, q.2) := rfl
    rw [e]
    have e2 : frz [cM x] 8 (.ptr 0 0) = some (vM x.fr, []) := frz_ptrM rfl
    simp only [mapF, e2, Option.bind_some, Option.map_some, fr, List.append_nil]
theorem D_h7 (D : Dn x k n m p r odd xx ns) : ∃ v : AV, ∀ (K : Ex → St → Option (AV × Mem)), execW cfg 47 (AP cfg) (AC cfg) (c1 (c1 (c2 (c2 (c2 (c2 (c2 (c2 (c2 (bodyOf f47)))))))))) ⟨[.any, .any, (.ptr 1 0), .any, (.ptr p 0), .any, (.bool odd), (.ptr m.length 0), .any, .any, .any, .any, .any, .any, .any, .any, .any, .any, .any, .any, .any, .any, .any, .any, .any, .any, .any, .any, .any, .any, .any, .any, .any, .any, .any, .any, .any, .any, .any, .any, .any, .any, .any, .any, .any, .any, .any, .any, .any], m ++ [cR oneR]⟩ K = K .normal ⟨[.any, .any, (.ptr 1 0), .any, (.ptr p 0), .any, (.bool odd), (.ptr m.length 0), .any, .any, .any, .any, .any, .any, .any, .any, .any, .any, .any, .any, .any, .any, .any, .any, .any, .any, .any, .any, .any, .any, .any, .any, .any, .any, .any, v, (.fn 114 [vM xx]), .any, .any, .any, .any, .any, .any, .any, .any, .any, .any, .any, .any], kill (m ++ [cR oneR]) ns⟩ := by
  obtain ⟨v, h1, h2⟩ := D.frz [cR oneR]
  refine ⟨v, fun K => ?_⟩
  have e : pcall (AP cfg) none (m ++ [cR oneR]) 82 [v] = some (.fn 114 [vM xx], kill (m ++ [cR oneR]) ns) := by
    unfold pcall
    rw [h2, Option.bind_some]
    simp only [Option.isSome_none, Bool.false_and, Bool.false_eq_true, if_false]
    rw [V82 xx D.fr]; rfl
  rw [Q47_h7, h1, Option.bind_some, e, Option.bind_some]
theorem D_t {q : Nat} {o z : RV} (hm : m[q]? = some (cR o)) (h1 : m[1]? = some (cR z)) (K : Ex → St → Option (AV × Mem)) : execW cfg 47 (AP cfg) (AC cfg) (c2 (c2 (c2 (c2 (c2 (c2 (c2 (c2 (c2 (bodyOf f47)))))))))) ⟨[.any, .any, (.ptr 1 0), .any, .any, .any, .any, (.ptr q 0), .any, .any, .any, .any, .any, .any, .any, .any, .any, .any, .any, .any, .any, .any, .any, .any, .any, .any, .any, .any, .any, .any, .any, .any, .any, .any, .any, .any, .any, .any, .any, .any, .any, .any, .any, .any, .any, .any, .any, .any, .any], m⟩ K = K .ret ⟨[.any, .any, (.ptr 1 0), (.int .i64 0), .any, .any, .any, (.ptr q 0), .any, .any, .any, .any, .any, .any, .any, .any, .any, .any, .any, .any, .any, .any, .any, .any, .any, .any, .any, .any, .any, .any, .any, .any, .any, .any, .any, .any, .any, .any, .any, .any, .any, .any, .any, .any, .any, .any, .any, .any, o.av], m.set 1 (cR o)⟩ := by
  rw [Q47_t, rldA hm, Option.bind_some, rstA h1, Option.bind_some]
end
end Go.Ab

/- Operations whose result the world does not tell, but for cells that stay. -/
set_option linter.unusedVariables false
set_option linter.unusedSimpArgs false
namespace Go.Ab
open Go.RowKit

section
variable {C : Cfg} {B : Nat} {w W : World} {g : G}
/-- A value that no world tells. -/
def wl : AV → Bool
  | .any | .int .. | .bool _ | .str _ | .nilp | .nilf | .nile => true
  | _ => false
theorem V.flat {x : AV} {v : Value} {w' : World} {g' : G} (h : V w g x v) (hw : wl x = true) : V w' g' x v := by
  cases h <;> first | (simp [wl] at hw; done) | constructor
/-- A value's part that neither world has changed. -/
theorem slice_any {P : Program} {e : Nat} {sh : Sh} {z : Bool} {o : Own} {es : List AV} {x' : Value} {lo hi : Nat} (hx : V w g (.lst sh z o es) x') (h1 : lo ≤ hi) (h2 : hi ≤ es.length) (t : Nat) (ht : P.underlying t = some (.slice e)) (hsh : shOf P e = some sh) (he : elemOk P e sh = true) :
    ∃ v', (∀ W, (Instr.sliceAt t x' (some (.int .i64 lo)) (some (.int .i64 hi)) none).run P W = .ok v' W) ∧ V w g (.lst sh z .no ((es.take hi).drop lo)) v' := by
  obtain ⟨inf, z0, hinf, hs1, hpos, _, _, _⟩ := elemOk_facts he
  have bd : ∀ (len cap : Nat) (W : World), len = es.length → len ≤ cap → (Instr.sliceBounds true len cap (some (.int .i64 lo)) (some (.int .i64 hi)) none).run P W = .ok (lo, hi, cap) W := by
    intro len cap W hl hc
    have e1 : (0 : Int) ≤ (hi : Nat) ∧ ((hi : Nat) : Int) ≤ len := by omega
    have e2 : (0 : Int) ≤ (lo : Nat) ∧ ((lo : Nat) : Int) ≤ hi := by omega
    obtain ⟨b1, b2, b3⟩ := bounds_two (P := P) (w := W) (g := g) (isS := true) (len := len) (cap := cap) (lo := some (.int .i64 lo)) (hi := some (.int .i64 hi)) (lo' := some (.int .i64 lo)) (hi' := some (.int .i64 hi)) (V.int .i64 lo) (V.int .i64 hi) hc (h := hi) (l := lo) (by simp only [boundA, e1, and_self, if_true]; simp) (by simp only [boundA, e2, and_self, if_true]; simp)
    exact b1
  cases hx with
  | nils _ o hof =>
    have h3 : hi = 0 := by simpa using h2
    have h4 : lo = 0 := by omega
    subst h3; subst h4
    refine ⟨.slice none 0 0, fun W => ?_, ?_⟩
    · have hb1 : (Instr.sliceBounds true 0 0 (some (.int .i64 0)) (some (.int .i64 0)) none).run P W = .ok (0, 0, 0) W := bd 0 0 W rfl (Nat.le_refl _)
      simp [Instr.sliceAt, run_underlying ht, Instr.slice, hb1, run_sizeOf hinf]
    · simp only [List.take_nil, List.drop_nil]
      exact .nils _ _ (by simp)
  | lst _ o es a cap us hsp hc hm' hsh' hcell hv ho' =>
    refine ⟨.slice (some (if cap = lo then a else a.add (lo * sh.size))) (hi - lo) (cap - lo), fun W => ?_, V_sub (.lst sh o es a cap us hsp hc hm' hsh' hcell hv ho') h1 h2 (by omega) (Nat.le_refl _) (.inl rfl)⟩
    have hb1 := bd es.length cap W rfl hc
    simp only [Instr.sliceAt, Sem.run_bind, run_underlying ht, Result.andThen_ok, Instr.slice, hb1, run_sizeOf hinf, Sem.run_pure]
    by_cases hml : cap = lo <;> simp [hml, hs1]
/-- What may run so. -/
def pure2 (o : Op) (ρ : Operand → AV) (v : AV) : Bool := match o with
  | .move _ | .assign _ | .load .. | .fieldAddr .. => true
  | .binOp _ _ x y _ => wl (ρ x) && (wl (ρ y) && wl v)
  | .unOp _ _ x => wl (ρ x) && wl v
  | _ => false
theorem pure2_sound {callP : Nat → List AV → Option AV} {callI : Nat → List AV → Mem → Option (AV × Mem)} {fid : Nat} {d : Option Nat} {o : Oper} {ρ : Operand → AV} {a : Act} {v : AV} {m1 : Mem} (hh : Hold g w w W) (h : opF C fid callP callI d o ρ [] = some (v, m1)) (hp : pure2 o.op ρ v = true) (hρ : ∀ x, V w g (ρ x) (a.eval x)) :
    m1 = [] ∧ ∃ v', (execOp a.eval o).run C.P W = .ok (.value v') W ∧ V w g v v' := by
  unfold opF opK at h
  unfold pure2 at hp
  cases hop : o.op with
  | move x =>
    rw [hop] at h
    simp only [Option.some.injEq, Prod.mk.injEq] at h
    obtain ⟨rfl, rfl⟩ := h
    exact ⟨rfl, _, by simp [execOp, hop], hρ x⟩
  | assign x =>
    rw [hop] at h
    simp only [Option.some.injEq, Prod.mk.injEq] at h
    obtain ⟨rfl, rfl⟩ := h
    exact ⟨rfl, _, by simp [execOp, hop], hρ x⟩
  | load t x =>
    rw [hop] at h
    simp only at h
    split at h
    · rename_i sh hsh
      simp only [Option.bind_eq_some_iff, Option.some.injEq, Prod.mk.injEq] at h
      obtain ⟨v0, hv, rfl, rfl⟩ := h
      refine ⟨rfl, ?_⟩
      have hx := hρ x
      unfold loadA at hv
      split at hv
      · rename_i cs hcs
        rw [hcs] at hx
        generalize hxe : a.eval x = x' at hx
        cases hx with
        | vptr cs b o us hcell hv' =>
          obtain ⟨h1, h2⟩ := cut_V us hv' hv
          have hcW : ∀ j, j < cs.length → W.cell? ⟨b, o + j, none⟩ = some (us j) := fun j hj => hh.cell _ _ _ (cell_lt (hcell j hj).1) (hcell j hj).2 (hcell j hj).1
          cases sh with
          | none =>
            obtain ⟨hlt, hV⟩ := h1 rfl
            refine ⟨_, ?_, hV⟩
            simp only [execOp, hop, hxe, Instr.loadAt, Instr.sureAddr, Sem.run_bind, Sem.run_pure, Result.andThen_ok]
            rw [run_loadVar_fn hsh us (fun j hj => hcW j (by simp only [Sh.size] at hj; omega))]
            rfl
          | some n =>
            obtain ⟨hlt, hV⟩ := h2 n rfl
            refine ⟨_, ?_, by simpa using hV⟩
            simp only [execOp, hop, hxe, Instr.loadAt, Instr.sureAddr, Sem.run_bind, Sem.run_pure, Result.andThen_ok]
            rw [run_loadVar_fn hsh us (fun j hj => hcW j (by simp only [Sh.size] at hj; omega))]
            rfl
      · simp [Mem.obj?, Mem.get] at hv
      · cases hv
    · cases h
  | fieldAddr t x f =>
    rw [hop] at h
    simp only at h
    split at h
    · rename_i off sh hf
      simp only [Option.bind_eq_some_iff, Option.some.injEq, Prod.mk.injEq] at h
      obtain ⟨v0, hv, rfl, rfl⟩ := h
      refine ⟨rfl, ?_⟩
      have hx := hρ x
      obtain ⟨fs, fd, hu, hfd, hsh, rfl, hne⟩ := fieldOf_facts hf
      obtain ⟨i, d, hi, hd, hs, _⟩ := shOf_facts hsh
      have hz : i.size ≠ 0 := by omega
      unfold fieldAddrA at hv
      split at hv
      · rename_i cs hcs
        rw [hcs] at hx
        split at hv
        · rename_i hlt
          simp at hv; subst hv
          generalize hxe : a.eval x = x' at hx
          cases hx with
          | vptr cs b o us hcell hv' =>
            refine ⟨.pointer (some ⟨b, o + fd.offset, none⟩), by simp [execOp, hop, hxe, Instr.fieldAt, run_underlying hu, hfd, Instr.sureAddr, fieldPlace, run_sizeOf hi, hz, Addr_add], ?_⟩
            refine .vptr _ _ _ (fun j => us (fd.offset + j)) (fun j hj => ?_) (fun j hj => ?_)
            · have := hcell (fd.offset + j) (by simp at hj; omega)
              simpa [Nat.add_assoc] using this
            · have := hv' (fd.offset + j) (by simp at hj; omega)
              simpa [List.getD_eq_getElem?_getD, List.getElem?_drop] using this
        · cases hv
      · rename_i nm o hcs
        simp at hv; subst hv
        rw [hcs] at hx
        generalize hxe : a.eval x = x' at hx
        cases hx with
        | ptr nm o b hl =>
          exact ⟨.pointer (some ⟨b, o + fd.offset, none⟩), by simp [execOp, hop, hxe, Instr.fieldAt, run_underlying hu, hfd, Instr.sureAddr, fieldPlace, run_sizeOf hi, hz, Addr_add], .ptr _ _ _ hl⟩
      · cases hv
    · cases h
  | binOp op t x y p =>
    rw [hop] at h hp
    simp only [Option.bind_eq_some_iff, Option.some.injEq, Prod.mk.injEq] at h
    obtain ⟨v0, hv, rfl, rfl⟩ := h
    simp only [Bool.and_eq_true] at hp
    obtain ⟨v', h1, h2⟩ := pure_ok (P := C.P) (a := a) (o := o) (w := W) (g := g) (bin_sound (P := C.P) op t x y ((hρ x).flat hp.1) ((hρ y).flat hp.2.1) hv) (fun w => by simp [execOp, hop])
    exact ⟨rfl, v', h1, h2.flat hp.2.2⟩
  | unOp op t x =>
    rw [hop] at h hp
    simp only [Option.bind_eq_some_iff, Option.some.injEq, Prod.mk.injEq] at h
    obtain ⟨v0, hv, rfl, rfl⟩ := h
    simp only [Bool.and_eq_true] at hp
    obtain ⟨v', h1, h2⟩ := pure_ok (P := C.P) (a := a) (o := o) (w := W) (g := g) (un_sound (P := C.P) op ((hρ x).flat hp.1) hv) (fun w => by simp [execOp, hop])
    exact ⟨rfl, v', h1, h2.flat hp.2⟩
  | _ => rw [hop] at hp; cases hp
/-- A run of such operations, with its checks. -/
def runQ (C : Cfg) (fid : Nat) (ops : Array Oper) : List Nat → List AV → Option (List AV)
  | [], ts => some ts
  | i :: l, ts => match ops[i]? with
    | none => none
    | some o => match o.guard with
      | some _ => none
      | none => match opF C fid (fun _ _ => none) (fun _ _ _ => none) none o (ev ts) [] with
        | none => none
        | some r => match pure2 o.op (ev ts) r.1 with
          | true => runQ C fid ops l (setD ts o.dst r.1)
          | false => none
def noDst (ops : Array Oper) (l : List Nat) (t : Nat) : Bool := l.all fun i => match ops[i]? with
  | some o => match o.dst with
    | some d => !(Nat.beq d t)
    | none => true
  | none => false
theorem put_other {a : Act} {d : Option Nat} {t : Nat} {v : Value} (h : d ≠ some t) : (a.put d v).tmps.getD t undef = a.tmps.getD t undef := by
  cases d with
  | none => rfl
  | some d =>
    have hdt : d ≠ t := fun e => h (by rw [e])
    simp only [Act.put]
    rw [Array.getD_eq_getD_getElem?, Array.getD_eq_getD_getElem?, Array.getElem?_setIfInBounds_ne hdt]
/-- An operation whose run is known. -/
theorem valIn {F : Fence} {n : Nat} (hF : Fine F) {P : Program} {ops : Array Oper} {i : Nat} {o : Oper} {v : Value} (ho : ops[i]? = some o) (hd : ∀ c, o.op ≠ .defer c) (hg : o.guard = none) {next : Act → World → Prop} {Q : Exit → Act → World → Prop} {a : Act} {w : World}
    (hr : (execOp a.eval o).run P w = .ok (.value v) w) (h : next (a.put o.dst v) w) : nextIn F n P ops Q i next a w := by
  refine nextIn_of hF (fun o' ho' hw => ?_) (fun o' ho' hw => ?_) (fun hnone => by rw [ho] at hnone; cases hnone)
  · rw [ho] at ho'
    obtain rfl := Option.some.inj ho'
    refine ⟨?_, hd⟩
    unfold Oper.wp
    rw [hr]
    exact h
  · rw [ho] at ho'
    obtain rfl := Option.some.inj ho'
    rw [show Region.wanted o (yielded ops a.tmps) = true by simp [Region.wanted, hg]] at hw
    cases hw
theorem pureQ {F : Fence} {n : Nat} (hF : Fine F) {fid : Nat} {ops : Array Oper} {Q : Exit → Act → World → Prop} (hh : Hold g w w W) (rest : List Nat) : ∀ (l : List Nat) (ts ts' : List AV) (a : Act),
    runQ C fid ops l ts = some ts' → TmpR w g ts a.tmps →
    (∀ a', TmpR w g ts' a'.tmps → a'.defers = a.defers → (∀ t, noDst ops l t = true → a'.tmps.getD t undef = a.tmps.getD t undef) → wpOpsIn F n C.P ops Q rest a' W) → wpOpsIn F n C.P ops Q (l ++ rest) a W := by
  intro l
  induction l with
  | nil =>
    intro ts ts' a h ht hn
    simp only [runQ, Option.some.injEq] at h
    subst h
    exact hn a ht rfl fun _ _ => rfl
  | cons i l ih =>
    intro ts ts' a h ht hn
    unfold runQ at h
    cases ho : ops[i]? with
    | none => rw [ho] at h; cases h
    | some o =>
      rw [ho] at h
      simp only at h
      cases hg : o.guard with
      | some _ => rw [hg] at h; cases h
      | none =>
        rw [hg] at h
        simp only at h
        cases hr : opF C fid (fun _ _ => none) (fun _ _ _ => none) none o (ev ts) [] with
        | none => rw [hr] at h; cases h
        | some r =>
          rw [hr] at h
          simp only at h
          cases hp : pure2 o.op (ev ts) r.1 with
          | false => rw [hp] at h; cases h
          | true =>
            rw [hp] at h
            obtain ⟨v, m1⟩ := r
            obtain ⟨rfl, v', hrun, hv⟩ := pure2_sound (a := a) hh hr hp (ev_V ht)
            have hd : ∀ c, o.op ≠ .defer c := by
              intro c hc
              rw [hc] at hp; cases hp
            rw [List.cons_append, wpOpsIn_cons]
            refine valIn hF ho hd hg hrun ?_
            refine ih (setD ts o.dst v) ts' (a.put o.dst v') h (ht.put hv o.dst) fun a' ht' hd' hk => hn a' ht' (hd'.trans (put_defers _ _ _)) fun t htn => ?_
            simp only [noDst, List.all_cons, Bool.and_eq_true, ho] at htn
            rw [hk t htn.2]
            refine put_other fun e => ?_
            have := htn.1
            rw [e] at this
            simp [Nat.beq_refl] at this
end
end Go.Ab

/- rows of matrix: the iterator's contract. -/
set_option linter.unusedVariables false
set_option linter.unusedSimpArgs false
set_option maxRecDepth 100000
namespace Go.Ab
open Go.Proofs.Try

section
variable (r c : Int) (z : Bool) (o : Own) (es : List AV)
abbrev it114 : AV := .vptr [.int .i64 r, .int .i64 c, .lst (some 3) z o es]
/-- The temporaries between two rounds; in a round. -/
def s114 (i : Int) : List AV := [.any, it114 r c z o es, .any, .any, .any, .int .i64 r, .int .i64 i, .any, .any, .any, .any, .any, .any, .any, .any, .any, .any, .any, .any, .any, .any, .any, .any, .any, .any, .any]
def t114 (i : Int) : List AV := [.any, it114 r c z o es, .any, .int .i64 i, .any, .int .i64 r, .int .i64 i, .any, .any, .any, .any, .any, .any, .any, .any, .any, .any, .any, .any, .any, .any, .any, .any, .any, .any, .any]
def u114 (i : Int) : List AV := [.any, it114 r c z o es, .any, .int .i64 i, .any, .int .i64 r, .int .i64 i, .any, .any, .any, .int .i64 i, .vptr [.lst (some 3) z o es], .lst (some 3) z o es, .int .i64 i, .vptr [.int .i64 c, .lst (some 3) z o es], .int .i64 c, .int .i64 (IntKind.wrap .i64 (i * c)), .int .i64 i, .int .i64 (IntKind.wrap .i64 (i + 1)), .vptr [.int .i64 c, .lst (some 3) z o es], .int .i64 c, .int .i64 (IntKind.wrap .i64 (IntKind.wrap .i64 (i + 1) * c)), .any, .any, .any, .any]
theorem q114_0 : runQ cfg 114 (opsOf (c1 (bodyOf f114))) [0, 1, 2] [.any, it114 r c z o es, .any, .any, .any, .any, .any, .any, .any, .any, .any, .any, .any, .any, .any, .any, .any, .any, .any, .any, .any, .any, .any, .any, .any, .any] = some [.any, it114 r c z o es, .any, .any, it114 r c z o es, .int .i64 r, .int .i64 0, .any, .any, .any, .any, .any, .any, .any, .any, .any, .any, .any, .any, .any, .any, .any, .any, .any, .any, .any] := by kernel_rfl
theorem q114_1 (i : Int) : runQ cfg 114 (opsOf (c1 (c1 (c1 (c2 (bodyOf f114)))))) [0] (s114 r c z o es i) = some [.any, it114 r c z o es, .any, .any, .any, .int .i64 r, .int .i64 i, .bool (decide (i < r)), .any, .any, .any, .any, .any, .any, .any, .any, .any, .any, .any, .any, .any, .any, .any, .any, .any, .any] := by kernel_rfl
theorem q114_2 (i : Int) : runQ cfg 114 (opsOf (c1 (c1 (c1 (c2 (c2 (c1 (c1 (c2 (bodyOf f114)))))))))) [0, 1] (s114 r c z o es i) = some [.any, it114 r c z o es, .any, .int .i64 i, .any, .int .i64 r, .int .i64 i, .any, .int .i64 i, .any, .any, .any, .any, .any, .any, .any, .any, .any, .any, .any, .any, .any, .any, .any, .any, .any] := by kernel_rfl
theorem q114_3 (i : Int) : runQ cfg 114 (opsOf (c1 (c2 (c1 (c1 (c2 (c2 (c1 (c1 (c2 (bodyOf f114))))))))))) [1, 2, 3, 4, 5, 6, 7, 8, 9, 10, 11, 12] (t114 r c z o es i) = some (u114 r c z o es i) := by kernel_rfl
theorem q114_4 (i : Int) : runQ cfg 114 (opsOf (c2 (c2 (c2 (c1 (c1 (c2 (bodyOf f114)))))))) [0, 1] (s114 r c z o es i) = some [.any, it114 r c z o es, .any, .any, .any, .int .i64 r, .int .i64 (IntKind.wrap .i64 (i + 1)), .any, .any, .any, .any, .any, .any, .any, .any, .any, .any, .any, .any, .any, .any, .any, .any, .any, .any, .int .i64 (IntKind.wrap .i64 (i + 1))] := by kernel_rfl
theorem q114_5 (i : Int) (b : Bool) : runQ cfg 114 (opsOf (c1 (c2 (c1 (c1 (c2 (c2 (c1 (c1 (c2 (bodyOf f114))))))))))) [15] [.any, it114 r c z o es, .any, .any, .any, .int .i64 r, .int .i64 i, .any, .any, .any, .any, .any, .any, .any, .any, .any, .any, .any, .any, .any, .any, .any, .any, .bool b, .any, .any] = some [.any, it114 r c z o es, .any, .any, .any, .int .i64 r, .int .i64 i, .any, .any, .any, .any, .any, .any, .any, .any, .any, .any, .any, .any, .any, .any, .any, .any, .bool b, .bool (!b), .any] := by kernel_rfl
end
theorem e114 : bodyOf f114 = .seq (.region 0 (opsOf (c1 (bodyOf f114))) false) (.block 0 (.loop (.seq (.region 1 (opsOf (c1 (c1 (c1 (c2 (bodyOf f114)))))) false) (.seq (.cond (.tmp 7) .skip (.exit 0)) (.seq (.block 1 (.seq (.region 2 (opsOf (c1 (c1 (c1 (c2 (c2 (c1 (c1 (c2 (bodyOf f114)))))))))) false) (.seq (.region 3 (opsOf (c1 (c2 (c1 (c1 (c2 (c2 (c1 (c1 (c2 (bodyOf f114))))))))))) false) (.cond (.tmp 24) .ret .skip)))) (.region 4 (opsOf (c2 (c2 (c2 (c1 (c1 (c2 (bodyOf f114)))))))) false)))))) := by kernel_rfl
theorem res114 (ts : Array Value) (w : World) : (results f114 ts).run prog w = .ok (.tuple #[]) w := by
  rw [results_eq, Array.mapM_eq_mapM_toList, show f114.results.toList = [] from rfl]
  simp
end Go.Ab

/- rows of matrix: what it gives, row by row. -/
set_option linter.unusedVariables false
set_option linter.unusedSimpArgs false
set_option maxRecDepth 100000
namespace Go.Ab
open Go.Proofs.Try Go.RowKit

abbrev rowA (z : Bool) (es : List AV) (c i : Nat) : AV := .lst (some 3) z .no ((es.take ((i + 1) * c)).drop (i * c))
/-- What a round is handed: the row's number and the row. -/
abbrev X114 (w : World) (g : G) (r c : Nat) (z : Bool) (es : List AV) := { p : Nat × Value // p.1 < r ∧ V w g (rowA z es c p.1) p.2 }
def enc114 {w : World} {g : G} {r c : Nat} {z : Bool} {es : List AV} (x : X114 w g r c z es) : Array Value := #[.int .i64 (x.1.1 : Int), x.1.2]
theorem anyD : ∀ (n t : Nat), (List.replicate n AV.any).getD t .any = .any := by
  intro n t
  rw [List.getD_eq_getElem?_getD, List.getElem?_replicate]
  split <;> rfl
theorem TmpR.put' {w : World} {g : G} {ts : List AV} {a : Act} (h : TmpR w g ts a.tmps) {v : AV} {v' : Value} (hv : V w g v v') (d : Nat) {ts' : List AV} (e : ts.set d v = ts') : TmpR w g ts' (a.put (some d) v').tmps := by
  subst e
  exact h.put hv (some d)
theorem put_self {a : Act} {d : Nat} {v : Value} (h : d < a.tmps.size) : (a.put (some d) v).tmps.getD d undef = v := by
  simp only [Act.put]
  rw [Array.getD_eq_getD_getElem?, Array.getElem?_setIfInBounds_self]
  simp [h]
noncomputable def g114 (i : Nat) : Oper := ((opsOf (c1 (c2 (c1 (c1 (c2 (c2 (c1 (c1 (c2 (bodyOf f114)))))))))))[i]?).getD default
theorem at3_0 : (opsOf (c1 (c2 (c1 (c1 (c2 (c2 (c1 (c1 (c2 (bodyOf f114)))))))))))[0]? = some (g114 0) := by kernel_rfl
theorem at3_13 : (opsOf (c1 (c2 (c1 (c1 (c2 (c2 (c1 (c1 (c2 (bodyOf f114)))))))))))[13]? = some (g114 13) := by kernel_rfl
theorem at3_14 : (opsOf (c1 (c2 (c1 (c1 (c2 (c2 (c1 (c1 (c2 (bodyOf f114)))))))))))[14]? = some (g114 14) := by kernel_rfl
theorem op3_0 : (g114 0).op = .move (.tmp 0) ∧ (g114 0).guard = none ∧ (g114 0).dst = some 9 := ⟨by kernel_rfl, by kernel_rfl, by kernel_rfl⟩
theorem op3_13 : (g114 13).op = .slice 22 (.tmp 12) (some (.tmp 16)) (some (.tmp 21)) none ∧ (g114 13).guard = none ∧ (g114 13).dst = some 22 := ⟨by kernel_rfl, by kernel_rfl, by kernel_rfl⟩
theorem op3_14 : (g114 14).op = .call { callee := .value (.tmp 9), args := #[.tmp 10, .tmp 22], argTypes := #[3, 22] } ∧ (g114 14).guard = none ∧ (g114 14).dst = some 23 := ⟨by kernel_rfl, by kernel_rfl, by kernel_rfl⟩
theorem TmpR.flat {w w' : World} {g g' : G} {ts : List AV} {vs : Array Value} (h : TmpR w g ts vs) (hw : ∀ x ∈ ts, wl x = true) : TmpR w' g' ts vs :=
  ⟨h.1, fun t => by
    by_cases ht : t < ts.length
    · exact (h.2 t).flat (hw _ (getD_mem ht))
    · rw [List.getD_eq_getElem?_getD, List.getElem?_eq_none (by omega)]; exact .any _⟩
theorem q114_6 (b : Bool) : runQ cfg 114 (opsOf (c1 (c2 (c1 (c1 (c2 (c2 (c1 (c1 (c2 (bodyOf f114))))))))))) [15] [.any, .any, .any, .any, .any, .any, .any, .any, .any, .any, .any, .any, .any, .any, .any, .any, .any, .any, .any, .any, .any, .any, .any, .bool b, .any, .any] = some [.any, .any, .any, .any, .any, .any, .any, .any, .any, .any, .any, .any, .any, .any, .any, .any, .any, .any, .any, .any, .any, .any, .any, .bool b, .bool (!b), .any] := by kernel_rfl
theorem V.int_eq {w : World} {g : G} {k : IntKind} {n : Int} {v : Value} (h : V w g (.int k n) v) : v = .int k n := by cases h; rfl
theorem V.bool_eq {w : World} {g : G} {b : Bool} {v : Value} (h : V w g (.bool b) v) : v = .bool b := by cases h; rfl
theorem ty22 : prog.underlying 22 = some (.slice 43) := by kernel_rfl
theorem sh43 : shOf prog 43 = some (some 3) := by kernel_rfl
theorem el43 : elemOk prog 43 (some 3) = true := by kernel_rfl
theorem tmpR_start {w : World} {g : G} {args : List AV} {vs : Array Value} (hl : args.length = vs.size) (hv : ∀ j, j < args.length → V w g (args.getD j .any) (vs.getD j undef)) (k : Nat) : TmpR w g (args ++ List.replicate k .any) (vs ++ Array.replicate k undef) := by
  refine ⟨by simp [hl], fun t => ?_⟩
  simp only [List.getD_eq_getElem?_getD, Array.getD_eq_getD_getElem?, List.getElem?_append, Array.getElem?_append]
  by_cases h1 : t < args.length
  · rw [if_pos h1, if_pos (by omega)]
    simpa [List.getD_eq_getElem?_getD, Array.getD_eq_getD_getElem?] using hv t h1
  · rw [if_neg h1, if_neg (by omega), List.getElem?_replicate]
    split <;> exact .any _
theorem hf114 : prog.funcs[114]? = some f114 := by kernel_rfl
theorem nt114 : f114.ntmps = 26 := by kernel_rfl
theorem hb114 : f114.body = some (bodyOf f114) := by kernel_rfl
theorem stops114 {w : World} {g : G} {r c : Nat} {z : Bool} {o : Own} {es : List AV} {pv : Value} (hV : V w g (it114 r c z o es) pv) (hl : es.length = r * c) (hr : r ≤ 60) (hc : c ≤ 60) {n : Nat} (hn : 1 ≤ n) :
    SeqStopsK Fence.wide n prog 114 #[pv] (enc114 (w := w) (g := g) (r := r) (c := c) (z := z) (es := es)) (Hold g w) (fun xs => xs.map (fun x => x.1.1) = List.range r) (fun _ => True) r w := by
  intro l J Jx W hW hJ hJx hY h0
  have hF : Fine Fence.wide := .inl rfl
  have hH := Hold.of_below hW (g := g)
  refine callsIn_of_wp (fn := f114) (c := bodyOf f114) ?hf ?hb ?hF ?hh ?hro
  case hf => exact hf114
  case hb => exact hb114
  case hF => exact hF.fn 114
  case hro => rfl
  have hA : ((#[.func (.yield l) #[] #[]] ++ #[pv]) ++ Array.replicate (f114.ntmps - (#[.func (.yield l) #[] #[]] ++ #[pv] : Array Value).size) undef : Array Value) = #[.func (.yield l) #[] #[], pv] ++ Array.replicate 24 undef := by
    rw [nt114]; rfl
  rw [hA]
  have hts : TmpR w g [.any, it114 r c z o es, .any, .any, .any, .any, .any, .any, .any, .any, .any, .any, .any, .any, .any, .any, .any, .any, .any, .any, .any, .any, .any, .any, .any, .any] (#[.func (.yield l) #[] #[], pv] ++ Array.replicate 24 undef) :=
    tmpR_start (args := [.any, it114 r c z o es]) (vs := #[.func (.yield l) #[] #[], pv]) rfl (fun j hj => by
      rcases j with _ | _ | j
      · exact V.any _
      · exact hV
      · simp at hj; omega) 24
  have hy0 : (#[.func (.yield l) #[] #[], pv] ++ Array.replicate 24 undef : Array Value).getD 0 undef = .func (.yield l) #[] #[] := by rw [Array.getD_eq_getD_getElem?]; simp
  generalize (#[.func (.yield l) #[] #[], pv] ++ Array.replicate 24 undef : Array Value) = tmps0 at hts hy0 ⊢
  rw [e114]
  refine wpIn_seq (wpIn_region ?_)
  rw [show List.range (opsOf (c1 (bodyOf f114))).size = [0, 1, 2] ++ [] by kernel_rfl]
  refine pureQ (C := cfg) hF hH [] [0, 1, 2] _ _ _ (q114_0 r c z o es) hts fun a1 ht1 hd1 hk1 => ?_
  refine wpIn_block (wpIn_loop_rounds (r + 1) ?_)
  have key : ∀ (j k : Nat) (pre : List (X114 w g r c z es)) (a : Act) (W : World), k + j = r → pre.map (fun x => x.1.1) = List.range k → J pre W → Hold g w w W → TmpR w g (s114 r c z o es k) a.tmps → a.tmps.getD 0 undef = .func (.yield l) #[] #[] → a.defers = [] →
      Code.roundsIn Fence.wide n prog (.seq (.region 1 (opsOf (c1 (c1 (c1 (c2 (bodyOf f114)))))) false) (.seq (.cond (.tmp 7) .skip (.exit 0)) (.seq (.block 1 (.seq (.region 2 (opsOf (c1 (c1 (c1 (c2 (c2 (c1 (c1 (c2 (bodyOf f114)))))))))) false) (.seq (.region 3 (opsOf (c1 (c2 (c1 (c1 (c2 (c2 (c1 (c1 (c2 (bodyOf f114))))))))))) false) (.cond (.tmp 24) .ret .skip)))) (.region 4 (opsOf (c2 (c2 (c2 (c1 (c1 (c2 (bodyOf f114)))))))) false))))
        (Exit.inBlock 0 (bodyPost prog f114 fun e W' => (∃ v, e = .returned v) ∧ ((∃ xs : List (X114 w g r c z es), xs.map (fun x => x.1.1) = List.range r ∧ J xs W') ∨ ∃ pre : List (X114 w g r c z es), True ∧ Jx pre W'))) (j + 1) a W := by
    intro j
    induction j with
    | zero =>
      intro k pre a W hk hpre hJp hH ht hy hd
      obtain rfl : k = r := by omega
      rw [roundsIn_succ]
      refine wpIn_seq (wpIn_region ?_)
      rw [show List.range (opsOf (c1 (c1 (c1 (c2 (bodyOf f114)))))).size = [0] ++ [] by kernel_rfl]
      refine pureQ (C := cfg) hF hH [] [0] _ _ _ (q114_1 k c z o es k) ht fun a1 ht1 hd1 hk1 => ?_
      have h7 := ht1.2 7
      have e7 : decide ((k : Int) < k) = false := by simp
      rw [e7] at h7
      have h7' : a1.eval (.tmp 7) = .bool false := by cases hx : a1.tmps.getD 7 undef <;> (rw [hx] at h7; cases h7) <;> exact hx
      refine wpIn_seq (wpIn_cond_false h7' (wpIn_exit ?_))
      exact ⟨hd1.trans hd, _, res114 _ _, ⟨_, rfl⟩, .inl ⟨pre, hpre, hJp⟩⟩
    | succ j ih =>
      intro k pre a W hk hpre hJp hH ht hy hd
      have hkr : k < r := by omega
      rw [roundsIn_succ]
      refine wpIn_seq (wpIn_region ?_)
      rw [show List.range (opsOf (c1 (c1 (c1 (c2 (bodyOf f114)))))).size = [0] ++ [] by kernel_rfl]
      refine pureQ (C := cfg) hF hH [] [0] _ _ _ (q114_1 r c z o es k) ht fun a1 ht1 hd1 hk1 => ?_
      have h7 := ht1.2 7
      have e7 : decide ((k : Int) < r) = true := by simp; omega
      rw [e7] at h7
      have h7' : a1.eval (.tmp 7) = .bool true := by cases hx : a1.tmps.getD 7 undef <;> (rw [hx] at h7; cases h7) <;> exact hx
      refine wpIn_seq (wpIn_cond_true h7' (wpIn_skip ?_))
      refine wpIn_seq (wpIn_block (wpIn_seq (wpIn_region ?_)))
      have ht1s : TmpR w g (s114 r c z o es k) a1.tmps := ht1.less rfl fun t => by
        match t with
        | 0 | 1 | 2 | 3 | 4 | 5 | 6 => exact .inl rfl
        | 7 => exact .inr rfl
        | t + 8 => exact .inl rfl
      rw [show List.range (opsOf (c1 (c1 (c1 (c2 (c2 (c1 (c1 (c2 (bodyOf f114)))))))))).size = [0, 1] ++ [] by kernel_rfl]
      refine pureQ (C := cfg) hF hH [] [0, 1] _ _ _ (q114_2 r c z o es k) ht1s fun a2 ht2 hd2 hk2 => ?_
      refine wpIn_seq (wpIn_region ?_)
      have hy2 : a2.tmps.getD 0 undef = .func (.yield l) #[] #[] := by rw [hk2 0 (by kernel_rfl), hk1 0 (by kernel_rfl)]; exact hy
      rw [show List.range (opsOf (c1 (c2 (c1 (c1 (c2 (c2 (c1 (c1 (c2 (bodyOf f114))))))))))).size = 0 :: ([1, 2, 3, 4, 5, 6, 7, 8, 9, 10, 11, 12] ++ [13, 14, 15]) by kernel_rfl, wpOpsIn_cons]
      refine moveIn hF at3_0 op3_0.1 op3_0.2.1 ?_
      rw [op3_0.2.2]
      have hsz2 : 26 = a2.tmps.size := ht2.1
      have e3 : a2.eval (.tmp 0) = .func (.yield l) #[] #[] := hy2
      rw [e3]
      have ht3 : TmpR w g (t114 r c z o es k) (a2.put (some 9) (.func (.yield l) #[] #[])).tmps :=
        (ht2.less (ts' := t114 r c z o es k) rfl fun t => by
          match t with
          | 0 | 1 | 2 | 3 | 4 | 5 | 6 | 7 => exact .inl rfl
          | 8 => exact .inr rfl
          | t + 9 => exact .inl rfl).put' (.any _) 9 rfl
      refine pureQ (C := cfg) hF hH [13, 14, 15] [1, 2, 3, 4, 5, 6, 7, 8, 9, 10, 11, 12] _ _ _ (q114_3 r c z o es k) ht3 fun a4 ht4 hd4 hk4 => ?_
      have hy4 : a4.tmps.getD 9 undef = .func (.yield l) #[] #[] := by
        rw [hk4 9 (by kernel_rfl)]
        exact put_self (by omega)
      have hk60 : k * c ≤ 60 * 60 := Nat.mul_le_mul (by omega) hc
      have hk61 : (k + 1) * c ≤ 60 * 60 := Nat.mul_le_mul (by omega) hc
      have hle : k * c ≤ (k + 1) * c := Nat.mul_le_mul (by omega) (Nat.le_refl _)
      have hle2 : (k + 1) * c ≤ es.length := by rw [hl]; exact Nat.mul_le_mul (by omega) (Nat.le_refl _)
      have e16 : a4.eval (.tmp 16) = .int .i64 ((k * c : Nat) : Int) := by
        have h := (ht4.2 16).int_eq (k := .i64) (n := IntKind.wrap .i64 ((k : Int) * c))
        rw [wrap_i64 (by rw [← Int.natCast_mul]; omega) (by rw [← Int.natCast_mul]; omega)] at h
        rw [Int.natCast_mul]; exact h
      have e21 : a4.eval (.tmp 21) = .int .i64 (((k + 1) * c : Nat) : Int) := by
        have h := (ht4.2 21).int_eq (k := .i64) (n := IntKind.wrap .i64 (IntKind.wrap .i64 ((k : Int) + 1) * c))
        have e1 : IntKind.wrap .i64 ((k : Int) + 1) = ((k + 1 : Nat) : Int) := by rw [wrap_i64 (by omega) (by omega)]; rfl
        rw [e1, wrap_i64 (by rw [← Int.natCast_mul]; omega) (by rw [← Int.natCast_mul]; omega)] at h
        rw [Int.natCast_mul]; exact h
      obtain ⟨v, hrun, hv⟩ := slice_any (P := prog) (ht4.2 12 : V w g (.lst (some 3) z o es) (a4.tmps.getD 12 undef)) hle hle2 22 ty22 sh43 el43
      rw [wpOpsIn_cons]
      refine valIn hF at3_13 (v := v) (fun c h => by rw [op3_13.1] at h; cases h) op3_13.2.1 ?_ ?_
      · have : (execOp a4.eval (g114 13)).run prog W = (do pure (Next.value (← Instr.sliceAt 22 (a4.eval (.tmp 12)) (some (a4.eval (.tmp 16))) (some (a4.eval (.tmp 21))) none)) : Sem Next).run prog W := by
          simp only [execOp, op3_13.1, Option.map_some, Option.map_none]
        show (execOp a4.eval (g114 13)).run prog W = _
        rw [this, e16, e21]
        simp only [Sem.run_bind]
        rw [show a4.eval (.tmp 12) = a4.tmps.getD 12 undef from rfl, hrun W]
        rfl
      rw [op3_13.2.2, wpOpsIn_cons]
      have hsz4 : 26 = a4.tmps.size := ht4.1
      have ht4s : TmpR w g (s114 r c z o es k) a4.tmps := ht4.less rfl fun t => by
        match t with
        | 0 | 1 | 2 | 4 | 5 | 6 | 7 | 8 | 9 => exact .inl rfl
        | 3 | 10 | 11 | 12 | 13 | 14 | 15 | 16 | 17 | 18 | 19 | 20 | 21 => exact .inr rfl
        | t + 22 => exact .inl rfl
      have ht5 : TmpR w g (s114 r c z o es k) (a4.put (some 22) v).tmps := ht4s.put' (.any _) 22 rfl
      have hlen : pre.length < r := by
        have := congrArg List.length hpre
        simp at this; omega
      have hx := hY pre ⟨(k, v), hkr, hv⟩ W hJp hlen
      have e9 : (a4.put (some 22) v).eval (.tmp 9) = .func (.yield l) #[] #[] := (put_other (by simp)).trans hy4
      have e10 : (a4.put (some 22) v).eval (.tmp 10) = .int .i64 (k : Int) := (put_other (by simp)).trans ((ht4.2 10).int_eq (k := .i64) (n := k))
      have e22 : (a4.put (some 22) v).eval (.tmp 22) = v := put_self (by omega)
      refine yieldIn hF hn at3_14 op3_14.1 rfl op3_14.2.1 e9 (R := fun e W' => (e = .returned (.bool true) ∧ J (pre ++ [⟨(k, v), hkr, hv⟩]) W' ∧ Hold g w W W') ∨ (e = .returned (.bool false) ∧ Jx (pre ++ [⟨(k, v), hkr, hv⟩]) W')) ?_ ?_
      · have : (#[Operand.tmp 10, Operand.tmp 22].map (a4.put (some 22) v).eval) = enc114 (w := w) (g := g) (r := r) (c := c) (z := z) (es := es) ⟨(k, v), hkr, hv⟩ := by
          simp only [List.map_toArray, List.map_cons, List.map_nil, e10, e22, enc114]
        rw [this]
        exact hx
      · have hdf : (a4.put (some 22) v).defers = [] := by
          rw [put_defers, hd4, put_defers, hd2, hd1, hd]
        rintro e W' (⟨rfl, hJ', hk'⟩ | ⟨rfl, hJx'⟩)
        · refine ⟨_, rfl, ?_⟩
          rw [op3_14.2.2]
          have hH' := hH.trans hk'
          refine pureQ (C := cfg) hF hH' [] [15] _ _ _ (q114_5 r c z o es k true) (ht5.put' (.bool true) 23 rfl) fun a6 ht6 hd6 hk6 => ?_
          have e24 : a6.eval (.tmp 24) = .bool false := (ht6.2 24).bool_eq (b := false)
          refine wpIn_cond_false e24 (wpIn_skip ?_)
          refine wpIn_region ?_
          rw [show List.range (opsOf (c2 (c2 (c2 (c1 (c1 (c2 (bodyOf f114)))))))).size = [0, 1] ++ [] by kernel_rfl]
          have ht6s : TmpR w g (s114 r c z o es k) a6.tmps := ht6.less rfl fun t => by
            match t with
            | 23 | 24 => exact .inr rfl
            | 0 | 1 | 2 | 3 | 4 | 5 | 6 | 7 | 8 | 9 | 10 | 11 | 12 | 13 | 14 | 15 | 16 | 17 | 18 | 19 | 20 | 21 | 22 => exact .inl rfl
            | t + 25 => exact .inl rfl
          refine pureQ (C := cfg) hF hH' [] [0, 1] _ _ _ (q114_4 r c z o es k) ht6s fun a7 ht7 hd7 hk7 => ?_
          have e1 : IntKind.wrap .i64 ((k : Int) + 1) = ((k + 1 : Nat) : Int) := by rw [wrap_i64 (by omega) (by omega)]; rfl
          rw [e1] at ht7
          refine ih (k + 1) (pre ++ [⟨(k, v), hkr, hv⟩]) a7 W' (by omega) (by rw [List.map_append, hpre, List.range_succ]; rfl) hJ' hH' (ht7.less rfl fun t => ?_) ?_ ?_
          · match t with
            | 25 => exact .inr rfl
            | 0 | 1 | 2 | 3 | 4 | 5 | 6 | 7 | 8 | 9 | 10 | 11 | 12 | 13 | 14 | 15 | 16 | 17 | 18 | 19 | 20 | 21 | 22 | 23 | 24 => exact .inl rfl
            | t + 26 => exact .inl rfl
          · rw [hk7 0 (by kernel_rfl), hk6 0 (by kernel_rfl), put_other (by simp), put_other (by simp), hk4 0 (by kernel_rfl), put_other (by simp)]
            exact hy2
          · rw [hd7, hd6, put_defers]; exact hdf
        · refine ⟨_, rfl, ?_⟩
          rw [op3_14.2.2]
          have hfl : TmpR W' g [.any, .any, .any, .any, .any, .any, .any, .any, .any, .any, .any, .any, .any, .any, .any, .any, .any, .any, .any, .any, .any, .any, .any, .any, .any, .any] (a4.put (some 22) v).tmps :=
            (TmpR.less ht5 (ts' := List.replicate 26 .any) rfl fun t => .inr (anyD 26 t)).flat (by simp [wl])
          refine pureQ (C := cfg) hF (Hold.refl g W' W') [] [15] _ _ _ (q114_6 false) (hfl.put' (.bool false) 23 rfl) fun a6 ht6 hd6 hk6 => ?_
          have e24 : a6.eval (.tmp 24) = .bool true := (ht6.2 24).bool_eq (b := true)
          refine wpIn_cond_true e24 (wpIn_ret ?_)
          exact ⟨by rw [hd6, put_defers]; exact hdf, _, res114 _ _, ⟨_, rfl⟩, .inr ⟨pre ++ [⟨(k, v), hkr, hv⟩], trivial, hJx'⟩⟩
  exact key r 0 [] a1 W (by omega) rfl h0 hH (ht1.less rfl fun t => by
    match t with
    | 4 => exact .inr rfl
    | 0 | 1 | 2 | 3 | 5 | 6 => exact .inl rfl
    | t + 7 => exact .inl rfl) ((hk1 0 (by kernel_rfl)).trans hy0) hd1
end Go.Ab

/- Arguments that can be read as data, as values of the interpreter. -/
set_option linter.unusedVariables false
set_option linter.unusedSimpArgs false
set_option maxRecDepth 100000
namespace Go.Ab
open Go.Proofs Go.Proofs.Try Go.RowKit

def g0 : G := ⟨fun _ _ => False, fun _ => False, fun _ => none, fun _ _ => none⟩
theorem get_nil (nm : Nat) : Mem.get ([] : Mem) nm = none := by simp [Mem.get]
theorem memR0 (w : World) : MemR w.heap.size w g0 [] where
  obj nm bx cs h := by rw [get_nil] at h; cases h
  tok nm n sz h := by rw [get_nil] at h; cases h
  resv nm h := ⟨rfl, fun _ => rfl⟩
  fresh nm h := ⟨rfl, fun _ => rfl⟩
  inj nm nm' b h := by unfold blk at h; rw [get_nil] at h; cases h
  wrLt b off h := h.elim
  boxLt b h := h.elim
theorem cfgOk : CfgOk cfg where
  name g fn h := by
    have hall : (Try.prog.funcs.toList.all fun fn => !(fn.name == "runtime.NumGoroutine")) = true := by kernel_rfl
    have hm : fn ∈ Try.prog.funcs.toList := by
      rw [Array.mem_toList_iff]
      exact Array.mem_of_getElem? h
    have := List.all_eq_true.1 hall fn hm
    simpa using this
  lib g h hh := by
    by_cases e1 : g = 45
    · subst e1
      obtain rfl : (fun _ => none) = h := Option.some.inj hh
      exact ⟨⟨Try.f45, by kernel_rfl, rfl⟩, fun vs v hv => by cases hv⟩
    · by_cases e2 : g = 47
      · subst e2
        obtain rfl : (fun _ => none) = h := Option.some.inj hh
        exact ⟨⟨Try.f47, by kernel_rfl, rfl⟩, fun vs v hv => by cases hv⟩
      · have b1 : Nat.beq g 45 = false := by
          cases hb : Nat.beq g 45 with
          | false => rfl
          | true => exact absurd (Nat.eq_of_beq_eq_true hb) e1
        have b2 : Nat.beq g 47 = false := by
          cases hb : Nat.beq g 47 with
          | false => rfl
          | true => exact absurd (Nat.eq_of_beq_eq_true hb) e2
        have hh' : (match Nat.beq g 45 with | true => some (fun _ => none) | false => match Nat.beq g 47 with | true => some (fun _ => none) | false => none) = some h := hh
        rw [b1, b2] at hh'
        cases hh'
/-! ### Types -/
theorem u3 : Try.prog.underlying 3 = some (.int .i64) := by kernel_rfl
theorem u4 : Try.prog.underlying 4 = some .bool := by kernel_rfl
theorem u116 : Try.prog.underlying 116 = some (.int .u32) := by kernel_rfl
theorem u41 : Try.prog.underlying 41 = some (.slice 116) := by kernel_rfl
theorem u22 : Try.prog.underlying 22 = some (.slice 43) := by kernel_rfl
theorem c3 : Try.prog.cellsOf 3 = 1 := by kernel_rfl
theorem c4 : Try.prog.cellsOf 4 = 1 := by kernel_rfl
theorem c22 : Try.prog.cellsOf 22 = 1 := by kernel_rfl
theorem c24 : Try.prog.cellsOf 24 = 3 := by kernel_rfl
theorem c41 : Try.prog.cellsOf 41 = 1 := by kernel_rfl
theorem c43 : Try.prog.cellsOf 43 = 3 := by kernel_rfl
theorem c116 : Try.prog.cellsOf 116 = 1 := by kernel_rfl
noncomputable def fieldsOf (t : Nat) : Array Field := match Try.prog.underlying t with
  | some (.struct fs) => fs
  | _ => #[]
theorem u43 : Try.prog.underlying 43 = some (.struct (fieldsOf 43)) := by kernel_rfl
theorem u24 : Try.prog.underlying 24 = some (.struct (fieldsOf 24)) := by kernel_rfl
theorem f43 : (fieldsOf 43).toList.map (fun f => (f.type, f.offset)) = [(4, 0), (41, 1), (41, 2)] := by kernel_rfl
theorem f24 : (fieldsOf 24).toList.map (fun f => (f.type, f.offset)) = [(3, 0), (3, 1), (22, 2)] := by kernel_rfl

/-! ### Cells -/
theorem cells_get {w : World} {a : Addr} {n : Nat} {cs : List Value} (h : w.cells? 0 a n = some cs) : cs.length = n ∧ ∀ j, j < n → w.cell? (a.add j) = cs[j]? := by
  unfold World.cells? at h
  rw [if_pos (Nat.zero_le _)] at h
  refine ⟨by simpa using mapM_some_length h, fun j hj => mapM_some_get h j j (by simp [hj])⟩
theorem cell_spot {w : World} {a : Addr} {u : Value} (h : w.cell? a = some u) : a.spot = none := World.cell?_spot h
theorem add_mk {a : Addr} (h : a.spot = none) (j : Nat) : a.add j = ⟨a.block, a.off + j, none⟩ := by
  obtain ⟨b, o, s⟩ := a
  subst h
  exact Addr_add b o j
theorem three {α : Type} {cs : List α} (h : cs.length = 3) : ∃ a b c, cs = [a, b, c] := by
  match cs, h with
  | [a, b, c], _ => exact ⟨a, b, c, rfl⟩

section
variable {H : Type} {enc : TypeId × Value → H} {W : World} {fuel : Nat} {cs : List Value} {x : DataW H × List MemPlace}

theorem field_read {t : Nat} (ht : Try.prog.underlying t = some (.struct (fieldsOf t))) (h : DataW.trod enc Try.prog W 0 (fun _ => true) true fuel t cs = some x) {t' off i : Nat} (hi : ((fieldsOf t).toList.map (fun f => (f.type, f.offset)))[i]? = some (t', off)) :
    ∃ n y, DataW.trod enc Try.prog W 0 (fun _ => true) true n t' ((cs.drop off).take (Try.prog.cellsOf t')) = some y := by
  obtain ⟨xs, n, rfl, _, _, hl, hf⟩ := DataW.trod_struct ht h
  rw [List.getElem?_map, Option.map_eq_some_iff] at hi
  obtain ⟨f, h1, h2⟩ := hi
  obtain ⟨rfl, rfl⟩ := Prod.mk.inj h2
  have hfi : (fieldsOf t)[i]? = some f := by rw [← h1, Array.getElem?_toList]
  have := hf i f hfi
  have hlt : i < xs.length := by
    rw [hl]
    obtain ⟨h, _⟩ := Array.getElem?_eq_some_iff.1 hfi
    exact h
  rw [List.getElem?_eq_getElem hlt] at this
  exact ⟨n, _, this⟩

theorem u32_at {a : Addr} {i : Nat} (h : (W.cells? 0 (a.add (i * Try.prog.cellsOf 116)) (Try.prog.cellsOf 116)).bind (DataW.trod enc Try.prog W 0 (fun _ => true) true fuel 116) = some x) : ∃ d : Nat, d < 4294967296 ∧ W.cell? (a.add i) = some (.int .u32 d) := by
  rw [c116, Nat.mul_one] at h
  obtain ⟨cs, h1, h2⟩ := Option.bind_eq_some_iff.1 h
  obtain ⟨n, rfl, _, hw⟩ := DataW.trod_int u116 h2
  have h3 := (cells_get h1).2 0 (by omega)
  have hw2 : 0 ≤ n ∧ n ≤ 4294967295 := by
    simp only [Lit.wf, Bool.and_eq_true, decide_eq_true_eq] at hw
    exact hw
  refine ⟨n.toNat, by omega, ?_⟩
  rw [Int.toNat_of_nonneg hw2.1]
  exact h3

/-- A number. -/
theorem nat_read (h : DataW.trod enc Try.prog W 0 (fun _ => true) true fuel 41 cs = some x) : ∃ v, ∃ y : NV, cs = [v] ∧ V W g0 y.av v ∧ XN y ∧ y.o = .no := by
  rcases DataW.trod_slice u41 h with ⟨rfl, _⟩ | ⟨a, len, cap, elems, rest, n, _, rfl, _, _, hl, hm, he, hel, hre, _⟩
  · exact ⟨_, ⟨true, .no, []⟩, rfl, .nils none .no (.inr rfl), ⟨fun i => by simp, fun _ => rfl⟩, rfl⟩
  · obtain ⟨hrl, hre⟩ := hre rfl
    have cell : ∀ i, ∃ d : Nat, i < cap → d < 4294967296 ∧ W.cell? (a.add i) = some (.int .u32 d) := by
      intro i
      by_cases hi : i < cap
      · by_cases hi2 : i < len
        · have h1 := hel i hi2
          rw [List.getElem?_eq_getElem (by omega)] at h1
          obtain ⟨d, hd⟩ := u32_at h1
          exact ⟨d, fun _ => hd⟩
        · have h1 := hre (i - len) (by omega)
          rw [List.getElem?_eq_getElem (by omega), show len + (i - len) = i by omega] at h1
          obtain ⟨d, hd⟩ := u32_at h1
          exact ⟨d, fun _ => hd⟩
      · exact ⟨0, fun h => absurd h hi⟩
    obtain ⟨f, hf⟩ := Classical.axiomOfChoice cell
    have hsp : cap = 0 ∨ a.spot = none := by
      by_cases h0 : cap = 0
      · exact .inl h0
      · exact .inr (cell_spot (hf 0 (by omega)).2)
    have hfl : flat (((List.range len).map f).map dg) = ((List.range len).map f).map dg := by
      generalize (List.range len).map f = l
      induction l with
      | nil => rfl
      | cons d l ih =>
        show (dg d).cells ++ flat (l.map dg) = _
        rw [ih]; rfl
    have hlen : (((List.range len).map f).map dg).length = len := by simp
    refine ⟨_, ⟨false, .no, (List.range len).map f⟩, rfl, ?_, ⟨fun i => ?_, fun h => by cases h⟩, rfl⟩
    · have hV := V.lst (w := W) (g := g0) none .no (((List.range len).map f).map dg) a cap (fun j => .int .u32 (f j)) hsp (by rw [hlen]; exact hl) hm
        (fun e he => by
          obtain ⟨d, _, rfl⟩ := List.mem_map.1 he
          exact ⟨rfl, rfl⟩)
        (fun j hj => by
          rw [hfl, hlen] at hj
          refine ⟨?_, fun h => h, fun h => h⟩
          have := (hf j (by omega)).2
          rw [add_mk (hsp.resolve_left (by omega))] at this
          exact this)
        (fun j hj => by
          rw [hfl, hlen] at hj
          rw [hfl, List.getD_eq_getElem?_getD, List.getElem?_map, List.getElem?_map, List.getElem?_range hj]
          exact .int _ _) trivial
      rw [hlen] at hV
      exact hV
    · show ((List.range len).map f).getD i 0 < _
      rw [List.getD_eq_getElem?_getD, List.getElem?_map]
      by_cases hi : i < len
      · rw [List.getElem?_range hi]
        exact (hf i (by omega)).1
      · rw [List.getElem?_eq_none (by simp; omega)]
        exact (by omega : 0 < 4294967296)

/-- A fraction. -/
theorem ratio_read (h : DataW.trod enc Try.prog W 0 (fun _ => true) true fuel 43 cs = some x) : ∃ c0 c1 c2, ∃ r : RV, cs = [c0, c1, c2] ∧ V W g0 (.bool r.neg) c0 ∧ V W g0 r.num.av c1 ∧ V W g0 r.den.av c2 ∧ XR r ∧ r.num.o = .no ∧ r.den.o = .no := by
  have hlen : cs.length = 3 := by
    obtain ⟨_, _, _, _, h1, _⟩ := DataW.trod_struct u43 h
    rw [h1, c43]
  obtain ⟨c0, c1, c2, rfl⟩ := three hlen
  obtain ⟨n0, y0, h0⟩ := field_read u43 h (t' := 4) (off := 0) (i := 0) (by rw [f43]; rfl)
  obtain ⟨n1, y1, h1⟩ := field_read u43 h (t' := 41) (off := 1) (i := 1) (by rw [f43]; rfl)
  obtain ⟨n2, y2, h2⟩ := field_read u43 h (t' := 41) (off := 2) (i := 2) (by rw [f43]; rfl)
  rw [c4] at h0
  rw [c41] at h1 h2
  obtain ⟨b, e0, _⟩ := DataW.trod_bool u4 h0
  obtain ⟨v1, z1, e1, q1, q2, q3⟩ := nat_read h1
  obtain ⟨v2, z2, e2, r1, r2, r3⟩ := nat_read h2
  simp only [List.drop_zero, List.drop_succ_cons, List.take_succ_cons, List.take_zero, List.cons.injEq, and_true] at e0 e1 e2
  subst e0; subst e1; subst e2
  refine ⟨_, _, _, ⟨b, z1, z2⟩, rfl, .bool b, q1, r1, ⟨q2, r2, ?_⟩, q3, r3⟩
  obtain ⟨a1, o1, d1⟩ := z1
  obtain ⟨a2, o2, d2⟩ := z2
  subst q3; subst r3
  rfl

theorem flat3 : ∀ (es : List RV) (j : Nat), j < es.length * 3 → (flat (es.map RV.av)).getD j .any = ((es.getD (j / 3) ⟨false, ⟨true, .no, []⟩, ⟨true, .no, []⟩⟩).av.cells).getD (j % 3) .any
  | [], j, h => by simp at h
  | r :: es, 0, h => rfl
  | r :: es, 1, h => rfl
  | r :: es, 2, h => rfl
  | r :: es, j + 3, h => by
    have ih := flat3 es j (by simp only [List.length_cons] at h; omega)
    have e1 : (j + 3) / 3 = j / 3 + 1 := by omega
    have e2 : (j + 3) % 3 = j % 3 := by omega
    rw [e1, e2, List.getD_cons_succ, ← ih]
    rfl
theorem flat3_len (es : List RV) : (flat (es.map RV.av)).length = es.length * 3 := by
  induction es with
  | nil => rfl
  | cons r es ih =>
    show (_ :: _ :: _ :: flat (es.map RV.av)).length = _
    rw [List.length_cons, List.length_cons, List.length_cons, ih, List.length_cons]; omega

theorem ratio_at {a : Addr} {i : Nat} (ha : i = 0 ∨ a.spot = none) (h : (W.cells? 0 (a.add (i * Try.prog.cellsOf 43)) (Try.prog.cellsOf 43)).bind (DataW.trod enc Try.prog W 0 (fun _ => true) true fuel 43) = some x) :
    a.spot = none ∧ ∃ r : RV, (XR r ∧ r.num.o = .no ∧ r.den.o = .no) ∧ ∀ j, j < 3 → ∃ u, W.cell? ⟨a.block, a.off + (i * 3 + j), none⟩ = some u ∧ V W g0 (r.av.cells.getD j .any) u := by
  rw [c43] at h
  obtain ⟨cs, h1, h2⟩ := Option.bind_eq_some_iff.1 h
  obtain ⟨c0, c1, c2, r, rfl, v0, v1, v2, xr, o1, o2⟩ := ratio_read h2
  have h3 := (cells_get h1).2
  have hs : a.spot = none := by
    rcases ha with rfl | ha
    · rw [Nat.zero_mul] at h3
      exact cell_spot (h3 0 (by omega))
    · exact ha
  refine ⟨hs, r, ⟨xr, o1, o2⟩, fun j hj => ?_⟩
  have h4 := h3 j hj
  rw [add_mk hs, Addr_add, Nat.add_assoc] at h4
  match j, hj with
  | 0, _ => exact ⟨c0, h4, v0⟩
  | 1, _ => exact ⟨c1, h4, v1⟩
  | 2, _ => exact ⟨c2, h4, v2⟩

theorem sh_rv {r : RV} (h1 : r.num.o = .no) (h2 : r.den.o = .no) : shOk (some 3) r.av = true ∧ pl r.av = true := by
  obtain ⟨b, ⟨a1, o1, d1⟩, ⟨a2, o2, d2⟩⟩ := r
  subst h1; subst h2
  exact ⟨rfl, rfl⟩

/-- A row of fractions. -/
theorem row_read (h : DataW.trod enc Try.prog W 0 (fun _ => true) true fuel 22 cs = some x) : ∃ v, ∃ l : LV, cs = [v] ∧ V W g0 l.av v ∧ (l.sh = some 3 ∨ l.es = []) ∧ (l.z = true → l.es = []) ∧ (∀ r ∈ l.es, XR r) ∧ l.o = .no := by
  rcases DataW.trod_slice u22 h with ⟨rfl, _⟩ | ⟨a, len, cap, elems, rest, n, _, rfl, _, _, hl, hm, he, hel, hre, _⟩
  · exact ⟨_, ⟨some 3, true, .no, []⟩, rfl, .nils _ .no (.inr rfl), .inl rfl, fun _ => rfl, (fun r hr => by cases hr), rfl⟩
  · obtain ⟨hrl, hre⟩ := hre rfl
    have raw : ∀ i, i < cap → ∃ y, (W.cells? 0 (a.add (i * Try.prog.cellsOf 43)) (Try.prog.cellsOf 43)).bind (DataW.trod enc Try.prog W 0 (fun _ => true) true n 43) = some y := by
      intro i hi
      by_cases hi2 : i < len
      · have h1 := hel i hi2
        rw [List.getElem?_eq_getElem (by omega)] at h1
        exact ⟨_, h1⟩
      · have h1 := hre (i - len) (by omega)
        rw [List.getElem?_eq_getElem (by omega), show len + (i - len) = i by omega] at h1
        exact ⟨_, h1⟩
    have hsp : cap = 0 ∨ a.spot = none := by
      by_cases h0 : cap = 0
      · exact .inl h0
      · obtain ⟨y, hy⟩ := raw 0 (by omega)
        exact .inr (ratio_at (.inl rfl) hy).1
    have cell : ∀ i, ∃ r : RV, i < cap → (XR r ∧ r.num.o = .no ∧ r.den.o = .no) ∧ ∀ j, j < 3 → ∃ u, W.cell? ⟨a.block, a.off + (i * 3 + j), none⟩ = some u ∧ V W g0 (r.av.cells.getD j .any) u := by
      intro i
      by_cases hi : i < cap
      · obtain ⟨y, hy⟩ := raw i hi
        obtain ⟨r, hr⟩ := (ratio_at (.inr (hsp.resolve_left (by omega))) hy).2
        exact ⟨r, fun _ => hr⟩
      · exact ⟨⟨false, ⟨true, .no, []⟩, ⟨true, .no, []⟩⟩, fun h => absurd h hi⟩
    obtain ⟨f, hf⟩ := Classical.axiomOfChoice cell
    have hlen : (((List.range len).map f).map RV.av).length = len := by simp
    have hlen0 : ((List.range len).map f).length = len := by simp
    have hget : ∀ j, j < len * 3 → ((List.range len).map f).getD (j / 3) ⟨false, ⟨true, .no, []⟩, ⟨true, .no, []⟩⟩ = f (j / 3) := by
      intro j hj
      rw [List.getD_eq_getElem?_getD, List.getElem?_map, List.getElem?_range (by omega)]
      rfl
    have hmem : ∀ r ∈ (List.range len).map f, XR r ∧ r.num.o = .no ∧ r.den.o = .no := by
      intro r hr
      obtain ⟨i, hi, rfl⟩ := List.mem_map.1 hr
      exact (hf i (by have := List.mem_range.1 hi; omega)).1
    have hcl : ∀ j, j < len * 3 → ∃ u, W.cell? ⟨a.block, a.off + j, none⟩ = some u ∧ V W g0 ((flat (((List.range len).map f).map RV.av)).getD j .any) u := by
      intro j hj
      rw [flat3 _ j (by rw [hlen0]; exact hj), hget j hj]
      have h1 := (hf (j / 3) (by omega)).2 (j % 3) (by omega)
      rw [show j / 3 * 3 + j % 3 = j by omega] at h1
      exact h1
    have hus : ∀ j, ∃ u, j < len * 3 → W.cell? ⟨a.block, a.off + j, none⟩ = some u ∧ V W g0 ((flat (((List.range len).map f).map RV.av)).getD j .any) u := by
      intro j
      by_cases hj : j < len * 3
      · obtain ⟨u, hu⟩ := hcl j hj
        exact ⟨u, fun _ => hu⟩
      · exact ⟨undef, fun h => absurd h hj⟩
    obtain ⟨us, hus⟩ := Classical.axiomOfChoice hus
    refine ⟨_, ⟨some 3, false, .no, (List.range len).map f⟩, rfl, ?_, .inl rfl, (fun h => by cases h), fun r hr => (hmem r hr).1, rfl⟩
    have hV := V.lst (w := W) (g := g0) (some 3) .no (((List.range len).map f).map RV.av) a cap us hsp (by rw [hlen]; exact hl) hm
      (fun e he => by
        obtain ⟨r, hr, rfl⟩ := List.mem_map.1 he
        exact sh_rv (hmem r hr).2.1 (hmem r hr).2.2)
      (fun j hj => by
        rw [flat3_len, hlen0] at hj
        exact ⟨(hus j hj).1, fun h => h, fun h => h⟩)
      (fun j hj => by
        rw [flat3_len, hlen0] at hj
        exact (hus j hj).2) trivial
    rw [hlen] at hV
    exact hV

/-- A matrix. -/
theorem mat_read {v : Value} {d : DataW H} {ps : List MemPlace} (hv : ∃ cs, v = .agg cs) (h : DataW.Trod enc Try.prog W 0 (fun _ => true) true 24 v d ps) : ∃ y : MV, V W g0 y.av v ∧ XM y ∧ y.fr = y := by
  obtain ⟨cs, rfl⟩ := hv
  obtain ⟨fuel, h⟩ := h
  have hlen : cs.toList.length = 3 := by
    obtain ⟨_, _, _, _, h1, _⟩ := DataW.trod_struct u24 h
    rw [c24] at h1
    exact h1
  have h : DataW.trod enc Try.prog W 0 (fun _ => true) true fuel 24 cs.toList = some (d, ps) := h
  obtain ⟨v0, v1, v2, hcs⟩ := three hlen
  obtain rfl : cs = #[v0, v1, v2] := by
    cases cs
    simp_all
  obtain ⟨n0, y0, h0⟩ := field_read u24 h (t' := 3) (off := 0) (i := 0) (by rw [f24]; rfl)
  obtain ⟨n1, y1, h1⟩ := field_read u24 h (t' := 3) (off := 1) (i := 1) (by rw [f24]; rfl)
  obtain ⟨n2, y2, h2⟩ := field_read u24 h (t' := 22) (off := 2) (i := 2) (by rw [f24]; rfl)
  rw [c3] at h0 h1
  rw [c22] at h2
  obtain ⟨a, e0, _⟩ := DataW.trod_int u3 h0
  obtain ⟨b, e1, _⟩ := DataW.trod_int u3 h1
  obtain ⟨v, l, e2, q1, q2, q3, q4, q5⟩ := row_read h2
  simp only [List.drop_zero, List.drop_succ_cons, List.take_succ_cons, List.take_zero, List.cons.injEq, and_true] at e0 e1 e2
  subst e0; subst e1; subst e2
  refine ⟨⟨a, b, l⟩, .agg _ _ rfl fun j hj => ?_, ⟨q2, q3, q4⟩, ?_⟩
  · match j, hj with
    | 0, _ => exact .int _ _
    | 1, _ => exact .int _ _
    | 2, _ => exact q1
  · obtain ⟨sh, z, o, es⟩ := l
    subst q5
    rfl
theorem okWide_agg {base : Nat} {t : Nat} {v : Value} {fs : Array Field} (ht : Try.prog.underlying t = some (.struct fs)) (h : Value.okWide Try.prog W .any base t v) : ∃ cs, v = .agg cs := by
  simp only [Value.okWide, ht] at h
  obtain ⟨cs, h, _⟩ := h
  exact ⟨cs, h⟩
end
end Go.Ab

/- A plug: functions that the interpreter does not walk, put in behind its back where nobody has called them. -/
set_option linter.unusedVariables false
set_option linter.unusedSimpArgs false
namespace Go.Ab
abbrev Cfg.plug (C : Cfg) (L : Nat → Option (List AV → Option AV)) : Cfg := ⟨C.P, C.inl, C.arrm, C.tokm, C.two, C.thaw, C.mask, C.ord, C.ahd, L⟩
/-- What C knows of a function L knows too; of the others C knows nothing. -/
def Plugs (C : Cfg) (L : Nat → Option (List AV → Option AV)) : Prop := ∀ g, L g = C.lib g ∨ C.lib g = some (fun _ => none)
section
variable {R : Type} {C : Cfg} {L : Nat → Option (List AV → Option AV)} {fid : Nat} {cp cp' : Nat → List AV → Option AV} {ci ci' : Nat → List AV → Mem → Option (AV × Mem)}
theorem callK_plug (hp : Plugs C L) (h : CLe cp cp' ci ci') {d : Option Nat} {g : Nat} {vs : List AV} {m : Mem} {K : AV → Mem → Option R} {x : R} (hx : callK C fid cp ci d g vs m K = some x) : callK (C.plug L) fid cp' ci' d g vs m K = some x := by
  unfold callK at hx ⊢
  cases hl : C.lib g with
  | some l =>
    rw [hl] at hx
    rcases hp g with e | e
    · rw [show (C.plug L).lib g = some l from e.trans hl]; exact hx
    · rw [e] at hl
      obtain rfl := Option.some.inj hl
      simp at hx
  | none =>
    rw [hl] at hx
    have e : (C.plug L).lib g = none := by
      rcases hp g with e | e
      · exact e.trans hl
      · rw [e] at hl; cases hl
    rw [e]
    simp only at hx ⊢
    cases hi : C.inl fid g with
    | true =>
      rw [hi] at hx
      cases d with
      | some d => exact hx
      | none =>
        simp only [Option.bind_eq_some_iff] at hx ⊢
        obtain ⟨r, hr, hx⟩ := hx
        cases ht : C.thaw fid g with
        | false => rw [ht] at hr; exact ⟨r, h.2 _ _ _ _ hr, hx⟩
        | true =>
          rw [ht] at hr
          simp only [thawCall, Option.bind_eq_some_iff] at hr ⊢
          obtain ⟨r1, h1, q, h2, h3⟩ := hr
          exact ⟨r, ⟨r1, h1, q, h.2 _ _ _ _ h2, h3⟩, hx⟩
    | false =>
      rw [hi] at hx
      simp only [Option.bind_eq_some_iff] at hx ⊢
      obtain ⟨r, hr, hx⟩ := hx
      refine ⟨r, ?_, hx⟩
      unfold pcall at hr ⊢
      simp only [Option.bind_eq_some_iff] at hr ⊢
      obtain ⟨r1, h1, h2⟩ := hr
      refine ⟨r1, h1, ?_⟩
      split at h2
      · cases h2
      · rename_i hne
        rw [if_neg hne]
        simp only [Option.map_eq_some_iff] at h2 ⊢
        obtain ⟨v, hv, h2⟩ := h2
        exact ⟨v, h.1 _ _ _ hv, h2⟩
theorem opF_plug (hp : Plugs C L) (h : CLe cp cp' ci ci') {d : Option Nat} {o : Oper} {ρ : Operand → AV} {m : Mem} {x : AV × Mem} (hx : opF C fid cp ci d o ρ m = some x) : opF (C.plug L) fid cp' ci' d o ρ m = some x := by
  unfold opF opK at hx ⊢
  cases ho : o.op with
  | call c =>
    rw [ho] at hx
    simp only at hx ⊢
    cases hc : c.callee with
    | value f =>
      rw [hc] at hx
      simp only [Option.bind_eq_some_iff] at hx ⊢
      obtain ⟨gc, h1, hx⟩ := hx
      exact ⟨gc, h1, callK_plug hp h hx⟩
    | _ => rw [hc] at hx; exact hx
  | _ => rw [ho] at hx; exact hx
theorem stepF_plug (hp : Plugs C L) (h : CLe cp cp' ci ci') {base : Option Nat} {ops : Array Oper} {i : Nat} {st s : St} (hx : stepF C fid cp ci base ops i st = some s) : stepF (C.plug L) fid cp' ci' base ops i st = some s := by
  unfold stepF at hx ⊢
  cases hi : ops[i]? with
  | none => rw [hi] at hx; cases hx
  | some o =>
    rw [hi] at hx
    simp only [Option.map_eq_some_iff] at hx ⊢
    obtain ⟨r, hr, hx⟩ := hx
    refine ⟨r, ?_, hx⟩
    unfold opG at hr ⊢
    cases hg : o.guard with
    | none => rw [hg] at hr; exact opF_plug hp h hr
    | some jw =>
      obtain ⟨j, want⟩ := jw
      rw [hg] at hr
      simp only at hr ⊢
      cases hd : (ops[j]?).bind (·.dst) with
      | none => rw [hd] at hr; cases hr
      | some g =>
        rw [hd] at hr
        simp only at hr ⊢
        split at hr
        · exact hr
        · split at hr
          · split at hr
            · rename_i hb; rw [if_pos hb]; exact opF_plug hp h hr
            · rename_i hb; rw [if_neg hb]; exact hr
          · cases hr
theorem runF_plug (hp : Plugs C L) (h : CLe cp cp' ci ci') {base : Option Nat} {ops : Array Oper} : ∀ (l : List Nat) {st s : St}, runF C fid cp ci base ops l st = some s → runF (C.plug L) fid cp' ci' base ops l st = some s
  | [], _, _, hx => hx
  | i :: l, st, s, hx => by
    simp only [runF, Option.bind_eq_some_iff] at hx ⊢
    obtain ⟨s1, h1, h2⟩ := hx
    exact ⟨s1, stepF_plug hp h h1, runF_plug hp h l h2⟩
theorem runOps_plug (hp : Plugs C L) (h : CLe cp cp' ci ci') {base : Option Nat} {ops : Array Oper} {l : List Nat} {st : St} {K : St → Option R} {r : R} (hx : runOps C fid cp ci base ops l st K = some r) : runOps (C.plug L) fid cp' ci' base ops l st K = some r := by
  rw [runOps_eq] at hx ⊢
  simp only [Option.bind_eq_some_iff] at hx ⊢
  obtain ⟨s, h1, h2⟩ := hx
  exact ⟨s, runF_plug hp h l h1, h2⟩
theorem execW_plug (hp : Plugs C L) (h : CLe cp cp' ci ci') : ∀ (c : Code) (st : St) (K : Ex → St → Option R) (r : R), execW C fid cp ci c st K = some r → execW (C.plug L) fid cp' ci' c st K = some r := by
  intro c
  induction c with
  | region id ops d =>
    intro st K r hx
    cases d with
    | false => simp only [execW] at hx ⊢; exact runOps_plug hp h hx
    | true =>
      simp only [execW] at hx ⊢
      cases hd : drawOk3 C.P ops (ordOf (C.ord fid id) ops.size) (C.ahd fid id) (C.two fid id) with
      | true => rw [hd] at hx; exact runOps_plug hp h hx
      | false => rw [hd] at hx; cases hx
  | seq a b iha ihb =>
    intro st K r hx
    simp only [execW] at hx ⊢
    have h1 := iha _ _ _ hx
    refine (execW_lin a).mono (fun e s r hr => ?_) h1
    cases e with
    | normal => exact ihb _ _ _ hr
    | exit id => exact hr
    | ret => exact hr
  | cond co a b iha ihb =>
    intro st K r hx
    simp only [execW] at hx ⊢
    unfold ifA at hx ⊢
    split at hx
    · split at hx
      · exact iha _ _ _ hx
      · exact ihb _ _ _ hx
    · cases hx
  | block id b ih =>
    intro st K r hx
    simp only [execW] at hx ⊢
    exact ih _ _ _ hx
  | loop b ih =>
    intro st K r hx
    simp only [execW, grd] at hx ⊢
    cases hf : fits (C.mask fid (keyOf b)).head st.tmps with
    | false => rw [hf] at hx; cases hx
    | true =>
      rw [hf] at hx
      simp only at hx ⊢
      obtain ⟨n, hn⟩ := lim_some hx
      have : ∀ n st, loopG (execW C fid cp ci b) (C.mask fid (keyOf b)) n st K = some r → loopG (execW (C.plug L) fid cp' ci' b) (C.mask fid (keyOf b)) n st K = some r := by
        intro n
        induction n with
        | zero => intro st hx; cases hx
        | succ n ihn =>
          intro st hx
          simp only [loopG] at hx ⊢
          have h1 := ih _ _ _ hx
          rcases execW_lin (R := R) (C := C.plug L) (fid := fid) (callP := cp') (callI := ci') b st with hl | ⟨e, s, hl⟩
          · rw [hl] at h1; cases h1
          · rw [hl] at h1 ⊢
            simp only at h1 ⊢
            cases e with
            | normal =>
              simp only [roundG, grd] at h1 ⊢
              cases hf' : fits (C.mask fid (keyOf b)).head s.tmps with
              | true => rw [hf'] at h1; exact ihn _ h1
              | false => rw [hf'] at h1; cases h1
            | exit id => exact h1
            | ret => exact h1
      exact Rise.lim (F := fun n => loopG (execW (C.plug L) fid cp' ci' b) (C.mask fid (keyOf b)) n _ K) (fun n r h => loopG_rise (execW_lin b) _ K n _ r h) (this n _ hn)
  | _ => intro st K r hx; exact hx
theorem acallW_plug (hp : Plugs C L) : ∀ k f args m r, acallW C k f args m = some r → acallW (C.plug L) k f args m = some r := by
  intro k
  induction k with
  | zero => intro f args m r h; cases h
  | succ k ih =>
    intro f args m r h
    rw [acallW] at h ⊢
    cases hf : C.P.funcs[f]? with
    | none => rw [hf] at h; cases h
    | some fn =>
      rw [hf] at h
      simp only at h ⊢
      cases hb : fn.body with
      | none => rw [hb] at h; cases h
      | some c =>
        rw [hb] at h
        exact execW_plug hp (acallP_le fun g vs m r => ih g vs m r) c _ _ _ h
theorem AC_plug (hp : Plugs C L) {f : Nat} {args : List AV} {m : Mem} {r : AV × Mem} (h : AC C f args m = some r) : AC (C.plug L) f args m = some r := by
  obtain ⟨k, hk⟩ := lim_some h
  exact Rise.lim (F := fun k => acallW (C.plug L) k f args m) (fun k r h => acallW_rise _ k f args m r h) (acallW_plug hp k f args m r hk)
theorem AP_plug (hp : Plugs C L) {f : Nat} {args : List AV} {v : AV} (h : AP C f args = some v) : AP (C.plug L) f args = some v :=
  (acallP_le fun g vs m r hr => AC_plug hp hr).1 f args v h
end
end Go.Ab

/- Inside a fence: regions that draw their order. -/
set_option linter.unusedVariables false
set_option linter.unusedSimpArgs false
set_option linter.unusedSectionVars false
namespace Go.Ab
open Go.RowKit

section
variable {C : Cfg} {B : Nat} {F : Fence} {n : Nat} {w : World} {g : G}
/-- Out of the fence the operation is followed by whatever one likes: so it is inside. -/
theorem stepInB (hC : CfgOk C) (hF : Fine F) {callI : Nat → List AV → Mem → Option (AV × Mem)} (hI : IOk C callI) {fid : Nat} {ops : Array Oper} {i : Nat} {base : Option Nat} {st s1 : St} {a : Act} {w : World} {g : G} (h : stepF C fid (acallP callI) callI base ops i st = some s1) (hs : StR B w g st a) (hk : ∀ b, base = some b → Kept ops b st.mem [i])
    {Q : Exit → Act → World → Prop} {next : Act → World → Prop} (hn : ∀ a' w' g', StR B w' g' s1 a' → Step B w g w' g' → a'.defers = a.defers → next a' w') : nextIn F n C.P ops Q i next a w := by
  obtain ⟨o, v, m1, ho, hr, rfl⟩ := stepF_some h
  have hrun : opF C fid (acallP callI) callI (base.map (· + rankA ops i)) o (ev st.tmps) st.mem = some (v, m1) → o.wp C.P a w next Q ∧ ∀ c, o.op ≠ .defer c := by
    intro hf
    obtain ⟨v2, m2, hK, hop⟩ := opK_sound (a := a) hC hI hf (ev_V hs.tmp) hs.mem hs.size (fun hmk s hb => by
      obtain ⟨b, hb1, rfl⟩ := Option.map_eq_some_iff.1 hb
      exact hk b hb1 i (by simp) o ho hmk)
    simp only [Option.some.injEq, Prod.mk.injEq] at hK
    obtain ⟨rfl, rfl⟩ := hK
    exact ⟨hop next Q fun v' w' g' s hm hv => hn _ w' g' ⟨(hs.tmp.step s).put hv o.dst, hm, Nat.le_trans hs.size s.below.size⟩ s (put_defers _ _ _), opF_nodefer hf⟩
  have hskip : v = .tup [] ∧ m1 = st.mem → next (a.put o.dst undef) w := by
    rintro ⟨rfl, rfl⟩
    exact hn _ w g ⟨hs.tmp.put (.tup [] #[] rfl (fun j hj => absurd hj (Nat.not_lt_zero j))) o.dst, hs.mem, hs.size⟩ (Step.refl _ _ _) (put_defers _ _ _)
  -- the same case split as out of the fence, told by the elder law at two ends
  have hyes : Region.wanted o (yielded ops a.tmps) = true → o.wp C.P a w next Q ∧ ∀ c, o.op ≠ .defer c := by
    intro hw
    unfold opG at hr
    cases hg : o.guard with
    | none => simp only [hg] at hr; exact hrun hr
    | some jw =>
      obtain ⟨j, want⟩ := jw
      simp only [hg] at hr
      cases hd : (ops[j]?).bind (·.dst) with
      | none => simp [hd] at hr
      | some d =>
        simp only [hd] at hr
        cases hsk : skpd ops st.tmps j with
        | true =>
          simp only [hsk] at hr
          cases hv : st.tmps.getD d .any with
          | tup cs =>
            have hV := hs.tmp.2 d
            rw [hv] at hV
            have hy : yielded ops a.tmps j = none := by
              unfold yielded
              rw [hd]
              simp only [Option.bind_some]
              generalize hx : a.tmps.getD d undef = x at hV
              cases hV
              rw [Array.getD_eq_getD_getElem?] at hx
              cases hq : a.tmps[d]? with
              | none => rfl
              | some y => rw [hq] at hx; simp only [Option.getD_some] at hx; rw [hx]
            have : Region.wanted o (yielded ops a.tmps) = false := by simp only [Region.wanted, hg, hy]; rfl
            rw [this] at hw; cases hw
          | _ => simp only [hv] at hr; cases hr
        | false =>
          simp only [hsk] at hr
          cases hv : st.tmps.getD d .any with
          | bool b =>
            simp only [hv] at hr
            have hV := hs.tmp.2 d
            rw [hv] at hV
            have hy : yielded ops a.tmps j = some b := by
              unfold yielded
              rw [hd]
              simp only [Option.bind_some]
              generalize hx : a.tmps.getD d undef = x at hV
              cases hV
              have : a.tmps[d]? = some (.bool b) := by
                rw [Array.getD_eq_getD_getElem?] at hx
                cases hq : a.tmps[d]? with
                | none => rw [hq] at hx; cases hx
                | some y => rw [hq] at hx; simpa using hx
              rw [this]
            have hw2 : Region.wanted o (yielded ops a.tmps) = (some b == some want) := by simp only [Region.wanted, hg, hy]
            by_cases hb : b = want
            · rw [if_pos hb] at hr
              exact hrun hr
            · have : (some b == some want) = false := by simpa using hb
              rw [hw2, this] at hw; cases hw
          | _ => simp only [hv] at hr; cases hr
  have hno : Region.wanted o (yielded ops a.tmps) = false → v = .tup [] ∧ m1 = st.mem := by
    intro hw
    unfold opG at hr
    cases hg : o.guard with
    | none =>
      have : Region.wanted o (yielded ops a.tmps) = true := by simp [Region.wanted, hg]
      rw [this] at hw; cases hw
    | some jw =>
      obtain ⟨j, want⟩ := jw
      simp only [hg] at hr
      cases hd : (ops[j]?).bind (·.dst) with
      | none => simp [hd] at hr
      | some d =>
        simp only [hd] at hr
        cases hsk : skpd ops st.tmps j with
        | true =>
          simp only [hsk] at hr
          cases hv : st.tmps.getD d .any with
          | tup cs =>
            simp only [hv] at hr
            cases cs with
            | nil =>
              simp only [Option.some.injEq, Prod.mk.injEq] at hr
              exact ⟨hr.1.symm, hr.2.symm⟩
            | cons c cs => simp only at hr; cases hr
          | _ => simp only [hv] at hr; cases hr
        | false =>
          simp only [hsk] at hr
          cases hv : st.tmps.getD d .any with
          | bool b =>
            simp only [hv] at hr
            have hV := hs.tmp.2 d
            rw [hv] at hV
            have hy : yielded ops a.tmps j = some b := by
              unfold yielded
              rw [hd]
              simp only [Option.bind_some]
              generalize hx : a.tmps.getD d undef = x at hV
              cases hV
              have : a.tmps[d]? = some (.bool b) := by
                rw [Array.getD_eq_getD_getElem?] at hx
                cases hq : a.tmps[d]? with
                | none => rw [hq] at hx; cases hx
                | some y => rw [hq] at hx; simpa using hx
              rw [this]
            have hw2 : Region.wanted o (yielded ops a.tmps) = (some b == some want) := by simp only [Region.wanted, hg, hy]
            by_cases hb : b = want
            · have : (some b == some want) = true := by simpa using hb
              rw [hw2, this] at hw; cases hw
            · rw [if_neg hb] at hr
              simp only [Option.some.injEq, Prod.mk.injEq] at hr
              exact ⟨hr.1.symm, hr.2.symm⟩
          | _ => simp only [hv] at hr; cases hr
  refine nextIn_of hF (fun o' ho' hw => ?_) (fun o' ho' hw => ?_) (fun hnone => by rw [ho] at hnone; cases hnone)
  · rw [ho] at ho'
    obtain rfl := Option.some.inj ho'
    exact hyes hw
  · rw [ho] at ho'
    obtain rfl := Option.some.inj ho'
    exact hskip (hno hw)
/-- Whatever order is drawn. -/
theorem any_in (hC : CfgOk C) (hF : Fine F) {callI : Nat → List AV → Mem → Option (AV × Mem)} (hI : IOk C callI) {fid b n' : Nat} {ops : Array Oper} {Q : Exit → Act → World → Prop} {canon : List Nat} (hlt : ∀ k o, ops[k]? = some o → ∀ e ∈ o.after.toList, Region.binds .any e = true → e.on < k)
    (hpairs : pairsOk ops (aheadOf ops) canon = true) (hnd : canon.Nodup) : ∀ (l : List Nat) (n : Nat), l.length = n → l.Sublist canon → ∀ (listed : Array Bool), listed.size = ops.size → (∀ x, x < ops.size → (listed.getD x true = true ↔ x ∉ l)) → (∀ x ∈ l, x < ops.size) →
    (∀ k o, k < ops.size → k ∉ l → ops[k]? = some o → ∀ e ∈ o.after.toList, Region.binds .any e = true → e.on ∉ l) →
    ∀ (st s' : St) (a : Act) (w : World) (g : G), runF C fid (acallP callI) callI (some b) ops l st = some s' → Kept ops b st.mem l → StR B w g st a →
    (∀ a' w' g', StR B w' g' s' a' → Step B w g w' g' → a'.defers = a.defers → Q .normal a' w') → wpAnyIn F n' C.P .any ops Q n listed a w := by
  intro l n hn
  induction n generalizing l with
  | zero =>
    intro hsub listed hsz hlist hin hdown st s' a w g hr hk hs hq
    have hnil : l = [] := List.eq_nil_of_length_eq_zero hn
    subst hnil
    simp only [runF, Option.some.injEq] at hr
    subst hr
    refine ⟨?_, hq a w g hs (Step.refl _ _ _) rfl⟩
    unfold Region.ready
    rw [List.filter_eq_nil_iff]
    intro x hx
    have : listed.getD x true = true := (hlist x (by simpa using hx)).2 (by simp)
    simp [this]
  | succ n ih =>
    intro hsub listed hsz hlist hin hdown st s' a w g hr hk hs hq
    have hready : ∀ i ∈ Region.ready .any ops listed, i ∈ l ∧ i < ops.size ∧ ∃ o, ops[i]? = some o ∧ ∀ e ∈ o.after.toList, Region.binds .any e = true → e.on ∉ l := by
      intro i hi
      unfold Region.ready at hi
      simp only [List.mem_filter, List.mem_range, Bool.and_eq_true, Bool.not_eq_true'] at hi
      obtain ⟨h1, h2, h3⟩ := hi
      have hil : i ∈ l := by
        by_cases h : i ∈ l
        · exact h
        · have := (hlist i h1).2 h; rw [this] at h2; cases h2
      refine ⟨hil, h1, ops[i], by simp [h1], fun e he hb hon => ?_⟩
      have ho : ops[i]? = some ops[i] := by simp [h1]
      rw [ho] at h3
      simp only [Option.map_some, Option.getD_some] at h3
      have h4 := Array.all_eq_true_iff_forall_mem.1 h3 e (by simpa using he)
      simp only [hb, Bool.not_true, Bool.false_or] at h4
      have h5 := hlt i _ ho e he hb
      have h6 : listed.getD e.on true = true := by
        have hes : e.on < listed.size := by omega
        simp only [Array.getD, hes, dif_pos] at h4 ⊢
        exact h4
      exact (hlist e.on (by omega)).1 h6 hon
    refine ⟨fun hnone => ?_, fun i hi => ?_⟩
    · -- the least that is left is ready
      exfalso
      have hne : l ≠ [] := fun h => by rw [h] at hn; simp at hn
      obtain ⟨mn, hmn, hmin⟩ : ∃ mn ∈ l, ∀ x ∈ l, mn ≤ x := by
        exact least l hne
      have hml := hin mn hmn
      have : mn ∈ Region.ready .any ops listed := by
        unfold Region.ready
        simp only [List.mem_filter, List.mem_range, Bool.and_eq_true, Bool.not_eq_true']
        refine ⟨hml, ?_, ?_⟩
        · cases hb : listed.getD mn true with
          | false => rfl
          | true => exact absurd hmn ((hlist mn hml).1 hb)
        · have ho : ops[mn]? = some ops[mn] := by simp [hml]
          rw [ho]
          simp only [Option.map_some, Option.getD_some]
          rw [Array.all_eq_true_iff_forall_mem]
          intro e he
          by_cases hb : Region.binds .any e = true
          · have h5 := hlt mn _ ho e (by simpa using he) hb
            have h6 : e.on ∉ l := fun h => by have := hmin _ h; omega
            have h7 := (hlist e.on (by omega)).2 h6
            have hes : e.on < listed.size := by omega
            have h8 : listed.getD e.on false = true := by
              simp only [Array.getD, hes, dif_pos] at h7 ⊢
              exact h7
            rw [h8]; simp
          · simp at hb; simp [hb]
      rw [hnone] at this
      simp at this
    · obtain ⟨hil, hio, x, hx, hedge⟩ := hready i hi
      obtain ⟨s1, h1, h2⟩ := first hx l st s' (hnd.sublist hsub) hil hk (fun p q hpq j hj => by
        obtain ⟨pre, post, hcan⟩ : ∃ pc qc, canon = pc ++ i :: qc ∧ ∀ y ∈ p, y ∈ pc := by
          rw [hpq] at hsub
          obtain ⟨c1, c2, hc, hs1, hs2⟩ := List.append_sublist_iff.1 hsub
          obtain ⟨d1, d2, hd, hdi⟩ : ∃ d1 d2, c2 = d1 ++ i :: d2 ∧ True := by
            have := hs2.subset (List.mem_cons_self)
            obtain ⟨d1, d2, hd⟩ := List.append_of_mem this
            exact ⟨d1, d2, hd, trivial⟩
          exact ⟨c1 ++ d1, d2, by rw [hc, hd]; simp, fun y hy => List.mem_append.2 (.inl (hs1.subset hy))⟩
        rcases pairsOk_split hpairs pre post i hcan.1 j (hcan.2 j hj) with h | ⟨y, x', hy, hx', hok⟩
        · exfalso
          have hmem : ((aheadTo ops ops.size).getD i 0).testBit j = true := h
          have := ahead_met (D := fun k => k ∉ l) (fun k o hk' hko e he hb => by
            rcases Nat.lt_or_ge k ops.size with hk1 | hk1
            · exact hdown k o hk1 hk' hko e he hb
            · rw [Array.getElem?_eq_none hk1] at hko; cases hko) hlt ops.size i x hio hx hedge j hmem
          exact this (by rw [hpq]; simp [hj])
        · obtain rfl : x = x' := by simpa [hx] using hx'
          exact ⟨y, hy, hok⟩) hr
      refine stepInB (base := some b) hC hF hI h1 hs (fun b' hb' => by cases hb'; exact fun k hk' => hk k (by simp at hk'; rw [hk']; exact hil)) fun a' w' g' hs' s hd => ?_
      have hmem : ∀ y, y ∈ l.erase i ↔ y ∈ l ∧ y ≠ i := fun y => by
        rw [(hnd.sublist hsub).mem_erase_iff]; exact And.comm
      refine ih (l.erase i) (by rw [List.length_erase_of_mem hil]; omega) (List.Sublist.trans List.erase_sublist hsub) (listed.setIfInBounds i true) (by simpa using hsz) (fun y hy => ?_) (fun y hy => hin y ((hmem y).1 hy).1) (fun k o hk1 hk2 hko e he hb hon => ?_) s1 s' a' w' g' h2 (fun k hk' o ho hm => ?_) hs' fun a'' w'' g'' hs'' s' hd' => hq a'' w'' g'' hs'' (s.trans s') (hd'.trans hd)
      · have hys : y < listed.size := by omega
        have hg : (listed.setIfInBounds i true).getD y true = if i = y then true else listed.getD y true := by
          simp only [Array.getD_eq_getD_getElem?, Array.getElem?_setIfInBounds]
          by_cases hiy : i = y
          · subst hiy; simp [hys]
          · simp [hiy]
        rw [hg, hmem]
        by_cases hiy : i = y
        · subst hiy; simp
        · rw [if_neg hiy, hlist y hy]
          constructor
          · intro h h'; exact h h'.1
          · intro h h'; exact h ⟨h', fun he => hiy he.symm⟩
      · have hon' := (hmem _).1 hon
        by_cases hki : k = i
        · subst hki
          obtain rfl : x = o := by simpa [hx] using hko
          exact hedge e he hb hon'.1
        · exact hdown k o hk1 (fun h => hk2 ((hmem k).2 ⟨h, hki⟩)) hko e he hb hon'.1
      · exact stepF_kept h1 (fun k' hk'' => hk k' ((hmem k').1 hk'').1) (fun h => ((hmem i).1 h).2 rfl) k hk' o ho hm

theorem draw_in (hC : CfgOk C) (hF : Fine F) {callI : Nat → List AV → Mem → Option (AV × Mem)} (hI : IOk C callI) {R : Type} {fid id n' : Nat} {ops : Array Oper} {Q : Exit → Act → World → Prop} {canon : List Nat} (hok : drawOk C.P ops canon = true) {st : St} {K : St → Option R} {r : R} {a : Act}
    (h : runOps C fid (acallP callI) callI (some st.mem.length) ops canon ⟨st.tmps, reserve st.mem (rankA ops ops.size)⟩ K = some r) (hs : StR B w g st a)
    (hn : ∀ s' a' w' g', K s' = some r → StR B w' g' s' a' → Step B w g w' g' → a'.defers = a.defers → Q .normal a' w') : (Code.region id ops true).wpIn F n' C.P Q a w := by
  unfold drawOk at hok
  simp only [Bool.and_eq_true] at hok
  obtain ⟨⟨⟨h1, h2⟩, h3⟩, h4⟩ := hok
  have hperm : canon.Perm (List.range ops.size) := List.isPerm_iff.1 h2
  have hlt : ∀ k o, ops[k]? = some o → ∀ e ∈ o.after.toList, Region.binds .any e = true → e.on < k := by
    intro k o hk e he hb
    have hkl := (Array.getElem?_eq_some_iff.1 hk).1
    have := List.all_eq_true.1 h3 k (by simpa using hkl)
    rw [hk] at this
    simp only at this
    have := Array.all_eq_true_iff_forall_mem.1 this e (by simpa using he)
    simpa [hb] using this
  rw [runOps_eq, reserve_eq] at h
  simp only [Option.bind_eq_some_iff] at h
  obtain ⟨s', hr, hK⟩ := h
  refine wpIn_region_any h1 ?_
  refine any_in hC hF hI hlt h4 (hperm.nodup_iff.2 List.nodup_range) canon ops.size (by rw [hperm.length_eq]; simp) (List.Sublist.refl _) _ (by simp) (fun x hx => ?_) (fun x hx => by simpa using hperm.mem_iff.1 hx) (fun k o hk hk' => ?_) _ s' a _ g hr (kept_reserve ops st.mem canon) ⟨hs.tmp.step (Step.drew B w g), mem_reserve (B := B) (w := w.drew) (g := g) hs.mem.drew _, hs.size⟩ ?_
  · have : x ∈ canon := hperm.mem_iff.2 (by simpa using hx)
    simp [this, Array.getD, hx]
  · exact absurd (hperm.mem_iff.2 (by simpa using hk)) hk'
  · intro a' w' g' hs' s hd
    exact hn s' a' w' g' hK hs' ((Step.drew B w g).trans s) hd

/-- Regions that draw their order do so in the plain way. -/
def calmD (C : Cfg) (fid : Nat) : Code → Bool
  | .region id _ d => !d || (C.two fid id).isEmpty
  | .seq x y => calmD C fid x && calmD C fid y
  | .cond _ x y => calmD C fid x && calmD C fid y
  | .block _ x => calmD C fid x
  | .loop x => calmD C fid x
  | _ => true
theorem execInD (hC : CfgOk C) (hF : Fine F) {callI : Nat → List AV → Mem → Option (AV × Mem)} (hI : IOk C callI) {R : Type} {fid : Nat} : ∀ (c : Code), calmD C fid c = true → ∀ (st : St) (K : Ex → St → Option R) (r : R) (a : Act) (w : World) (g : G) (Q : Exit → Act → World → Prop),
    execW C fid (acallP callI) callI c st K = some r → StR B w g st a → After C B w g a K r Q → c.wpIn F n C.P Q a w := by
  intro c
  induction c with
  | skip =>
    intro _ st K r a w g Q h hs hq
    exact wpIn_skip (hq .normal st a w g h hs (Step.refl _ _ _) rfl)
  | region id ops d =>
    intro hcalm st K r a w g Q h hs hq
    simp only [execW] at h
    cases d with
    | false =>
      simp only at h
      rw [runOps_eq] at h
      simp only [Option.bind_eq_some_iff] at h
      obtain ⟨s', hr, hK⟩ := h
      exact wpIn_region (runIn hC hF hI _ st s' a w g hr hs fun a' w' g' hs' s hd => hq .normal s' a' w' g' hK hs' s hd)
    | true =>
      simp only at h
      simp only [calmD, Bool.not_true, Bool.false_or, List.isEmpty_iff] at hcalm
      split at h
      · rename_i hok
        rw [hcalm] at hok h
        exact draw_in hC hF hI (drawOk_of hok) h hs fun s' a' w' g' hK hs' s hd => hq .normal s' a' w' g' hK hs' s hd
      · cases h
  | seq x y ihx ihy =>
    intro hcalm st K r a w g Q h hs hq
    simp only [calmD, Bool.and_eq_true] at hcalm
    simp only [execW] at h
    refine wpIn_seq (ihx hcalm.1 st _ r a w g _ h hs ?_)
    intro e st' a' w' g' hK hs' s hd
    cases e with
    | normal =>
      simp only [seqK] at hK
      exact ihy hcalm.2 st' K r a' w' g' Q hK hs' fun e st'' a'' w'' g'' hK' hs'' s' hd' => hq e st'' a'' w'' g'' hK' hs'' (s.trans s') (hd'.trans hd)
    | exit id => exact hq (.exit id) st' a' w' g' hK hs' s hd
    | ret => exact hq .ret st' a' w' g' hK hs' s hd
  | cond co x y ihx ihy =>
    intro hcalm st K r a w g Q h hs hq
    simp only [calmD, Bool.and_eq_true] at hcalm
    simp only [execW] at h
    have hV := ev_V hs.tmp co
    cases hv : ev st.tmps co with
    | bool b =>
      rw [hv] at h hV
      generalize hx : a.eval co = v at hV
      cases hV
      cases b with
      | true => exact wpIn_cond_true hx (ihx hcalm.1 st K r a w g Q (by simpa [ifA] using h) hs hq)
      | false => exact wpIn_cond_false hx (ihy hcalm.2 st K r a w g Q (by simpa [ifA] using h) hs hq)
    | _ => rw [hv] at h; simp [ifA] at h
  | block id x ih =>
    intro hcalm st K r a w g Q h hs hq
    simp only [execW] at h
    refine wpIn_block (ih hcalm st _ r a w g _ h hs ?_)
    intro e st' a' w' g' hK hs' s hd
    cases e with
    | normal => exact hq .normal st' a' w' g' hK hs' s hd
    | exit j =>
      simp only [blockK] at hK
      by_cases hj : j = id
      · have hb : (j == id) = true := by simpa using hj
        rw [hb] at hK
        simp only [exitOf, Exit.inBlock, if_pos hj]
        exact hq .normal st' a' w' g' hK hs' s hd
      · have hb : (j == id) = false := by simpa using hj
        rw [hb] at hK
        simp only [exitOf, Exit.inBlock, if_neg hj]
        exact hq (.exit j) st' a' w' g' hK hs' s hd
    | ret => exact hq .ret st' a' w' g' hK hs' s hd
  | loop x ih =>
    intro hcalm st K r a w g Q h hs hq
    simp only [execW] at h
    generalize C.mask fid (keyOf x) = mk at h
    have hmask : ∀ (l : List Bool) {w : World} {g : G} {st : St} {a : Act}, fits l st.tmps = true → StR B w g st a → StR B w g ⟨rb l st.tmps, st.mem⟩ a := fun l w g st a hf hs => ⟨by rw [rb_fits _ _ hf]; exact hs.tmp.mask _, hs.mem, hs.size⟩
    simp only [grd] at h
    cases hf0 : fits mk.head st.tmps with
    | false => rw [hf0] at h; cases h
    | true =>
    rw [hf0] at h
    have hs0 := hmask mk.head hf0 hs
    obtain ⟨k0, hn⟩ := lim_some h
    have round : ∀ k (st : St) (a : Act) (w : World) (g : G), loopG (execW C fid (acallP callI) callI x) mk k st K = some r → StR B w g st a → After C B w g a K r Q → Code.roundsIn F n C.P x Q k a w := by
      intro k
      induction k with
      | zero => intro st a w g h; simp [loopG] at h
      | succ k ihk =>
        intro st a w g h hs hq
        simp only [loopG] at h
        rw [roundsIn_succ]
        refine ih hcalm st _ r a w g _ h hs ?_
        intro e st' a' w' g' hK hs' s hd
        have hq' : After C B w' g' a' K r Q := fun e st'' a'' w'' g'' hK' hs'' s' hd' => hq e st'' a'' w'' g'' hK' hs'' (s.trans s') (hd'.trans hd)
        cases e with
        | normal =>
          simp only [roundG, grd] at hK
          cases hf : fits mk.head st'.tmps with
          | false => rw [hf] at hK; cases hK
          | true =>
            rw [hf] at hK
            exact ihk _ a' w' g' hK (hmask _ hf hs') hq'
        | exit id =>
          simp only [roundG, grd] at hK
          cases hf : fits mk.out st'.tmps with
          | false => rw [hf] at hK; cases hK
          | true => rw [hf] at hK; exact hq (.exit id) _ a' w' g' hK (hmask _ hf hs') s hd
        | ret =>
          simp only [roundG, grd] at hK
          cases hf : fits mk.ret st'.tmps with
          | false => rw [hf] at hK; cases hK
          | true => rw [hf] at hK; exact hq .ret _ a' w' g' hK (hmask _ hf hs') s hd
    exact wpIn_loop_rounds k0 (round k0 _ a w g hn hs0 hq)
  | exit id =>
    intro _ st K r a w g Q h hs hq
    exact wpIn_exit (hq (.exit id) st a w g h hs (Step.refl _ _ _) rfl)
  | ret =>
    intro _ st K r a w g Q h hs hq
    exact wpIn_ret (hq .ret st a w g h hs (Step.refl _ _ _) rfl)
  | rangeFunc => intro _ st K r a w g Q h; simp [execW] at h
  | scope => intro _ st K r a w g Q h; simp [execW] at h
  | label => intro _ st K r a w g Q h; simp [execW] at h
  | goto => intro _ st K r a w g Q h; simp [execW] at h
  | refuse => intro _ st K r a w g Q h; simp [execW] at h
end
end Go.Ab

/- A function with a range over a function: its parts, its return. -/
set_option linter.unusedVariables false
set_option linter.unusedSimpArgs false
namespace Go.Ab
open Go.RowKit

section
variable {C : Cfg} {B : Nat} {w W : World} {g : G}
open Classical in
/-- What follows at one end alone. -/
noncomputable def only (e0 : Ex) (st0 : St) : Ex → St → Option (AV × Mem) := fun e st => if e = e0 ∧ st = st0 then some (.any, []) else none
theorem only_self (e0 : Ex) (st0 : St) : only e0 st0 e0 st0 = some (.any, []) := by simp [only]
theorem only_eq {e0 e : Ex} {st0 st : St} {r : AV × Mem} (h : only e0 st0 e st = some r) : e = e0 ∧ st = st0 := by
  unfold only at h
  split at h
  · assumption
  · cases h
theorem results_run {P : Program} {fn : Func} {st : St} {a : Act} {l : List AV} (hs : StR B W g st a) (h : resultsA P st.mem st.tmps fn.results.toList = some l) : ∃ v, (results fn a.tmps).run P W = .ok v W ∧ V W g (oneOf l) v := by
  obtain ⟨vl, r1, r2, r3⟩ := results_sound (P := P) hs.mem hs.tmp _ l h
  refine ⟨_, ?_, oneOf_V r2 r3⟩
  rw [results_eq, Array.mapM_eq_mapM_toList]
  simp only [Sem.run_bind, Sem.run_map, r1, Result.andThen_ok, Sem.run_pure]
/-- A return, nothing deferred. -/
theorem leaves0 {F : Fence} {n : Nat} {P : Program} {fn : Func} {R : Ending → World → Prop} {st : St} {a : Act} {l : List AV} (hs : StR B W g st a) (h : resultsA P st.mem st.tmps fn.results.toList = some l) (hd : a.defers = []) (hR : ∀ v, V W g (oneOf l) v → R (.returned v) W) : bodyPostM F n P fn R .ret a W := by
  obtain ⟨v, h1, h2⟩ := results_run hs h
  show LeavesInM F n P fn a.tmps R a.defers .returning W
  rw [hd]
  exact ⟨v, h1, hR v h2⟩
/-- A return behind a range over a function. -/
theorem leavesD {F : Fence} {n : Nat} {P : Program} {fn : Func} {R : Ending → World → Prop} {st : St} {a : Act} {l : List AV} {D : Nat} (hs : StR B W g st a) (h : resultsA P st.mem st.tmps fn.results.toList = some l) (hd : a.defers = [{ target := .collected D, args := #[] }]) (hK : W.heap[D]? = some (.deferred (some [])))
    (hR : ∀ v, V (W.putObj D (.deferred none)) g (oneOf l) v → MemR B (W.putObj D (.deferred none)) g st.mem → R (.returned v) (W.putObj D (.deferred none))) : bodyPostM F n P fn R .ret a W := by
  have hg := grownBy_putObj' W D (.deferred none)
  have hr : NonCells W (some D) := fun r e => by cases e; exact ⟨_, hK, rfl⟩
  have hs' : StR B (W.putObj D (.deferred none)) g st a := ⟨hs.tmp.grown hg hr, hs.mem.grown hg hr, Nat.le_trans hs.size hg.size⟩
  obtain ⟨v, h1, h2⟩ := results_run hs' h
  show LeavesInM F n P fn a.tmps R a.defers .returning W
  rw [hd]
  exact ⟨by simp, .inl ⟨D, _, rfl, run_takeDeferred hK, v, h1, hR v h2 hs'.mem⟩⟩
/-- A call that starts with no memory of its own names ends with none. -/
theorem MemR.none {m : Mem} (h : MemR B W g m) : MemR B W g.bare [] where
  obj nm bx cs hn := by simp [Mem.get] at hn
  tok nm n sz hn := by simp [Mem.get] at hn
  resv nm hn := by simp [Mem.get] at hn
  fresh nm _ := ⟨rfl, fun _ => rfl⟩
  inj nm nm' b h1 _ := by simp [blk, Mem.get] at h1
  wrLt b off hw := h.wrLt b off hw
  boxLt b hb := h.boxLt b hb
theorem Step.bare {g' : G} (hm : MemR B w g []) (h : Step B w g W g') : Step B w g W g'.bare where
  below := h.below
  cell := h.cell
  shape := h.shape
  wr := h.wr
  wrB := h.wrB
  box := h.box
  loc nm b hl := by rw [(hm.fresh nm (by simp)).1] at hl; cases hl
  tloc nm n b hl := by rw [(hm.fresh nm (by simp)).2 n] at hl; cases hl
  others := h.others
/-- A slice with nothing in it has any shape. -/
theorem V.resh {sh sh' : Sh} {z : Bool} {o : Own} {v : Value} (h : V w g (.lst sh z o []) v) (hc : cl (.lst sh z o []) = true) : V w g (.lst sh' z o []) v := by
  cases h with
  | nils _ _ ho => exact .nils _ _ ho
  | lst _ _ _ a cap us hs hc' hm hsh hcell hv ho =>
    refine .lst sh' o [] a cap us hs hc' hm (by simp) (by simp) (by simp) ?_
    cases o with
    | no => trivial
    | full => exact ho
    | tok => simp [cl] at hc
end
end Go.Ab

/- matrix.Det on the machine. -/
set_option linter.unusedVariables false
set_option linter.unusedSimpArgs false
set_option maxRecDepth 100000
namespace Go.Ab
open Go.Proofs.Try Go.RowKit

theorem hf47 : prog.funcs[47]? = some f47 := by kernel_rfl
theorem hb47 : f47.body = some (bodyOf f47) := by kernel_rfl
theorem nt47 : f47.ntmps = 49 := by kernel_rfl
theorem e47 : bodyOf f47 = .seq (c1 (bodyOf f47)) (.seq (c1 (c2 (bodyOf f47))) (.seq (c1 (c2 (c2 (bodyOf f47)))) (.seq (c1 (c2 (c2 (c2 (bodyOf f47))))) (.seq (c1 (c2 (c2 (c2 (c2 (bodyOf f47)))))) (.seq (c1 (c2 (c2 (c2 (c2 (c2 (bodyOf f47))))))) (.seq (c1 (c2 (c2 (c2 (c2 (c2 (c2 (bodyOf f47)))))))) (.seq (.seq (c1 (c1 (c2 (c2 (c2 (c2 (c2 (c2 (c2 (bodyOf f47)))))))))) (.block 0 (.rangeFunc (.tmp 36) #[37, 38] (rA (c1 (c2 (c1 (c2 (c2 (c2 (c2 (c2 (c2 (c2 (bodyOf f47)))))))))))) (rB (c1 (c2 (c1 (c2 (c2 (c2 (c2 (c2 (c2 (c2 (bodyOf f47))))))))))))))) (.seq (c1 (c2 (c2 (c2 (c2 (c2 (c2 (c2 (c2 (bodyOf f47)))))))))) (c2 (c2 (c2 (c2 (c2 (c2 (c2 (c2 (c2 (bodyOf f47)))))))))))))))))) := by kernel_rfl
theorem eA47 : rA (c1 (c2 (c1 (c2 (c2 (c2 (c2 (c2 (c2 (c2 (bodyOf f47))))))))))) = .seq (.region 11 (opsOf (c1 (rA (c1 (c2 (c1 (c2 (c2 (c2 (c2 (c2 (c2 (c2 (bodyOf f47)))))))))))))) false) (.region 12 (opsOf (c2 (rA (c1 (c2 (c1 (c2 (c2 (c2 (c2 (c2 (c2 (c2 (bodyOf f47)))))))))))))) false) := by kernel_rfl
theorem atA47 : (opsOf (c1 (rA (c1 (c2 (c1 (c2 (c2 (c2 (c2 (c2 (c2 (c2 (bodyOf f47))))))))))))))[0]? = some (((opsOf (c1 (rA (c1 (c2 (c1 (c2 (c2 (c2 (c2 (c2 (c2 (c2 (bodyOf f47))))))))))))))[0]?).getD default) := by kernel_rfl
theorem atB47 : (opsOf (c2 (rA (c1 (c2 (c1 (c2 (c2 (c2 (c2 (c2 (c2 (c2 (bodyOf f47))))))))))))))[0]? = some (((opsOf (c2 (rA (c1 (c2 (c1 (c2 (c2 (c2 (c2 (c2 (c2 (c2 (bodyOf f47))))))))))))))[0]?).getD default) := by kernel_rfl
theorem opA47 : (((opsOf (c1 (rA (c1 (c2 (c1 (c2 (c2 (c2 (c2 (c2 (c2 (c2 (bodyOf f47))))))))))))))[0]?).getD default).op = .assign (.tmp 37) ∧ (((opsOf (c1 (rA (c1 (c2 (c1 (c2 (c2 (c2 (c2 (c2 (c2 (c2 (bodyOf f47))))))))))))))[0]?).getD default).guard = none ∧ (((opsOf (c1 (rA (c1 (c2 (c1 (c2 (c2 (c2 (c2 (c2 (c2 (c2 (bodyOf f47))))))))))))))[0]?).getD default).dst = some 8 := ⟨by kernel_rfl, by kernel_rfl, by kernel_rfl⟩
theorem opB47 : (((opsOf (c2 (rA (c1 (c2 (c1 (c2 (c2 (c2 (c2 (c2 (c2 (c2 (bodyOf f47))))))))))))))[0]?).getD default).op = .assign (.tmp 38) ∧ (((opsOf (c2 (rA (c1 (c2 (c1 (c2 (c2 (c2 (c2 (c2 (c2 (c2 (bodyOf f47))))))))))))))[0]?).getD default).guard = none ∧ (((opsOf (c2 (rA (c1 (c2 (c1 (c2 (c2 (c2 (c2 (c2 (c2 (c2 (bodyOf f47))))))))))))))[0]?).getD default).dst = some 9 := ⟨by kernel_rfl, by kernel_rfl, by kernel_rfl⟩
theorem szA47 : List.range (opsOf (c1 (rA (c1 (c2 (c1 (c2 (c2 (c2 (c2 (c2 (c2 (c2 (bodyOf f47)))))))))))))).size = [0] ∧ List.range (opsOf (c2 (rA (c1 (c2 (c1 (c2 (c2 (c2 (c2 (c2 (c2 (c2 (bodyOf f47)))))))))))))).size = [0] := ⟨by kernel_rfl, by kernel_rfl⟩
theorem calm47 : calmD cfg 47 (c1 (bodyOf f47)) = true ∧ calmD cfg 47 (c1 (c2 (bodyOf f47))) = true ∧ calmD cfg 47 (c1 (c2 (c2 (bodyOf f47)))) = true ∧ calmD cfg 47 (c1 (c2 (c2 (c2 (bodyOf f47))))) = true ∧ calmD cfg 47 (c1 (c2 (c2 (c2 (c2 (bodyOf f47)))))) = true ∧ calmD cfg 47 (c1 (c2 (c2 (c2 (c2 (c2 (bodyOf f47))))))) = true ∧ calmD cfg 47 (c1 (c2 (c2 (c2 (c2 (c2 (c2 (bodyOf f47)))))))) = true ∧ calmD cfg 47 (c1 (c1 (c2 (c2 (c2 (c2 (c2 (c2 (c2 (bodyOf f47)))))))))) = true ∧ calmD cfg 47 (rB (c1 (c2 (c1 (c2 (c2 (c2 (c2 (c2 (c2 (c2 (bodyOf f47)))))))))))) = true ∧ calmD cfg 47 (c1 (c2 (c2 (c2 (c2 (c2 (c2 (c2 (c2 (bodyOf f47)))))))))) = true ∧ calmD cfg 47 (c2 (c2 (c2 (c2 (c2 (c2 (c2 (c2 (c2 (bodyOf f47)))))))))) = true := ⟨by kernel_rfl, by kernel_rfl, by kernel_rfl, by kernel_rfl, by kernel_rfl, by kernel_rfl, by kernel_rfl, by kernel_rfl, by kernel_rfl, by kernel_rfl, by kernel_rfl⟩
theorem rs47 (ts : List AV) (m : Mem) (R : RV) (e : Int) (h2 : ts.getD 2 .any = .ptr 1 0) (h3 : ts.getD 3 .any = .int .i64 e) (h : m[1]? = some (cR R)) : resultsA prog m ts f47.results.toList = some [R.av, .int .i64 e] := by
  have e1 : f47.results.toList = [.cell 2 43, .tmp 3] := by kernel_rfl
  have e2 : resA prog m ts (.cell 2 43) = loadA (some 3) m (ts.getD 2 .any) := by kernel_rfl
  have e3 : resA prog m ts (.tmp 3) = some (ts.getD 3 .any) := by kernel_rfl
  rw [e1, resultsA, e2, h2, rldA h]
  simp only [resultsA, e3, h3, Option.bind_some]
  rfl
/-- Code that comes to one end, told for whatever follows. -/
theorem execD {C : Cfg} (hC : CfgOk C) {F : Fence} {n B : Nat} (hF : Fine F) {fid : Nat} {c : Code} (hcalm : calmD C fid c = true) {st st0 : St} {e0 : Ex} {a : Act} {w : World} {g : G} {Q : Exit → Act → World → Prop} (h : ∀ K : Ex → St → Option (AV × Mem), execW C fid (AP C) (AC C) c st K = K e0 st0) (hs : StR B w g st a)
    (hq : ∀ a' w' g', StR B w' g' st0 a' → Step B w g w' g' → a'.defers = a.defers → Q (exitOf e0) a' w') : c.wpIn F n C.P Q a w :=
  execInD hC hF (AC_sound hC) c hcalm st (only e0 st0) _ a w g Q ((h _).trans (only_self _ _)) hs fun e st' a' w' g' hK hs' s hd => by
    obtain ⟨rfl, rfl⟩ := only_eq hK
    exact hq a' w' g' hs' s hd
end Go.Ab

/- Det: what the loop needs. -/
set_option linter.unusedVariables false
set_option linter.unusedSimpArgs false
set_option maxRecDepth 100000
namespace Go.Ab
open Go.Proofs.Try Go.RowKit

theorem kill_ne : ∀ (ns : List Nat) (m : Mem) (q : Nat), q ∉ ns → (kill m ns)[q]? = m[q]?
  | [], _, _, _ => rfl
  | a :: l, m, q, h => by
    show (kill (m.set a none) l)[q]? = _
    rw [kill_ne l _ q (fun hh => h (List.mem_cons_of_mem _ hh)), List.getElem?_set_ne (fun e => h (by rw [e]; exact List.mem_cons_self))]
theorem D_b2 {q i : Nat} {l : LV} {o s : RV} {j : Nat} {m : Mem} (hl : LOk j l) (hil : i < l.es.length) (fo : o.fr = o) (h78 : AP cfg 78 [o.av, (l.es[i]).av] = some s.av) (hm : m[q]? = some (cR o)) :
    ∃ (ts : List AV), ∀ (K : Ex → St → Option (AV × Mem)), execW cfg 47 (AP cfg) (AC cfg) (rB (c1 (c2 (c1 (c2 (c2 (c2 (c2 (c2 (c2 (c2 (bodyOf f47)))))))))))) ⟨[.any, .any, .any, .any, .any, .any, .any, (.ptr q 0), (.int .i64 i), l.av, .any, .any, .any, .any, .any, .any, .any, .any, .any, .any, .any, .any, .any, .any, .any, .any, .any, .any, .any, .any, .any, .any, .any, .any, .any, .any, .any, .any, .any, .any, .any, .any, .any, .any, .any, .any, .any, .any, .any], m⟩ K = K .normal ⟨ts, m.set q (cR s)⟩ := by
  have fr := hl.fr _ (List.getElem_mem hil)
  refine ⟨[.any, .any, .any, .any, .any, .any, .any, (.ptr q 0), (.int .i64 i), l.av, .any, .any, .any, .any, .any, .any, .any, .any, .any, .any, .any, .any, .any, .any, .any, .any, .any, .any, .any, .any, .any, .any, .any, .any, .any, .any, .any, .any, .any, o.av, l.av, (.int .i64 i), (.vptr (l.es[i].av).cells), l.es[i].av, s.av, .any, .any, .any, .any], fun K => ?_⟩
  rw [Q47_b, rldA hm, Option.bind_some, index_lv hl hil, Option.bind_some, load_row, Option.bind_some, pcRR, fo, fr, h78, Option.map_some, Option.bind_some, rstA hm, Option.bind_some]
theorem D_h82 {o : RV} {j : Nat} {oq : Rat} {odd : Bool} (ho : ROk j o) (co : Can o oq) (fo : o.fr = o) :
    ∃ s : RV, Can s (sgO odd * oq) ∧ s.fr = s ∧ ∀ (m : Mem) (q : Nat), m[q]? = some (cR o) → ∃ ts : List AV, (∀ (K : Ex → St → Option (AV × Mem)), execW cfg 47 (AP cfg) (AC cfg) (c1 (c2 (c2 (c2 (c2 (c2 (c2 (c2 (c2 (bodyOf f47)))))))))) ⟨[.any, .any, (.ptr 1 0), .any, .any, .any, (.bool odd), (.ptr q 0), .any, .any, .any, .any, .any, .any, .any, .any, .any, .any, .any, .any, .any, .any, .any, .any, .any, .any, .any, .any, .any, .any, .any, .any, .any, .any, .any, .any, .any, .any, .any, .any, .any, .any, .any, .any, .any, .any, .any, .any, .any], m⟩ K = K .normal ⟨ts, m.set q (cR s)⟩) ∧ ts.length = 49 ∧ ts.getD 2 .any = .ptr 1 0 ∧ ts.getD 7 .any = .ptr q 0 := by
  cases odd with
  | true =>
    obtain ⟨s, s1, s2, s3⟩ := V89 ho
    rw [co.q] at s2
    refine ⟨s, by rw [show sgO true * oq = -oq by unfold sgO; rw [if_pos rfl]; grind]; exact s2, s3, fun m q hm => ⟨[.any, .any, (.ptr 1 0), .any, .any, .any, (.bool true), (.ptr q 0), .any, .any, .any, .any, .any, .any, .any, .any, .any, .any, .any, .any, .any, .any, .any, .any, .any, .any, .any, .any, .any, .any, .any, .any, .any, .any, .any, .any, .any, .any, .any, .any, .any, .any, .any, .any, .any, (.bool true), o.av, s.av, .any], fun K => ?_, rfl, rfl, rfl⟩⟩
    rw [Q47_h8, ifA_true, rldA hm, Option.bind_some, pcR, fo, s1, Option.map_some, Option.bind_some, rstA hm, Option.bind_some]
  | false =>
    refine ⟨o, by rw [show sgO false * oq = oq by unfold sgO; rw [if_neg (by decide)]; grind]; exact co, fo, fun m q hm => ⟨[.any, .any, (.ptr 1 0), .any, .any, .any, (.bool false), (.ptr q 0), .any, .any, .any, .any, .any, .any, .any, .any, .any, .any, .any, .any, .any, .any, .any, .any, .any, .any, .any, .any, .any, .any, .any, .any, .any, .any, .any, .any, .any, .any, .any, .any, .any, .any, .any, .any, .any, (.bool false), .any, .any, .any], fun K => ?_, rfl, rfl, rfl⟩⟩
    rw [Q47_h8, ifA_false]
    have e : m.set q (cR o) = m := List.ext_getElem? fun t => by
      rw [List.getElem?_set]
      split
      · rename_i h; subst h
        rw [if_pos (List.getElem?_eq_some_iff.1 hm).1, hm]
      · rfl
    rw [e]
theorem enters114 : ∀ (args : Array Value) (w : World), (callFunc 114 args).run prog w = .ok (.enter 114 args) w := by
  intro args w
  have hname : (f114.name == "runtime.NumGoroutine") = false := by kernel_rfl
  have hb : f114.body.isNone = false := by rw [hb114]; rfl
  simp only [callFunc, hf114, hname, hb, Sem.run_bind, Sem.run_pure, run_program, Result.andThen_ok, Bool.false_eq_true, if_false]
theorem fn_inv {w : World} {g : G} {f : Nat} {c : AV} {v : Value} (h : V w g (.fn f [c]) v) : ∃ pv, v = .func (.func f) #[] #[pv] ∧ V w g c pv := by
  cases h with
  | fn _ _ vs hl hv =>
    have hs : vs.size = 1 := by simpa using hl.symm
    obtain ⟨l⟩ := vs
    match l, hs with
    | [p], _ => exact ⟨p, rfl, by simpa using hv 0 (by simp)⟩
theorem fold47 (t : Array Value) (a b : Value) : ((#[37, 38] : Array Tmp).zip #[a, b]).foldl (fun t (p, v) => t.setIfInBounds p v) t = (t.setIfInBounds 37 a).setIfInBounds 38 b := by
  simp [Array.zip]
/-- The product of the cells on the diagonal. -/
def dgP (N : MX) : Nat → Rat
  | 0 => 1
  | i + 1 => dgP N i * N i i
end Go.Ab

/- Det: the products along a list of indices. -/
set_option linter.unusedVariables false
set_option linter.unusedSimpArgs false
set_option maxRecDepth 100000
namespace Go.Ab
open Go.Proofs.Try

section
variable {xx : MV} {n j : Nat}
open Classical in
noncomputable def fO (xx : MV) (n : Nat) (o : RV) (i : Nat) : RV :=
  if hh : ∃ s : RV, ∃ h : i * n + i < xx.lv.es.length, AP cfg 78 [o.av, (xx.lv.es[i * n + i]).av] = some s.av ∧ Can s (o.q * qAt xx (i * n + i)) ∧ s.fr = s then Classical.choose hh else zeroR
noncomputable def OL (xx : MV) (n : Nat) (l : List Nat) : RV := l.foldl (fO xx n) oneR
theorem OL_snoc (l : List Nat) (i : Nat) : OL xx n (l ++ [i]) = fO xx n (OL xx n l) i := by simp [OL, List.foldl_append]
def inO (n j t : Nat) (o : RV) : Prop := ROk (1 + n * j) o ∧ o.fr = o ∧ Bd (1 + t * j) o.q
theorem fO_step (hl : LOk j xx.lv) (hlen : xx.lv.es.length = n * n) (hj1 : 1 ≤ j) (hj : 1 + n * j < 2 ^ 36) {t i : Nat} {o : RV} (ho : inO n j t o) (ht : t + 1 ≤ n) (hi : i < n) :
    (∀ hp : i * n + i < xx.lv.es.length, AP cfg 78 [o.av, (xx.lv.es[i * n + i]).av] = some (fO xx n o i).av) ∧ Can (fO xx n o i) (o.q * qAt xx (i * n + i)) ∧ inO n j (t + 1) (fO xx n o i) := by
  have hp : i * n + i < xx.lv.es.length := by rw [hlen]; exact cell_lt60 hi hi
  have hc := hl.ok _ (List.getElem_mem hp)
  have hNj : (t + 1) * j ≤ n * j := Nat.mul_le_mul_right j ht
  have e2 : (t + 1) * j = t * j + j := by rw [Nat.add_mul, Nat.one_mul]
  have hex : ∃ s : RV, ∃ h : i * n + i < xx.lv.es.length, AP cfg 78 [o.av, (xx.lv.es[i * n + i]).av] = some s.av ∧ Can s (o.q * qAt xx (i * n + i)) ∧ s.fr = s := by
    obtain ⟨s, s1, s2, s3⟩ := V78 ho.1 (hc.mono (show j ≤ 1 + n * j by omega)) (by omega) hj
    exact ⟨s, hp, s1, by rw [qAt_get hp]; exact s2, s3⟩
  have e : fO xx n o i = Classical.choose hex := by unfold fO; rw [dif_pos hex]
  obtain ⟨_, h1, h2, h3⟩ := Classical.choose_spec hex
  rw [← e] at h1 h2 h3
  have bq : Bd (1 + (t + 1) * j) (o.q * qAt xx (i * n + i)) := (Bd_mul ho.2.2 (qAt_bd hl hj1) (by omega)).mono (by omega)
  exact ⟨fun _ => h1, h2, h2.ok (bq.mono (by omega)) (by omega), h3, by rw [h2.q]; exact bq⟩
theorem fold_in (hl : LOk j xx.lv) (hlen : xx.lv.es.length = n * n) (hj1 : 1 ≤ j) (hj : 1 + n * j < 2 ^ 36) : ∀ (l : List Nat) (o : RV) (t : Nat), t + l.length ≤ n → (∀ i ∈ l, i < n) → inO n j t o → inO n j (t + l.length) (l.foldl (fO xx n) o)
  | [], o, t, _, _, h => h
  | i :: l, o, t, ht, hi, h => by
    rw [List.length_cons] at ht
    have := fold_in hl hlen hj1 hj l (fO xx n o i) (t + 1) (by omega) (fun i' h' => hi i' (List.mem_cons_of_mem _ h')) (fO_step hl hlen hj1 hj h (by omega) (hi i List.mem_cons_self)).2.2
    rw [List.length_cons, show t + (l.length + 1) = t + 1 + l.length by omega]
    exact this
theorem OL_in (hl : LOk j xx.lv) (hlen : xx.lv.es.length = n * n) (hj1 : 1 ≤ j) (hj : 1 + n * j < 2 ^ 36) {l : List Nat} (h : l.length ≤ n) (hi : ∀ i ∈ l, i < n) : inO n j l.length (OL xx n l) := by
  have := fold_in hl hlen hj1 hj l oneR 0 (by omega) hi ⟨oneR_ok.mono (by omega), oneR_fr, by rw [can_one.q]; exact Bd_one (by omega)⟩
  rw [Nat.zero_add] at this
  exact this
theorem OL_range (hl : LOk j xx.lv) (hlen : xx.lv.es.length = n * n) (hj1 : 1 ≤ j) (hj : 1 + n * j < 2 ^ 36) : ∀ i, i ≤ n → Can (OL xx n (List.range i)) (dgP (mxOf xx n) i)
  | 0, _ => can_one
  | i + 1, h => by
    have ih := OL_range hl hlen hj1 hj i (by omega)
    have hin := OL_in hl hlen hj1 hj (l := List.range i) (by rw [List.length_range]; omega) (fun t ht => by have := List.mem_range.1 ht; omega)
    rw [List.length_range] at hin
    have := (fO_step hl hlen hj1 hj hin (by omega) (show i < n by omega)).2.1
    rw [ih.q] at this
    rw [List.range_succ, OL_snoc]
    exact this
end
end Go.Ab

/- matrix.Det on the machine: the call. -/
set_option linter.unusedVariables false
set_option linter.unusedSimpArgs false
set_option maxRecDepth 100000
namespace Go.Ab
open Go.Proofs.Try Go.RowKit

theorem anyD' (n t : Nat) : (List.replicate n AV.any).getD t .any = .any := by
  rw [List.getD_eq_getElem?_getD, List.getElem?_replicate]
  split <;> rfl
/-- A pattern that knows less. -/
theorem StR.pat {B : Nat} {w : World} {g : G} {ts P : List AV} {m : Mem} {a : Act} (h : StR B w g ⟨ts, m⟩ a) (hl : P.length = ts.length) (hp : ∀ t, P.getD t .any = ts.getD t .any ∨ P.getD t .any = .any) : StR B w g ⟨P, m⟩ a := ⟨h.tmp.less hl hp, h.mem, h.size⟩
theorem fin47 {B : Nat} {w : World} {g : G} {R : RV} {e : Int} {st : St} {a : Act} {w1 : World} {g1 : G} (hm : MemR B w g []) (hs : StR B w1 g1 st a) (s : Step B w g w1 g1) (h2 : st.tmps.getD 2 .any = .ptr 1 0) (h3 : st.tmps.getD 3 .any = .int .i64 e) (h1 : st.mem[1]? = some (cR R)) (hR : R.fr = R) (hd : a.defers = []) :
    bodyPostM Fence.wide 5 prog f47 (fun e' w' => ∃ v' g', e' = .returned v' ∧ Step B w g w' g' ∧ MemR B w' g' [] ∧ V w' g' (.tup [R.av, .int .i64 e]) v') .ret a w1 := by
  refine leaves0 hs (rs47 _ _ R e h2 h3 h1) hd fun v hv => ?_
  refine ⟨v, g1.bare, rfl, s.bare hm, hs.mem.none, ?_⟩
  refine V.bare hv ?_
  have h := congrArg RV.num hR
  have h' := congrArg RV.den hR
  obtain ⟨neg, ⟨z1, o1, d1⟩, ⟨z2, o2, d2⟩⟩ := R
  simp only [RV.fr, NV.fr, NV.mk.injEq, true_and, and_true] at h h'
  cases o1 <;> cases o2 <;> simp [Own.fr] at h h' <;> rfl
theorem core47a {x : MV} {k : Nat} (hx : IsM k x) (hk : k < 2 ^ 36) (hb : rightM x = false) : CallOk prog 47 [x.av] [] (.tup [zR.av, .int .i64 1]) [] := by
  intro B w g vs hm hB hl hv
  refine (callsIn_wide (n := 5)).1 ?_
  have hF : Fine Fence.wide := .inl rfl
  refine callsIn_of_wp_marks (fn := f47) (c := bodyOf f47) ?hf ?hb ?hF ?hh ?hro
  case hf => exact hf47
  case hb => exact hb47
  case hF => exact hF.fn 47
  case hro => rfl
  have hvs1 : vs.size = 1 := by simpa using hl.symm
  rw [nt47, hvs1]
  have hts := tmpR_start hl hv 48
  rw [e47]
  refine wpIn_seq (execD (C := cfg) cfgOk hF calm47.1 (D_h0 x) (show StR B w g _ _ from ⟨hts, hm, hB⟩) fun a1 w1 g1 hs1 s1 hd1 => ?_)
  have p1 := hs1.pat (P := [.any, (.ptr 0 0), (.ptr 1 0), .any, .any, .any, .any, .any, .any, .any, .any, .any, .any, .any, .any, .any, .any, .any, .any, .any, .any, .any, .any, .any, .any, .any, .any, .any, .any, .any, .any, .any, .any, .any, .any, .any, .any, .any, .any, .any, .any, .any, .any, .any, .any, .any, .any, .any, .any]) rfl (fun t => by
        match t with
        | 1 | 2 => exact .inl rfl
        | 0 | 3 => exact .inr rfl
        | t + 4 => exact .inr (anyD' 45 t))
  refine wpIn_seq (execD (C := cfg) cfgOk hF calm47.2.1 (e0 := .ret) (fun K => (D_h1 hx (by omega) K).trans (if_neg (by rw [hb]; decide))) p1 fun a2 w2 g2 hs2 s2 hd2 => ?_)
  exact fin47 hm hs2 (s1.trans s2) rfl rfl rfl rfl (hd2.trans hd1)
theorem core47b {x : MV} {k : Nat} (hx : IsM k x) (hk : k < 2 ^ 36) (hb : rightM x = true) (hc : x.rows ≠ x.cols) : CallOk prog 47 [x.av] [] (.tup [zR.av, .int .i64 30]) [] := by
  intro B w g vs hm hB hl hv
  refine (callsIn_wide (n := 5)).1 ?_
  have hF : Fine Fence.wide := .inl rfl
  refine callsIn_of_wp_marks (fn := f47) (c := bodyOf f47) ?hf ?hb ?hF ?hh ?hro
  case hf => exact hf47
  case hb => exact hb47
  case hF => exact hF.fn 47
  case hro => rfl
  have hvs1 : vs.size = 1 := by simpa using hl.symm
  rw [nt47, hvs1]
  have hts := tmpR_start hl hv 48
  rw [e47]
  refine wpIn_seq (execD (C := cfg) cfgOk hF calm47.1 (D_h0 x) (show StR B w g _ _ from ⟨hts, hm, hB⟩) fun a1 w1 g1 hs1 s1 hd1 => ?_)
  have p1 := hs1.pat (P := [.any, (.ptr 0 0), (.ptr 1 0), .any, .any, .any, .any, .any, .any, .any, .any, .any, .any, .any, .any, .any, .any, .any, .any, .any, .any, .any, .any, .any, .any, .any, .any, .any, .any, .any, .any, .any, .any, .any, .any, .any, .any, .any, .any, .any, .any, .any, .any, .any, .any, .any, .any, .any, .any]) rfl (fun t => by
        match t with
        | 1 | 2 => exact .inl rfl
        | 0 | 3 => exact .inr rfl
        | t + 4 => exact .inr (anyD' 45 t))
  refine wpIn_seq (execD (C := cfg) cfgOk hF calm47.2.1 (e0 := .normal) (fun K => (D_h1 hx (by omega) K).trans (if_pos hb)) p1 fun a2 w2 g2 hs2 s2 hd2 => ?_)
  have p2 := hs2.pat (P := [.any, (.ptr 0 0), (.ptr 1 0), .any, .any, .any, .any, .any, .any, .any, .any, .any, .any, .any, .any, .any, .any, .any, .any, .any, .any, .any, .any, .any, .any, .any, .any, .any, .any, .any, .any, .any, .any, .any, .any, .any, .any, .any, .any, .any, .any, .any, .any, .any, .any, .any, .any, .any, .any]) rfl (fun t => by
        match t with
        | 1 | 2 => exact .inl rfl
        | 0 | 3 | 4 | 5 | 6 | 7 | 8 | 9 | 10 | 11 | 12 => exact .inr rfl
        | t + 13 => exact .inr (anyD' 36 t))
  refine wpIn_seq (execD (C := cfg) cfgOk hF calm47.2.2.1 (e0 := .ret) (fun K => (D_h2 K).trans (if_neg hc)) p2 fun a3 w3 g3 hs3 s3 hd3 => ?_)
  exact fin47 hm hs3 ((s1.trans s2).trans s3) rfl rfl rfl rfl (hd3.trans (hd2.trans hd1))
theorem core47c {x : MV} {k n : Nat} (hx : IsM k x) (hk : k < 2 ^ 36) (hb : rightM x = true) (hxn : x.rows = n) (hxc : x.cols = n) {ts1 ts2 : List AV} {m1 m2 : Mem} {p r : Nat} {odd : Bool} {xx : MV} {ns : List Nat}
    (q1 : ∀ K : Ex → St → Option (AV × Mem), execW cfg 47 (AP cfg) (AC cfg) (c1 (c2 (c2 (c2 (bodyOf f47))))) ⟨[.any, (.ptr 0 0), (.ptr 1 0), .any, .any, .any, .any, .any, .any, .any, .any, .any, .any, .any, .any, .any, .any, .any, .any, .any, .any, .any, .any, .any, .any, .any, .any, .any, .any, .any, .any, .any, .any, .any, .any, .any, .any, .any, .any, .any, .any, .any, .any, .any, .any, .any, .any, .any, .any], [cM x, cR zR]⟩ K = K .normal ⟨ts1, m1⟩) (l1 : ts1.length = 49) (l12 : ts1.getD 2 .any = .ptr 1 0) (l14 : ts1.getD 4 .any = .ptr p 0)
    (q2 : ∀ K : Ex → St → Option (AV × Mem), execW cfg 47 (AP cfg) (AC cfg) (c1 (c2 (c2 (c2 (c2 (bodyOf f47)))))) ⟨[.any, .any, (.ptr 1 0), .any, (.ptr p 0), .any, .any, .any, .any, .any, .any, .any, .any, .any, .any, .any, .any, .any, .any, .any, .any, .any, .any, .any, .any, .any, .any, .any, .any, .any, .any, .any, .any, .any, .any, .any, .any, .any, .any, .any, .any, .any, .any, .any, .any, .any, .any, .any, .any], m1⟩ K = K .normal ⟨ts2, m2⟩) (l2 : ts2.length = 49) (l22 : ts2.getD 2 .any = .ptr 1 0) (l24 : ts2.getD 4 .any = .ptr p 0) (l25 : ts2.getD 5 .any = .int .i64 r) (l26 : ts2.getD 6 .any = .bool odd) (D : Dn x k n m2 p r odd xx ns) (hr : r < n) :
    CallOk prog 47 [x.av] [] (.tup [zeroR.av, .int .i64 0]) [] := by
  have hc : x.rows = x.cols := hxn.trans hxc.symm
  intro B w g vs hm hB hl hv
  refine (callsIn_wide (n := 5)).1 ?_
  have hF : Fine Fence.wide := .inl rfl
  refine callsIn_of_wp_marks (fn := f47) (c := bodyOf f47) ?hf ?hb ?hF ?hh ?hro
  case hf => exact hf47
  case hb => exact hb47
  case hF => exact hF.fn 47
  case hro => rfl
  have hvs1 : vs.size = 1 := by simpa using hl.symm
  rw [nt47, hvs1]
  have hts := tmpR_start hl hv 48
  rw [e47]
  refine wpIn_seq (execD (C := cfg) cfgOk hF calm47.1 (D_h0 x) (show StR B w g _ _ from ⟨hts, hm, hB⟩) fun a1 w1 g1 hs1 s1 hd1 => ?_)
  have p1 := hs1.pat (P := [.any, (.ptr 0 0), (.ptr 1 0), .any, .any, .any, .any, .any, .any, .any, .any, .any, .any, .any, .any, .any, .any, .any, .any, .any, .any, .any, .any, .any, .any, .any, .any, .any, .any, .any, .any, .any, .any, .any, .any, .any, .any, .any, .any, .any, .any, .any, .any, .any, .any, .any, .any, .any, .any]) rfl (fun t => by
        match t with
        | 1 | 2 => exact .inl rfl
        | 0 | 3 => exact .inr rfl
        | t + 4 => exact .inr (anyD' 45 t))
  refine wpIn_seq (execD (C := cfg) cfgOk hF calm47.2.1 (e0 := .normal) (fun K => (D_h1 hx (by omega) K).trans (if_pos hb)) p1 fun a2 w2 g2 hs2 s2 hd2 => ?_)
  have p2 := hs2.pat (P := [.any, (.ptr 0 0), (.ptr 1 0), .any, .any, .any, .any, .any, .any, .any, .any, .any, .any, .any, .any, .any, .any, .any, .any, .any, .any, .any, .any, .any, .any, .any, .any, .any, .any, .any, .any, .any, .any, .any, .any, .any, .any, .any, .any, .any, .any, .any, .any, .any, .any, .any, .any, .any, .any]) rfl (fun t => by
        match t with
        | 1 | 2 => exact .inl rfl
        | 0 | 3 | 4 | 5 | 6 | 7 | 8 | 9 | 10 | 11 | 12 => exact .inr rfl
        | t + 13 => exact .inr (anyD' 36 t))
  refine wpIn_seq (execD (C := cfg) cfgOk hF calm47.2.2.1 (e0 := .normal) (fun K => (D_h2 K).trans (if_pos hc)) p2 fun a3 w3 g3 hs3 s3 hd3 => ?_)
  have p3 := hs3.pat (P := [.any, (.ptr 0 0), (.ptr 1 0), .any, .any, .any, .any, .any, .any, .any, .any, .any, .any, .any, .any, .any, .any, .any, .any, .any, .any, .any, .any, .any, .any, .any, .any, .any, .any, .any, .any, .any, .any, .any, .any, .any, .any, .any, .any, .any, .any, .any, .any, .any, .any, .any, .any, .any, .any]) rfl (fun t => by
        match t with
        | 1 | 2 => exact .inl rfl
        | 0 | 3 | 4 | 5 | 6 | 7 | 8 | 9 | 10 | 11 | 12 | 13 | 14 | 15 | 16 | 17 | 18 => exact .inr rfl
        | t + 19 => exact .inr (anyD' 30 t))
  refine wpIn_seq (execD (C := cfg) cfgOk hF calm47.2.2.2.1 (e0 := .normal) q1 p3 fun a4 w4 g4 hs4 s4 hd4 => ?_)
  have p4 := hs4.pat (P := [.any, .any, (.ptr 1 0), .any, (.ptr p 0), .any, .any, .any, .any, .any, .any, .any, .any, .any, .any, .any, .any, .any, .any, .any, .any, .any, .any, .any, .any, .any, .any, .any, .any, .any, .any, .any, .any, .any, .any, .any, .any, .any, .any, .any, .any, .any, .any, .any, .any, .any, .any, .any, .any]) (by rw [l1]; rfl) (fun t => by
        match t with
        | 2 => exact .inl l12.symm
        | 4 => exact .inl l14.symm
        | 0 | 1 | 3 => exact .inr rfl
        | t + 5 => exact .inr (anyD' 44 t))
  refine wpIn_seq (execD (C := cfg) cfgOk hF calm47.2.2.2.2.1 (e0 := .normal) q2 p4 fun a5 w5 g5 hs5 s5 hd5 => ?_)
  have p5 := hs5.pat (P := [.any, .any, (.ptr 1 0), .any, (.ptr p 0), (.int .i64 r), (.bool odd), .any, .any, .any, .any, .any, .any, .any, .any, .any, .any, .any, .any, .any, .any, .any, .any, .any, .any, .any, .any, .any, .any, .any, .any, .any, .any, .any, .any, .any, .any, .any, .any, .any, .any, .any, .any, .any, .any, .any, .any, .any, .any]) (by rw [l2]; rfl) (fun t => by
        match t with
        | 2 => exact .inl l22.symm
        | 4 => exact .inl l24.symm
        | 5 => exact .inl l25.symm
        | 6 => exact .inl l26.symm
        | 0 | 1 | 3 => exact .inr rfl
        | t + 7 => exact .inr (anyD' 42 t))
  have s05 := (((s1.trans s2).trans s3).trans s4).trans s5
  have hd05 : a5.defers = [] := hd5.trans (hd4.trans (hd3.trans (hd2.trans hd1)))
  refine wpIn_seq (execD (C := cfg) cfgOk hF calm47.2.2.2.2.2.1 (e0 := .ret) (fun K => (D_h5 D K).trans (if_pos hr)) p5 fun a6 w6 g6 hs6 s6 hd6 => ?_)
  exact fin47 hm hs6 (s05.trans s6) rfl rfl (List.getElem?_set_self D.p2) zeroR_fr (hd6.trans hd05)
end Go.Ab
