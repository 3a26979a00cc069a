/- Cells of matrices by index. -/
import Derived.Test.YtlapgjmmlbnehaaAYtM6
set_option linter.unusedVariables false
set_option linter.unusedSimpArgs false
set_option maxRecDepth 100000
namespace Go.Ab
open Go.Proofs.Try

theorem cellsF_get (F : Nat → Nat → RV) (cols : Nat) : ∀ (i p : Nat), p < i * cols → (cellsF F cols i)[p]? = some (F (p / cols) (p % cols))
  | 0, p, h => by simp at h
  | i + 1, p, h => by
    rw [Nat.succ_mul] at h
    unfold cellsF
    by_cases hp : p < i * cols
    · rw [List.getElem?_append_left (by rw [cellsF_length]; exact hp)]
      exact cellsF_get F cols i p hp
    · have hb : p - i * cols < cols := by omega
      have h1 : p = (p - i * cols) + cols * i := by rw [Nat.mul_comm cols i]; omega
      have h2 : p / cols = i := by rw [h1, Nat.add_mul_div_left _ _ (by omega), Nat.div_eq_of_lt hb, Nat.zero_add]
      have h3 : p % cols = p - i * cols := by rw [h1, Nat.add_mul_mod_self_left, Nat.mod_eq_of_lt hb, ← h1]
      rw [List.getElem?_append_right (by rw [cellsF_length]; omega), cellsF_length, h2, h3]
      unfold rowF
      rw [List.getElem?_map, List.getElem?_range hb]
      rfl
theorem oneTo_get (n : Nat) : ∀ (i p : Nat), i ≤ n → p < n * n → (oneTo n i)[p]? = some (if p / n = p % n ∧ p / n < i then oneF else zeroF)
  | 0, p, hi, h => by
    unfold oneTo
    rw [List.getElem?_replicate, if_pos h, if_neg (by omega)]
  | i + 1, p, hi, h => by
    have hn : 0 < n := by omega
    unfold oneTo
    have ih := oneTo_get n i p (by omega) h
    by_cases hp : i * n + i = p
    · subst hp
      have hm : i * n + i = i + n * i := by rw [Nat.mul_comm]; omega
      have h2 : (i * n + i) / n = i := by rw [hm, Nat.add_mul_div_left _ _ hn, Nat.div_eq_of_lt (by omega), Nat.zero_add]
      have h3 : (i * n + i) % n = i := by rw [hm, Nat.add_mul_mod_self_left, Nat.mod_eq_of_lt (by omega)]
      rw [List.getElem?_set_self (by rw [oneTo_length]; exact h), h2, h3, if_pos ⟨rfl, by omega⟩]
    · rw [List.getElem?_set_ne hp, ih]
      have : ¬ (p / n = p % n ∧ p / n = i) := by
        intro ⟨h1, h2⟩
        apply hp
        have := Nat.div_add_mod p n
        rw [← h1, h2, Nat.mul_comm] at this
        exact this
      congr 1
      by_cases c : p / n = p % n ∧ p / n < i
      · rw [if_pos c, if_pos ⟨c.1, by omega⟩]
      · rw [if_neg c, if_neg (by omega)]
theorem unit_one (n : Nat) : (cellsF unitR n n).map RV.q = (oneTo n n).map RV.q := by
  apply List.ext_getElem?
  intro p
  rw [List.getElem?_map, List.getElem?_map]
  by_cases hp : p < n * n
  · have hd : p / n < n := Nat.div_lt_of_lt_mul hp
    rw [cellsF_get _ _ _ _ hp, oneTo_get n n p (Nat.le_refl _) hp, Option.map_some, Option.map_some]
    congr 1
    unfold unitR
    by_cases c : p / n = p % n
    · rw [if_pos c, if_pos ⟨c, hd⟩, can_one.q, canF_one.q]
    · rw [if_neg c, if_neg (fun h => c h.1), can_zero.q, canF_zero.q]
  · rw [List.getElem?_eq_none (by rw [cellsF_length]; omega), List.getElem?_eq_none (by rw [oneTo_length]; omega)]
theorem zero_zeros (a b : Nat) : (cellsF (fun _ _ => zeroR) b a).map RV.q = (List.replicate (a * b) zeroF).map RV.q := by
  apply List.ext_getElem?
  intro p
  rw [List.getElem?_map, List.getElem?_map]
  by_cases hp : p < a * b
  · rw [cellsF_get _ _ _ _ hp, List.getElem?_replicate, if_pos hp, Option.map_some, Option.map_some, can_zero.q, canF_zero.q]
  · rw [List.getElem?_eq_none (by rw [cellsF_length]; omega), List.getElem?_eq_none (by rw [List.length_replicate]; omega)]
theorem map_copyR (es : List RV) : (es.map copyR).map RV.q = es.map RV.q := by
  rw [List.map_map]
  apply List.map_congr_left
  intro r _
  exact copyR_q r
theorem sameM_of {x y : MV} (h1 : x.rows = y.rows) (h2 : x.cols = y.cols) (h3 : x.lv.es.map RV.q = y.lv.es.map RV.q) : sameM x y = true := by
  unfold sameM
  rw [decide_eq_true h1, decide_eq_true h2, decide_eq_true h3]; rfl
theorem sameM_refl (x : MV) : sameM x x = true := sameM_of rfl rfl rfl
end Go.Ab
