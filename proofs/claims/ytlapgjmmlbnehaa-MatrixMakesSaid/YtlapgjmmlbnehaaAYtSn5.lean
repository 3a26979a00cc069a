/- The greatest common divisor and the binary digits of nat, in values. -/
import Derived.Test.YtlapgjmmlbnehaaAYtSn4
set_option linter.unusedVariables false
set_option linter.unusedSimpArgs false
namespace Go.Ab
open Go.Proofs.Try

def gcdV (x y : NV) : NV := ⟨if Nat.gcd x.v y.v = 0 then x.z else false, ownD (Nat.gcd x.v y.v), digs (Nat.gcd x.v y.v)⟩
theorem W96 (K : Ex → St → Option (AV × Mem)) (m : Mem) : ∀ (n : Nat) (a b : NV), NOk a → NOk b → a.ds = digs a.v → b.ds = digs b.v → b.v = n → a.fr = a → b.fr = b →
    ∃ c : NV, NOk c ∧ c.ds = digs (Nat.gcd a.v b.v) ∧ c.fr = c ∧ (b.v = 0 → c.z = a.z) ∧ L96_2 a.av b.av m K = K (.exit 0) (O96_2 c.av m) := by
  intro n
  induction n using Nat.strongRecOn with
  | ind n ih =>
    intro a b ha hb ca cb hn fa fb
    have fza := fz_nv a
    have fzb := fz_nv b
    rw [fa] at fza
    rw [fb] at fzb
    rw [L96_2_eq, len_nv, Option.bind_some, n_gtr0, Option.bind_some, ifA_dec]
    by_cases h : b.v = 0
    · have hl : ¬ b.ds.length > 0 := by rw [cb, h, digs_zero]; simp
      rw [if_neg hl]
      exact ⟨a, ha, by rw [h, Nat.gcd_zero_right]; exact ca, fa, fun _ => rfl, rfl⟩
    · have hl : b.ds.length > 0 := by
        rw [cb]
        have : (digs b.v).length ≠ 0 := fun e => h (digs_len0.1 e)
        omega
      rw [if_pos hl, pcall2 fza fzb, V125 ha hb, divV, if_neg h]
      simp only [Option.map_some, Option.bind_some]
      have hlt : a.v % b.v < b.v := Nat.mod_lt _ (Nat.pos_of_ne_zero h)
      obtain ⟨c, c1, c2, c3, c4, c5⟩ := ih (a.v % b.v) (by omega) b (divR a b) hb (divR_ok ha) cb (by rw [divR_ds, divR_v]) (divR_v a b) fb (divR_fr a b)
      rw [divR_v] at c2
      refine ⟨c, c1, ?_, c3, fun e => absurd e h, c5⟩
      rw [c2, Nat.gcd_comm b.v, ← Nat.gcd_rec, Nat.gcd_comm]
theorem V96 {x y : NV} (hx : NOk x) (hy : NOk y) : AP cfg 96 [x.av, y.av] = some (gcdV x y).av := by
  have lx := hx.v_len'
  have ly := hy.v_len'
  have hX : NOk ⟨x.z, .no, digs x.v⟩ := ⟨dg_digs _, lx, hx.z_v⟩
  have hY : NOk ⟨y.z, .no, digs y.v⟩ := ⟨dg_digs _, ly, hy.z_v⟩
  have e1 := V124 hx.fr
  have e2 := V124 hy.fr
  rw [show x.fr.v = x.v from rfl, show x.fr.z = x.z from rfl] at e1
  rw [show y.fr.v = y.v from rfl, show y.fr.z = y.z from rfl] at e2
  have vX : (NV.mk x.z .no (digs x.v)).v = x.v := val_digs _
  have vY : (NV.mk y.z .no (digs y.v)).v = y.v := val_digs _
  obtain ⟨⟨cz, co, cd⟩, c1, c2, c3, c4, c5⟩ := W96 (K96_2 (finK cfg.P f96.results.toList)) [] _ _ _ hX hY (by rw [vX]) (by rw [vY]) rfl rfl rfl
  rw [vX, vY] at c2
  rw [vY] at c4
  simp only at c2 c4
  subst c2
  have hz : cz = if Nat.gcd x.v y.v = 0 then x.z else false := by
    split
    · rename_i h
      exact c4 (Nat.eq_zero_of_gcd_eq_zero_right h)
    · rename_i h
      have h5 := c1.nil
      simp only at h5
      cases cz with
      | false => rfl
      | true => exact absurd (val_pos_digs.1 (h5 rfl)) h
  refine AP_of (v := (NV.mk cz (ownD (Nat.gcd x.v y.v)) (digs (Nat.gcd x.v y.v))).av) (m := []) ?_ (by rw [fz_nv]; simp only [NV.fr, ownD_fr]; rw [gcdV, ← hz]) (by simp [gcdV, NV.av, noV])
  rw [T96, pcall1 (fz_nv x), e1, Option.map_some, Option.bind_some, pcall1 (fz_nv y), e2, Option.map_some, Option.bind_some]
  refine c5.trans ?_
  rw [K96_2_x0, pcall1 (fz_nv _), c3, V123 c1]
  rfl
theorem digs_gcd_len {a b : Nat} (h : (digs a).length < 2 ^ 40) (h' : (digs b).length < 2 ^ 40) : (digs (Nat.gcd a b)).length < 2 ^ 40 := by
  by_cases ha : a = 0
  · rw [ha, Nat.gcd_zero_left]; exact h'
  · exact Nat.lt_of_le_of_lt (digs_mono (Nat.gcd_le_left _ (Nat.pos_of_ne_zero ha))) h
theorem gcdV_ok {x y : NV} (hx : NOk x) (hy : NOk y) : NOk (gcdV x y) := by
  refine ⟨dg_digs _, digs_gcd_len hx.v_len' hy.v_len', ?_⟩
  unfold gcdV
  simp only
  split
  · rename_i h; intro _; rw [h]; exact digs_zero
  · intro h; cases h
theorem gcdV_v (x y : NV) : (gcdV x y).v = Nat.gcd x.v y.v := val_digs _
end Go.Ab
