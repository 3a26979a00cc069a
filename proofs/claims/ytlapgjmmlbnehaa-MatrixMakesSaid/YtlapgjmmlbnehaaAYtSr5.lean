/- The reference's greatest common divisor and binary digits, in values. -/
import Derived.Test.YtlapgjmmlbnehaaAYtSr4
set_option linter.unusedVariables false
set_option linter.unusedSimpArgs false
set_option maxRecDepth 100000
namespace Go.Ab
open Go.Proofs.Try

/-! ### Bits -/
theorem u32_quo2 {tk : TK} {a : Nat} (h : a < 4294967296) : binA tk .quo (.int .u32 a) (.int .u32 2) = some (.int .u32 (a / 2 : Nat)) := by
  have e : binA tk .quo (.int .u32 a) (.int .u32 2) = some (.int .u32 (IntKind.wrap .u32 ((a : Int).tdiv 2))) := by cases tk <;> rfl
  have e2 : (a : Int).tdiv 2 = ((a / 2 : Nat) : Int) := rfl
  rw [e, e2, wrap_u32 (by omega) (by omega)]
theorem W101 (K : Ex → St → Option (AV × Mem)) (m : Mem) : ∀ (r x n : Nat), x < 2 ^ r → r ≤ 32 → n + r < 2 ^ 60 → ∃ k, k ≤ n + r ∧ (0 < n ∨ 0 < x → 0 < k) ∧ (n = 0 → x = 0 → k = 0) ∧ L101_6 (.int .i64 n) (.int .u32 x) m K = K (.exit 0) (O101_6 (.int .i64 k) m) := by
  intro r
  induction r with
  | zero =>
    intro x n hx hr hn
    have : x = 0 := by simpa using hx
    subst this
    refine ⟨n, by omega, by omega, fun h _ => h, ?_⟩
    rw [L101_6_eq, n_gtr0, Option.bind_some, ifA_dec, if_neg (by omega)]
  | succ r ih =>
    intro x n hx hr hn
    rw [L101_6_eq, n_gtr0, Option.bind_some, ifA_dec]
    by_cases h : x > 0
    · have hp : 2 ^ (r + 1) ≤ 2 ^ 32 := Nat.pow_le_pow_right (by omega) hr
      rw [if_pos h, i_add1 (by omega), Option.bind_some, u32_quo2 (by omega), Option.bind_some]
      rw [Nat.pow_succ] at hx
      obtain ⟨k, k1, k2, k3, k4⟩ := ih (x / 2) (n + 1) (by omega) (by omega) (by omega)
      exact ⟨k, by omega, fun _ => k2 (.inl (by omega)), by omega, k4⟩
    · rw [if_neg h]
      exact ⟨n, by omega, by omega, fun h _ => h, rfl⟩
theorem V101 {x : NV} (hx : NOk x) : ∃ k : Nat, AP cfg 101 [x.av] = some (.int .i64 k) ∧ (k = 0 ↔ x.v = 0) := by
  have lx := hx.v_len'
  have e1 := V103 hx.fr
  rw [show x.fr.v = x.v from rfl] at e1
  by_cases h0 : x.v = 0
  · refine ⟨0, AP_of (m := []) (v := .int .i64 (0 : Nat)) ?_ (fz_int _ _ _) (by simp [noV]), by simp [h0]⟩
    rw [T101, pcall1 (fz_nv x), e1, Option.map_some, Option.bind_some, refN_len, Option.bind_some, n_eql0, Option.bind_some, ifA_dec, if_pos (digs_len0.2 h0)]
    rfl
  · have hn0 : ¬ (digs x.v).length = 0 := fun e => h0 (digs_len0.1 e)
    have hlast := digs_last h0
    have hd := dg_digs x.v ((digs x.v).length - 1)
    obtain ⟨k, k1, k2, k3, k4⟩ := W101 (K101_6 (finK cfg.P f101.results.toList)) [] 32 ((digs x.v).getD ((digs x.v).length - 1) 0) (32 * ((digs x.v).length - 1)) (by omega) (by omega) (by omega)
    have m32 : ∀ a : Nat, a < 2 ^ 41 → binA .other .mul (.int .i64 32) (.int .i64 a) = some (.int .i64 (32 * a : Nat)) := by
      intro a ha
      rw [binA_mul, wrap_i64 (by omega) (by omega)]; rfl
    have hkp := k2 (.inr (Nat.pos_of_ne_zero hlast))
    refine ⟨k, AP_of (m := []) (v := .int .i64 (k : Nat)) ?_ (fz_int _ _ _) (by simp [noV]), by omega⟩
    rw [T101, pcall1 (fz_nv x), e1, Option.map_some, Option.bind_some, refN_len, Option.bind_some, n_eql0, Option.bind_some, ifA_dec, if_neg hn0, Option.bind_some, i_sub1 (by omega) (by omega), Option.bind_some, m32 _ (by omega), Option.bind_some, Option.bind_some, i_sub1 (by omega) (by omega), Option.bind_some, index_nv (by rw [refN_ds]; omega), Option.bind_some, load_v, Option.bind_some, refN_ds]
    refine k4.trans ?_
    rw [K101_6_x0]

/-! ### Gcd -/
theorem even_half {a : Nat} (h : a % 2 = 0) : 2 * (a / 2) = a := by omega
theorem gcd_half {a b : Nat} (ha : a % 2 = 0) (hb : b % 2 = 1) : Nat.gcd (a / 2) b = Nat.gcd a b := by
  have hc : Nat.Coprime 2 b := by
    rw [Nat.coprime_iff_gcd_eq_one, Nat.gcd_rec, hb]
    rfl
  have := Nat.Coprime.gcd_mul_left_cancel (a / 2) hc
  rw [even_half ha] at this
  exact this.symm
theorem half_len {a : Nat} (h : (digs a).length < 2 ^ 39) : (digs (a / 2)).length < 2 ^ 39 := Nat.lt_of_le_of_lt (digs_mono (Nat.div_le_self _ _)) h
theorem W99_5 (K : Ex → St → Option (AV × Mem)) (m : Mem) : ∀ (n x y : Nat), y = n → x < 18446744073709551616 → y < 18446744073709551616 → L99_5 (.int .u64 x) (.int .u64 y) m K = K (.exit 0) (O99_5 (.int .u64 (Nat.gcd x y : Nat)) m) := by
  intro n
  induction n using Nat.strongRecOn with
  | ind n ih =>
    intro x y hn hx hy
    rw [L99_5_eq, n_neq0, Option.bind_some, ifA_dec]
    by_cases h : y = 0
    · rw [if_neg (fun hh => hh h), h, Nat.gcd_zero_right]
    · have hlt : x % y < y := Nat.mod_lt _ (Nat.pos_of_ne_zero h)
      rw [if_pos h, u_rem h hx, Option.bind_some, ih (x % y) (by omega) y (x % y) rfl hy (by omega), Nat.gcd_comm y, ← Nat.gcd_rec, Nat.gcd_comm]
theorem W99_13 (K : Ex → St → Option (AV × Mem)) (m : Mem) : ∀ (n a b t : Nat), a = n → 0 < a → 0 < b → 0 < t → (digs (a * t)).length < 2 ^ 39 → (digs a).length < 2 ^ 39 → (digs b).length < 2 ^ 39 → (digs t).length < 2 ^ 39 →
    ∃ a' b' t', 0 < a' ∧ 0 < b' ∧ 0 < t' ∧ a' ≤ a ∧ b' ≤ b ∧ (a' % 2 = 1 ∨ b' % 2 = 1) ∧ Nat.gcd a' b' * t' = Nat.gcd a b * t ∧ (digs t').length < 2 ^ 39 ∧ L99_13 (refN a).av (refN b).av (refN t).av m K = K (.exit 2) (O99_13 (refN a').av (refN b').av (refN t').av m) := by
  intro n
  induction n using Nat.strongRecOn with
  | ind n ih =>
    intro a b t hn ha hb ht hat la lb lt
    rw [L99_13_eq, pcall1 (fz_ref a), V127 (refN_ok (by omega)), refN_v, Option.map_some, Option.bind_some, ifA_dec]
    by_cases h1 : a % 2 = 0
    · rw [if_pos h1, pcall1 (fz_ref b), V127 (refN_ok (by omega)), refN_v, Option.map_some, Option.bind_some, ifA_dec]
      by_cases h2 : b % 2 = 0
      · have ea := even_half h1
        have eb := even_half h2
        have e : a / 2 * (t + t) = a * t := by
          rw [← Nat.mul_two, ← Nat.mul_assoc, Nat.mul_right_comm, Nat.mul_comm (a / 2) 2, ea]
        have ltt : (digs (t + t)).length < 2 ^ 39 := by
          refine Nat.lt_of_le_of_lt (digs_mono (b := a * t) ?_) hat
          rw [← e]
          exact Nat.le_mul_of_pos_left _ (by omega)
        obtain ⟨a', b', t', k1, k2, k3, k4, k5, k6, k7, k8, k9⟩ := ih (a / 2) (by omega) (a / 2) (b / 2) (t + t) rfl (by omega) (by omega) (by omega) (by rw [e]; exact hat) (half_len la) (half_len lb) ltt
        refine ⟨a', b', t', k1, k2, k3, by omega, by omega, k6, ?_, k8, ?_⟩
        · rw [k7]
          have : Nat.gcd a b = 2 * Nat.gcd (a / 2) (b / 2) := by
            conv => lhs; rw [← ea, ← eb]
            exact Nat.gcd_mul_left _ _ _
          rw [this, ← Nat.mul_two, ← Nat.mul_assoc, Nat.mul_right_comm, Nat.mul_comm _ 2]
        · rw [if_pos h2, pcall1 (fz_ref a), V128 (refN_ok (by omega)), refN_v, Option.map_some, Option.bind_some, pcall1 (fz_ref b), V128 (refN_ok (by omega)), refN_v, Option.map_some, Option.bind_some, pcall2 (fz_ref t) (fz_ref t), V111 (refN_ok (by omega)) (refN_ok (by omega)) (refN_fr _) (refN_fr _), refN_v, Option.map_some, Option.bind_some]
          exact k9
      · rw [if_neg h2]
        exact ⟨a, b, t, ha, hb, ht, Nat.le_refl _, Nat.le_refl _, .inr (by omega), rfl, lt, rfl⟩
    · rw [if_neg h1]
      exact ⟨a, b, t, ha, hb, ht, Nat.le_refl _, Nat.le_refl _, .inl (by omega), rfl, lt, rfl⟩
theorem W99_16 (K : Ex → St → Option (AV × Mem)) (m : Mem) (xb xt : AV) (b : Nat) : ∀ (n a : Nat), a = n → 0 < a → (a % 2 = 1 ∨ b % 2 = 1) → (digs a).length < 2 ^ 39 →
    ∃ a', 0 < a' ∧ a' ≤ a ∧ a' % 2 = 1 ∧ Nat.gcd a' b = Nat.gcd a b ∧ L99_16 (refN a).av xb xt m K = K (.exit 6) (O99_16 (refN a').av xb xt m) := by
  intro n
  induction n using Nat.strongRecOn with
  | ind n ih =>
    intro a hn ha hab la
    rw [L99_16_eq, pcall1 (fz_ref a), V127 (refN_ok (by omega)), refN_v, Option.map_some, Option.bind_some, ifA_dec]
    by_cases h1 : a % 2 = 0
    · have hb1 : b % 2 = 1 := by omega
      obtain ⟨a', k1, k2, k3, k4, k5⟩ := ih (a / 2) (by omega) (a / 2) rfl (by omega) (.inr hb1) (half_len la)
      rw [if_pos h1, pcall1 (fz_ref a), V128 (refN_ok (by omega)), refN_v, Option.map_some, Option.bind_some]
      exact ⟨a', k1, by omega, k3, by rw [k4, gcd_half h1 hb1], k5⟩
    · rw [if_neg h1]
      exact ⟨a, ha, Nat.le_refl _, by omega, rfl, rfl⟩
theorem W99_18 (K : Ex → St → Option (AV × Mem)) (m : Mem) (xa xt : AV) (a : Nat) (ha : a % 2 = 1) : ∀ (n b : Nat), b = n → 0 < b → (digs b).length < 2 ^ 39 →
    ∃ b', 0 < b' ∧ b' ≤ b ∧ b' % 2 = 1 ∧ Nat.gcd a b' = Nat.gcd a b ∧ L99_18 xa (refN b).av xt m K = K (.exit 8) (O99_18 xa (refN b').av xt m) := by
  intro n
  induction n using Nat.strongRecOn with
  | ind n ih =>
    intro b hn hb lb
    rw [L99_18_eq, pcall1 (fz_ref b), V127 (refN_ok (by omega)), refN_v, Option.map_some, Option.bind_some, ifA_dec]
    by_cases h1 : b % 2 = 0
    · obtain ⟨b', k1, k2, k3, k4, k5⟩ := ih (b / 2) (by omega) (b / 2) rfl (by omega) (half_len lb)
      rw [if_pos h1, pcall1 (fz_ref b), V128 (refN_ok (by omega)), refN_v, Option.map_some, Option.bind_some]
      exact ⟨b', k1, by omega, k3, by rw [k4, Nat.gcd_comm a, gcd_half h1 ha, Nat.gcd_comm], k5⟩
    · rw [if_neg h1]
      exact ⟨b, hb, Nat.le_refl _, by omega, rfl, rfl⟩
theorem W99_15 (K : Ex → St → Option (AV × Mem)) (m : Mem) (xt : AV) : ∀ (n a b : Nat), a + b = n → 0 < a → (a % 2 = 1 ∨ b % 2 = 1) → (digs a).length < 2 ^ 39 → (digs b).length < 2 ^ 39 →
    L99_15 (refN a).av (refN b).av xt m K = K (.exit 4) (O99_15 (refN (Nat.gcd a b)).av xt m) := by
  intro n
  induction n using Nat.strongRecOn with
  | ind n ih =>
    intro a b hn ha hab la lb
    rw [L99_15_eq, refN_len, Option.bind_some, n_gtr0, Option.bind_some, ifA_dec]
    by_cases hb : b = 0
    · rw [if_neg (by rw [hb, digs_zero]; simp), hb, Nat.gcd_zero_right]
    · have hl0 : (digs b).length ≠ 0 := fun e => hb (digs_len0.1 e)
      obtain ⟨a', k1, k2, k3, k4, k5⟩ := W99_16 (K99_16 K) m (refN b).av xt b a a rfl ha hab la
      obtain ⟨b', j1, j2, j3, j4, j5⟩ := W99_18 (K99_18 K) m (refN a').av xt a' k3 b b rfl (by omega) lb
      have la' : (digs a').length < 2 ^ 39 := Nat.lt_of_le_of_lt (digs_mono k2) la
      have lb' : (digs b').length < 2 ^ 39 := Nat.lt_of_le_of_lt (digs_mono j2) lb
      rw [if_pos (by omega), k5, K99_16_x6, j5, K99_18_x8, pcall2 (fz_ref a') (fz_ref b'), V98 (refN_ok (by omega)) (refN_ok (by omega)), refN_v, refN_v, Option.map_some, Option.bind_some, binA_gtr, Option.bind_some, ifA_dec]
      have hg : Nat.gcd a' b' = Nat.gcd a b := by rw [j4, k4]
      by_cases hgt : a' > b'
      · have hc : cmpV a' b' > 0 := by unfold cmpV; rw [if_neg (by omega), if_pos hgt]; omega
        rw [if_pos hc, pcall2 (fz_ref a') (fz_ref b'), V112 (refN_ok (by omega)) (refN_ok (by omega)) (refN_fr _) (refN_fr _), subR, refN_v, refN_v, if_neg (by omega), Option.map_some, Option.bind_some]
        simp only [extractA]
        rw [show ([(refN (a' - b')).av, AV.int .i64 0] : List AV)[0]? = some (refN (a' - b')).av from rfl, show ([(refN (a' - b')).av, AV.int .i64 0] : List AV)[1]? = some (.int .i64 0) from rfl, Option.bind_some, Option.bind_some]
        have lab : (digs (a' - b')).length < 2 ^ 39 := Nat.lt_of_le_of_lt (digs_mono (Nat.sub_le _ _)) la'
        rw [ih (b' + (a' - b')) (by omega) b' (a' - b') rfl j1 (.inl j3) lb' lab]
        have : Nat.gcd b' (a' - b') = Nat.gcd a b := by
          rw [← hg, Nat.gcd_sub_self_right (by omega), Nat.gcd_comm]
        rw [this]
      · have hc : ¬ cmpV a' b' > 0 := by unfold cmpV; split <;> first | omega | (rw [if_neg hgt]; omega)
        rw [if_neg hc, pcall2 (fz_ref b') (fz_ref a'), V112 (refN_ok (by omega)) (refN_ok (by omega)) (refN_fr _) (refN_fr _), subR, refN_v, refN_v, if_neg (by omega), Option.map_some, Option.bind_some]
        simp only [extractA]
        rw [show ([(refN (b' - a')).av, AV.int .i64 0] : List AV)[0]? = some (refN (b' - a')).av from rfl, show ([(refN (b' - a')).av, AV.int .i64 0] : List AV)[1]? = some (.int .i64 0) from rfl, Option.bind_some, Option.bind_some]
        have lab : (digs (b' - a')).length < 2 ^ 39 := Nat.lt_of_le_of_lt (digs_mono (Nat.sub_le _ _)) lb'
        rw [ih (a' + (b' - a')) (by omega) a' (b' - a') rfl k1 (.inl k3) la' lab]
        have : Nat.gcd a' (b' - a') = Nat.gcd a b := by
          rw [← hg, Nat.gcd_sub_self_right (by omega)]
        rw [this]
theorem V99 {x y : NV} (hx : NOk x) (hy : NOk y) (lx : (digs x.v).length < 2 ^ 38) (ly : (digs y.v).length < 2 ^ 38) : AP cfg 99 [x.av, y.av] = some (refN (Nat.gcd x.v y.v)).av := by
  have e1 := V103 hx.fr
  have e2 := V103 hy.fr
  rw [show x.fr.v = x.v from rfl] at e1
  rw [show y.fr.v = y.v from rfl] at e2
  have s1 := V126 (refN_ok (n := x.v) (by omega))
  have s2 := V126 (refN_ok (n := y.v) (by omega))
  rw [refN_v] at s1 s2
  have hx1 : ∀ n, extractA (smallV n) 1 = some (.bool (decide (n < 18446744073709551616))) := by
    intro n; unfold smallV; split <;> (rename_i h; simp [extractA, h])
  have hx0 : ∀ n, ∃ k : Nat, extractA (smallV n) 0 = some (.int .u64 k) ∧ (n < 18446744073709551616 → k = n) := by
    intro n; unfold smallV
    split
    · exact ⟨n, rfl, fun _ => rfl⟩
    · rename_i h; exact ⟨0, rfl, fun h' => absurd h' h⟩
  obtain ⟨kx, hkx, hkx'⟩ := hx0 x.v
  obtain ⟨ky, hky, hky'⟩ := hx0 y.v
  -- what follows where the numbers are not both small
  have big : ∀ {R : Option (AV × Mem)}, R = ((lenA false (refN x.v).av).bind fun v9 => (binA .other .eql v9 (.int .i64 0)).bind fun v10 => ifA v10 (some ((refN y.v).av, [])) (
      (lenA false (refN y.v).av).bind fun v11 => (binA .other .eql v11 (.int .i64 0)).bind fun v12 => ifA v12 (some ((refN x.v).av, [])) (
      (pcall (AP cfg) none [] 70 [(.int .u64 1)]).bind fun r13 => L99_13 (refN x.v).av (refN y.v).av r13.1 r13.2 (K99_13 (finK cfg.P f99.results.toList))))) → R = some ((refN (Nat.gcd x.v y.v)).av, []) := by
    intro R hR
    rw [hR, refN_len, Option.bind_some, n_eql0, Option.bind_some, ifA_dec]
    by_cases h0 : x.v = 0
    · rw [if_pos (digs_len0.2 h0), h0, Nat.gcd_zero_left]
    · rw [if_neg (fun e => h0 (digs_len0.1 e)), refN_len, Option.bind_some, n_eql0, Option.bind_some, ifA_dec]
      by_cases h1 : y.v = 0
      · rw [if_pos (digs_len0.2 h1), h1, Nat.gcd_zero_right]
      · have h70 := V70 (n := 1) (by omega)
        have l1 : (digs 1).length < 2 ^ 39 := Nat.lt_of_le_of_lt (digs_length_le (k := 1) (by omega)) (by omega)
        obtain ⟨a', b', t', k1, k2, k3, k4, k5, k6, k7, k8, k9⟩ := W99_13 (K99_13 (finK cfg.P f99.results.toList)) [] x.v x.v y.v 1 rfl (by omega) (by omega) (by omega) (by rw [Nat.mul_one]; omega) (by omega) (by omega) l1
        have la' : (digs a').length < 2 ^ 39 := Nat.lt_of_le_of_lt (digs_mono k4) (by omega)
        have lb' : (digs b').length < 2 ^ 39 := Nat.lt_of_le_of_lt (digs_mono k5) (by omega)
        have lg : (digs (Nat.gcd a' b')).length < 2 ^ 39 := Nat.lt_of_le_of_lt (digs_mono (Nat.gcd_le_left _ k1)) la'
        rw [if_neg (fun e => h1 (digs_len0.1 e)), pcall1 (fz_int _ _), show AV.int .u64 1 = .int .u64 ((1 : Nat) : Int) from rfl, h70, Option.map_some, Option.bind_some, k9, K99_13_x2, W99_15 _ _ _ (a' + b') a' b' rfl k1 k6 la' lb', K99_15_x4, pcall2 (fz_ref _) (fz_ref _), V72 (refN_ok (by omega)) (refN_ok (by omega)), refN_v, refN_v, k7, Nat.mul_one]
        rfl
  refine AP_ofz _ _ (fz_ref _) (noV_nv _) (m := []) ?_
  rw [T99, pcall1 (fz_nv x), e1, Option.map_some, Option.bind_some, pcall1 (fz_nv y), e2, Option.map_some, Option.bind_some, pcall1 (fz_ref _), s1, Option.map_some, Option.bind_some, hkx, Option.bind_some, hx1, Option.bind_some, pcall1 (fz_ref _), s2, Option.map_some, Option.bind_some, hky, Option.bind_some, hx1, Option.bind_some, ifA_dec]
  by_cases c1 : x.v < 18446744073709551616
  · rw [if_pos c1, ifA_dec]
    by_cases c2 : y.v < 18446744073709551616
    · have hgl : Nat.gcd x.v y.v < 18446744073709551616 := by
        by_cases h0 : x.v = 0
        · rw [h0, Nat.gcd_zero_left]; exact c2
        · exact Nat.lt_of_le_of_lt (Nat.gcd_le_left _ (Nat.pos_of_ne_zero h0)) c1
      rw [if_pos c2, hkx' c1, hky' c2, W99_5 _ _ y.v x.v y.v rfl c1 c2, K99_5_x0, pcall1 (fz_int _ _), V70 hgl]
      rfl
    · rw [if_neg c2]
      exact big rfl
  · rw [if_neg c1]
    exact big rfl
end Go.Ab
