/- The reference's Add, Sub, Mul and short division, in values. -/
import Derived.Test.YtlapgjmmlbnehaaAYtSr
set_option linter.unusedVariables false
set_option linter.unusedSimpArgs false
set_option maxRecDepth 100000
namespace Go.Ab
open Go.Proofs.Try

theorem u_remB {tk : TK} {a : Nat} (h : a < 18446744073709551616) : binA tk .rem (.int .u64 a) (.int .u64 4294967296) = some (.int .u64 (a % 4294967296 : Nat)) := u_rem (b := 4294967296) (by omega) h
theorem u_quoB {tk : TK} {a : Nat} (h : a < 18446744073709551616) : binA tk .quo (.int .u64 a) (.int .u64 4294967296) = some (.int .u64 (a / 4294967296 : Nat)) := u_quo (b := 4294967296) (by omega) h
theorem u_gtr0 {tk : TK} {a : Nat} : binA tk .gtr (.int .u64 a) (.int .u64 0) = some (.bool (decide (a > 0))) := n_gtr0
theorem mod_mod' (a : Nat) : a % 4294967296 % 4294967296 = a % 4294967296 := Nat.mod_mod _ _
theorem build_u32 (n : Nat) : buildSliceA none [.int .u32 (n : Nat)] = some (.lst none false .full [.int .u32 n]) := rfl

/-! ### Add -/
theorem B111 {x y : NV} (hx : NOk x) (hy : NOk y) (m : Mem) (K : Ex → St → Option (AV × Mem)) (i : Nat) (hi : i < 2 ^ 41) (fx : x.fr = x) (fy : y.fr = y) :
    ((pcall (AP cfg) none (rowM m (addS x.ds y.ds i).1) 133 [x.av, .int .i64 i]).bind fun r3 =>
    (pcall (AP cfg) none r3.2 133 [y.av, .int .i64 i]).bind fun r4 =>
    (binA .other .add r3.1 r4.1).bind fun v5 =>
    (binA .other .add v5 (.int .u64 (addS x.ds y.ds i).2)).bind fun v6 =>
    (binA .other .rem v6 (.int .u64 4294967296)).bind fun v7 =>
    (convA .u32 v7).bind fun v8 =>
    (buildSliceA none [v8]).bind fun v9 =>
    (appA none false 116 none 4 r4.2 (rowV m (addS x.ds y.ds i).1).av v9).bind fun r10 =>
    (binA .other .quo v6 (.int .u64 4294967296)).bind fun v11 =>
    (binA .other .add (.int .i64 i) (.int .i64 1)).bind fun v12 =>
    L111_4 x.av y.av r10.1 v11 v12 r10.2 K) =
    L111_4 x.av y.av (rowV m (addS x.ds y.ds (i + 1)).1).av (.int .u64 (addS x.ds y.ds (i + 1)).2) (.int .i64 (i + 1 : Nat)) (rowM m (addS x.ds y.ds (i + 1)).1) K := by
  have fzx := fz_nv x
  have fzy := fz_nv y
  rw [fx] at fzx
  rw [fy] at fzy
  have hc := addS_carry hx.dg hy.dg i
  have h1 := hx.dg i
  have h2 := hy.dg i
  have hl := addS_length x.ds y.ds i
  have e : (addS x.ds y.ds i).2 + x.ds.getD i 0 + y.ds.getD i 0 = x.ds.getD i 0 + y.ds.getD i 0 + (addS x.ds y.ds i).2 := by omega
  simp only [addS, e]
  rw [pcall2 fzx (fz_int _ _), V133 hx (by omega), Option.map_some, Option.bind_some, pcall2 fzy (fz_int _ _), V133 hy (by omega), Option.map_some, Option.bind_some,
    u_add (by omega), Option.bind_some, u_add (by omega), Option.bind_some, u_remB (by omega), Option.bind_some, c_dn, Option.bind_some, mod_mod', build_u32, Option.bind_some,
    app_row1 (by rw [hl]; simp only [roomA]; omega), Option.bind_some, u_quoB (by omega), Option.bind_some, i_add1 (by omega), Option.bind_some]
def addT (a b : List Nat) : Nat := if (addS a b (max a.length b.length)).2 > 0 then max a.length b.length + 1 else max a.length b.length
theorem addT_val {a b : List Nat} (ha : Dg a) (hb : Dg b) : val (addS a b (addT a b)).1 = val a + val b := by
  have hc := addS_carry ha hb (max a.length b.length)
  have e1 : ∀ n, max a.length b.length ≤ n → (addS a b n).2 = 0 → val (addS a b n).1 = val a + val b := by
    intro n hn h0
    have := addS_val a b n
    rw [h0, Nat.mul_zero, Nat.add_zero, vs_all (by omega), vs_all (by omega)] at this
    exact this
  unfold addT
  split
  · refine e1 _ (by omega) ?_
    have o1 : a.getD (max a.length b.length) 0 = 0 := getD_out (by omega)
    have o2 : b.getD (max a.length b.length) 0 = 0 := getD_out (by omega)
    simp only [addS, o1, o2]
    omega
  · exact e1 _ (Nat.le_refl _) (by omega)
theorem W111 {x y : NV} (hx : NOk x) (hy : NOk y) (m : Mem) (K : Ex → St → Option (AV × Mem)) (fx : x.fr = x) (fy : y.fr = y) : ∀ j i : Nat, i + j = max x.ds.length y.ds.length →
    ∃ v, L111_4 x.av y.av (rowV m (addS x.ds y.ds i).1).av (.int .u64 (addS x.ds y.ds i).2) (.int .i64 i) (rowM m (addS x.ds y.ds i).1) K
      = K (.exit 0) (O111_4 (rowV m (addS x.ds y.ds (addT x.ds y.ds)).1).av v) := by
  have lx := hx.len
  have ly := hy.len
  have lst : ∀ i, x.ds.length ≤ i → y.ds.length ≤ i → i < 2 ^ 41 → (addS x.ds y.ds i).2 = 0 →
      L111_4 x.av y.av (rowV m (addS x.ds y.ds i).1).av (.int .u64 (addS x.ds y.ds i).2) (.int .i64 i) (rowM m (addS x.ds y.ds i).1) K = K (.exit 0) (O111_4 (rowV m (addS x.ds y.ds i).1).av (rowM m (addS x.ds y.ds i).1)) := by
    intro i h1 h2 h3 h4
    rw [L111_4_eq, len_nv, Option.bind_some, n_lss, Option.bind_some, ifA_dec, if_neg (by omega), len_nv, Option.bind_some, n_lss, Option.bind_some, ifA_dec, if_neg (by omega), u_gtr0, Option.bind_some, ifA_dec, if_neg (by omega)]
  intro j
  induction j with
  | zero =>
    intro i hi
    have hi : i = max x.ds.length y.ds.length := by omega
    by_cases hc : (addS x.ds y.ds i).2 > 0
    · have ht : addT x.ds y.ds = i + 1 := by unfold addT; rw [← hi, if_pos hc]
      have o1 : x.ds.getD i 0 = 0 := getD_out (by omega)
      have o2 : y.ds.getD i 0 = 0 := getD_out (by omega)
      have hcc := addS_carry hx.dg hy.dg i
      refine ⟨rowM m (addS x.ds y.ds (i + 1)).1, ?_⟩
      rw [L111_4_eq, len_nv, Option.bind_some, n_lss, Option.bind_some, ifA_dec, if_neg (by omega), len_nv, Option.bind_some, n_lss, Option.bind_some, ifA_dec, if_neg (by omega), u_gtr0, Option.bind_some, ifA_dec, if_pos hc, B111 hx hy m K i (by omega) fx fy, ht]
      exact lst (i + 1) (by omega) (by omega) (by omega) (by simp only [addS, o1, o2]; omega)
    · have ht : addT x.ds y.ds = i := by unfold addT; rw [← hi, if_neg hc]
      rw [ht]
      exact ⟨_, lst i (by omega) (by omega) (by omega) (by omega)⟩
  | succ j ih =>
    intro i hi
    obtain ⟨v, ih⟩ := ih (i + 1) (by omega)
    refine ⟨v, ?_⟩
    rw [L111_4_eq, len_nv, Option.bind_some, n_lss, Option.bind_some, ifA_dec]
    by_cases h1 : i < x.ds.length
    · rw [if_pos h1, B111 hx hy m K i (by omega) fx fy]
      exact ih
    · rw [if_neg h1, len_nv, Option.bind_some, n_lss, Option.bind_some, ifA_dec, if_pos (by omega), B111 hx hy m K i (by omega) fx fy]
      exact ih
theorem V111 {x y : NV} (hx : NOk x) (hy : NOk y) (fx : x.fr = x) (fy : y.fr = y) : AP cfg 111 [x.av, y.av] = some (refN (x.v + y.v)).av := by
  have lx := hx.len
  have ly := hy.len
  obtain ⟨v, hw⟩ := W111 hx hy [] (K111_4 (finK cfg.P f111.results.toList)) fx fy (max x.ds.length y.ds.length) 0 (by omega)
  have hl := addS_length x.ds y.ds (addT x.ds y.ds)
  have hT : addT x.ds y.ds ≤ max x.ds.length y.ds.length + 1 := by unfold addT; split <;> omega
  have hd := addS_dg x.ds y.ds (addT x.ds y.ds)
  refine AP_ofz _ _ (fz_ref _) (noV_nv _) (m := v) ?_
  rw [T111]
  refine hw.trans ?_
  rw [K111_4_x0, pcall1 (fz_row _ _), P103 _ (by rw [rowN_ds]; exact hd) (by rw [rowN_ds, hl]; omega), rowN_v, addT_val hx.dg hy.dg]
  rfl

/-! ### Sub -/
def subA (a b : List Nat) : Nat → List Nat × Nat
  | 0 => ([], 0)
  | i + 1 => if a.getD i 0 < b.getD i 0 + (subA a b i).2 then ((subA a b i).1 ++ [a.getD i 0 + 4294967296 - (b.getD i 0 + (subA a b i).2)], 1)
    else ((subA a b i).1 ++ [a.getD i 0 - (b.getD i 0 + (subA a b i).2)], 0)
theorem subA_length (a b : List Nat) : ∀ i, (subA a b i).1.length = i
  | 0 => rfl
  | i + 1 => by simp only [subA]; split <;> simp [subA_length a b i]
theorem subA_borrow (a b : List Nat) : ∀ i, (subA a b i).2 ≤ 1
  | 0 => by simp [subA]
  | i + 1 => by simp only [subA]; split <;> simp
theorem subA_dg {a b : List Nat} (ha : Dg a) (hb : Dg b) : ∀ i, Dg (subA a b i).1
  | 0 => dg_nil
  | i + 1 => by
    have := subA_borrow a b i
    have h1 := ha i
    have h2 := hb i
    simp only [subA]
    split
    · exact dg_app (subA_dg ha hb i) (dg_one (by omega))
    · exact dg_app (subA_dg ha hb i) (dg_one (by omega))
theorem subA_val {a b : List Nat} (ha : Dg a) (hb : Dg b) (i : Nat) : val (subA a b i).1 + vs b i = vs a i + 4294967296 ^ i * (subA a b i).2 := by
  induction i with
  | zero =>
    rw [subA, vs_zero, vs_zero]
    rfl
  | succ i ih =>
    have hl := subA_length a b i
    have hc := subA_borrow a b i
    have h1 := ha i
    have h2 := hb i
    rw [vs_succ, vs_succ, Nat.pow_succ, subA]
    obtain ⟨s1, s2⟩ := subS_step (x := a.getD i 0) (y := b.getD i 0) (v1 := 4294967296) ih
    rw [Nat.add_comm (subA a b i).2] at s1 s2
    split
    · rename_i hlt
      simp only []
      rw [val_app, hl, val, val, Nat.mul_zero, Nat.add_zero]
      exact s1 hlt (by omega)
    · rename_i hlt
      simp only []
      rw [val_app, hl, val, val, Nat.mul_zero, Nat.add_zero]
      exact s2 hlt
theorem subA_end {a b : List Nat} (ha : Dg a) (hb : Dg b) (h : val b ≤ val a) : val (subA a b a.length).1 = val a - val b := by
  have h1 := subA_val ha hb a.length
  rw [vs_all (Nat.le_refl _), vs_cut ha h] at h1
  have h2 := val_lt (subA_dg ha hb a.length)
  rw [subA_length] at h2
  have h3 := val_lt ha
  have hc := subA_borrow a b a.length
  have : (subA a b a.length).2 = 0 := by
    apply Classical.byContradiction
    intro hn
    have e : (subA a b a.length).2 = 1 := by omega
    rw [e, Nat.mul_one] at h1
    omega
  rw [this, Nat.mul_zero, Nat.add_zero] at h1
  omega
theorem W112 {x y : NV} (hx : NOk x) (hy : NOk y) (m : Mem) (K : Ex → St → Option (AV × Mem)) (fx : x.fr = x) (fy : y.fr = y) : ∀ j i : Nat, i + j = x.ds.length →
    L112_6 x.av y.av (rowV m (subA x.ds y.ds i).1).av (.int .u64 (subA x.ds y.ds i).2) (.int .i64 i) (rowM m (subA x.ds y.ds i).1) K
      = K (.exit 0) (O112_6 (rowV m (subA x.ds y.ds x.ds.length).1).av (rowM m (subA x.ds y.ds x.ds.length).1)) := by
  have lx := hx.len
  have fzx := fz_nv x
  have fzy := fz_nv y
  rw [fx] at fzx
  rw [fy] at fzy
  intro j
  induction j with
  | zero =>
    intro i hi
    have : i = x.ds.length := by omega
    subst this
    rw [L112_6_eq, len_nv, Option.bind_some, n_lss, Option.bind_some, ifA_dec, if_neg (by omega)]
  | succ j ih =>
    intro i hi
    have ih := ih (i + 1) (by omega)
    have hc := subA_borrow x.ds y.ds i
    have h1 := hx.dg i
    have h2 := hy.dg i
    have hl := subA_length x.ds y.ds i
    have s1 : binA .other .mul (.int .u64 1) (.int .u64 4294967296) = some (.int .u64 (4294967296 : Nat)) := rfl
    have s0 : binA .other .mul (.int .u64 0) (.int .u64 4294967296) = some (.int .u64 (0 : Nat)) := rfl
    rw [L112_6_eq, len_nv, Option.bind_some, n_lss, Option.bind_some, ifA_dec, if_pos (by omega), pcall2 fzy (fz_int _ _), V133 hy (by omega), Option.map_some, Option.bind_some, u_add (by omega), Option.bind_some, pcall2 fzx (fz_int _ _), V133 hx (by omega), Option.map_some, Option.bind_some, n_lss, Option.bind_some, ifA_dec]
    simp only [subA] at ih
    by_cases h : x.ds.getD i 0 < y.ds.getD i 0 + (subA x.ds y.ds i).2
    · rw [if_pos h] at ih ⊢
      rw [pcall2 fzx (fz_int _ _), V133 hx (by omega), Option.map_some, Option.bind_some, s1, Option.bind_some, u_add (by omega), Option.bind_some, u_sub (by omega) (by omega), Option.bind_some, c_dn, Option.bind_some, build_u32, Option.bind_some, Nat.mod_eq_of_lt (by omega),
        app_row1 (by rw [hl]; simp only [roomA]; omega), Option.bind_some, i_add1 (by omega), Option.bind_some]
      exact ih
    · rw [if_neg h] at ih ⊢
      rw [pcall2 fzx (fz_int _ _), V133 hx (by omega), Option.map_some, Option.bind_some, s0, Option.bind_some, u_add (by omega), Option.bind_some, u_sub (by omega) (by omega), Option.bind_some, c_dn, Option.bind_some, build_u32, Option.bind_some, Nat.mod_eq_of_lt (by omega),
        app_row1 (by rw [hl]; simp only [roomA]; omega), Option.bind_some, i_add1 (by omega), Option.bind_some]
      exact ih
def subR (x y : NV) : AV := if x.v < y.v then .tup [nilN, .int .i64 1] else .tup [(refN (x.v - y.v)).av, .int .i64 0]
theorem V112 {x y : NV} (hx : NOk x) (hy : NOk y) (fx : x.fr = x) (fy : y.fr = y) : AP cfg 112 [x.av, y.av] = some (subR x y) := by
  have lx := hx.len
  have fzx := fz_nv x
  have fzy := fz_nv y
  rw [fx] at fzx
  rw [fy] at fzy
  unfold subR
  by_cases h : x.v < y.v
  · rw [if_pos h]
    refine AP_ofz _ _ (fz_tup2 fza_nil (fza_int _ _)) rfl (m := []) ?_
    rw [T112, pcall2 fzx fzy, V98 hx hy, Option.map_some, Option.bind_some, binA_lss, Option.bind_some, ifA_dec, cmpV, if_pos h, if_pos (by omega)]
  · rw [if_neg h]
    have hl := subA_length x.ds y.ds x.ds.length
    have hd := subA_dg hx.dg hy.dg x.ds.length
    refine AP_ofz _ _ (fz_tup2 (fza_ref (x.v - y.v)) (fza_int _ _)) rfl (m := rowM [] (subA x.ds y.ds x.ds.length).1) ?_
    have hc : ¬ cmpV x.v y.v < 0 := by unfold cmpV; rw [if_neg h]; split <;> omega
    rw [T112, pcall2 fzx fzy, V98 hx hy, Option.map_some, Option.bind_some, binA_lss, Option.bind_some, ifA_dec, if_neg hc]
    refine (W112 hx hy [] _ fx fy x.ds.length 0 (by omega)).trans ?_
    rw [K112_6_x0, pcall1 (fz_row _ _), P103 _ (by rw [rowN_ds]; exact hd) (by rw [rowN_ds, hl]; omega), rowN_v, subA_end hx.dg hy.dg (Nat.le_of_not_lt h)]
    rfl

/-! ### Mul -/
theorem W72b (x y : NV) (m : Mem) (K : Ex → St → Option (AV × Mem)) (i n : Nat) (s : List Nat × Nat) (hl : n < 2 ^ 42) (hn : s.1.length = n) (hi : i + y.ds.length ≤ n) (hix : i < x.ds.length) (dx : Dg x.ds) (dy : Dg y.ds) (hs : Dg s.1) (hc : s.2 < 4294967296) : ∀ j k : Nat, k + j = y.ds.length →
    L72_8 x.av y.av (.arr m.length 0 n none) (.int .i64 i) (.int .u64 (mulS y.ds (x.ds.getD i 0) i k s).2) (.int .i64 k) (m ++ [oc (mulS y.ds (x.ds.getD i 0) i k s).1]) K
      = K (.exit 2) (O72_8 x.av y.av (.arr m.length 0 n none) (.int .i64 i) (.int .u64 (mulS y.ds (x.ds.getD i 0) i y.ds.length s).2) (m ++ [oc (mulS y.ds (x.ds.getD i 0) i y.ds.length s).1])) := by
  intro j
  induction j with
  | zero =>
    intro k hk
    have : k = y.ds.length := by omega
    subst this
    rw [L72_8_eq, len_nv, Option.bind_some, n_lss, Option.bind_some, ifA_dec, if_neg (by omega)]
  | succ j ih =>
    intro k hk
    have ih := ih (k + 1) (by omega)
    have hx := dx i
    obtain ⟨h1, h2⟩ := mulS_bound (i := i) dy hx hs hc k
    have h3 := h1 (i + k)
    have h4 := dy k
    have h5 : x.ds.getD i 0 * y.ds.getD k 0 ≤ 4294967295 * 4294967295 := Nat.mul_le_mul (by omega) (by omega)
    have hlen := mulS_length y.ds (x.ds.getD i 0) i s k
    have hget : ∀ l, (m ++ [oc l])[m.length]? = some (oc l) := fun l => List.getElem?_concat_length ..
    have hset : ∀ l l', (m ++ [oc l]).set m.length (oc l') = m ++ [oc l'] := by
      intro l l'
      rw [List.set_append_right _ _ (Nat.le_refl _), Nat.sub_self, List.set_cons_zero]
    rw [L72_8_eq, len_nv, Option.bind_some, n_lss, Option.bind_some, ifA_dec, if_pos (by omega)]
    simp only [mulS] at ih
    generalize mulS y.ds (x.ds.getD i 0) i k s = t at *
    rw [index_nv hix, Option.bind_some, load_v, Option.bind_some, c_dg _ hx, Option.bind_some, index_nv (by omega), Option.bind_some, load_v, Option.bind_some, c_dg _ h4, Option.bind_some, u_mul (by omega), Option.bind_some, i_add (by omega), Option.bind_some, index_arr (by omega), Option.bind_some, load_at (hget _) (by omega), Option.bind_some, c_dg _ h3, Option.bind_some,
      u_add (by omega), Option.bind_some, u_add (by omega), Option.bind_some, Option.bind_some, u_remB (by omega), Option.bind_some, c_dn, Option.bind_some, mod_mod', index_arr (by omega), Option.bind_some, store_at (hget _) (by omega), hset, Option.bind_some, u_quoB (by omega), Option.bind_some, i_add1 (by omega), Option.bind_some]
    have e : t.2 + (t.1.getD (i + k) 0 + x.ds.getD i 0 * y.ds.getD k 0) = x.ds.getD i 0 * y.ds.getD k 0 + t.1.getD (i + k) 0 + t.2 := by omega
    rw [e] at ih
    exact ih
theorem W72 (x y : NV) (m : Mem) (K : Ex → St → Option (AV × Mem)) (hx : x.ds.length < 2 ^ 40) (hy : y.ds.length < 2 ^ 40) (dx : Dg x.ds) (dy : Dg y.ds) : ∀ j i : Nat, i + j = x.ds.length →
    L72_4 x.av y.av (.arr m.length 0 (x.ds.length + y.ds.length) none) (.int .i64 i) (m ++ [oc (mulO x.ds y.ds i)]) K
      = K (.exit 0) (O72_4 (.arr m.length 0 (x.ds.length + y.ds.length) none) (m ++ [oc (mulO x.ds y.ds x.ds.length)])) := by
  intro j
  induction j with
  | zero =>
    intro i hi
    have : i = x.ds.length := by omega
    subst this
    rw [L72_4_eq, len_nv, Option.bind_some, n_lss, Option.bind_some, ifA_dec, if_neg (by omega)]
  | succ j ih =>
    intro i hi
    have ih := ih (i + 1) (by omega)
    rw [L72_4_eq, len_nv, Option.bind_some, n_lss, Option.bind_some, ifA_dec, if_pos (by omega)]
    have hb := W72b x y m (K72_8 K) i (x.ds.length + y.ds.length) (mulO x.ds y.ds i, 0) (by omega) (mulO_length ..) (by omega) (by omega) dx dy (mulO_dg dx dy i) (by simp) y.ds.length 0 (by omega)
    refine Eq.trans ?_ (hb.trans ?_)
    · rfl
    obtain ⟨h1, h2⟩ := mulS_bound (i := i) (s := (mulO x.ds y.ds i, 0)) dy (dx i) (mulO_dg dx dy i) (by simp) y.ds.length
    have hl := mulS_length y.ds (x.ds.getD i 0) i (mulO x.ds y.ds i, 0) y.ds.length
    simp only [mulO_length] at hl
    have hget : ∀ l, (m ++ [oc l])[m.length]? = some (oc l) := fun l => List.getElem?_concat_length ..
    have hset : ∀ l l', (m ++ [oc l]).set m.length (oc l') = m ++ [oc l'] := by
      intro l l'
      rw [List.set_append_right _ _ (Nat.le_refl _), Nat.sub_self, List.set_cons_zero]
    rw [K72_8_x2, len_nv, Option.bind_some, i_add (by omega), Option.bind_some, c_dn, Option.bind_some, Nat.mod_eq_of_lt h2, index_arr (by omega), Option.bind_some, store_at (hget _) (by omega), hset, Option.bind_some, i_add1 (by omega), Option.bind_some]
    exact ih
theorem V72 {x y : NV} (hx : NOk x) (hy : NOk y) : AP cfg 72 [x.av, y.av] = some (refN (x.v * y.v)).av := by
  have lx := hx.v_len'
  have ly := hy.v_len'
  have hd := mulO_dg (dg_digs x.v) (dg_digs y.v) (digs x.v).length
  have hlen := mulO_length (digs x.v) (digs y.v) (digs x.v).length
  have hval := mulO_val (digs x.v) (digs y.v) (digs x.v).length (Nat.le_refl _)
  rw [vs_all (Nat.le_refl _), val_digs, val_digs] at hval
  refine AP_ofz _ _ (fz_ref _) (noV_nv _) (m := [none]) ?_
  rw [T72, pcall1 (fz_nv x), V103 hx.fr, Option.map_some, Option.bind_some, pcall1 (fz_nv y), V103 hy.fr, Option.map_some, Option.bind_some]
  rw [show x.fr.v = x.v from rfl, show y.fr.v = y.v from rfl, refN_len, Option.bind_some, refN_len, Option.bind_some, i_add (by omega), Option.bind_some, make_oc (by omega) (by omega), Option.bind_some]
  have hw := W72 (refN x.v) (refN y.v) [] (K72_4 (finK cfg.P f72.results.toList)) (by rw [refN_ds]; omega) (by rw [refN_ds]; omega) (by rw [refN_ds]; exact dg_digs _) (by rw [refN_ds]; exact dg_digs _) (digs x.v).length 0 (by rw [refN_ds]; omega)
  simp only [refN_ds] at hw
  refine Eq.trans ?_ (hw.trans ?_)
  · rfl
  have hp := pcall_at (cp := AP cfg) (g := 103) (m := [] ++ [oc (mulO (digs x.v) (digs y.v) (digs x.v).length)]) (nm := 0) (ds := mulO (digs x.v) (digs y.v) (digs x.v).length) rfl
  rw [hlen] at hp
  rw [K72_4_x0, show ([] : Mem).length = 0 from rfl, hp, P103 _ hd (by simp only [hlen]; omega)]
  simp only [NV.v] at hval ⊢
  rw [hval]
  rfl

/-! ### short, half, even -/
theorem W129 (x : NV) (d : Nat) (m : Mem) (K : Ex → St → Option (AV × Mem)) (hl : x.ds.length < 2 ^ 40) (dx : Dg x.ds) (hd : 0 < d) (hd' : d < 4294967296) : ∀ j k : Nat, k + j = x.ds.length →
    L129_4 x.av (.int .u64 d) (.arr m.length 0 x.ds.length none) (.int .u64 (shS x.ds d k).2) (.int .i64 ((j : Int) - 1)) (m ++ [oc (shS x.ds d k).1]) K
      = K (.exit 0) (O129_4 (.arr m.length 0 x.ds.length none) (.int .u64 (shS x.ds d x.ds.length).2) (m ++ [oc (shS x.ds d x.ds.length).1])) := by
  intro j
  induction j with
  | zero =>
    intro k hk
    have : k = x.ds.length := by omega
    subst this
    rw [L129_4_eq]
    simp [binA_geq, ifA]
  | succ j ih =>
    intro k hk
    have ih := ih (k + 1) (by omega)
    have hr := shS_rest (a := x.ds) hd k
    have hq := shS_quo (a := x.ds) dx hd k j
    have hlen := shS_length x.ds d k
    have hj := dx j
    have ej : x.ds.length - 1 - k = j := by omega
    have mB : ∀ a : Nat, a < 4294967296 → binA .other .mul (.int .u64 a) (.int .u64 4294967296) = some (.int .u64 (a * 4294967296 : Nat)) := fun a h => u_mul (b := 4294967296) (by omega)
    have hset : ∀ l l', (m ++ [oc l]).set m.length (oc l') = m ++ [oc l'] := by
      intro l l'
      rw [List.set_append_right _ _ (Nat.le_refl _), Nat.sub_self, List.set_cons_zero]
    rw [L129_4_eq, show ((j + 1 : Nat) : Int) - 1 = (j : Nat) by omega, n_geq0, Option.bind_some, ifA_true]
    simp only [shS, ej] at ih
    generalize shS x.ds d k = t at *
    rw [mB _ (by omega), Option.bind_some, index_nv (by omega), Option.bind_some, load_v, Option.bind_some, c_dg _ hj, Option.bind_some, u_add (by omega), Option.bind_some, u_quo (by omega) (by omega), Option.bind_some, c_dn, Option.bind_some, index_arr (by omega), Option.bind_some, Nat.mod_eq_of_lt hq, store_at (List.getElem?_concat_length ..) (by omega), hset, Option.bind_some, u_rem (by omega) (by omega), Option.bind_some, i_sub1z (by omega), Option.bind_some]
    exact ih
theorem V129 {x : NV} {d : Nat} (hx : NOk x) (hd : 0 < d) (hd' : d < 4294967296) : AP cfg 129 [x.av, .int .u64 d] = some (.tup [(refN (x.v / d)).av, .int .u64 (x.v % d : Nat)]) := by
  have lx := hx.len
  obtain ⟨k1, k2⟩ := short_eq hx.dg hd
  refine AP_ofz _ _ (fz_tup2 (fza_ref (x.v / d)) (fza_int _ _)) rfl (m := [none]) ?_
  rw [T129, len_nv, Option.bind_some, make_oc (by omega) (by omega), Option.bind_some, Option.bind_some, i_sub1z (by omega), Option.bind_some]
  have := W129 x d [] (K129_4 (finK cfg.P f129.results.toList)) lx hx.dg hd hd' x.ds.length 0 (by omega)
  refine this.trans ?_
  have hp := pcall_at (cp := AP cfg) (g := 103) (m := [] ++ [oc (shS x.ds d x.ds.length).1]) (nm := 0) (ds := (shS x.ds d x.ds.length).1) rfl
  rw [shS_length] at hp
  rw [shortL, tr_eq (shS_dg hx.dg hd _)] at k1
  rw [K129_4_x0, show ([] : Mem).length = 0 from rfl, hp, P103 _ (shS_dg hx.dg hd _) (by simp only [shS_length]; omega), k2]
  simp only [Option.map_some, Option.bind_some, NV.v]
  rw [digs_inj k1]
  rfl
theorem V128 {x : NV} (hx : NOk x) : AP cfg 128 [x.av] = some (refN (x.v / 2)).av := by
  refine AP_ofz _ _ (fz_ref _) (noV_nv _) (m := []) ?_
  have h := V129 (d := 2) (refN_ok hx.v_len') (by omega) (by omega)
  rw [refN_v] at h
  rw [T128, pcall1 (fz_nv x), V103 hx.fr, Option.map_some, Option.bind_some, show x.fr.v = x.v from rfl, pcall2 (fz_ref _) (fz_int _ _)]
  simp only []
  rw [show AV.int .u64 2 = .int .u64 ((2 : Nat) : Int) from rfl, h]
  rfl
theorem getD0_mod (ds : List Nat) : ds.getD 0 0 % 2 = val ds % 2 := by
  cases ds with
  | nil => rfl
  | cons d ds => rw [List.getD_cons_zero, val]; omega
theorem V127 {x : NV} (hx : NOk x) : AP cfg 127 [x.av] = some (.bool (decide (x.v % 2 = 0))) := by
  have h0 := hx.dg 0
  have h := V133 (i := 0) hx.fr (by omega)
  refine AP_of (m := []) ?_ (fz_bool _ _) (by simp [noV])
  rw [T127, pcall2 (fz_nv x) (fz_int _ _), show AV.int .i64 0 = .int .i64 ((0 : Nat) : Int) from rfl, h, Option.map_some, Option.bind_some]
  simp only [NV.fr]
  rw [show AV.int .u64 2 = .int .u64 ((2 : Nat) : Int) from rfl, u_rem (by omega) (by omega), Option.bind_some, n_eql0, Option.bind_some, getD0_mod]
  rfl
end Go.Ab
