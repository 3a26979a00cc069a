/- The reference's division and greatest common divisor, in values. -/
import Derived.Test.YtlapgjmmlbnehaaAYtSr3
set_option linter.unusedVariables false
set_option linter.unusedSimpArgs false
set_option maxRecDepth 100000
namespace Go.Ab
open Go.Proofs.Try

/-! ### Div -/
theorem digs_pow_len {b s d : Nat} (hd : d < 4294967296) : (digs (4294967296 ^ s * (b * d))).length ≤ s + ((digs b).length + 1) := by
  refine digs_length_le ?_
  rw [Nat.pow_add]
  refine Nat.mul_lt_mul_of_pos_left ?_ (Nat.pow_pos (by omega))
  have h := val_lt (dg_digs b)
  rw [val_digs] at h
  rw [Nat.pow_succ]
  exact Nat.mul_lt_mul'' h hd
theorem W102_14 {a b i q : Nat} (K : Ex → St → Option (AV × Mem)) (x9 : AV) (m : Mem) (la : (digs a).length < 2 ^ 40) (lb : (digs b).length < 2 ^ 40) (hi : i < 2 ^ 39) (lb2 : (digs b).length + i + 1 < 2 ^ 40) (hq : q = a / (b * 4294967296 ^ i)) (hb : 0 < b) : ∀ (r lo hi' : Nat), hi' - lo ≤ r → lo ≤ q → q ≤ hi' → hi' < 4294967296 →
    L102_14 (refN a).av (refN b).av x9 (.int .i64 i) (.int .u64 lo) (.int .u64 hi') m K = K (.exit 2) (O102_14 (refN a).av (refN b).av x9 (.int .i64 i) (.int .u64 q) m) := by
  have hpi : 0 < 4294967296 ^ i := Nat.pow_pos (by omega)
  have hbp : 0 < b * 4294967296 ^ i := Nat.mul_pos hb hpi
  intro r
  induction r with
  | zero =>
    intro lo hi' hr h1 h2 h3
    have : lo = q := by omega
    subst this
    rw [L102_14_eq, n_lss, Option.bind_some, ifA_dec, if_neg (by omega)]
  | succ r ih =>
    intro lo hi' hr h1 h2 h3
    rw [L102_14_eq, n_lss, Option.bind_some, ifA_dec]
    by_cases hlt : lo < hi'
    · have u1 : ∀ a : Nat, a < 4294967296 → binA .other .add (.int .u64 a) (.int .u64 1) = some (.int .u64 (a + 1 : Nat)) := fun a h => u_add (b := 1) (by omega)
      have u2 : ∀ a : Nat, a < 4294967298 → binA .other .quo (.int .u64 a) (.int .u64 2) = some (.int .u64 (a / 2 : Nat)) := fun a h => u_quo (b := 2) (by omega) (by omega)
      rw [if_pos hlt, u_sub (by omega) (by omega), Option.bind_some, u1 _ (by omega), Option.bind_some, u2 _ (by omega), Option.bind_some, u_add (by omega), Option.bind_some]
      generalize hmid : lo + (hi' - lo + 1) / 2 = mid
      have hm1 : lo < mid := by omega
      have hm2 : mid ≤ hi' := by omega
      have hpl := digs_pow_len (b := b) (s := i) (d := mid) (by omega)
      rw [pcall3 (fz_ref b) (fz_int _ _) (fz_int _ _), V131 (refN_ok lb) (by omega) (by omega), Option.map_some, Option.bind_some, refN_v, pcall2 (fz_ref _) (fz_ref a), V98 (refN_ok (by omega)) (refN_ok la), Option.map_some, Option.bind_some, binA_leq, Option.bind_some, ifA_dec, refN_v, refN_v]
      have hcmp : cmpV (4294967296 ^ i * (b * mid)) a ≤ 0 ↔ mid ≤ q := by
        rw [hq, Nat.le_div_iff_mul_le hbp]
        have e : mid * (b * 4294967296 ^ i) = 4294967296 ^ i * (b * mid) := by rw [Nat.mul_comm, Nat.mul_comm b, Nat.mul_assoc]
        rw [e]
        unfold cmpV
        constructor
        · intro h
          apply Nat.le_of_not_lt
          intro hc
          rw [if_neg (by omega), if_pos hc] at h
          omega
        · intro h
          split
          · omega
          · rw [if_neg (by omega)]; omega
      by_cases hc : mid ≤ q
      · rw [if_pos (hcmp.2 hc)]
        exact ih mid hi' (by omega) hc h2 h3
      · rw [if_neg (fun h => hc (hcmp.1 h)), u_sub1 (by omega) (by omega), Option.bind_some]
        exact ih lo (mid - 1) (by omega) h1 (by omega) (by omega)
    · have : lo = q := by omega
      subst this
      rw [if_neg hlt]
structure DInv (a0 b la j : Nat) (a : Nat) (q : List Nat) : Prop where
  dq : Dg q
  lq : q.length = la
  lt : a < b * 4294967296 ^ j
  eq : wn q j (la - j) * (b * 4294967296 ^ j) + a = a0
theorem DInv.step {a0 b la j a : Nat} {q : List Nat} (hb : 0 < b) (hj : j < la) (h : DInv a0 b la (j + 1) a q) :
    a / (b * 4294967296 ^ j) < 4294967296 ∧ DInv a0 b la j (a % (b * 4294967296 ^ j)) (q.set j (a / (b * 4294967296 ^ j))) := by
  have hp : 0 < b * 4294967296 ^ j := Nat.mul_pos hb (Nat.pow_pos (by omega))
  have e0 : b * 4294967296 ^ (j + 1) = 4294967296 * (b * 4294967296 ^ j) := by rw [Nat.pow_succ, ← Nat.mul_assoc, Nat.mul_comm]
  have hlt := h.lt
  have heq := h.eq
  rw [e0] at hlt heq
  have hq : a / (b * 4294967296 ^ j) < 4294967296 := by rw [Nat.div_lt_iff_lt_mul hp]; exact hlt
  refine ⟨hq, h.dq.set _ _ hq, by rw [List.length_set, h.lq], Nat.mod_lt _ hp, ?_⟩
  obtain ⟨r, hr⟩ : ∃ r, la - j = r + 1 := ⟨la - j - 1, by omega⟩
  rw [hr, wn_first, getD_set_eq (by rw [h.lq]; exact hj), wn_set_out (by omega), ← heq, show la - (j + 1) = r by omega]
  have h2 := Nat.div_add_mod a (b * 4294967296 ^ j)
  generalize b * 4294967296 ^ j = p at *
  rw [Nat.add_mul, Nat.mul_comm (a / p), Nat.mul_comm 4294967296, Nat.mul_assoc]
  omega
theorem W102_11 {a0 b la : Nat} (K : Ex → St → Option (AV × Mem)) (hb : 0 < b) (lla : la < 2 ^ 39) (l0 : (digs a0).length < 2 ^ 39) (lb : (digs b).length < 2 ^ 39) : ∀ (j a : Nat) (q : List Nat), j ≤ la → a ≤ a0 → DInv a0 b la j a q →
    ∃ a' q', DInv a0 b la 0 a' q' ∧ L102_11 (refN a).av (refN b).av (.arr 0 0 la none) (.int .i64 ((j : Int) - 1)) [oc q] K = K (.exit 0) (O102_11 (refN a').av (.arr 0 0 la none) [oc q']) := by
  intro j
  induction j with
  | zero =>
    intro a q _ _ hI
    refine ⟨a, q, hI, ?_⟩
    rw [L102_11_eq]
    simp [binA_geq, ifA]
  | succ j ih =>
    intro a q hj ha hI
    obtain ⟨hq, hI'⟩ := hI.step hb (by omega)
    have la' : (digs a).length < 2 ^ 39 := Nat.lt_of_le_of_lt (digs_mono ha) l0
    have hlq := hI.lq
    obtain ⟨a', q', i1, i2⟩ := ih _ _ (by omega) (Nat.le_trans (Nat.mod_le _ _) ha) hI'
    refine ⟨a', q', i1, ?_⟩
    have hbne : b ≠ 0 := by omega
    have hl0 : (digs b).length ≠ 0 := fun e => hbne (digs_len0.1 e)
    obtain ⟨lo, hi', g1, g2, g3, g4⟩ := V130 (i := j) (n := (digs b).length) (refN_ok (n := a) (by omega)) (refN_ok (n := b) (by omega)) (by omega) (by rw [refN_ds]) (by omega) (by rw [refN_ds]; exact digs_last hbne) (by rw [refN_v, refN_v]; exact hq)
    rw [refN_v, refN_v] at g2 g3
    rw [L102_11_eq, show ((j + 1 : Nat) : Int) - 1 = (j : Nat) by omega, n_geq0, Option.bind_some, ifA_true, pcall3 (fz_ref a) (fz_ref b) (fz_int _ _), g1, Option.map_some, Option.bind_some]
    simp only [extractA]
    rw [show ([AV.int .u64 lo, AV.int .u64 hi'] : List AV)[0]? = some (.int .u64 lo) from rfl, show ([AV.int .u64 lo, AV.int .u64 hi'] : List AV)[1]? = some (.int .u64 hi') from rfl, Option.bind_some, Option.bind_some,
      W102_14 (K102_14 K) _ _ (by omega) (by omega) (by omega) (by omega) rfl hb (hi' - lo) lo hi' (Nat.le_refl _) g2 g3 g4]
    have hpl := digs_pow_len (b := b) (s := j) (d := a / (b * 4294967296 ^ j)) hq
    have he : 4294967296 ^ j * (b * (a / (b * 4294967296 ^ j))) = b * 4294967296 ^ j * (a / (b * 4294967296 ^ j)) := by rw [← Nat.mul_assoc, Nat.mul_comm b]
    have hsub : a - 4294967296 ^ j * (b * (a / (b * 4294967296 ^ j))) = a % (b * 4294967296 ^ j) := by
      rw [he]
      have := Nat.div_add_mod a (b * 4294967296 ^ j)
      omega
    have hle : ¬ a < 4294967296 ^ j * (b * (a / (b * 4294967296 ^ j))) := by
      rw [he]
      have := Nat.div_add_mod a (b * 4294967296 ^ j)
      omega
    rw [K102_14_x2, c_dn, Option.bind_some, Nat.mod_eq_of_lt hq, index_arr (by omega), Option.bind_some, store_at (m := [oc q]) (n := 0) (ds := q) rfl (by omega), Option.bind_some, pcall3 (fz_ref b) (fz_int _ _) (fz_int _ _), V131 (refN_ok (n := b) (by omega)) hq (by omega), Option.map_some, Option.bind_some, refN_v,
      pcall2 (fz_ref a) (fz_ref (4294967296 ^ j * (b * (a / (b * 4294967296 ^ j))))), V112 (refN_ok (n := a) (by omega)) (refN_ok (n := 4294967296 ^ j * (b * (a / (b * 4294967296 ^ j)))) (by omega)) (refN_fr a) (refN_fr (4294967296 ^ j * (b * (a / (b * 4294967296 ^ j))))), Option.map_some, Option.bind_some]
    unfold subR
    rw [refN_v, refN_v, if_neg hle, hsub]
    simp only [extractA]
    rw [show ([(refN (a % (b * 4294967296 ^ j))).av, AV.int .i64 0] : List AV)[0]? = some (refN (a % (b * 4294967296 ^ j))).av from rfl, show ([(refN (a % (b * 4294967296 ^ j))).av, AV.int .i64 0] : List AV)[1]? = some (.int .i64 0) from rfl, Option.bind_some, Option.bind_some, i_sub1z (by omega), Option.bind_some]
    exact i2
def divR2 (x y : NV) : AV := if y.v = 0 then .tup [nilN, nilN, .int .i64 31] else .tup [(refN (x.v / y.v)).av, (refN (x.v % y.v)).av, .int .i64 0]
theorem refN_zero : (refN 0).av = .lst none true .full [] := by rw [refN, digs_zero]; rfl
theorem V102 {x y : NV} (hx : NOk x) (hy : NOk y) (lx : (digs x.v).length < 2 ^ 39) (ly : (digs y.v).length < 2 ^ 39) : AP cfg 102 [x.av, y.av] = some (divR2 x y) := by
  have e1 := V103 hx.fr
  have e2 := V103 hy.fr
  rw [show x.fr.v = x.v from rfl] at e1
  rw [show y.fr.v = y.v from rfl] at e2
  have hX := refN_ok (n := x.v) (by omega)
  have hY := refN_ok (n := y.v) (by omega)
  unfold divR2
  by_cases h0 : y.v = 0
  · rw [if_pos h0]
    refine AP_ofz _ _ (fz_tup3 fza_nil fza_nil (fza_int _ _)) rfl (m := []) ?_
    rw [T102, pcall1 (fz_nv x), e1, Option.map_some, Option.bind_some, pcall1 (fz_nv y), e2, Option.map_some, Option.bind_some, refN_len, Option.bind_some, n_eql0, Option.bind_some, ifA_dec, if_pos (digs_len0.2 h0)]
  · rw [if_neg h0]
    have hn0 : ¬ (digs y.v).length = 0 := fun e => h0 (digs_len0.1 e)
    by_cases h2 : y.v < 4294967296
    · have hn1 : (digs y.v).length = 1 := digs_len1.2 ⟨h0, h2⟩
      have hdig : (digs y.v).getD 0 0 = y.v := by
        rw [digs_pos h0, List.getD_cons_zero, Nat.mod_eq_of_lt h2]
      have hlt : x.v % y.v < y.v := Nat.mod_lt _ (by omega)
      refine AP_ofz _ _ (fz_tup3 (fza_ref (x.v / y.v)) (fza_ref (x.v % y.v)) (fza_int _ _)) rfl (m := []) ?_
      have e4 := V129 (d := y.v) hX (by omega) h2
      rw [refN_v] at e4
      rw [T102, pcall1 (fz_nv x), e1, Option.map_some, Option.bind_some, pcall1 (fz_nv y), e2, Option.map_some, Option.bind_some, refN_len, Option.bind_some, n_eql0, Option.bind_some, ifA_dec, if_neg hn0, Option.bind_some, n_eql1, Option.bind_some, ifA_dec, if_pos hn1,
        index_nv0 (by rw [refN_ds, hn1]; omega), Option.bind_some, load_v, Option.bind_some, refN_ds, hdig, c_dg _ h2, Option.bind_some, pcall2 (fz_ref _) (fz_int _ _), e4, Option.map_some, Option.bind_some]
      simp only [extractA]
      rw [show ([(refN (x.v / y.v)).av, AV.int .u64 (x.v % y.v : Nat)] : List AV)[0]? = some (refN (x.v / y.v)).av from rfl, show ([(refN (x.v / y.v)).av, AV.int .u64 (x.v % y.v : Nat)] : List AV)[1]? = some (AV.int .u64 (x.v % y.v : Nat)) from rfl, Option.bind_some, Option.bind_some,
        pcall1 (fz_int _ _), V70 (by omega), Option.map_some, Option.bind_some]
    · have hn1 : ¬ (digs y.v).length = 1 := fun e => h2 (digs_len1.1 e).2
      by_cases h3 : (digs x.v).length < (digs y.v).length
      · have hlt : x.v < y.v := by
          apply Nat.lt_of_not_le
          intro h
          have := digs_mono h
          omega
        rw [Nat.div_eq_of_lt hlt, Nat.mod_eq_of_lt hlt]
        refine AP_ofz _ _ (fz_tup3 (fza_ref 0) (fza_ref x.v) (fza_int _ _)) rfl (m := []) ?_
        rw [T102, pcall1 (fz_nv x), e1, Option.map_some, Option.bind_some, pcall1 (fz_nv y), e2, Option.map_some, Option.bind_some, refN_len, Option.bind_some, n_eql0, Option.bind_some, ifA_dec, if_neg hn0, Option.bind_some, n_eql1, Option.bind_some, ifA_dec, if_neg hn1,
          refN_len, Option.bind_some, Option.bind_some, n_lss, Option.bind_some, ifA_dec, if_pos h3, refN_zero]
      · have hb : 0 < y.v := Nat.pos_of_ne_zero h0
        have hI : DInv x.v y.v (digs x.v).length ((digs x.v).length - (digs y.v).length + 1) x.v (List.replicate (digs x.v).length 0) := by
          refine ⟨dg_rep _, List.length_replicate, ?_, ?_⟩
          · have h4 := val_lt (dg_digs x.v)
            rw [val_digs] at h4
            have h5 := digs_length_pos (n := y.v) (k := (digs y.v).length - 1) (by omega)
            refine Nat.lt_of_lt_of_le h4 ?_
            refine Nat.le_trans ?_ (Nat.mul_le_mul_right _ h5)
            rw [← Nat.pow_add]
            exact Nat.pow_le_pow_right (by omega) (by omega)
          · rw [wn_zero _ (fun k _ => getD_rep _ _), Nat.zero_mul, Nat.zero_add]
        obtain ⟨a', q', i1, i2⟩ := W102_11 (K102_11 (finK cfg.P f102.results.toList)) hb lx lx ly _ _ _ (by omega) (Nat.le_refl _) hI
        have heq := i1.eq
        have hlt := i1.lt
        have hlq := i1.lq
        rw [Nat.pow_zero, Nat.mul_one] at heq hlt
        rw [Nat.sub_zero, wn_vs, vs_all (by omega)] at heq
        obtain ⟨k1, k2⟩ := div_of heq.symm hlt
        refine AP_ofz _ _ (fz_tup3 (fza_ref (x.v / y.v)) (fza_ref (x.v % y.v)) (fza_int _ _)) rfl (m := [none]) ?_
        have hp := pcall_at (cp := AP cfg) (g := 103) (m := [oc q']) (nm := 0) (ds := q') rfl
        rw [hlq] at hp
        rw [T102, pcall1 (fz_nv x), e1, Option.map_some, Option.bind_some, pcall1 (fz_nv y), e2, Option.map_some, Option.bind_some, refN_len, Option.bind_some, n_eql0, Option.bind_some, ifA_dec, if_neg hn0, Option.bind_some, n_eql1, Option.bind_some, ifA_dec, if_neg hn1,
          refN_len, Option.bind_some, Option.bind_some, n_lss, Option.bind_some, ifA_dec, if_neg h3, Option.bind_some, make_oc (by omega) (by omega), Option.bind_some, Option.bind_some, Option.bind_some, i_sub (by omega) (by omega), Option.bind_some]
        rw [show (((digs x.v).length - (digs y.v).length + 1 : Nat) : Int) - 1 = (((digs x.v).length - (digs y.v).length : Nat) : Int) by omega] at i2
        refine Eq.trans ?_ (i2.trans ?_)
        · rfl
        rw [K102_11_x0, hp, P103 _ i1.dq (by simp only [hlq]; omega), Option.map_some, Option.bind_some]
        simp only [NV.v] at k1 k2 ⊢
        rw [k1, k2]
        rfl
end Go.Ab
