/- Division and the greatest common divisor of nat, in values. -/
import Derived.Test.YtlapgjmmlbnehaaAYtSn3
set_option linter.unusedVariables false
set_option linter.unusedSimpArgs false
namespace Go.Ab
open Go.Proofs.Try

def divQ (x y : NV) : NV := if x.v < y.v then ⟨true, .full, []⟩ else ⟨false, .no, digs (x.v / y.v)⟩
def divR (x y : NV) : NV := if x.v < y.v then ⟨x.z, ownD x.v, digs x.v⟩ else if y.v < 4294967296 then ⟨false, ownD (x.v % y.v), digs (x.v % y.v)⟩ else ⟨false, .no, digs (x.v % y.v)⟩
theorem divR_ds (x y : NV) : (divR x y).ds = digs (x.v % y.v) := by
  unfold divR
  split
  · rename_i h; rw [Nat.mod_eq_of_lt h]
  · split <;> rfl
theorem digs_mono {a b : Nat} (h : a ≤ b) : (digs a).length ≤ (digs b).length := by
  have := val_lt (dg_digs b)
  rw [val_digs] at this
  exact digs_length_le (Nat.lt_of_le_of_lt h this)
theorem NOk.v_len {x : NV} (h : NOk x) : (digs x.v).length ≤ x.ds.length := digs_length_val h.dg
theorem NOk.v_len' {x : NV} (h : NOk x) : (digs x.v).length < 2 ^ 40 := Nat.lt_of_le_of_lt h.v_len h.len
theorem NOk.z_v {x : NV} (h : NOk x) : x.z = true → digs x.v = [] := by
  intro hz
  rw [NV.v, h.nil hz]
  exact digs_zero
theorem divR_ok {x y : NV} (hx : NOk x) : NOk (divR x y) := by
  refine ⟨by rw [divR_ds]; exact dg_digs _, ?_, ?_⟩
  · rw [divR_ds]
    exact Nat.lt_of_le_of_lt (digs_mono (Nat.mod_le _ _)) hx.v_len'
  · unfold divR
    split
    · exact hx.z_v
    · split <;> (intro h; cases h)
theorem ownD_fr (n : Nat) : (ownD n).fr = ownD n := by unfold ownD; split <;> rfl
theorem divQ_fr (x y : NV) : (divQ x y).fr = divQ x y := by unfold divQ; split <;> rfl
theorem divR_fr (x y : NV) : (divR x y).fr = divR x y := by
  unfold divR
  split
  · simp only [NV.fr, ownD_fr]
  · split
    · simp only [NV.fr, ownD_fr]
    · rfl
theorem divR_v (x y : NV) : (divR x y).v = x.v % y.v := by rw [NV.v, divR_ds, val_digs]
def divV (x y : NV) : AV := if y.v = 0 then .tup [nilN, nilN, .int .i64 31] else .tup [(divQ x y).av, (divR x y).av, .int .i64 0]
theorem digs_len0 {n : Nat} : (digs n).length = 0 ↔ n = 0 := by rw [List.length_eq_zero_iff]; exact val_pos_digs
theorem digs_len1 {n : Nat} : (digs n).length = 1 ↔ n ≠ 0 ∧ n < 4294967296 := by
  constructor
  · intro h
    have h1 := val_lt (dg_digs n)
    rw [val_digs, h] at h1
    exact ⟨fun e => by rw [e, digs_zero] at h; simp at h, by simpa using h1⟩
  · intro ⟨h, h'⟩
    have h1 := digs_length_le (k := 1) (n := n) (by simpa using h')
    have h2 : (digs n).length ≠ 0 := fun e => h (digs_len0.1 e)
    omega
theorem digs_last {n : Nat} (h : n ≠ 0) : (digs n).getD ((digs n).length - 1) 0 ≠ 0 := by
  intro e
  have h1 : canB (digs n) = true := by rw [canB, val_digs]; exact decide_eq_true rfl
  rw [← rightL_eq (dg_digs n), rightL] at h1
  have h2 : ¬ (digs n).length = 0 := fun e => h (digs_len0.1 e)
  rw [e] at h1
  simp [h2] at h1
theorem lz_shift {t : Nat} (h : 0 < t) (h' : t < 4294967296) : lz t < 32 ∧ 2147483648 ≤ t * 2 ^ lz t ∧ t * 2 ^ lz t < 4294967296 := by
  have hl : Nat.log2 t < 32 := (Nat.log2_lt (by omega)).2 h'
  have h1 := Nat.log2_self_le (n := t) (by omega)
  have h2 := Nat.lt_log2_self (n := t)
  unfold lz
  generalize Nat.log2 t = k at *
  have e : 2 ^ k * 2 ^ (31 - k) = 2147483648 := by rw [← Nat.pow_add, show k + (31 - k) = 31 by omega]
  have e2 : 2 ^ (k + 1) * 2 ^ (31 - k) = 4294967296 := by rw [← Nat.pow_add, show k + 1 + (31 - k) = 32 by omega]
  refine ⟨by omega, ?_, ?_⟩
  · rw [← e]; exact Nat.mul_le_mul_right _ h1
  · rw [← e2]; exact Nat.mul_lt_mul_of_pos_right h2 (Nat.two_pow_pos _)
/-- The divisor, shifted: as many digits, the last of them great. -/
theorem shifted_div {b : Nat} {n : Nat} (hn : (digs b).length = n) (hn2 : 1 ≤ n) (hs : lz ((digs b).getD (n - 1) 0) < 32) :
    (digs (2 ^ lz ((digs b).getD (n - 1) 0) * b)).length = n ∧ 2147483648 ≤ (digs (2 ^ lz ((digs b).getD (n - 1) 0) * b)).getD (n - 1) 0 := by
  have hb : b ≠ 0 := by intro e; rw [e, digs_zero] at hn; simp at hn; omega
  have hlast := digs_last hb
  rw [hn] at hlast
  have hd := dg_digs b (n - 1)
  obtain ⟨s1, s2, s3⟩ := lz_shift (Nat.pos_of_ne_zero hlast) hd
  obtain ⟨k, rfl⟩ : ∃ k, n = k + 1 := ⟨n - 1, by omega⟩
  rw [Nat.add_sub_cancel] at *
  have hv : b = vs (digs b) k + 4294967296 ^ k * (digs b).getD k 0 := by rw [← vs_succ, vs_all (Nat.le_of_eq hn), val_digs]
  have hlo := vs_lt (dg_digs b) k
  generalize (digs b).getD k 0 = t at *
  generalize vs (digs b) k = l at *
  generalize lz t = s at *
  have hp := Nat.two_pow_pos s
  have hlt : 2 ^ s * b < 4294967296 ^ (k + 1) := by
    have h1 : b < 4294967296 ^ k * (t + 1) := by rw [Nat.mul_add]; omega
    have h4 : (t + 1) * 2 ^ s ≤ 4294967296 := by
      have hpw : 2 ^ s * 2 ^ (32 - s) = 4294967296 := pow_split s1
      rw [← hpw, Nat.mul_comm] at s3 ⊢
      have := Nat.lt_of_mul_lt_mul_left s3
      exact Nat.mul_le_mul_left _ this
    have h2 : 2 ^ s * b < 2 ^ s * (4294967296 ^ k * (t + 1)) := Nat.mul_lt_mul_of_pos_left h1 hp
    have h3 : 2 ^ s * (4294967296 ^ k * (t + 1)) = 4294967296 ^ k * ((t + 1) * 2 ^ s) := by rw [Nat.mul_left_comm, Nat.mul_comm (2 ^ s)]
    have h5 : 4294967296 ^ k * ((t + 1) * 2 ^ s) ≤ 4294967296 ^ k * 4294967296 := Nat.mul_le_mul_left _ h4
    rw [Nat.pow_succ]
    omega
  have hge : 4294967296 ^ k * (t * 2 ^ s) ≤ 2 ^ s * b := by
    rw [Nat.mul_comm t, Nat.mul_left_comm]
    exact Nat.mul_le_mul_left _ (by omega)
  have hlen1 := digs_length_le hlt
  have hlen2 : k < (digs (2 ^ s * b)).length := by
    apply Classical.byContradiction
    intro hc
    have h1 := val_lt (dg_digs (2 ^ s * b))
    rw [val_digs] at h1
    have h2 : 4294967296 ^ (digs (2 ^ s * b)).length ≤ 4294967296 ^ k := Nat.pow_le_pow_right (by omega) (by omega)
    have h3 : 4294967296 ^ k * 1 ≤ 4294967296 ^ k * (t * 2 ^ s) := Nat.mul_le_mul_left _ (by omega)
    omega
  refine ⟨by omega, ?_⟩
  have hv2 : 2 ^ s * b = vs (digs (2 ^ s * b)) k + 4294967296 ^ k * (digs (2 ^ s * b)).getD k 0 := by rw [← vs_succ, vs_all (by omega), val_digs]
  have hlo2 := vs_lt (dg_digs (2 ^ s * b)) k
  generalize (digs (2 ^ s * b)).getD k 0 = y at *
  generalize vs (digs (2 ^ s * b)) k = l2 at *
  apply Classical.byContradiction
  intro hc
  have h1 : 4294967296 ^ k * (y + 1) ≤ 4294967296 ^ k * (t * 2 ^ s) := Nat.mul_le_mul_left _ (by omega)
  rw [Nat.mul_add] at h1
  omega

theorem kinv_start {v u0 : List Nat} {n m : Nat} (du : Dg u0) (hu : u0.length = m + n) (hlt : wn u0 m n < val v) : KInv v u0 n m m u0 (List.replicate m 0) where
  du := du
  lu := hu
  dq := dg_rep m
  lq := List.length_replicate
  hi := by
    intro k hk
    exact getD_out (by omega)
  lo := fun _ _ => rfl
  lt := hlt
  eq := by rw [Nat.sub_self, wn, Nat.zero_mul, Nat.zero_add, Nat.add_sub_cancel_left]
theorem top_lt {u v : List Nat} {n m : Nat} (hu : Dg u) (hn : v.length = n) (hn2 : 1 ≤ n) (h : u.getD (m + n - 1) 0 < v.getD (n - 1) 0) : wn u m n < val v := by
  obtain ⟨k, rfl⟩ : ∃ k, n = k + 1 := ⟨n - 1, by omega⟩
  rw [Nat.add_sub_cancel, show m + (k + 1) - 1 = m + k by omega] at h
  have h1 := wn_lt hu m k
  have h2 : 4294967296 ^ k * (u.getD (m + k) 0 + 1) ≤ 4294967296 ^ k * v.getD k 0 := Nat.mul_le_mul_left _ h
  rw [wn, ← vs_all (Nat.le_of_eq hn), vs_succ]
  rw [Nat.mul_add] at h2
  omega
theorem V125 {x y : NV} (hx : NOk x) (hy : NOk y) : AP cfg 125 [x.av, y.av] = some (divV x y) := by
  have lx := hx.v_len'
  have ly := hy.v_len'
  have hX : NOk ⟨x.z, .no, digs x.v⟩ := ⟨dg_digs _, lx, hx.z_v⟩
  have hY : NOk ⟨y.z, .no, digs y.v⟩ := ⟨dg_digs _, ly, hy.z_v⟩
  have e1 := V124 hx.fr
  have e2 := V124 hy.fr
  rw [show x.fr.v = x.v from rfl, show x.fr.z = x.z from rfl] at e1
  rw [show y.fr.v = y.v from rfl, show y.fr.z = y.z from rfl] at e2
  have e3 := V109 hX hY
  have vX : (NV.mk x.z .no (digs x.v)).v = x.v := val_digs _
  have vY : (NV.mk y.z .no (digs y.v)).v = y.v := val_digs _
  rw [vX, vY] at e3
  have fX := fz_nv ⟨x.z, .no, digs x.v⟩
  have fY := fz_nv ⟨y.z, .no, digs y.v⟩
  rw [show (NV.mk x.z .no (digs x.v)).fr = ⟨x.z, .no, digs x.v⟩ from rfl] at fX
  rw [show (NV.mk y.z .no (digs y.v)).fr = ⟨y.z, .no, digs y.v⟩ from rfl] at fY
  unfold divV
  by_cases h0 : y.v = 0
  · rw [if_pos h0]
    refine AP_ofz _ _ (fz_tup3 fza_nil fza_nil (fza_int _ _)) rfl (m := []) ?_
    rw [T125, pcall1 (fz_nv x), e1, Option.map_some, Option.bind_some, pcall1 (fz_nv y), e2, Option.map_some, Option.bind_some, len_nv, Option.bind_some, n_eql0, Option.bind_some, ifA_dec, if_pos (digs_len0.2 h0)]
  · rw [if_neg h0]
    have hn0 : ¬ (digs y.v).length = 0 := fun e => h0 (digs_len0.1 e)
    by_cases h1 : x.v < y.v
    · have hc : cmpV x.v y.v < 0 := by unfold cmpV; rw [if_pos h1]; omega
      refine AP_ofz _ _ (fz_tup3 (fza_nv (divQ x y)) (fza_nv (divR x y)) (fza_int _ _)) rfl (m := []) ?_ |>.trans (by rw [divQ_fr, divR_fr])
      rw [T125, pcall1 (fz_nv x), e1, Option.map_some, Option.bind_some, pcall1 (fz_nv y), e2, Option.map_some, Option.bind_some, len_nv, Option.bind_some, n_eql0, Option.bind_some, ifA_dec, if_neg hn0,
        pcall2 fX fY, e3, Option.map_some, Option.bind_some, binA_lss, Option.bind_some, ifA_dec, if_pos hc, pcall1 fX, V123 hX, Option.map_some, Option.bind_some]
      unfold divQ divR
      rw [if_pos h1, if_pos h1]
      rfl
    · have hc : ¬ cmpV x.v y.v < 0 := by unfold cmpV; rw [if_neg h1]; split <;> omega
      by_cases h2 : y.v < 4294967296
      · have hn1 : (digs y.v).length = 1 := digs_len1.2 ⟨h0, h2⟩
        have hdig : (digs y.v).getD 0 0 = y.v := by
          rw [digs_pos h0, List.getD_cons_zero, Nat.mod_eq_of_lt h2]
        have hlt : x.v % y.v < y.v := Nat.mod_lt _ (by omega)
        refine AP_ofz _ _ (fz_tup3 (fza_nv (divQ x y)) (fza_nv (divR x y)) (fza_int _ _)) rfl (m := []) ?_ |>.trans (by rw [divQ_fr, divR_fr])
        have e4 := V136 (d := y.v) hX (by omega) h2
        rw [vX] at e4
        rw [T125, pcall1 (fz_nv x), e1, Option.map_some, Option.bind_some, pcall1 (fz_nv y), e2, Option.map_some, Option.bind_some, len_nv, Option.bind_some, n_eql0, Option.bind_some, ifA_dec, if_neg hn0,
          pcall2 fX fY, e3, Option.map_some, Option.bind_some, binA_lss, Option.bind_some, ifA_dec, if_neg hc, Option.bind_some, n_eql1, Option.bind_some, ifA_dec, if_pos hn1, index_nv0 (by simp only [hn1]; omega), Option.bind_some, load_v, Option.bind_some]
        simp only [hdig]
        rw [pcall2 (b := dg y.v) (b' := dg y.v) fX (fz_int .u32 y.v), e4]
        simp only [Option.map_some, Option.bind_some, extractA]
        rw [show ([NV.av ⟨false, .no, digs (x.v / y.v)⟩, dg (x.v % y.v)] : List AV)[0]? = some (NV.av ⟨false, .no, digs (x.v / y.v)⟩) from rfl, show ([NV.av ⟨false, .no, digs (x.v / y.v)⟩, dg (x.v % y.v)] : List AV)[1]? = some (dg (x.v % y.v)) from rfl,
          Option.bind_some, Option.bind_some, c_dg _ (by omega), Option.bind_some, pcall1 (fz_int _ _), V93 (by omega)]
        unfold divQ divR
        rw [if_neg h1, if_neg h1, if_pos h2]
        rfl
      · have hn1 : ¬ (digs y.v).length = 1 := fun e => h2 (digs_len1.1 e).2
        obtain ⟨n, hn⟩ : ∃ n, n = (digs y.v).length := ⟨_, rfl⟩
        have hn2 : 2 ≤ n := by omega
        have hlast := digs_last h0
        rw [← hn] at hlast
        have htd := dg_digs y.v (n - 1)
        obtain ⟨z1, z2, z3⟩ := lz_shift (Nat.pos_of_ne_zero hlast) htd
        obtain ⟨w1, w2⟩ := shifted_div hn.symm (by omega) z1
        have hle : y.v ≤ x.v := Nat.le_of_not_lt h1
        have hmono := digs_mono hle
        generalize hs : lz ((digs y.v).getD (n - 1) 0) = s at *
        have hsub : (sfS (digs x.v) s (digs x.v).length).length = (digs x.v).length + 1 := sfS_length _ _ _
        have hsvb : (sfS (digs y.v) s (digs y.v).length).length = (digs y.v).length + 1 := sfS_length _ _ _
        have hsu : val (sfS (digs x.v) s (digs x.v).length) = 2 ^ s * x.v := by rw [sf_val, val_digs]
        have hsv : val (sfS (digs y.v) s (digs y.v).length) = 2 ^ s * y.v := by rw [sf_val, val_digs]
        have hdu : Dg (sfS (digs x.v) s (digs x.v).length) := sfS_dg (dg_digs _) z1 _ (Nat.le_refl _)
        have hdv : Dg (sfS (digs y.v) s (digs y.v).length) := sfS_dg (dg_digs _) z1 _ (Nat.le_refl _)
        have htop : (sfS (digs x.v) s (digs x.v).length).getD (digs x.v).length 0 < 2 ^ s := sfS_top (dg_digs _) _ (Nat.le_refl _)
        have hpow : 2 ^ s ≤ 2 ^ 31 := Nat.pow_le_pow_right (by omega) (by omega)
        obtain ⟨mm, hmm⟩ : ∃ mm, (digs x.v).length + 1 = mm + n := ⟨(digs x.v).length + 1 - n, by omega⟩
        have hW : NOk ⟨false, .no, digs (2 ^ s * y.v)⟩ := ⟨dg_digs _, by simp only [w1]; omega, by simp⟩
        have e5 : AP cfg 124 [(NV.mk false .no (sfS (digs y.v) s (digs y.v).length)).av] = some (NV.av ⟨false, .no, digs (2 ^ s * y.v)⟩) := by
          rw [P124 _ (by simp only [hsvb]; omega), tr_eq hdv, hsv]
        have hp := pcall_at (cp := AP cfg) (g := 124) (m := [oc (sfS (digs x.v) s (digs x.v).length), oc (sfS (digs y.v) s (digs y.v).length)]) (nm := 1) (ds := sfS (digs y.v) s (digs y.v).length) rfl
        have hI := kinv_start (v := digs (2 ^ s * y.v)) (n := n) (m := mm) hdu (by omega) (top_lt hdu w1 (by omega) (by
          rw [show mm + n - 1 = (digs x.v).length by omega]
          exact Nat.lt_of_lt_of_le htop (Nat.le_trans hpow w2)))
        obtain ⟨u', q', i1, i2⟩ := W125_14 ⟨false, .no, digs (2 ^ s * y.v)⟩ _ (K125_14 (finK cfg.P f125.results.toList)) (.int .u64 s) (mm + n) n mm w1 hn2 (dg_digs _) rfl (by omega) w2 mm _ _ (Nat.le_refl _) hI
        obtain ⟨k1, k2⟩ := KInv.done (a := digs x.v) (b := digs y.v) z1 (by omega) (by rw [hsu, val_digs]) (by rw [val_digs, val_digs]) i1
        rw [val_digs, val_digs] at k1 k2
        have hlq := i1.lq
        have hlu := i1.lu
        have i3 := W125_51 u' q' (K125_51 (finK cfg.P f125.results.toList)) (.arr 2 0 mm none) s (mm + n) n i1.du hlu (by omega) (by omega) z1 n 0 (by omega)
        have p1 := pcall_at (cp := AP cfg) (g := 124) (m := M3 u' q' ++ [oc (unS u' s n)]) (nm := 2) (ds := q') rfl
        have p2 := pcall_at (cp := AP cfg) (g := 124) (m := (M3 u' q' ++ [oc (unS u' s n)]).set 2 none) (nm := 3) (ds := unS u' s n) rfl
        rw [hlq] at p1
        rw [unS_length] at p2
        have f1 := V124 (x := ⟨false, .no, q'⟩) ⟨i1.dq, by simp only [hlq]; omega, by simp⟩
        have f2 := V124 (x := ⟨false, .no, unS u' s n⟩) ⟨unS_dg i1.du z1 n, by simp only [unS_length]; omega, by simp⟩
        rw [NV.v, ← tr_eq i1.dq, k1] at f1
        rw [NV.v, ← tr_eq (unS_dg i1.du z1 n), k2] at f2
        refine AP_ofz _ _ (fz_tup3 (fza_nv (divQ x y)) (fza_nv (divR x y)) (fza_int _ _)) rfl (m := [oc u', none, none, none]) ?_ |>.trans (by rw [divQ_fr, divR_fr])
        rw [T125, pcall1 (fz_nv x), e1, Option.map_some, Option.bind_some, pcall1 (fz_nv y), e2, Option.map_some, Option.bind_some, len_nv, Option.bind_some, n_eql0, Option.bind_some, ifA_dec, if_neg hn0,
          pcall2 fX fY, e3, Option.map_some, Option.bind_some, binA_lss, Option.bind_some, ifA_dec, if_neg hc, Option.bind_some, n_eql1, Option.bind_some, ifA_dec, if_neg hn1,
          Option.bind_some, i_sub1 (by simp only []; omega) (by simp only []; omega), Option.bind_some, index_nv (by simp only []; omega), Option.bind_some, load_v, Option.bind_some]
        simp only [show (digs y.v).getD ((digs y.v).length - 1) 0 = (digs y.v).getD (n - 1) 0 by rw [hn]]
        rw [pcall1 (a := dg ((digs y.v).getD (n - 1) 0)) (a' := dg ((digs y.v).getD (n - 1) 0)) (fz_int _ _), V137 (Nat.pos_of_ne_zero hlast) htd, Option.map_some, Option.bind_some, hs, c_up (by omega), Option.bind_some, V138 [] hX z1, Option.bind_some, V138 _ hY z1, Option.bind_some]
        simp only [List.nil_append, List.length_nil, List.length_cons, List.cons_append]
        rw [hsvb] at hp
        rw [hp, e5, Option.map_some, Option.bind_some, len_nv, Option.bind_some, len_arr, Option.bind_some]
        simp only [w1, hmm]
        rw [i_sub (by omega) (by omega), Option.bind_some, Nat.add_sub_cancel, make_oc (by omega) (by omega), Option.bind_some, Option.bind_some, i_sub (by omega) (by omega), Option.bind_some, Nat.add_sub_cancel, i_sub1z (by omega), Option.bind_some]
        refine Eq.trans ?_ (i2.trans ?_)
        · rfl
        rw [K125_14_x1, make_oc (by omega) (by omega), Option.bind_some]
        refine Eq.trans ?_ (i3.trans ?_)
        · rfl
        rw [K125_51_x9, p1, f1, Option.map_some, Option.bind_some, p2, f2, Option.map_some, Option.bind_some]
        unfold divQ divR
        rw [if_neg h1, if_neg h1, if_neg h2]
        rfl
end Go.Ab
