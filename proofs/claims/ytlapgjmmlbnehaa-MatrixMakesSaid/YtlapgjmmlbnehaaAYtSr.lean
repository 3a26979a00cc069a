/- What the functions of the reference's numbers compute, in values. -/
import Derived.Test.YtlapgjmmlbnehaaAYtSn5
import Derived.Test.YtlapgjmmlbnehaaAYtNb
set_option linter.unusedVariables false
set_option linter.unusedSimpArgs false
set_option maxRecDepth 100000
namespace Go.Ab
open Go.Proofs.Try

/-! ### Rows that begin as nil -/
def rowV (m : Mem) (ds : List Nat) : NV := if ds = [] then ⟨true, .full, []⟩ else ⟨false, .tok m.length 116, ds⟩
def rowM (m : Mem) (ds : List Nat) : Mem := if ds = [] then m else tokM m ds.length
def rowN (ds : List Nat) : NV := if ds = [] then ⟨true, .full, []⟩ else ⟨false, .no, ds⟩
theorem rowV_fr (m : Mem) (ds : List Nat) : (rowV m ds).fr = rowN ds := by unfold rowV rowN; split <;> rfl
theorem rowN_fr (ds : List Nat) : (rowN ds).fr = rowN ds := by unfold rowN; split <;> rfl
theorem rowN_ds (ds : List Nat) : (rowN ds).ds = ds := by
  unfold rowN
  split
  · rename_i h; rw [h]
  · rfl
theorem fz_row (m : Mem) (ds : List Nat) : Fz (rowV m ds).av (rowN ds).av := by
  have := fz_nv (rowV m ds)
  rwa [rowV_fr] at this
theorem rowN_ok {ds : List Nat} (h : Dg ds) (h' : ds.length < 2 ^ 40) : NOk (rowN ds) := by
  refine ⟨by rw [rowN_ds]; exact h, by rw [rowN_ds]; exact h', ?_⟩
  unfold rowN
  split
  · intro _; rfl
  · intro h; cases h
theorem rowN_v (ds : List Nat) : (rowN ds).v = val ds := by rw [NV.v, rowN_ds]
theorem ifA_true {R : Type} {x y : Option R} : ifA (.bool true) x y = x := rfl
theorem ifA_false {R : Type} {x y : Option R} : ifA (.bool false) x y = y := rfl
theorem app_nil {m : Mem} {ds : List Nat} {z : Bool} {o : Own} (h : ds.length * 4 ≤ roomA) : appA none false 116 none 4 m (.lst none true .full []) (.lst none z o (ds.map dg)) = some ((rowV m ds).av, rowM m ds) := by
  cases ds with
  | nil => rfl
  | cons d ds =>
    have h2 : (ds.length + 1) * 4 ≤ roomA := by simpa using h
    simp only [rowV, rowM, NV.av, appA, List.map_cons, List.length_cons, List.length_nil, List.length_map, Nat.zero_add, h2, if_true, newAt, tokM, Sh.size, List.nil_append, reduceCtorEq, if_false, Bool.false_eq_true, or_true, Nat.zero_add]
theorem app_row1 {m : Mem} {ds : List Nat} {v : Nat} (h : (ds.length + 1) * 4 ≤ roomA) : appA none false 116 none 4 (rowM m ds) (rowV m ds).av (.lst none false .full [.int .u32 v]) = some ((rowV m (ds ++ [v])).av, rowM m (ds ++ [v])) := by
  cases ds with
  | nil => exact app_nil (ds := [v]) h
  | cons d ds =>
    have := app_tok (e := 116) (b := 4) (m := m) (es := (d :: ds).map dg) (z := false) (o := .full) (y := .int .u32 v) (by rw [List.length_map]; exact h)
    rw [List.length_map] at this
    simp only [rowV, rowM, reduceCtorEq, if_false, NV.av]
    rw [this]
    simp [dg, rowV, rowM]

/-! ### trim -/
def refN (n : Nat) : NV := rowN (digs n)
theorem refN_fr (n : Nat) : (refN n).fr = refN n := rowN_fr _
theorem refN_ds (n : Nat) : (refN n).ds = digs n := rowN_ds _
theorem refN_v (n : Nat) : (refN n).v = n := by rw [NV.v, refN_ds, val_digs]
theorem refN_ok {n : Nat} (h : (digs n).length < 2 ^ 40) : NOk (refN n) := rowN_ok (dg_digs n) h
theorem refN_len (n : Nat) : lenA false (refN n).av = some (.int .i64 (digs n).length) := by rw [len_nv, refN_ds]
theorem fz_ref (n : Nat) : Fz (refN n).av (refN n).av := by
  have := fz_nv (refN n)
  rwa [refN_fr] at this
theorem fza_ref (n : Nat) : ∀ m k, frz m (k + 1) (refN n).av = some ((refN n).av, []) := by
  have := fza_nv (refN n)
  rwa [refN_fr] at this
theorem W103 (x : NV) (m : Mem) (K : Ex → St → Option (AV × Mem)) : ∀ n : Nat, n ≤ x.ds.length → x.ds.length < 2 ^ 62 → L103_2 x.av (.int .i64 n) m K = K (.exit 0) (O103_2 x.av (.int .i64 (trN x.ds n)) m) := by
  intro n
  induction n with
  | zero =>
    intro _ _
    rw [L103_2_eq]
    simp [binA_gtr, ifA, trN]
  | succ n ih =>
    intro hn hl
    have ih := ih (by omega) hl
    rw [L103_2_eq]
    have h1 : ((n + 1 : Nat) : Int) > 0 := by omega
    have h2 : IntKind.wrap .i64 (((n + 1 : Nat) : Int) - 1) = n := by rw [wrap_i64] <;> omega
    simp only [binA_gtr, Option.bind_some, ifA_dec, if_pos h1, binA_sub, h2]
    rw [NV.av, indexA_dg (by omega) (by omega)]
    simp only [Option.bind_some, loadA_one, dg, binA_eql, ifA_dec, Int.toNat_natCast]
    rw [trN]
    by_cases h : x.ds.getD n 0 = 0
    · rw [if_pos (by omega), if_pos h]
      exact ih
    · rw [if_neg (by omega), if_neg h]
theorem P103 (x : NV) (dx : Dg x.ds) (hl : x.ds.length < 2 ^ 41) : AP cfg 103 [x.av] = some (refN x.v).av := by
  have ht := trN_le x.ds x.ds.length
  refine AP_ofz _ _ (fz_row [] (digs x.v)) (noV_nv _) (m := rowM [] (digs x.v)) ?_
  rw [T103, len_nv, Option.bind_some, W103 x [] _ _ (Nat.le_refl _) (by omega), K103_2_x0]
  have hs := sliceT_to (z := x.z) (o := x.o) (ds := x.ds) (k := .i64) (i := trN x.ds x.ds.length) (by omega) (by omega)
  rw [← NV.av] at hs
  rw [hs, Option.bind_some]
  have he : x.ds.take (trN x.ds x.ds.length) = digs x.v := tr_eq dx
  have hdl := digs_length_val dx
  rw [Int.toNat_natCast, he, app_nil (by rw [NV.v]; simp only [roomA]; omega)]
  rfl
theorem V103 {x : NV} (h : NOk x) : AP cfg 103 [x.av] = some (refN x.v).av := P103 x h.dg (by have := h.len; omega)

/-! ### at, Right -/
theorem V133 {x : NV} {i : Nat} (h : NOk x) (hi : i < 2 ^ 60) : AP cfg 133 [x.av, .int .i64 i] = some (.int .u64 (x.ds.getD i 0 : Nat)) := by
  have := h.dg i
  refine AP_of (m := []) ?_ (fz_int _ _ _) (by simp [noV])
  rw [T133, len_nv, Option.bind_some, n_lss, Option.bind_some, ifA_dec]
  by_cases hl : i < x.ds.length
  · rw [if_pos hl, index_nv hl, Option.bind_some, load_v, Option.bind_some, c_dg _ this, Option.bind_some]
  · rw [if_neg hl, getD_out (by omega)]; rfl
theorem V97 {x : NV} (h : NOk x) : AP cfg 97 [x.av] = some (.bool (canB x.ds)) := by
  have hx := h.len
  refine AP_of (m := []) ?_ (fz_bool _ _) (by simp [noV])
  rw [← rightL_eq h.dg, T97, len_nv, Option.bind_some, n_eql0, Option.bind_some, ifA_dec]
  by_cases h0 : x.ds.length = 0
  · rw [if_pos h0]; simp [rightL, h0]
  · rw [if_neg h0, Option.bind_some, i_sub1 (by omega) (by omega), Option.bind_some, index_nv (by omega), Option.bind_some, load_v, Option.bind_some, dg, n_neq0, Option.bind_some]
    simp [rightL, h0]

/-! ### Compare -/
theorem W98 (x y : NV) (m : Mem) (K : Ex → St → Option (AV × Mem)) (hl : x.ds.length < 2 ^ 62) : ∀ n : Nat, n ≤ x.ds.length → n ≤ y.ds.length →
    L98_7 x.av y.av (.int .i64 ((n : Int) - 1)) m K = if cmpN x.ds y.ds n = 0 then K (.exit 0) (O98_7 m) else K .ret (R98_7 (.int .i64 (cmpN x.ds y.ds n)) m) := by
  intro n
  induction n with
  | zero =>
    intro _ _
    rw [L98_7_eq]
    simp [binA_geq, ifA, cmpN]
  | succ n ih =>
    intro hx hy
    have ih := ih (by omega) (by omega)
    rw [L98_7_eq, show ((n + 1 : Nat) : Int) - 1 = (n : Nat) by omega, n_geq0, Option.bind_some, ifA_true]
    rw [index_nv (by omega), Option.bind_some, load_v, Option.bind_some, index_nv (by omega), Option.bind_some, load_v, Option.bind_some, dg, dg, n_neq, Option.bind_some, ifA_dec]
    by_cases h : x.ds.getD n 0 = y.ds.getD n 0
    · have hc : cmpN x.ds y.ds (n + 1) = cmpN x.ds y.ds n := by rw [cmpN, if_neg (by omega), if_neg (by omega)]
      rw [hc, if_neg (fun hn => hn h), i_sub1z (by omega), Option.bind_some]
      exact ih
    · rw [if_pos h, Option.bind_some, load_v, Option.bind_some, Option.bind_some, load_v, Option.bind_some, n_lss, Option.bind_some, ifA_dec]
      by_cases h2 : x.ds.getD n 0 < y.ds.getD n 0
      · have hc : cmpN x.ds y.ds (n + 1) = -1 := by rw [cmpN, if_pos h2]
        rw [hc, if_pos h2]; rfl
      · have hc : cmpN x.ds y.ds (n + 1) = 1 := by rw [cmpN, if_neg h2, if_pos (by omega)]
        rw [hc, if_neg h2]; rfl
theorem V98 {x y : NV} (hx : NOk x) (hy : NOk y) : AP cfg 98 [x.av, y.av] = some (.int .i64 (cmpV x.v y.v)) := by
  have lx := hx.v_len'
  have ly := hy.v_len'
  refine AP_of (m := []) ?_ (fz_int _ _ _) (by simp [noV])
  rw [T98, pcall1 (fz_nv x), V103 hx.fr, Option.map_some, Option.bind_some, pcall1 (fz_nv y), V103 hy.fr, Option.map_some, Option.bind_some]
  rw [show x.fr.v = x.v from rfl, show y.fr.v = y.v from rfl, refN_len, Option.bind_some, refN_len, Option.bind_some, n_neq, Option.bind_some, ifA_dec, ← cmpL_digs]
  by_cases h : (digs x.v).length = (digs y.v).length
  · have hc : cmpL (digs x.v) (digs y.v) = cmpN (digs x.v) (digs y.v) (digs x.v).length := by
      unfold cmpL
      rw [if_neg (by omega), if_neg (by omega)]
    rw [hc, if_neg (fun hn => hn h), Option.bind_some, i_sub1z (by omega), Option.bind_some]
    have := W98 (refN x.v) (refN y.v) [] (K98_7 (finK cfg.P f98.results.toList)) (by rw [refN_ds]; omega) (digs x.v).length (by rw [refN_ds]; exact Nat.le_refl _) (by rw [refN_ds]; omega)
    rw [this, K98_7_x0, K98_7_ret, refN_ds, refN_ds]
    split
    · rename_i h0; rw [h0]
    · rfl
  · rw [if_pos h, Option.bind_some, Option.bind_some, n_lss, Option.bind_some, ifA_dec]
    unfold cmpL
    by_cases h2 : (digs x.v).length < (digs y.v).length
    · rw [if_pos h2, if_pos h2]
    · have h3 : (digs x.v).length > (digs y.v).length := by omega
      rw [if_neg h2, if_neg h2, if_pos h3]

/-! ### Of, Small -/
theorem V70 {n : Nat} (h : n < 18446744073709551616) : AP cfg 70 [.int .u64 n] = some (refN n).av := by
  have hb : ∀ a b : Nat, buildSliceA none [.int .u32 (a : Nat), .int .u32 (b : Nat)] = some (NV.av ⟨false, .full, [a, b]⟩) := fun _ _ => rfl
  have hd : Dg [n % 4294967296, n / 4294967296] := dg_cons.2 ⟨Nat.mod_lt _ (by omega), dg_one (by omega)⟩
  refine AP_ofz _ _ (fz_ref n) (noV_nv _) (m := []) ?_
  rw [T70, c_dn, Option.bind_some, u_shr32, Option.bind_some, c_dn, Option.bind_some, Nat.mod_eq_of_lt (by omega : n / 4294967296 < 4294967296), hb, Option.bind_some, pcall1 (fz_nv _), V103 (NOk.fr ⟨hd, by simp, by simp⟩)]
  simp only [Option.map_some, Option.bind_some, NV.fr, NV.v, val]
  congr 4
  omega
theorem V126 {x : NV} (h : NOk x) : AP cfg 126 [x.av] = some (smallV x.v) := by
  have e : smallV x.v = smallL (refN x.v).ds := by rw [refN_ds, smallL_eq]
  rw [e]
  refine AP_of (m := []) ?_ ((fz_small _).1 _) (by simp [(fz_small _).2])
  rw [T126, pcall1 (fz_nv x), V103 h.fr]
  have dt : Dg (refN x.v).ds := by rw [refN_ds]; exact dg_digs _
  simp only [Option.map_some, Option.bind_some]
  rw [show x.fr.v = x.v from rfl]
  generalize refN x.v = a at dt
  rw [len_nv, Option.bind_some, n_eql0, Option.bind_some, ifA_dec]
  obtain ⟨z, o, ds⟩ := a
  match ds, dt with
  | [], _ => rfl
  | [d], dt =>
    have h0 := (dg_cons.1 dt).1
    rw [if_neg (by simp), n_eql1, Option.bind_some, ifA_dec, if_pos (by simp), index_nv0 (by simp), Option.bind_some, load_v, Option.bind_some]
    simp only [List.getD_cons_zero]
    rw [c_dg d h0]
    rfl
  | [d, e], dt =>
    have h0 := (dg_cons.1 dt).1
    have h1 := (dg_cons.1 (dg_cons.1 dt).2).1
    have i1 : indexAddrA none (NV.mk z o [d, e]).av (.int .i64 1) = some (.vptr [dg e]) := rfl
    rw [if_neg (by simp), n_eql1, Option.bind_some, ifA_dec, if_neg (by simp), n_eql2, Option.bind_some, ifA_dec, if_pos (by simp), i1, Option.bind_some, load_v, Option.bind_some, c_dg e h1, Option.bind_some, u_shl32 h1, Option.bind_some, index_nv0 (by simp), Option.bind_some, load_v, Option.bind_some]
    simp only [List.getD_cons_zero]
    rw [c_dg d h0, Option.bind_some, u_orlo h1 h0, Option.bind_some]
    simp only [smallL, Nat.add_comm]
  | d :: e :: f :: l, _ =>
    rw [if_neg (by simp), n_eql1, Option.bind_some, ifA_dec, if_neg (by simp), n_eql2, Option.bind_some, ifA_dec, if_neg (by simp)]
    rfl
end Go.Ab
