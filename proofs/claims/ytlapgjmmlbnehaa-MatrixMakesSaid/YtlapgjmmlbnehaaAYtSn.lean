/- What the functions of nat compute. -/
import Derived.Test.YtlapgjmmlbnehaaAYtNa
import Derived.Test.YtlapgjmmlbnehaaAAbVal2
set_option linter.unusedVariables false
set_option linter.unusedSimpArgs false
namespace Go.Ab
open Go.Proofs.Try

theorem L124 (x : NV) (m : Mem) (K : Ex → St → Option (AV × Mem)) : ∀ n : Nat, n ≤ x.ds.length → x.ds.length < 2 ^ 62 → L124_2 x.av (.int .i64 n) m K = K (.exit 0) (O124_2 x.av (.int .i64 (trN x.ds n)) m) := by
  intro n
  induction n with
  | zero =>
    intro _ _
    rw [L124_2_eq]
    simp [binA_gtr, ifA, trN]
  | succ n ih =>
    intro hn hl
    have ih := ih (by omega) hl
    rw [L124_2_eq]
    have h1 : ((n + 1 : Nat) : Int) > 0 := by omega
    have h2 : IntKind.wrap .i64 (((n + 1 : Nat) : Int) - 1) = n := by rw [wrap_i64] <;> omega
    simp only [binA_gtr, Option.bind_some, ifA_dec, if_pos h1, binA_sub, h2]
    rw [NV.av, indexA_dg (by omega) (by omega)]
    simp only [Option.bind_some, loadA_one, dg, binA_eql, ifA_dec, Int.toNat_natCast]
    rw [trN]
    by_cases h : x.ds.getD n 0 = 0
    · rw [if_pos (by omega), if_pos h]
      exact ih
    · rw [if_neg (by omega), if_neg h]
theorem T124' (x : NV) (m : Mem) (hl : x.ds.length < 2 ^ 62) : AC cfg 124 [x.av] m = some (NV.av ⟨x.z, .no, tr x.ds⟩, m) := by
  rw [T124]
  simp only [NV.av, lenA_lst, Option.bind_some, List.length_map]
  have := L124 x m (K124_2 (finK cfg.P f124.results.toList)) x.ds.length (Nat.le_refl _) hl
  rw [NV.av] at this
  rw [this, K124_2_x0, sliceT_to (by omega) (by have := trN_le x.ds x.ds.length; omega)]
  simp [tr]
theorem P124 (x : NV) (hl : x.ds.length < 2 ^ 62) : AP cfg 124 [x.av] = some (NV.av ⟨x.z, .no, tr x.ds⟩) :=
  AP_of (T124' x [] hl) (fz_nv _ _) (by simp [noV_nv])

/-! ### Compare -/
theorem L109 (x y : NV) (m : Mem) (K : Ex → St → Option (AV × Mem)) (hl : x.ds.length < 2 ^ 62) : ∀ n : Nat, n ≤ x.ds.length → n ≤ y.ds.length →
    L109_7 x.av y.av (.int .i64 ((n : Int) - 1)) m K = if cmpN x.ds y.ds n = 0 then K (.exit 1) (O109_7 m) else K .ret (R109_7 (.int .i64 (cmpN x.ds y.ds n)) m) := by
  intro n
  induction n with
  | zero =>
    intro _ _
    rw [L109_7_eq]
    simp [binA_geq, ifA, cmpN]
  | succ n ih =>
    intro hx hy
    have ih := ih (by omega) (by omega)
    rw [L109_7_eq]
    have h1 : ((n + 1 : Nat) : Int) - 1 = n := by omega
    have h0 : (n : Int) ≥ 0 := by omega
    have h2 : IntKind.wrap .i64 ((n : Int) - 1) = (n : Int) - 1 := by rw [wrap_i64] <;> omega
    simp only [h1, binA_geq, Option.bind_some, ifA_dec, if_pos h0]
    simp only [NV.av] at ih ⊢
    rw [indexA_dg (by omega) (by omega), indexA_dg (by omega) (by omega)]
    simp only [Option.bind_some, loadA_one, dg, binA_lss, binA_gtr, ifA_dec, Int.toNat_natCast, binA_sub, h2]
    rw [cmpN]
    by_cases h : x.ds.getD n 0 < y.ds.getD n 0
    · rw [if_pos (by omega), if_pos h]
      rfl
    · rw [if_neg (by omega), if_neg h]
      by_cases h' : x.ds.getD n 0 > y.ds.getD n 0
      · rw [if_pos (by omega), if_pos h']
        rfl
      · rw [if_neg (by omega), if_neg h']
        exact ih
theorem T109' (x y : NV) (m : Mem) (hx : x.ds.length < 2 ^ 62) (hy : y.ds.length < 2 ^ 62) : AC cfg 109 [x.av, y.av] m = some (.int .i64 (cmpL (tr x.ds) (tr y.ds)), m) := by
  have ha : (tr x.ds).length < 2 ^ 62 := by simp only [tr, List.length_take]; omega
  rw [T109, pcall1 (fz_nv x), P124 x.fr hx]
  simp only [Option.map_some, Option.bind_some, pcall1 (fz_nv y), P124 y.fr hy]
  simp only [NV.av, lenA_lst, List.length_map, Option.bind_some, binA_lss, binA_gtr, ifA_dec, binA_sub, NV.fr]
  unfold cmpL
  by_cases h : (tr x.ds).length < (tr y.ds).length
  · rw [if_pos (by omega), if_pos h]
  · rw [if_neg (by omega), if_neg h]
    by_cases h' : (tr x.ds).length > (tr y.ds).length
    · rw [if_pos (by omega), if_pos h']
    · rw [if_neg (by omega), if_neg h', wrap_i64 (by omega) (by omega)]
      have := L109 ⟨x.z, .no, tr x.ds⟩ ⟨y.z, .no, tr y.ds⟩ m (K109_7 (finK cfg.P f109.results.toList)) ha (tr x.ds).length (Nat.le_refl _) (by simp only; omega)
      simp only [NV.av] at this
      rw [this, K109_7_x1, K109_7_ret]
      split
      · rename_i h0; rw [h0]
      · rfl
theorem P109 (x y : NV) (hx : x.ds.length < 2 ^ 62) (hy : y.ds.length < 2 ^ 62) : AP cfg 109 [x.av, y.av] = some (.int .i64 (cmpL (tr x.ds) (tr y.ds))) :=
  AP_of (T109' x y [] hx hy) (fz_int _ _ _) (by simp [noV])

/-! ### Add -/
/-! ### Mul -/
/-! ### Clone -/
def NV.ok (x : NV) : Prop := x.z = true → x.ds = []
def cloneV (x : NV) : NV := ⟨x.z, if x.ds = [] then .full else .no, x.ds⟩
theorem P123 (x : NV) (hz : x.ok) (hx : x.ds.length < 2 ^ 40) : AP cfg 123 [x.av] = some (cloneV x).av := by
  have h0 : binA .sl .eql x.av (.lst none true .full []) = some (.bool x.z) := rfl
  obtain ⟨z, o, ds⟩ := x
  cases z with
  | true =>
    have : ds = [] := hz rfl
    subst this
    refine AP_of (v := NV.av ⟨true, .full, []⟩) (m := []) ?_ (fz_nv _ _) (by simp [noV_nv])
    rw [T123, h0]
    rfl
  | false =>
    cases ds with
    | nil =>
      refine AP_of (v := NV.av ⟨false, .full, []⟩) (m := []) ?_ (fz_nv _ _) (by simp [noV_nv])
      rw [T123, h0]
      rfl
    | cons d ds =>
      refine AP_of (v := NV.av ⟨false, .tok 0 116, d :: ds⟩) (m := [some (.tok (d :: ds).length 1)]) ?_ (fz_nv _ _) (by simp [noV_nv])
      rw [T123, h0]
      have hl : (ds.length + 1) * 4 ≤ 140737488355328 := by simp only [List.length_cons] at hx; omega
      simp only [Option.bind_some, ifA, buildSliceA, List.all_nil, if_true, List.map_nil, NV.av, List.map_cons, appA, List.length_nil, List.length_cons, List.length_map, Nat.zero_add, roomA, hl, true_or, Bool.false_eq_true, if_false, newAt, List.nil_append, Sh.size]

theorem cloneV_fr (x : NV) : (cloneV x).fr = cloneV x := by
  unfold cloneV NV.fr
  simp only []
  split <;> rfl
theorem fz_clone (x : NV) : Fz (cloneV x).av (cloneV x).av := by
  have := fz_nv (cloneV x)
  rwa [cloneV_fr] at this
/-! ### Of -/
def ofL (n : Nat) : List Nat := tr [n % 4294967296, n / 4294967296]
theorem P93 (n : Nat) (hn : n < 18446744073709551616) : AP cfg 93 [.int .u64 n] = some (cloneV ⟨false, .no, ofL n⟩).av := by
  have e1 : IntKind.wrap .u32 (n : Int) = ((n % 4294967296 : Nat) : Int) := by rw [wrap_u32_eq]; rfl
  have e2 : IntKind.wrap .u32 ((n : Int) / 4294967296) = ((n / 4294967296 : Nat) : Int) := by rw [wrap_u32] <;> omega
  have hb : buildSliceA none [.int .u32 ((n % 4294967296 : Nat) : Int), .int .u32 ((n / 4294967296 : Nat) : Int)] = some (NV.av ⟨false, .full, [n % 4294967296, n / 4294967296]⟩) := rfl
  have hl : (tr [n % 4294967296, n / 4294967296]).length ≤ 2 := tr_length _
  refine AP_of (m := []) ?_ (fz_clone _ _) (by simp [noV_nv])
  rw [T93]
  simp only [convA_int, Option.bind_some, e1, binA_shr32 _ _ _ (Int.natCast_nonneg _), e2, hb]
  rw [pcall1 (fz_nv _), P124 _ (by simp [NV.fr])]
  simp only [Option.map_some, Option.bind_some]
  rw [pcall1 (fz_nv _), P123 _ (by simp [NV.ok, NV.fr]) (by simp only [NV.fr]; omega)]
  rfl

/-! ### Right -/
def rightL (a : List Nat) : Bool := decide (a.length = 0) || decide (a.getD (a.length - 1) 0 ≠ 0)
theorem P94 (x : NV) (hx : x.ds.length < 2 ^ 40) : AP cfg 94 [x.av] = some (.bool (rightL x.ds)) := by
  refine AP_of (m := []) ?_ (fz_bool _ _) (by simp [noV])
  have hl : lenA false x.av = some (.int .i64 x.ds.length) := by simp [NV.av, lenA]
  rw [T94]
  simp only [hl, Option.bind_some, binA_eql, ifA_dec]
  by_cases h : x.ds.length = 0
  · rw [if_pos (by omega)]; simp [rightL, h]
  · rw [if_neg (by omega)]
    have hw : IntKind.wrap .i64 ((x.ds.length : Int) - 1) = ((x.ds.length - 1 : Nat) : Int) := by rw [wrap_i64] <;> omega
    simp only [binA_sub, Option.bind_some, hw]
    have hidx : indexAddrA none x.av (.int .i64 ((x.ds.length - 1 : Nat) : Int)) = some (.vptr [dg (x.ds.getD (x.ds.length - 1) 0)]) := by
      rw [NV.av, indexA_dg (by omega) (by omega)]; simp
    rw [hidx]
    simp only [Option.bind_some, loadA_one, dg, binA_neq]
    congr 2
    simp only [rightL, h, decide_false, Bool.false_or, AV.bool.injEq, decide_eq_decide]
    omega

/-! ### Small -/
def smallL (a : List Nat) : AV := match a with
  | [] => .tup [.int .u64 0, .bool true]
  | [d] => .tup [.int .u64 d, .bool true]
  | [d, e] => .tup [.int .u64 (d + e * 4294967296 : Nat), .bool true]
  | _ => .tup [.int .u64 0, .bool false]
theorem fz_small (a : List Nat) : Fz (smallL a) (smallL a) ∧ noV (smallL a) = true := by
  unfold smallL
  split <;> exact ⟨fun _ => rfl, rfl⟩
theorem P95 (x : NV) (hx : x.ds.length < 2 ^ 40) (dx : Dg x.ds) : AP cfg 95 [x.av] = some (smallL (tr x.ds)) := by
  refine AP_of (m := []) ?_ ((fz_small _).1 _) (by simp [(fz_small _).2])
  have hl : ∀ x : NV, lenA false x.av = some (.int .i64 x.ds.length) := fun x => by simp [NV.av, lenA]
  rw [T95, pcall1 (fz_nv x), P124 x.fr (by simp only [NV.fr]; omega)]
  have dt := tr_dg dx
  simp only [Option.map_some, Option.bind_some, hl, binA_eql, ifA_dec, NV.fr]
  generalize tr x.ds = a at dt
  match a, dt with
  | [], _ => rfl
  | [d], dt =>
    have h0 := dt 0
    simp only [List.getD_cons_zero] at h0
    rw [if_neg (by simp), if_pos (by simp)]
    simp only [NV.av]
    rw [show indexAddrA none (.lst none x.z .no ([d].map dg)) (.int .i64 0) = some (.vptr [dg d]) from rfl]
    simp only [Option.bind_some, loadA_one, dg, convA_int, wrap_u64 (Int.natCast_nonneg d) (by omega)]
    rfl
  | [d, e], dt =>
    have h0 := dt 0
    have h1 := dt 1
    simp only [List.getD_cons_zero, List.getD_cons_succ] at h0 h1
    rw [if_neg (by simp), if_neg (by simp), if_pos (by simp)]
    simp only [NV.av]
    rw [show indexAddrA none (.lst none x.z .no ([d, e].map dg)) (.int .i64 0) = some (.vptr [dg d]) from rfl, show indexAddrA none (.lst none x.z .no ([d, e].map dg)) (.int .i64 1) = some (.vptr [dg e]) from rfl]
    simp only [Option.bind_some, loadA_one, dg, convA_int, wrap_u64 (Int.natCast_nonneg d) (by omega), wrap_u64 (Int.natCast_nonneg e) (by omega), binA_shl32 _ _ e h1, binA_or _ d e h0 h1]
    rfl
  | d :: e :: f :: l, _ =>
    rw [if_neg (by simp only [List.length_cons]; omega), if_neg (by simp only [List.length_cons]; omega), if_neg (by simp only [List.length_cons]; omega)]
    rfl

/-! ### Sub -/
end Go.Ab
