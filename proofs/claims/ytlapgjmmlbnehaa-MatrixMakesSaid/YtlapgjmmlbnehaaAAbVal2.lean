/- What the operations do on numbers of Nat; rows anywhere in memory. -/
import Derived.Test.YtlapgjmmlbnehaaAAbVal
import Derived.Test.YtlapgjmmlbnehaaAAbNum
set_option linter.unusedVariables false
set_option linter.unusedSimpArgs false
namespace Go.Ab

section
variable {tk : TK} {k k' : IntKind} {a b : Nat}
theorem n_gtr : binA tk .gtr (.int k a) (.int k b) = some (.bool (decide (a > b))) := by rw [binA_gtr]; congr 2; exact decide_eq_decide.2 (by omega)
theorem n_lss : binA tk .lss (.int k a) (.int k b) = some (.bool (decide (a < b))) := by rw [binA_lss]; congr 2; exact decide_eq_decide.2 (by omega)
theorem n_geq : binA tk .geq (.int k a) (.int k b) = some (.bool (decide (a ≥ b))) := by rw [binA_geq]; congr 2; exact decide_eq_decide.2 (by omega)
theorem n_eql : binA tk .eql (.int k a) (.int k b) = some (.bool (decide (a = b))) := by rw [binA_eql]; congr 2; exact decide_eq_decide.2 (by omega)
theorem n_neq : binA tk .neq (.int k a) (.int k b) = some (.bool (decide (a ≠ b))) := by rw [binA_neq]; congr 2; exact decide_eq_decide.2 (by omega)
theorem n_gtr0 : binA tk .gtr (.int k a) (.int k 0) = some (.bool (decide (a > 0))) := n_gtr (b := 0)
theorem n_geq0 : binA tk .geq (.int k a) (.int k 0) = some (.bool true) := by rw [binA_geq]; congr 2
theorem n_eql0 : binA tk .eql (.int k a) (.int k 0) = some (.bool (decide (a = 0))) := n_eql (b := 0)
theorem n_neq0 : binA tk .neq (.int k a) (.int k 0) = some (.bool (decide (a ≠ 0))) := n_neq (b := 0)
theorem n_eql1 : binA tk .eql (.int k a) (.int k 1) = some (.bool (decide (a = 1))) := n_eql (b := 1)
theorem n_eql2 : binA tk .eql (.int k a) (.int k 2) = some (.bool (decide (a = 2))) := n_eql (b := 2)
theorem n_geqB : binA tk .geq (.int k a) (.int k 4294967296) = some (.bool (decide (a ≥ 4294967296))) := n_geq (b := 4294967296)
theorem n_lssB : binA tk .lss (.int k a) (.int k 4294967296) = some (.bool (decide (a < 4294967296))) := n_lss (b := 4294967296)
theorem u_add (h : a + b < 18446744073709551616) : binA tk .add (.int .u64 a) (.int .u64 b) = some (.int .u64 (a + b : Nat)) := by
  rw [binA_add, wrap_u64 (by omega) (by omega)]; rfl
theorem u_mul (h : a * b < 18446744073709551616) : binA tk .mul (.int .u64 a) (.int .u64 b) = some (.int .u64 (a * b : Nat)) := by
  rw [binA_mul, ← Int.natCast_mul, wrap_u64 (by omega) (by omega)]
theorem u_sub (h : b ≤ a) (h' : a < 18446744073709551616) : binA tk .sub (.int .u64 a) (.int .u64 b) = some (.int .u64 (a - b : Nat)) := by
  rw [binA_sub, wrap_u64 (by omega) (by omega)]
  congr 2
  omega
theorem u_sub1 (h : 1 ≤ a) (h' : a < 18446744073709551616) : binA tk .sub (.int .u64 a) (.int .u64 1) = some (.int .u64 (a - 1 : Nat)) := u_sub (b := 1) h h'
theorem u_quo (h : b ≠ 0) (h' : a < 18446744073709551616) : binA tk .quo (.int .u64 a) (.int .u64 b) = some (.int .u64 (a / b : Nat)) := by
  have e : binA tk .quo (.int .u64 a) (.int .u64 b) = if (b : Int) = 0 then none else some (.int .u64 (IntKind.wrap .u64 ((a : Int).tdiv b))) := by cases tk <;> rfl
  rw [e, if_neg (by omega)]
  have e2 : (a : Int).tdiv b = ((a / b : Nat) : Int) := rfl
  have := Nat.div_le_self a b
  rw [e2]
  generalize a / b = q at *
  rw [wrap_u64 (by omega) (by omega)]
theorem u_rem (h : b ≠ 0) (h' : a < 18446744073709551616) : binA tk .rem (.int .u64 a) (.int .u64 b) = some (.int .u64 (a % b : Nat)) := by
  have e : binA tk .rem (.int .u64 a) (.int .u64 b) = if (b : Int) = 0 then none else some (.int .u64 ((a : Int).tmod b)) := by cases tk <;> rfl
  rw [e, if_neg (by omega)]
  rfl
theorem u_and (h' : a < 18446744073709551616) : binA tk .and (.int .u64 a) (.int .u64 4294967295) = some (.int .u64 (a % 4294967296 : Nat)) := by
  have e : binA tk .and (.int .u64 a) (.int .u64 4294967295) = some (.int .u64 (IntKind.wrap .u64 ((BitVec.ofInt 64 a &&& BitVec.ofInt 64 4294967295).toNat : Nat))) := by cases tk <;> rfl
  have e2 : (BitVec.ofInt 64 (a : Int) &&& BitVec.ofInt 64 4294967295).toNat = a % 4294967296 := by
    rw [BitVec.toNat_and, BitVec.toNat_ofInt, BitVec.toNat_ofInt]
    have h1 : (((a : Nat) : Int) % ((2 ^ 64 : Nat) : Int)).toNat = a := by omega
    have h2 : ((4294967295 : Int) % ((2 ^ 64 : Nat) : Int)).toNat = 2 ^ 32 - 1 := by omega
    rw [h1, h2, Nat.and_two_pow_sub_one_eq_mod]
  rw [e, e2, wrap_u64 (by omega) (by omega)]
theorem u_shl32 (h : a < 4294967296) : binA tk .shl (.int .u64 a) (.int k' 32) = some (.int .u64 (a * 4294967296 : Nat)) := binA_shl32 tk k' a h
theorem u_shr32 : binA tk .shr (.int .u64 a) (.int k' 32) = some (.int .u64 (a / 4294967296 : Nat)) := by
  rw [binA_shr32 tk k' a (by omega)]; rfl
theorem u_orlo (h : a < 4294967296) (h' : b < 4294967296) : binA tk .or (.int .u64 (a * 4294967296 : Nat)) (.int .u64 b) = some (.int .u64 (a * 4294967296 + b : Nat)) := by
  have e : binA tk .or (.int .u64 (a * 4294967296 : Nat)) (.int .u64 b) = some (.int .u64 (IntKind.wrap .u64 ((BitVec.ofInt 64 (a * 4294967296 : Nat) ||| BitVec.ofInt 64 b).toNat : Nat))) := by cases tk <;> rfl
  have e2 : (BitVec.ofInt 64 ((a * 4294967296 : Nat) : Int) ||| BitVec.ofInt 64 (b : Int)).toNat = a * 4294967296 + b := by
    rw [BitVec.toNat_or, BitVec.toNat_ofInt, BitVec.toNat_ofInt]
    have h1 : (((b : Nat) : Int) % ((2 ^ 64 : Nat) : Int)).toNat = b := by omega
    have h2 : (((a * 4294967296 : Nat) : Int) % ((2 ^ 64 : Nat) : Int)).toNat = a * 4294967296 := by omega
    rw [h1, h2]
    have := Nat.two_pow_add_eq_or_of_lt (i := 32) (b := b) (by omega) a
    rw [show a * 4294967296 = 2 ^ 32 * a by omega, ← this]
  rw [e, e2, wrap_u64 (by omega) (by omega)]
theorem i_add (h : a + b < 9223372036854775808) : binA tk .add (.int .i64 a) (.int .i64 b) = some (.int .i64 (a + b : Nat)) := by
  rw [binA_add, wrap_i64 (by omega) (by omega)]; rfl
theorem i_add1 (h : a + 1 < 9223372036854775808) : binA tk .add (.int .i64 a) (.int .i64 1) = some (.int .i64 (a + 1 : Nat)) := i_add (b := 1) h
theorem i_sub (h : b ≤ a) (h' : a < 9223372036854775808) : binA tk .sub (.int .i64 a) (.int .i64 b) = some (.int .i64 (a - b : Nat)) := by
  rw [binA_sub, wrap_i64 (by omega) (by omega)]
  congr 2
  omega
theorem i_sub1 (h : 1 ≤ a) (h' : a < 9223372036854775808) : binA tk .sub (.int .i64 a) (.int .i64 1) = some (.int .i64 (a - 1 : Nat)) := i_sub (b := 1) h h'
theorem i_sub2 (h : 2 ≤ a) (h' : a < 9223372036854775808) : binA tk .sub (.int .i64 a) (.int .i64 2) = some (.int .i64 (a - 2 : Nat)) := i_sub (b := 2) h h'
theorem i_sub1z (h' : a < 9223372036854775808) : binA tk .sub (.int .i64 a) (.int .i64 1) = some (.int .i64 ((a : Int) - 1)) := by
  rw [binA_sub, wrap_i64 (by omega) (by omega)]
theorem c_up (h : a < 18446744073709551616) : convA .u64 (.int k a) = some (.int .u64 a) := by rw [convA_int, wrap_u64 (by omega) (by omega)]
theorem c_dn : convA .u32 (.int k a) = some (.int .u32 (a % 4294967296 : Nat)) := by rw [convA_int, wrap_u32_eq]; rfl
theorem c_dg (d : Nat) (h : d < 4294967296) : convA .u64 (dg d) = some (.int .u64 d) := c_up (by omega)
theorem u32_shl {s : Nat} (hs : s < 32) (h : a < 4294967296) : binA tk .shl (.int .u32 a) (.int .u64 s) = some (.int .u32 (a * 2 ^ s % 4294967296 : Nat)) := by
  have e : binA tk .shl (.int .u32 a) (.int .u64 s) = shiftA true .u32 a s := by cases tk <;> rfl
  have e3 : IntKind.bits .u32 = 32 := rfl
  rw [e, shiftA, if_neg (by omega), if_pos rfl, e3, Int.toNat_natCast, Nat.min_eq_left (by omega), wrap_u32_eq]
  congr 2
theorem u32_shr {s : Nat} (hs : s < 32) : binA tk .shr (.int .u32 a) (.int .u64 s) = some (.int .u32 (a / 2 ^ s : Nat)) := by
  have e : binA tk .shr (.int .u32 a) (.int .u64 s) = shiftA false .u32 a s := by cases tk <;> rfl
  have e3 : IntKind.bits .u32 = 32 := rfl
  rw [e, shiftA, if_neg (by omega), if_neg (by decide), e3, Int.toNat_natCast, Nat.min_eq_left (by omega), Int.fdiv_eq_ediv_of_nonneg _ (by exact Int.le_of_lt (Int.pow_pos (by omega)))]
  congr 2
theorem u64_shl {s : Nat} (hs : s < 32) (h : a < 4294967296) : binA tk .shl (.int .u64 a) (.int .u64 s) = some (.int .u64 (a * 2 ^ s : Nat)) := by
  have e : binA tk .shl (.int .u64 a) (.int .u64 s) = shiftA true .u64 a s := by cases tk <;> rfl
  have e3 : IntKind.bits .u64 = 64 := rfl
  have h1 : 2 ^ s ≤ 2 ^ 31 := Nat.pow_le_pow_right (by omega) (by omega)
  have h2 : a * 2 ^ s ≤ a * 2 ^ 31 := Nat.mul_le_mul_left _ h1
  have h3 : (a : Int) * 2 ^ s = ((a * 2 ^ s : Nat) : Int) := by rw [Int.natCast_mul, Int.natCast_pow]; rfl
  rw [e, shiftA, if_neg (by omega), if_pos rfl, e3, Int.toNat_natCast, Nat.min_eq_left (by omega), h3, wrap_u64 (by omega) (by omega)]
theorem or_disj {x y s : Nat} (h : x < 2 ^ s) (hy : y % 2 ^ s = 0) : x ||| y = x + y := by
  have e : y = 2 ^ s * (y / 2 ^ s) := by have := Nat.div_add_mod y (2 ^ s); omega
  rw [e, Nat.or_comm, ← Nat.two_pow_add_eq_or_of_lt h, Nat.add_comm]
theorem u32_or {s : Nat} (h : a < 2 ^ s) (hb : b % 2 ^ s = 0) (hs : a + b < 4294967296) : binA tk .or (.int .u32 a) (.int .u32 b) = some (.int .u32 (a + b : Nat)) := by
  have e : binA tk .or (.int .u32 a) (.int .u32 b) = some (.int .u32 (IntKind.wrap .u32 ((BitVec.ofInt 32 a ||| BitVec.ofInt 32 b).toNat : Nat))) := by cases tk <;> rfl
  have e2 : (BitVec.ofInt 32 (a : Int) ||| BitVec.ofInt 32 (b : Int)).toNat = a + b := by
    rw [BitVec.toNat_or, BitVec.toNat_ofInt, BitVec.toNat_ofInt]
    have h1 : (((a : Nat) : Int) % ((2 ^ 32 : Nat) : Int)).toNat = a := by omega
    have h2 : (((b : Nat) : Int) % ((2 ^ 32 : Nat) : Int)).toNat = b := by omega
    rw [h1, h2, or_disj h hb]
  rw [e, e2, wrap_u32 (by omega) (by omega)]
theorem u32_add : binA tk .add (.int .u32 a) (.int .u32 b) = some (.int .u32 ((a + b) % 4294967296 : Nat)) := by
  rw [binA_add, wrap_u32_eq]; rfl
end

/-! ### Slices of digits -/
theorem index_nv {x : NV} {k : IntKind} {i : Nat} (h : i < x.ds.length) : indexAddrA none x.av (.int k i) = some (.vptr [dg (x.ds.getD i 0)]) := by
  rw [NV.av, indexA_dg (by omega) (by omega)]; simp
theorem index_nv0 {x : NV} {k : IntKind} (h : 0 < x.ds.length) : indexAddrA none x.av (.int k 0) = some (.vptr [dg (x.ds.getD 0 0)]) := index_nv (i := 0) h
theorem len_nv (x : NV) : lenA false x.av = some (.int .i64 x.ds.length) := by simp [NV.av, lenA]
theorem load_v {m : Mem} {x : AV} : loadA none m (.vptr [x]) = some x := rfl

/-! ### Rows in memory -/
def oc (ds : List Nat) : Option Ent := some (.obj false (ds.map dg))
theorem oc_get {m : Mem} {n : Nat} {ds : List Nat} (h : m[n]? = some (oc ds)) : m.obj? n = some (false, ds.map dg) := by
  simp [Mem.obj?, Mem.get, h, oc]
theorem load_at {m : Mem} {n : Nat} {ds : List Nat} {i : Nat} (h : m[n]? = some (oc ds)) (hi : i < ds.length) : loadA none m (.ptr n i) = some (dg (ds.getD i 0)) := by
  simp [loadA, oc_get h, cutSh, List.getD_eq_getElem?_getD, hi]
theorem store_at {m : Mem} {n : Nat} {ds : List Nat} {i v : Nat} (h : m[n]? = some (oc ds)) (hi : i < ds.length) : storeA none m (.ptr n i) (.int .u32 v) = some (m.set n (oc (ds.set i v))) := by
  have h1 : i + 1 ≤ ds.length := hi
  simp only [storeA, oc_get h, Option.bind_some, Sh.size, List.length_map, h1, if_true, shOk, atomOk, AV.cells, oc]
  congr 4
  simp only [putAt, List.length_cons, List.length_nil]
  rw [List.map_set, List.set_eq_take_append_cons_drop]
  simp [hi, dg, List.map_take, List.map_drop]
theorem make_oc {e b : Nat} {m : Mem} {n : Nat} (h' : n * b ≤ 281474976710656) (h2 : n ≤ 9223372036854775807) : makeA none e none (.int .u32 0) b m (.int .i64 n) (.int .i64 n) = some (.arr m.length 0 n none, m ++ [oc (List.replicate n 0)]) := make_obj h' h2
theorem len_arr (nm n : Nat) : lenA false (.arr nm 0 n none) = some (.int .i64 n) := rfl
theorem frz_at {m : Mem} {nm : Nat} {ds : List Nat} (h : m[nm]? = some (oc ds)) : frz m fuelF (.arr nm 0 ds.length none) = some (.lst none false .no (ds.map dg), [nm]) := by
  have h1 : ((ds.map dg).all atomOk) = true := by simp [List.all_map, dg, atomOk]
  show (m.obj? nm).bind _ = _
  rw [oc_get h]
  simp only [Option.bind_some, Sh.size, List.length_map, Nat.zero_add, Nat.mul_one, Nat.le_refl, decide_true, Bool.not_false, Bool.and_self, if_true, List.drop_zero, List.take_of_length_le (by simp : (ds.map dg).length ≤ ds.length)]
  rw [mapF_dg]
  simp only [Option.bind_some, h1, plL_dg, Bool.and_self, if_true, grp]
  rw [List.take_of_length_le (by simp)]
theorem pcall_at {cp : Nat → List AV → Option AV} {m : Mem} {g nm : Nat} {ds : List Nat} (h : m[nm]? = some (oc ds)) : pcall cp none m g [.arr nm 0 ds.length none] = (cp g [(NV.mk false .no ds).av]).map fun v => (v, m.set nm none) := by
  simp only [pcall, mapF, frz_at h, Option.bind_some, kill, Option.isSome_none, Bool.false_and, List.append_nil, List.foldl_cons, List.foldl_nil]
  rfl
end Go.Ab
