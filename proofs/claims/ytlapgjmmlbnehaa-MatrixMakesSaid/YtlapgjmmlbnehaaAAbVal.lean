/- Values of numbers as rows of digits, and what the interpreter's operations do on them. -/
import Derived.Test.YtlapgjmmlbnehaaAAbWS
set_option linter.unusedVariables false
set_option linter.unusedSimpArgs false
namespace Go.Ab

theorem wrap_i64_eq (x : Int) : IntKind.wrap .i64 x = if x % 18446744073709551616 ≥ 9223372036854775808 then x % 18446744073709551616 - 18446744073709551616 else x % 18446744073709551616 := by
  show (if (true && decide (x % 18446744073709551616 ≥ 9223372036854775808)) = true then x % 18446744073709551616 - 18446744073709551616 else x % 18446744073709551616) = _
  simp
theorem wrap_u64_eq (x : Int) : IntKind.wrap .u64 x = x % 18446744073709551616 := by
  rfl
theorem wrap_u32_eq (x : Int) : IntKind.wrap .u32 x = x % 4294967296 := by
  rfl
theorem wrap_i64 {x : Int} (h : -9223372036854775808 ≤ x) (h' : x < 9223372036854775808) : IntKind.wrap .i64 x = x := by
  rw [wrap_i64_eq]; split <;> omega
theorem wrap_u64 {x : Int} (h : 0 ≤ x) (h' : x < 18446744073709551616) : IntKind.wrap .u64 x = x := by
  rw [wrap_u64_eq]; omega
theorem wrap_u32 {x : Int} (h : 0 ≤ x) (h' : x < 4294967296) : IntKind.wrap .u32 x = x := by
  rw [wrap_u32_eq]; omega

/-- A number as it stands in a slice of digits. -/
structure NV where
  z : Bool
  o : Own
  ds : List Nat
def dg (d : Nat) : AV := .int .u32 d
def NV.av (x : NV) : AV := .lst none x.z x.o (x.ds.map dg)

section
variable {R : Type}
theorem binA_gtr (tk : TK) (k : IntKind) (a b : Int) : binA tk .gtr (.int k a) (.int k b) = some (.bool (decide (a > b))) := by cases tk <;> simp [binA, binInt]
theorem binA_lss (tk : TK) (k : IntKind) (a b : Int) : binA tk .lss (.int k a) (.int k b) = some (.bool (decide (a < b))) := by cases tk <;> simp [binA, binInt]
theorem binA_geq (tk : TK) (k : IntKind) (a b : Int) : binA tk .geq (.int k a) (.int k b) = some (.bool (decide (a ≥ b))) := by cases tk <;> simp [binA, binInt]
theorem binA_leq (tk : TK) (k : IntKind) (a b : Int) : binA tk .leq (.int k a) (.int k b) = some (.bool (decide (a ≤ b))) := by cases tk <;> simp [binA, binInt]
theorem binA_eql (tk : TK) (k : IntKind) (a b : Int) : binA tk .eql (.int k a) (.int k b) = some (.bool (decide (a = b))) := by cases tk <;> simp [binA, binInt] <;> rfl
theorem binA_neq (tk : TK) (k : IntKind) (a b : Int) : binA tk .neq (.int k a) (.int k b) = some (.bool (decide (a ≠ b))) := by cases tk <;> simp [binA, binInt] <;> by_cases h : a = b <;> simp [h]
theorem binA_add (tk : TK) (k : IntKind) (a b : Int) : binA tk .add (.int k a) (.int k b) = some (.int k (k.wrap (a + b))) := by cases tk <;> simp [binA, binInt]
theorem binA_sub (tk : TK) (k : IntKind) (a b : Int) : binA tk .sub (.int k a) (.int k b) = some (.int k (k.wrap (a - b))) := by cases tk <;> simp [binA, binInt]
theorem binA_mul (tk : TK) (k : IntKind) (a b : Int) : binA tk .mul (.int k a) (.int k b) = some (.int k (k.wrap (a * b))) := by cases tk <;> simp [binA, binInt]
theorem lenA_lst (sh : Sh) (z : Bool) (o : Own) (es : List AV) : lenA false (.lst sh z o es) = some (.int .i64 es.length) := rfl
theorem ifA_dec (p : Prop) [Decidable p] (x y : Option R) : ifA (.bool (decide p)) x y = if p then x else y := by
  by_cases h : p <;> simp [ifA, h]
theorem indexA_dg {z : Bool} {o : Own} {ds : List Nat} {k : IntKind} {i : Int} (h : 0 ≤ i) (h' : i < ds.length) : indexAddrA none (.lst none z o (ds.map dg)) (.int k i) = some (.vptr [dg (ds.getD i.toNat 0)]) := by
  have hi : i.toNat < ds.length := by omega
  simp [indexAddrA, h, hi, AV.cells, dg, List.getD_eq_getElem?_getD]
theorem loadA_one (m : Mem) (x : AV) : loadA none m (.vptr [x]) = some x := rfl
theorem sliceT_to {z : Bool} {o : Own} {ds : List Nat} {k : IntKind} {i : Int} (h : 0 ≤ i) (h' : i ≤ ds.length) : sliceT none (.lst none z o (ds.map dg)) none (some (.int k i)) none = some (.lst none z .no ((ds.take i.toNat).map dg)) := by
  simp [sliceT, sliceA, boundA, h, h', List.map_take]
end

/-! ### Calls that share nothing -/
def Own.fr : Own → Own
  | .tok .. => .no
  | o => o
def NV.fr (x : NV) : NV := ⟨x.z, x.o.fr, x.ds⟩
/-- The value leaves as the other, and bears no name. -/
def Fz (v v' : AV) : Prop := ∀ m, frz m fuelF v = some (v', [])
theorem fz_nv (x : NV) : Fz x.av x.fr.av := by
  intro m
  obtain ⟨z, o, ds⟩ := x
  cases o <;> rfl
theorem fz_int (k : IntKind) (n : Int) : Fz (.int k n) (.int k n) := fun _ => rfl
theorem fz_bool (b : Bool) : Fz (.bool b) (.bool b) := fun _ => rfl
section
variable {cp : Nat → List AV → Option AV} {d : Option Nat} {m : Mem} {g : Nat}
theorem pcall0 : pcall cp d m g [] = (cp g []).map fun v => (v, m) := by
  simp [pcall, mapF, kill]
theorem pcall1 {a a' : AV} (ha : Fz a a') : pcall cp d m g [a] = (cp g [a']).map fun v => (v, m) := by
  simp [pcall, mapF, kill, ha m]
theorem pcall2 {a a' b b' : AV} (ha : Fz a a') (hb : Fz b b') : pcall cp d m g [a, b] = (cp g [a', b']).map fun v => (v, m) := by
  simp [pcall, mapF, kill, ha m, hb m]
theorem pcall3 {a a' b b' c c' : AV} (ha : Fz a a') (hb : Fz b b') (hc : Fz c c') : pcall cp d m g [a, b, c] = (cp g [a', b', c']).map fun v => (v, m) := by
  simp [pcall, mapF, kill, ha m, hb m, hc m]
theorem pcall4 {a a' b b' c c' e e' : AV} (ha : Fz a a') (hb : Fz b b') (hc : Fz c c') (he : Fz e e') : pcall cp d m g [a, b, c, e] = (cp g [a', b', c', e']).map fun v => (v, m) := by
  simp [pcall, mapF, kill, ha m, hb m, hc m, he m]
end
theorem AP_of {C : Cfg} {f : Nat} {args : List AV} {v v' : AV} {m : Mem} {l : List Nat} (h : AC C f args [] = some (v, m)) (hf : frz m fuelF v = some (v', l)) (hv : (noVL args || noV v') = true) : AP C f args = some v' := by
  unfold AP acallP
  rw [h]
  simp only [Option.bind_some, hf, if_pos hv]
theorem noV_nv (x : NV) : noV x.av = true := rfl

/-! ### A row that is appended to, last in memory -/
def tokM (m : Mem) (n : Nat) : Mem := m ++ [some (.tok n 1)]
theorem app_tok {e b : Nat} {m : Mem} {es : List AV} {z : Bool} {o : Own} {y : AV} (h : (es.length + 1) * b ≤ roomA) : appA none false e none b (tokM m es.length) (.lst none false (.tok m.length e) es) (.lst none z o [y]) = some (.lst none false (.tok m.length e) (es ++ [y]), tokM m (es.length + 1)) := by
  simp [appA, tokM, Mem.get, Sh.size, h]
theorem convA_int (k k' : IntKind) (n : Int) : convA k (.int k' n) = some (.int k (k.wrap n)) := rfl
theorem binA_shr (tk : TK) (k k' : IntKind) (a b : Int) (h : 0 ≤ b) : binA tk .shr (.int k a) (.int k' b) = some (.int k (a.fdiv (2 ^ (min b.toNat k.bits)))) := by
  have : ¬ b < 0 := by omega
  cases tk <;> simp [binA, shiftA, this]
theorem binA_shr32 (tk : TK) (k' : IntKind) (a : Int) (h : 0 ≤ a) : binA tk .shr (.int .u64 a) (.int k' 32) = some (.int .u64 (a / 4294967296)) := by
  rw [binA_shr tk .u64 k' a 32 (by omega)]
  show some (AV.int .u64 (a.fdiv 4294967296)) = _
  rw [Int.fdiv_eq_ediv_of_nonneg _ (by omega)]

/-! ### A row that is written to, last in memory -/
def objM (m : Mem) (ds : List Nat) : Mem := m ++ [some (.obj false (ds.map dg))]
theorem make_obj {e b : Nat} {m : Mem} {n : Nat} (h' : n * b ≤ 281474976710656) (h2 : n ≤ 9223372036854775807) : makeA none e none (.int .u32 0) b m (.int .i64 n) (.int .i64 n) = some (.arr m.length 0 n none, objM m (List.replicate n 0)) := by
  have h3 : (n : Int) * b ≤ 281474976710656 := by
    have := Int.ofNat_le.2 h'
    rw [Int.natCast_mul] at this
    exact this
  have h4 : (n : Int) ≤ 9223372036854775807 := by omega
  have h5 : (0 : Int) ≤ n := by omega
  simp only [makeA, h3, h4, h5, newAt, objM, zeros, Int.le_refl, and_self, if_true, Int.toNat_natCast, List.map_replicate]
  rfl
theorem index_arr {nm n : Nat} {k : IntKind} {i : Nat} (h : i < n) : indexAddrA none (.arr nm 0 n none) (.int k i) = some (.ptr nm i) := by
  have : (i : Int) < n := by omega
  simp [indexAddrA, this, Sh.size]
theorem mapF_dg (m : Mem) (k : Nat) : ∀ ds : List Nat, mapF (frz m (k + 1)) (ds.map dg) = some (ds.map dg, [])
  | [] => rfl
  | d :: ds => by
    have : frz m (k + 1) (dg d) = some (dg d, []) := rfl
    simp [mapF, this, mapF_dg m k ds]
theorem plL_dg : ∀ ds : List Nat, plL (ds.map dg) = true
  | [] => rfl
  | d :: ds => by
    have : pl (dg d) = true := rfl
    simp [plL, this, plL_dg ds]
theorem binA_shl32 (tk : TK) (k' : IntKind) (a : Nat) (h : a < 4294967296) : binA tk .shl (.int .u64 a) (.int k' 32) = some (.int .u64 (a * 4294967296 : Nat)) := by
  have e : binA tk .shl (.int .u64 a) (.int k' 32) = some (.int .u64 (IntKind.wrap .u64 ((a : Int) * 4294967296))) := by cases tk <;> rfl
  rw [e, wrap_u64 (by omega) (by omega)]
  rfl
theorem binA_or (tk : TK) (lo hi : Nat) (h : lo < 4294967296) (h' : hi < 4294967296) : binA tk .or (.int .u64 lo) (.int .u64 (hi * 4294967296 : Nat)) = some (.int .u64 (lo + hi * 4294967296 : Nat)) := by
  have e : binA tk .or (.int .u64 lo) (.int .u64 (hi * 4294967296 : Nat)) = some (.int .u64 (IntKind.wrap .u64 ((BitVec.ofInt 64 lo ||| BitVec.ofInt 64 (hi * 4294967296 : Nat)).toNat : Nat))) := by cases tk <;> rfl
  have e2 : (BitVec.ofInt 64 (lo : Int) ||| BitVec.ofInt 64 ((hi * 4294967296 : Nat) : Int)).toNat = lo + hi * 4294967296 := by
    rw [BitVec.toNat_or, BitVec.toNat_ofInt, BitVec.toNat_ofInt]
    have h1 : (((lo : Nat) : Int) % ((2 ^ 64 : Nat) : Int)).toNat = lo := by omega
    have h2 : (((hi * 4294967296 : Nat) : Int) % ((2 ^ 64 : Nat) : Int)).toNat = hi * 4294967296 := by omega
    rw [h1, h2, Nat.or_comm]
    have := Nat.two_pow_add_eq_or_of_lt (i := 32) (b := lo) (by omega) hi
    rw [show hi * 4294967296 = 2 ^ 32 * hi by omega, ← this]
    omega
  rw [e, e2, wrap_u64 (by omega) (by omega)]
end Go.Ab
