/- What the functions of nat compute, in values. -/
import Derived.Test.YtlapgjmmlbnehaaAYtSn
import Derived.Test.YtlapgjmmlbnehaaAAbDiv
set_option linter.unusedVariables false
set_option maxRecDepth 100000
set_option linter.unusedSimpArgs false
namespace Go.Ab
open Go.Proofs.Try

/-- A number that a slice may hold. -/
structure NOk (x : NV) : Prop where
  dg : Dg x.ds
  len : x.ds.length < 2 ^ 40
  nil : x.z = true → x.ds = []
def NV.v (x : NV) : Nat := val x.ds
theorem NOk.fr {x : NV} (h : NOk x) : NOk x.fr := ⟨h.dg, h.len, h.nil⟩
theorem V124 {x : NV} (h : NOk x) : AP cfg 124 [x.av] = some (NV.av ⟨x.z, .no, digs x.v⟩) := by
  rw [P124 x (by have := h.len; omega), tr_eq h.dg]; rfl
theorem V109 {x y : NV} (hx : NOk x) (hy : NOk y) : AP cfg 109 [x.av, y.av] = some (.int .i64 (cmpV x.v y.v)) := by
  rw [P109 x y (by have := hx.len; omega) (by have := hy.len; omega), cmpL_tr hx.dg hy.dg]; rfl
def ownD (n : Nat) : Own := if n = 0 then .full else .no
theorem cloneV_digs (z : Bool) (o : Own) (n : Nat) : cloneV ⟨z, o, digs n⟩ = ⟨z, ownD n, digs n⟩ := by
  unfold cloneV ownD
  simp only [val_pos_digs]
theorem V123 {z : Bool} {o : Own} {n : Nat} (h : NOk ⟨z, o, digs n⟩) : AP cfg 123 [NV.av ⟨z, o, digs n⟩] = some (NV.av ⟨z, ownD n, digs n⟩) := by
  rw [P123 _ h.nil h.len, cloneV_digs]
theorem ofL_eq {n : Nat} (h : n < 18446744073709551616) : ofL n = digs n := by
  rw [ofL, tr_eq (dg_cons.2 ⟨Nat.mod_lt _ (by omega), dg_one (by omega)⟩)]
  congr 1
  simp only [val]
  omega
theorem V93 {n : Nat} (h : n < 18446744073709551616) : AP cfg 93 [.int .u64 n] = some (NV.av ⟨false, ownD n, digs n⟩) := by
  rw [P93 n h, ofL_eq h, cloneV_digs]
/-- The last digit is not 0. -/
def canB (ds : List Nat) : Bool := decide (ds = digs (val ds))
theorem tr_getD {ds : List Nat} (h : ds.length ≠ 0) (h' : ds.getD (ds.length - 1) 0 ≠ 0) : tr ds = ds := by
  obtain ⟨n, hn⟩ : ∃ n, ds.length = n + 1 := ⟨ds.length - 1, by omega⟩
  rw [hn, Nat.add_sub_cancel] at h'
  rw [tr, hn, trN, if_neg h', ← hn, List.take_length]
theorem rightL_eq {ds : List Nat} (h : Dg ds) : rightL ds = canB ds := by
  unfold rightL canB
  rw [← tr_eq h]
  by_cases h0 : ds.length = 0
  · have : ds = [] := List.length_eq_zero_iff.1 h0
    subst this
    rfl
  · by_cases h1 : ds.getD (ds.length - 1) 0 = 0
    · have hlt : (tr ds).length < ds.length := by
        obtain ⟨n, hn⟩ : ∃ n, ds.length = n + 1 := ⟨ds.length - 1, by omega⟩
        rw [hn, Nat.add_sub_cancel] at h1
        have := trN_le ds n
        rw [tr, List.length_take, hn, trN, if_pos h1]
        omega
      have hne : ¬ ds = tr ds := fun e => by rw [← e] at hlt; omega
      rw [decide_eq_false h0, decide_eq_false hne, h1]; rfl
    · have := tr_getD h0 h1
      rw [decide_eq_true this.symm, decide_eq_true h1, Bool.or_true]
theorem V94 {x : NV} (h : NOk x) : AP cfg 94 [x.av] = some (.bool (canB x.ds)) := by
  rw [P94 x h.len, rightL_eq h.dg]
def smallV (n : Nat) : AV := if n < 18446744073709551616 then .tup [.int .u64 n, .bool true] else .tup [.int .u64 0, .bool false]
theorem smallL_eq (n : Nat) : smallL (digs n) = smallV n := by
  have hv := val_digs n
  have hd := dg_digs n
  unfold smallV
  generalize he : digs n = l at *
  match l, hv, hd with
  | [], hv, _ =>
    simp only [val] at hv
    subst hv
    rfl
  | [d], hv, hd =>
    have := (dg_cons.1 hd).1
    simp only [val] at hv
    rw [if_pos (by omega), smallL, ← hv]
    rfl
  | [d, e], hv, hd =>
    have := (dg_cons.1 hd).1
    have := (dg_cons.1 (dg_cons.1 hd).2).1
    simp only [val] at hv
    rw [if_pos (by omega), smallL, ← hv]
    congr 4
    omega
  | d :: e :: f :: l, hv, hd =>
    have hl : 2 < (digs n).length := by rw [he]; simp
    have := digs_length_pos hl
    rw [if_neg (by omega), smallL]
    · intro h; cases h
    · intro x h; cases h
    · intro x y h; cases h
theorem V95 {x : NV} (h : NOk x) : AP cfg 95 [x.av] = some (smallV x.v) := by
  rw [P95 x h.len h.dg, tr_eq h.dg, smallL_eq]; rfl

theorem fza_lst (sh : Sh) (z : Bool) (o : Own) (es : List AV) : ∀ m k, frz m (k + 1) (.lst sh z o es) = some (.lst sh z o.fr es, []) := by
  intro m k
  cases o <;> rfl
theorem fza_int (k : IntKind) (n : Int) : ∀ m j, frz m (j + 1) (.int k n) = some (.int k n, []) := fun _ _ => rfl
theorem fza_bool (b : Bool) : ∀ m j, frz m (j + 1) (.bool b) = some (.bool b, []) := fun _ _ => rfl
theorem fz_tup2 {a a' b b' : AV} (ha : ∀ m k, frz m (k + 1) a = some (a', [])) (hb : ∀ m k, frz m (k + 1) b = some (b', [])) : Fz (.tup [a, b]) (.tup [a', b']) := by
  intro m
  show (mapF (frz m 8) [a, b]).map _ = _
  simp [mapF, ha m 7, hb m 7]
theorem fz_tup3 {a a' b b' c c' : AV} (ha : ∀ m k, frz m (k + 1) a = some (a', [])) (hb : ∀ m k, frz m (k + 1) b = some (b', [])) (hc : ∀ m k, frz m (k + 1) c = some (c', [])) : Fz (.tup [a, b, c]) (.tup [a', b', c']) := by
  intro m
  show (mapF (frz m 8) [a, b, c]).map _ = _
  simp [mapF, ha m 7, hb m 7, hc m 7]

theorem AP_ofz {C : Cfg} {f : Nat} {args : List AV} {m : Mem} (v v' : AV) (hf : Fz v v') (hv : noV v' = true) (h : AC C f args [] = some (v, m)) : AP C f args = some v' :=
  AP_of h (hf m) (by rw [hv, Bool.or_true])
theorem fza_nv (x : NV) : ∀ m k, frz m (k + 1) x.av = some (x.fr.av, []) := fza_lst _ _ _ _
theorem fza_nil : ∀ m k, frz m (k + 1) (.lst none true .full []) = some (.lst none true .full [], []) := fza_lst _ _ _ _

/-! ### Sub -/
def nilN : AV := .lst none true .full []
/-! ### short -/
theorem L136 (x : NV) (d : Nat) (m : Mem) (K : Ex → St → Option (AV × Mem)) (hl : x.ds.length < 2 ^ 40) (dx : Dg x.ds) (hd : 0 < d) (hd' : d < 4294967296) : ∀ j k : Nat, k + j = x.ds.length →
    L136_4 x.av (dg d) (.arr m.length 0 x.ds.length none) (.int .u64 (shS x.ds d k).2) (.int .i64 ((j : Int) - 1)) (m ++ [oc (shS x.ds d k).1]) K
      = K (.exit 0) (O136_4 (.arr m.length 0 x.ds.length none) (.int .u64 (shS x.ds d x.ds.length).2) (m ++ [oc (shS x.ds d x.ds.length).1])) := by
  intro j
  induction j with
  | zero =>
    intro k hk
    have : k = x.ds.length := by omega
    subst this
    rw [L136_4_eq]
    simp [binA_geq, ifA]
  | succ j ih =>
    intro k hk
    have ih := ih (k + 1) (by omega)
    have hr := shS_rest (a := x.ds) hd k
    have hq := shS_quo (a := x.ds) dx hd k j
    have hlen := shS_length x.ds d k
    have hj := dx j
    have ej : x.ds.length - 1 - k = j := by omega
    rw [L136_4_eq, show ((j + 1 : Nat) : Int) - 1 = (j : Nat) by omega]
    simp only [shS, ej] at ih
    generalize shS x.ds d k = t at *
    simp (disch := omega) only [n_geq0, Option.bind_some, ifA, u_shl32, index_nv, load_v, c_dg, u_orlo, u_quo, u_rem, c_dn]
    rw [index_arr (by omega), Option.bind_some, Nat.mod_eq_of_lt hq, store_at (List.getElem?_concat_length ..) (by omega)]
    simp (disch := omega) only [Option.bind_some, i_sub1z]
    rw [List.set_append_right _ _ (Nat.le_refl _)]
    simp only [Nat.sub_self, List.set_cons_zero]
    exact ih
theorem V136 {x : NV} {d : Nat} (hx : NOk x) (hd : 0 < d) (hd' : d < 4294967296) : AP cfg 136 [x.av, dg d] = some (.tup [NV.av ⟨false, .no, digs (x.v / d)⟩, dg (x.v % d)]) := by
  have lx := hx.len
  obtain ⟨k1, k2⟩ := short_eq hx.dg hd
  have hlt : val x.ds % d < d := Nat.mod_lt _ hd
  refine AP_ofz _ _ (fz_tup2 (fza_nv ⟨false, .no, digs (x.v / d)⟩) (fza_int _ _)) rfl (m := [none]) ?_
  rw [T136]
  simp only [len_nv, Option.bind_some]
  rw [make_oc (by omega) (by omega)]
  simp only [Option.bind_some]
  rw [i_sub1z (by omega)]
  simp only [Option.bind_some]
  have := L136 x d [] (K136_4 (finK cfg.P f136.results.toList)) lx hx.dg hd hd' x.ds.length 0 (by omega)
  refine this.trans ?_
  rw [K136_4_x0]
  have hm : (([] : Mem) ++ [oc (shS x.ds d x.ds.length).1])[0]? = some (oc (shS x.ds d x.ds.length).1) := rfl
  have hp := pcall_at (cp := AP cfg) (g := 124) hm
  rw [shS_length] at hp
  rw [shortL, tr_eq (shS_dg hx.dg hd _)] at k1
  rw [show ([] : Mem).length = 0 from rfl, hp, V124 ⟨shS_dg hx.dg hd _, by simp only [shS_length]; exact lx, by simp⟩, k2]
  simp only [Option.map_some, Option.bind_some, NV.v, c_dn]
  rw [k1, Nat.mod_eq_of_lt (Nat.lt_trans hlt hd')]
  rfl

/-! ### shifted -/
theorem L138 (x : NV) (s : Nat) (m : Mem) (K : Ex → St → Option (AV × Mem)) (hl : x.ds.length < 2 ^ 40) (dx : Dg x.ds) (hs : s < 32) : ∀ j i : Nat, i + j = x.ds.length →
    L138_3 (.int .u64 s) (.arr m.length 0 (x.ds.length + 1) none) x.av (.int .i64 x.ds.length) (.int .i64 i) (m ++ [oc (sfS x.ds s i)]) K
      = K (.exit 0) (O138_3 (.arr m.length 0 (x.ds.length + 1) none) (m ++ [oc (sfS x.ds s x.ds.length)])) := by
  intro j
  induction j with
  | zero =>
    intro i hi
    have : i = x.ds.length := by omega
    subst this
    rw [L138_3_eq]
    simp [binA_lss, ifA]
  | succ j ih =>
    intro i hi
    have ih := ih (i + 1) (by omega)
    have hlen := sfS_length x.ds s i
    have hd := dx i
    have h1 := sfS_top (s := s) dx i (by omega)
    have h2 := lo_le (x := x.ds.getD i 0) hs
    have h3 := hi_lt (x := x.ds.getD i 0) (s := s) hd
    have h4 : 2 ^ s ≤ 2 ^ 31 := Nat.pow_le_pow_right (by omega) (by omega)
    have h6 : x.ds.getD i 0 * 2 ^ s % 4294967296 % 2 ^ s = 0 := by
      rw [← pow_split hs, Nat.mul_comm (2 ^ s), Nat.mul_mod_mul_right, Nat.mul_mod_left]
    rw [L138_3_eq]
    simp only [sfS] at ih
    generalize sfS x.ds s i = t at *
    simp (disch := omega) only [n_lss, Option.bind_some, ifA_dec, if_pos, index_nv, load_v, index_arr]
    rw [load_at (List.getElem?_concat_length ..) (by omega)]
    simp only [dg, Option.bind_some]
    rw [u32_shl hs hd, Option.bind_some, u32_or h1 h6 (by omega), Option.bind_some, store_at (List.getElem?_concat_length ..) (by omega)]
    simp (disch := omega) only [Option.bind_some, i_add1, c_up, u64_shl hs, u_shr32, c_dn, index_arr]
    rw [List.set_append_right _ _ (Nat.le_refl _)]
    simp only [Nat.sub_self, List.set_cons_zero]
    rw [store_at (List.getElem?_concat_length ..) (by rw [List.length_set]; omega), List.set_append_right _ _ (Nat.le_refl _)]
    simp only [Nat.sub_self, List.set_cons_zero, Option.bind_some]
    rw [Nat.mod_eq_of_lt (by omega : x.ds.getD i 0 * 2 ^ s / 4294967296 < 4294967296)]
    exact ih
theorem V138 {x : NV} {s : Nat} (m : Mem) (hx : NOk x) (hs : s < 32) : AC cfg 138 [x.av, .int .u64 s] m = some (.arr m.length 0 (x.ds.length + 1) none, m ++ [oc (sfS x.ds s x.ds.length)]) := by
  have lx := hx.len
  rw [T138]
  simp only [len_nv, Option.bind_some]
  rw [i_add1 (by omega), Option.bind_some, make_oc (by omega) (by omega)]
  simp only [Option.bind_some]
  refine (L138 x s m _ lx hx.dg hs x.ds.length 0 (by omega)).trans ?_
  rw [K138_3_x0]

/-! ### LeadingZeros32 -/
def lz (x : Nat) : Nat := 31 - Nat.log2 x
theorem log2_eq {x k : Nat} (h : 2 ^ k ≤ x) (h' : x < 2 ^ (k + 1)) : Nat.log2 x = k := by
  have hx : x ≠ 0 := by have := Nat.two_pow_pos k; omega
  exact (Nat.log2_eq_iff hx).2 ⟨h, h'⟩
def len8t : ByteArray := ⟨⟨[0, 1, 2, 2, 3, 3, 3, 3, 4, 4, 4, 4, 4, 4, 4, 4, 5, 5, 5, 5, 5, 5, 5, 5, 5, 5, 5, 5, 5, 5, 5, 5, 6, 6, 6, 6, 6, 6, 6, 6, 6, 6, 6, 6, 6, 6, 6, 6, 6, 6, 6, 6, 6, 6, 6, 6, 6, 6, 6, 6, 6, 6, 6, 6, 7, 7, 7, 7, 7, 7, 7, 7, 7, 7, 7, 7, 7, 7, 7, 7, 7, 7, 7, 7, 7, 7, 7, 7, 7, 7, 7, 7, 7, 7, 7, 7, 7, 7, 7, 7, 7, 7, 7, 7, 7, 7, 7, 7, 7, 7, 7, 7, 7, 7, 7, 7, 7, 7, 7, 7, 7, 7, 7, 7, 7, 7, 7, 7, 8, 8, 8, 8, 8, 8, 8, 8, 8, 8, 8, 8, 8, 8, 8, 8, 8, 8, 8, 8, 8, 8, 8, 8, 8, 8, 8, 8, 8, 8, 8, 8, 8, 8, 8, 8, 8, 8, 8, 8, 8, 8, 8, 8, 8, 8, 8, 8, 8, 8, 8, 8, 8, 8, 8, 8, 8, 8, 8, 8, 8, 8, 8, 8, 8, 8, 8, 8, 8, 8, 8, 8, 8, 8, 8, 8, 8, 8, 8, 8, 8, 8, 8, 8, 8, 8, 8, 8, 8, 8, 8, 8, 8, 8, 8, 8, 8, 8, 8, 8, 8, 8, 8, 8, 8, 8, 8, 8, 8, 8, 8, 8, 8, 8, 8, 8, 8, 8, 8, 8, 8, 8, 8, 8, 8, 8, 8, 8]⟩⟩
theorem len8t_eq (v : AV) : indexStrA (.str ⟨⟨[0, 1, 2, 2, 3, 3, 3, 3, 4, 4, 4, 4, 4, 4, 4, 4, 5, 5, 5, 5, 5, 5, 5, 5, 5, 5, 5, 5, 5, 5, 5, 5, 6, 6, 6, 6, 6, 6, 6, 6, 6, 6, 6, 6, 6, 6, 6, 6, 6, 6, 6, 6, 6, 6, 6, 6, 6, 6, 6, 6, 6, 6, 6, 6, 7, 7, 7, 7, 7, 7, 7, 7, 7, 7, 7, 7, 7, 7, 7, 7, 7, 7, 7, 7, 7, 7, 7, 7, 7, 7, 7, 7, 7, 7, 7, 7, 7, 7, 7, 7, 7, 7, 7, 7, 7, 7, 7, 7, 7, 7, 7, 7, 7, 7, 7, 7, 7, 7, 7, 7, 7, 7, 7, 7, 7, 7, 7, 7, 8, 8, 8, 8, 8, 8, 8, 8, 8, 8, 8, 8, 8, 8, 8, 8, 8, 8, 8, 8, 8, 8, 8, 8, 8, 8, 8, 8, 8, 8, 8, 8, 8, 8, 8, 8, 8, 8, 8, 8, 8, 8, 8, 8, 8, 8, 8, 8, 8, 8, 8, 8, 8, 8, 8, 8, 8, 8, 8, 8, 8, 8, 8, 8, 8, 8, 8, 8, 8, 8, 8, 8, 8, 8, 8, 8, 8, 8, 8, 8, 8, 8, 8, 8, 8, 8, 8, 8, 8, 8, 8, 8, 8, 8, 8, 8, 8, 8, 8, 8, 8, 8, 8, 8, 8, 8, 8, 8, 8, 8, 8, 8, 8, 8, 8, 8, 8, 8, 8, 8, 8, 8, 8, 8, 8, 8, 8, 8]⟩⟩) v = indexStrA (.str len8t) v := rfl
theorem len8_all : ∀ x : Fin 256, (len8t[x.1]?).map (fun b => b.toNat) = some (if x.1 = 0 then 0 else Nat.log2 x.1 + 1) := by decide +kernel
theorem len8 {x : Nat} (h : 0 < x) (h' : x < 256) : indexStrA (.str len8t) (.int .u8 x) = some (.int .u8 (Nat.log2 x + 1 : Nat)) := by
  have := len8_all ⟨x, h'⟩
  simp only [if_neg (Nat.pos_iff_ne_zero.1 h)] at this
  rw [indexStrA, if_pos (by omega), Int.toNat_natCast]
  cases he : len8t[x]? with
  | none => rw [he] at this; cases this
  | some b =>
    rw [he] at this
    simp only [Option.map_some, Option.some.injEq] at this ⊢
    rw [this]
theorem c_u8 {a : Nat} {k : IntKind} (h : a < 256) : convA .u8 (.int k a) = some (.int .u8 a) := by
  rw [convA_int, show IntKind.wrap .u8 (a : Int) = (a : Int) % 256 from rfl, Int.emod_eq_of_lt (by omega) (by omega)]
theorem c_i64 {a : Nat} {k : IntKind} (h : a < 9223372036854775808) : convA .i64 (.int k a) = some (.int .i64 a) := by
  rw [convA_int, wrap_i64 (by omega) (by omega)]
theorem log2_shr {x k : Nat} (h : 2 ^ k ≤ x) : Nat.log2 x = Nat.log2 (x / 2 ^ k) + k := by
  have hp := Nat.two_pow_pos k
  have hy : x / 2 ^ k ≠ 0 := by
    have : 0 < x / 2 ^ k := Nat.div_pos h hp
    omega
  have h1 := Nat.log2_self_le hy
  have h2 := Nat.lt_log2_self (n := x / 2 ^ k)
  apply log2_eq
  · rw [Nat.pow_add]
    exact (Nat.le_div_iff_mul_le hp).1 h1
  · rw [show Nat.log2 (x / 2 ^ k) + k + 1 = Nat.log2 (x / 2 ^ k) + 1 + k by omega, Nat.pow_add]
    exact (Nat.div_lt_iff_lt_mul hp).1 h2
theorem u32_shr16 {tk : TK} {a : Nat} : binA tk .shr (.int .u32 a) (.int .u64 16) = some (.int .u32 (a / 65536 : Nat)) := u32_shr (s := 16) (by omega)
theorem u32_shr8 {tk : TK} {a : Nat} : binA tk .shr (.int .u32 a) (.int .u64 8) = some (.int .u32 (a / 256 : Nat)) := u32_shr (s := 8) (by omega)
theorem log2_lt_8 {x : Nat} (h : x < 256) : Nat.log2 x < 8 := by
  by_cases h0 : x = 0
  · subst h0; decide
  · exact (Nat.log2_lt h0).2 h
theorem T140' {x : Nat} (m : Mem) (h : 0 < x) (h' : x < 4294967296) : AC cfg 140 [dg x] m = some (.int .i64 (Nat.log2 x + 1 : Nat), m) := by
  have g1 : binA .other .geq (dg x) (.int .u32 65536) = some (.bool (decide (x ≥ 65536))) := n_geq (b := 65536)
  have g2 : ∀ y : Nat, binA .other .geq (.int .u32 y) (.int .u32 256) = some (.bool (decide (y ≥ 256))) := fun y => n_geq (b := 256)
  have g3 : binA .other .geq (dg x) (.int .u32 256) = some (.bool (decide (x ≥ 256))) := n_geq (b := 256)
  have a1 : binA .other .add (.int .i64 16) (.int .i64 8) = some (.int .i64 24) := rfl
  have a2 : binA .other .add (.int .i64 0) (.int .i64 8) = some (.int .i64 8) := rfl
  have b1 : ∀ y : Nat, y < 300 → binA .other .add (.int .i64 24) (.int .i64 y) = some (.int .i64 (24 + y : Nat)) := fun y h => i_add (a := 24) (by omega)
  have b2 : ∀ y : Nat, y < 300 → binA .other .add (.int .i64 16) (.int .i64 y) = some (.int .i64 (16 + y : Nat)) := fun y h => i_add (a := 16) (by omega)
  have b3 : ∀ y : Nat, y < 300 → binA .other .add (.int .i64 8) (.int .i64 y) = some (.int .i64 (8 + y : Nat)) := fun y h => i_add (a := 8) (by omega)
  have b4 : ∀ y : Nat, y < 300 → binA .other .add (.int .i64 0) (.int .i64 y) = some (.int .i64 (0 + y : Nat)) := fun y h => i_add (a := 0) (by omega)
  have s1 : binA .other .shr (dg x) (.int .u64 16) = some (.int .u32 (x / 65536 : Nat)) := u32_shr16
  have s2 : binA .other .shr (dg x) (.int .u64 8) = some (.int .u32 (x / 256 : Nat)) := u32_shr8
  have k0 : convA .u8 (dg x) = if x < 256 then some (.int .u8 x) else convA .u8 (dg x) := by
    split
    · rename_i h; exact c_u8 h
    · rfl
  rw [T140]
  simp only [len8t_eq, g1, g2, g3, a1, a2, s1, s2, Option.bind_some, ifA_dec, u32_shr8]
  by_cases c1 : x ≥ 65536
  · rw [if_pos c1]
    have e1 := log2_shr (x := x) (k := 16) (by omega)
    rw [show 2 ^ 16 = 65536 from rfl] at e1
    by_cases c2 : x / 65536 ≥ 256
    · rw [if_pos c2]
      have e2 := log2_shr (x := x / 65536) (k := 8) (by omega)
      rw [show 2 ^ 8 = 256 from rfl] at e2
      have l8 := log2_lt_8 (x := x / 65536 / 256) (by omega)
      rw [c_u8 (by omega), Option.bind_some, len8 (by omega) (by omega), Option.bind_some, c_i64 (by omega), Option.bind_some, b1 _ (by omega), Option.bind_some]
      congr 4
      omega
    · rw [if_neg c2]
      have l8 := log2_lt_8 (x := x / 65536) (by omega)
      rw [c_u8 (by omega), Option.bind_some, len8 (by omega) (by omega), Option.bind_some, c_i64 (by omega), Option.bind_some, b2 _ (by omega), Option.bind_some]
      congr 4
      omega
  · rw [if_neg c1]
    by_cases c2 : x ≥ 256
    · rw [if_pos c2]
      have e2 := log2_shr (x := x) (k := 8) (by omega)
      rw [show 2 ^ 8 = 256 from rfl] at e2
      have l8 := log2_lt_8 (x := x / 256) (by omega)
      rw [c_u8 (by omega), Option.bind_some, len8 (by omega) (by omega), Option.bind_some, c_i64 (by omega), Option.bind_some, b3 _ (by omega), Option.bind_some]
      congr 4
      omega
    · rw [if_neg c2]
      have l8 := log2_lt_8 (x := x) (by omega)
      rw [k0, if_pos (by omega), Option.bind_some, len8 (by omega) (by omega), Option.bind_some, c_i64 (by omega), Option.bind_some, b4 _ (by omega), Option.bind_some]
      congr 4
      omega
theorem V140 {x : Nat} (h : 0 < x) (h' : x < 4294967296) : AP cfg 140 [dg x] = some (.int .i64 (Nat.log2 x + 1 : Nat)) :=
  AP_of (T140' [] h h') (fz_int _ _ _) (by simp [noV])
theorem V137 {x : Nat} (h : 0 < x) (h' : x < 4294967296) : AP cfg 137 [dg x] = some (.int .i64 (lz x : Nat)) := by
  have hl : Nat.log2 x < 32 := (Nat.log2_lt (by omega)).2 h'
  refine AP_of (m := []) ?_ (fz_int _ _ _) (by simp [noV])
  rw [T137, pcall1 (a := dg x) (a' := dg x) (fz_int .u32 x), V140 h h']
  simp only [Option.map_some, Option.bind_some]
  have e : binA .other .sub (.int .i64 32) (.int .i64 (Nat.log2 x + 1 : Nat)) = some (.int .i64 (32 - (Nat.log2 x + 1) : Nat)) := i_sub (a := 32) (by omega) (by omega)
  have e2 : 32 - (Nat.log2 x + 1) = lz x := by rw [lz]; omega
  rw [e, e2]
  rfl
end Go.Ab
