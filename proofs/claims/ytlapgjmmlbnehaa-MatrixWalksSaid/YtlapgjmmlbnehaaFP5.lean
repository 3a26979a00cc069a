/- How long the fractions of a power can be. -/
import Derived.Test.YtlapgjmmlbnehaaFP4
import Derived.Test.YtlapgjmmlbnehaaFP1
import Derived.RangeFuncLeaves
import Derived.Test.YtlapgjmmlbnehaaFP2
import Derived.RangeFuncFrom
import Derived.ProofKit
import Derived.OpenShut
import Derived.ChangeArms
import Derived.KernelRfl
import Derived.Shelf.Abstract
set_option linter.unusedVariables false
set_option linter.unusedSimpArgs false
set_option maxRecDepth 100000
namespace Go.Ab
open Go.Proofs.Try

theorem lt_of_digs {n k : Nat} (h : (digs n).length ≤ k) : n < 4294967296 ^ k := by
  have h1 := val_lt (dg_digs n)
  rw [val_digs] at h1
  exact Nat.lt_of_lt_of_le h1 (Nat.pow_le_pow_right (by omega) h)
theorem Ud.scale {D M d : Nat} {q : Rat} (h : Ud D M q) (hd : d ≠ 0) : Ud (D * d) (M * d) q := by
  obtain ⟨z, h1, rfl⟩ := h
  refine ⟨z * d, ?_, ?_⟩
  · rw [Int.natAbs_mul, Int.natAbs_natCast]
    exact Nat.mul_le_mul_right _ h1
  · rw [Rat.mkRat_mul_right hd]
theorem comm_den {k : Nat} (f : Nat → Rat) : ∀ L : Nat, (∀ p, p < L → Bd k (f p)) → ∃ D, D ≠ 0 ∧ D ≤ 4294967296 ^ (k * L) ∧ ∀ p, p < L → Ud D (4294967296 ^ (k * L)) (f p)
  | 0, _ => ⟨1, by omega, by rw [Nat.mul_zero, Nat.pow_zero]; exact Nat.le_refl _, fun p hp => by omega⟩
  | L + 1, h => by
    obtain ⟨D, d0, d1, d2⟩ := comm_den f L (fun p hp => h p (by omega))
    obtain ⟨b1, b2⟩ := h L (by omega)
    have n1 := Nat.le_of_lt (lt_of_digs b1)
    have n2 := Nat.le_of_lt (lt_of_digs b2)
    have e : 4294967296 ^ (k * (L + 1)) = 4294967296 ^ (k * L) * 4294967296 ^ k := by rw [Nat.mul_succ, Nat.pow_add]
    have hd : (f L).den ≠ 0 := (f L).den_nz
    refine ⟨D * (f L).den, Nat.mul_ne_zero d0 hd, by rw [e]; exact Nat.mul_le_mul d1 n2, fun p hp => ?_⟩
    rw [e]
    by_cases hpL : p < L
    · exact ((d2 p hpL).scale hd).mono (Nat.mul_le_mul_left _ n2)
    · obtain rfl : p = L := by omega
      have hs : Ud (f p).den (f p).num.natAbs (f p) := ⟨(f p).num, Nat.le_refl _, (Rat.mkRat_self (f p)).symm⟩
      have := hs.scale d0
      rw [Nat.mul_comm (f p).den D] at this
      refine this.mono ?_
      rw [Nat.mul_comm]
      exact Nat.mul_le_mul d1 n1
theorem powB_gen {x : MV} {k n N : Nat} (hx : LOk k x.lv) (hk : 1 ≤ k) (hn : n ≤ 60) (hN : N ≤ 200) (hk3 : k ≤ 1000) : PowB (2 ^ 30) n (ent x n) N := by
  by_cases h0 : n = 0
  · intro a b i j l _ hi
    omega
  have hL : n * n ≤ 3600 := Nat.mul_le_mul hn hn
  obtain ⟨D, d0, d1, d2⟩ := comm_den (k := k) (fun p => qAt x p) (n * n) (fun p _ => qAt_bd hx hk)
  have hkL : k * (n * n) ≤ 3600000 := Nat.le_trans (Nat.mul_le_mul hk3 hL) (by omega)
  generalize k * (n * n) = E at d1 d2 hkL
  have hEN : E * N ≤ 720000000 := Nat.le_trans (Nat.mul_le_mul hkL hN) (by omega)
  refine pow_bd (D := D) (M := 4294967296 ^ E) d0 (by omega) (Nat.pow_pos (by omega)) (fun i j hi hj => d2 _ (cell_lt60 hi hj)) (by omega) ?_ ?_
  · have h1 : D ^ N ≤ 4294967296 ^ (E * N) := by
      rw [Nat.pow_mul]
      exact Nat.pow_le_pow_left d1 N
    have h2 : D ^ N < 4294967296 ^ (E * N + 1) := Nat.lt_of_le_of_lt h1 (Nat.pow_lt_pow_right (by omega) (by omega))
    exact Nat.le_trans (digs_length_le h2) (by omega)
  · have hn32 : n ≤ 4294967296 := by omega
    have h1 : n * (n * 4294967296 ^ E) ^ N ≤ 4294967296 * (4294967296 ^ (1 + E)) ^ N := by
      refine Nat.mul_le_mul hn32 (Nat.pow_le_pow_left ?_ N)
      rw [Nat.pow_add, Nat.pow_one]
      exact Nat.mul_le_mul_right _ hn32
    have e : 4294967296 * (4294967296 ^ (1 + E)) ^ N = 4294967296 ^ (1 + (1 + E) * N) := by
      rw [← Nat.pow_mul, Nat.pow_add 4294967296 1, Nat.pow_one]
    have hEN2 : (1 + E) * N ≤ 720000200 := by rw [Nat.add_mul]; omega
    rw [e] at h1
    have h2 : n * (n * 4294967296 ^ E) ^ N < 4294967296 ^ (1 + (1 + E) * N + 1) := Nat.lt_of_le_of_lt h1 (Nat.pow_lt_pow_right (by omega) (by omega))
    exact Nat.le_trans (digs_length_le h2) (by omega)
theorem powB_of {x : MV} {k : Nat} {n : Int} (hx : IsM k x) (hk : 1 ≤ k) (hk3 : k ≤ 1000) (h : powE x n = 0) : PowB (2 ^ 30) x.rows.toNat (ent x x.rows.toNat) n.toNat := by
  unfold powE at h
  by_cases c0 : rightM x = true
  · rw [if_pos c0] at h
    by_cases c1 : x.rows = x.cols
    · rw [if_pos c1] at h
      by_cases c2 : n < 0
      · rw [if_pos c2] at h; cases h
      · rw [if_neg c2] at h
        by_cases c3 : n > 200
        · rw [if_pos c3] at h; cases h
        · obtain ⟨z1, z2, _⟩ := size_of_right c0
          exact powB_gen hx.ok hk (by omega) (by omega) hk3
    · rw [if_neg c1] at h; cases h
  · rw [if_neg c0] at h; cases h
end Go.Ab

/- What the interpreter does, function by function. -/
set_option maxRecDepth 100000
set_option linter.unusedVariables false
namespace Go.Ab
open Go.Proofs.Try
/-! ### sortilege/sortilegelaw19.MatrixAdds -/
/-! ### sortilege/sortilegelaw19.MatrixMuls -/
/-! ### sortilege/sortilegelaw19.MatrixPowers -/
end Go.Ab

/- The law of the product of powers in values. -/
set_option linter.unusedVariables false
set_option linter.unusedSimpArgs false
set_option maxRecDepth 100000
namespace Go.Ab
open Go.Proofs.Try

theorem i_rem9 (a : Int) : binA .other .rem (.int .i64 a) (.int .i64 9) = some (.int .i64 (a.tmod 9)) := rfl
theorem Res.pm {K n N : Nat} {x z : MV} {e : Int} (h : Res z e 0 n n (powQ x n N) K) : PM K n (ent x n) N z :=
  ⟨h.fr, h.ok, h.rows rfl, h.cols rfl, h.len rfl, fun i j hi hj => by
    obtain ⟨e1, e2⟩ := row_col (i := i) hj
    show qAt z (i * n + j) = _
    rw [h.q rfl _ (cell_lt60 hi hj), powQ, e1, e2]⟩
theorem tmod9 (n : Int) : -9 < n.tmod 9 ∧ n.tmod 9 < 9 := by
  have h1 := Int.tmod_lt_of_pos n (b := 9) (by decide)
  have h2 := Int.tmod_lt_of_pos (-n) (b := 9) (by decide)
  rw [Int.neg_tmod] at h2
  omega
theorem exp9 (n : Int) : ∃ N : Nat, N ≤ 8 ∧ binA .other .rem (.int .i64 n) (.int .i64 9) = some (.int .i64 (n.tmod 9)) ∧ binA .other .add (.int .i64 (n.tmod 9)) (.int .i64 9) = some (.int .i64 (n.tmod 9 + 9)) ∧ binA .other .rem (.int .i64 (n.tmod 9 + 9)) (.int .i64 9) = some (.int .i64 (N : Int)) := by
  obtain ⟨h1, h2⟩ := tmod9 n
  obtain ⟨h3, h4⟩ := tmod9 (n.tmod 9 + 9)
  have h5 : 0 ≤ (n.tmod 9 + 9).tmod 9 := Int.tmod_nonneg _ (by omega)
  obtain ⟨N, hN⟩ := Int.eq_ofNat_of_zero_le h5
  refine ⟨N, by omega, i_rem9 n, by rw [binA_add, wrap_i64 (by omega) (by omega)], ?_⟩
  rw [← hN]
  exact i_rem9 _
end Go.Ab

/- Stochastic matrices: products and powers. -/
set_option linter.unusedVariables false
set_option linter.unusedSimpArgs false
namespace Go.Ab

theorem sumN_nonneg {f : Nat → Rat} : ∀ {n : Nat}, (∀ l, l < n → 0 ≤ f l) → 0 ≤ sumN f n
  | 0, _ => Rat.le_refl
  | n + 1, h => by
    rw [sumN]
    exact Rat.add_nonneg (sumN_nonneg fun l hl => h l (by omega)) (h n (by omega))
/-- All cells at least 0, all rows 1. -/
def Sto (r : Nat) (A : MF) : Prop := ∀ i, i < r → (∀ j, j < r → 0 ≤ A i j) ∧ sumN (A i) r = 1
theorem Sto.congr {r : Nat} {A B : MF} (h : Sto r A) (e : ∀ i j, i < r → j < r → B i j = A i j) : Sto r B := fun i hi =>
  ⟨fun j hj => by rw [e i j hi hj]; exact (h i hi).1 j hj, by rw [sumN_congr (fun j hj => e i j hi hj)]; exact (h i hi).2⟩
theorem Sto.mul {r : Nat} {A B : MF} (hA : Sto r A) (hB : Sto r B) : Sto r (mulF r A B) := by
  intro i hi
  refine ⟨fun j hj => sumN_nonneg fun l hl => Rat.mul_nonneg ((hA i hi).1 l hl) ((hB l hl).1 j hj), ?_⟩
  show sumN (fun j => sumN (fun l => A i l * B l j) r) r = 1
  rw [sumN_swap (fun j l => A i l * B l j) r r]
  rw [sumN_congr (g := A i) fun l hl => by
    show sumN (fun j => A i l * B l j) r = A i l
    rw [sumN_mulL, (hB l hl).2, Rat.mul_one]]
  exact (hA i hi).2
theorem sumN_id (i : Nat) : ∀ r : Nat, sumN (fun j => if i = j then (1 : Rat) else 0) r = if i < r then 1 else 0
  | 0 => by simp [sumN]
  | r + 1 => by
    rw [sumN, sumN_id i r]
    by_cases h : i < r
    · rw [if_pos h, if_neg (by omega), if_pos (by omega), Rat.add_zero]
    · by_cases h2 : i = r
      · rw [if_neg h, if_pos h2, if_pos (by omega), Rat.zero_add]
      · rw [if_neg h, if_neg h2, if_neg (by omega), Rat.add_zero]
theorem Sto.id (r : Nat) : Sto r idF := fun i hi => ⟨fun j _ => by unfold idF; split <;> decide, (sumN_id i r).trans (if_pos hi)⟩
theorem Sto.pow {r : Nat} {A : MF} (hA : Sto r A) : ∀ n : Nat, Sto r (powF r A n)
  | 0 => Sto.id r
  | n + 1 => (Sto.pow hA n).mul hA
theorem cutL_get {es : List RV} {r c i t : Nat} (h : es.length = r * c) (hi : i < r) (ht : t < c) : rQ (cutL es c i) t = (es.map RV.q).getD (i * c + t) 0 := by
  have h1 : (i + 1) * c ≤ r * c := Nat.mul_le_mul (by omega) (Nat.le_refl _)
  have h2 : (i + 1) * c = i * c + c := Nat.succ_mul i c
  have hl := cutL_length h hi
  rw [rQ_get (by omega), List.getD_eq_getElem?_getD, List.getElem?_map, List.getElem?_eq_getElem (by omega)]
  simp [cutL]
theorem negB_false {es : List RV} : negB es = false ↔ ∀ t, t < es.length → 0 ≤ rQ es t := by
  unfold negB
  rw [List.any_eq_false]
  constructor
  · intro h t ht
    have := h _ (List.getElem_mem ht)
    rw [rQ_get ht]
    exact Rat.not_lt.1 (by simpa using this)
  · intro h y hy
    obtain ⟨t, ht, rfl⟩ := List.getElem_of_mem hy
    have := h t ht
    rw [rQ_get ht] at this
    simpa using Rat.not_lt.2 this
theorem rowB_iff {es : List RV} : rowB es = true ↔ (∀ t, t < es.length → 0 ≤ rQ es t) ∧ sumN (rQ es) es.length = 1 := by
  unfold rowB
  rw [Bool.and_eq_true, Bool.not_eq_true', negB_false, decide_eq_true_eq]
  rfl
theorem stoB_iff {x : MV} {r : Nat} (hb : rightM x = true) (hr : x.rows = r) (hc : x.cols = r) (hl : x.lv.es.length = r * r) : stoB x = true ↔ Sto r (ent x r) := by
  unfold stoB
  rw [hb, hr, hc]
  simp only [Int.toNat_natCast, decide_true, Bool.true_and, List.all_eq_true, List.mem_range]
  have key : ∀ i, i < r → (rowB (cutL x.lv.es r i) = true ↔ (∀ j, j < r → 0 ≤ ent x r i j) ∧ sumN (ent x r i) r = 1) := by
    intro i hi
    rw [rowB_iff, cutL_length hl hi]
    have e : ∀ t, t < r → rQ (cutL x.lv.es r i) t = ent x r i t := fun t ht => cutL_get hl hi ht
    constructor
    · rintro ⟨h1, h2⟩
      exact ⟨fun j hj => by rw [← e j hj]; exact h1 j hj, by rw [← sumN_congr e]; exact h2⟩
    · rintro ⟨h1, h2⟩
      exact ⟨fun j hj => by rw [e j hj]; exact h1 j hj, by rw [sumN_congr e]; exact h2⟩
  constructor
  · intro h i hi
    exact (key i hi).1 (h i hi)
  · intro h i hi
    exact (key i hi).2 (h i hi)
end Go.Ab

/- Operations whose result the world does not tell, but for cells that stay. -/
set_option linter.unusedVariables false
set_option linter.unusedSimpArgs false
namespace Go.Ab
open Go.RowKit

section
variable {C : Cfg} {B : Nat} {w W : World} {g : G}
/-- A value that no world tells. -/
def wl : AV → Bool
  | .any | .int .. | .bool _ | .str _ | .nilp | .nilf | .nile => true
  | _ => false
theorem V.flat {x : AV} {v : Value} {w' : World} {g' : G} (h : V w g x v) (hw : wl x = true) : V w' g' x v := by
  cases h <;> first | (simp [wl] at hw; done) | constructor
/-- A value's part that neither world has changed. -/
theorem slice_any {P : Program} {e : Nat} {sh : Sh} {z : Bool} {o : Own} {es : List AV} {x' : Value} {lo hi : Nat} (hx : V w g (.lst sh z o es) x') (h1 : lo ≤ hi) (h2 : hi ≤ es.length) (t : Nat) (ht : P.underlying t = some (.slice e)) (hsh : shOf P e = some sh) (he : elemOk P e sh = true) :
    ∃ v', (∀ W, (Instr.sliceAt t x' (some (.int .i64 lo)) (some (.int .i64 hi)) none).run P W = .ok v' W) ∧ V w g (.lst sh z .no ((es.take hi).drop lo)) v' := by
  obtain ⟨inf, z0, hinf, hs1, hpos, _, _, _⟩ := elemOk_facts he
  have bd : ∀ (len cap : Nat) (W : World), len = es.length → len ≤ cap → (Instr.sliceBounds true len cap (some (.int .i64 lo)) (some (.int .i64 hi)) none).run P W = .ok (lo, hi, cap) W := by
    intro len cap W hl hc
    have e1 : (0 : Int) ≤ (hi : Nat) ∧ ((hi : Nat) : Int) ≤ len := by omega
    have e2 : (0 : Int) ≤ (lo : Nat) ∧ ((lo : Nat) : Int) ≤ hi := by omega
    obtain ⟨b1, b2, b3⟩ := bounds_two (P := P) (w := W) (g := g) (isS := true) (len := len) (cap := cap) (lo := some (.int .i64 lo)) (hi := some (.int .i64 hi)) (lo' := some (.int .i64 lo)) (hi' := some (.int .i64 hi)) (V.int .i64 lo) (V.int .i64 hi) hc (h := hi) (l := lo) (by simp only [boundA, e1, and_self, if_true]; simp) (by simp only [boundA, e2, and_self, if_true]; simp)
    exact b1
  cases hx with
  | nils _ o hof =>
    have h3 : hi = 0 := by simpa using h2
    have h4 : lo = 0 := by omega
    subst h3; subst h4
    refine ⟨.slice none 0 0, fun W => ?_, ?_⟩
    · have hb1 : (Instr.sliceBounds true 0 0 (some (.int .i64 0)) (some (.int .i64 0)) none).run P W = .ok (0, 0, 0) W := bd 0 0 W rfl (Nat.le_refl _)
      simp [Instr.sliceAt, run_underlying ht, Instr.slice, hb1, run_sizeOf hinf]
    · simp only [List.take_nil, List.drop_nil]
      exact .nils _ _ (by simp)
  | lst _ o es a cap us hsp hc hm' hsh' hcell hv ho' =>
    refine ⟨.slice (some (if cap = lo then a else a.add (lo * sh.size))) (hi - lo) (cap - lo), fun W => ?_, V_sub (.lst sh o es a cap us hsp hc hm' hsh' hcell hv ho') h1 h2 (by omega) (Nat.le_refl _) (.inl rfl)⟩
    have hb1 := bd es.length cap W rfl hc
    simp only [Instr.sliceAt, Sem.run_bind, run_underlying ht, Result.andThen_ok, Instr.slice, hb1, run_sizeOf hinf, Sem.run_pure]
    by_cases hml : cap = lo <;> simp [hml, hs1]
/-- What may run so. -/
def pure2 (o : Op) (ρ : Operand → AV) (v : AV) : Bool := match o with
  | .move _ | .assign _ | .load .. | .fieldAddr .. => true
  | .binOp _ _ x y _ => wl (ρ x) && (wl (ρ y) && wl v)
  | .unOp _ _ x => wl (ρ x) && wl v
  | _ => false
theorem pure2_sound {callP : Nat → List AV → Option AV} {callI : Nat → List AV → Mem → Option (AV × Mem)} {fid : Nat} {d : Option Nat} {o : Oper} {ρ : Operand → AV} {a : Act} {v : AV} {m1 : Mem} (hh : Hold g w w W) (h : opF C fid callP callI d o ρ [] = some (v, m1)) (hp : pure2 o.op ρ v = true) (hρ : ∀ x, V w g (ρ x) (a.eval x)) :
    m1 = [] ∧ ∃ v', (execOp a.eval o).run C.P W = .ok (.value v') W ∧ V w g v v' := by
  unfold opF opK at h
  unfold pure2 at hp
  cases hop : o.op with
  | move x =>
    rw [hop] at h
    simp only [Option.some.injEq, Prod.mk.injEq] at h
    obtain ⟨rfl, rfl⟩ := h
    exact ⟨rfl, _, by simp [execOp, hop], hρ x⟩
  | assign x =>
    rw [hop] at h
    simp only [Option.some.injEq, Prod.mk.injEq] at h
    obtain ⟨rfl, rfl⟩ := h
    exact ⟨rfl, _, by simp [execOp, hop], hρ x⟩
  | load t x =>
    rw [hop] at h
    simp only at h
    split at h
    · rename_i sh hsh
      simp only [Option.bind_eq_some_iff, Option.some.injEq, Prod.mk.injEq] at h
      obtain ⟨v0, hv, rfl, rfl⟩ := h
      refine ⟨rfl, ?_⟩
      have hx := hρ x
      unfold loadA at hv
      split at hv
      · rename_i cs hcs
        rw [hcs] at hx
        generalize hxe : a.eval x = x' at hx
        cases hx with
        | vptr cs b o us hcell hv' =>
          obtain ⟨h1, h2⟩ := cut_V us hv' hv
          have hcW : ∀ j, j < cs.length → W.cell? ⟨b, o + j, none⟩ = some (us j) := fun j hj => hh.cell _ _ _ (cell_lt (hcell j hj).1) (hcell j hj).2 (hcell j hj).1
          cases sh with
          | none =>
            obtain ⟨hlt, hV⟩ := h1 rfl
            refine ⟨_, ?_, hV⟩
            simp only [execOp, hop, hxe, Instr.loadAt, Instr.sureAddr, Sem.run_bind, Sem.run_pure, Result.andThen_ok]
            rw [run_loadVar_fn hsh us (fun j hj => hcW j (by simp only [Sh.size] at hj; omega))]
            rfl
          | some n =>
            obtain ⟨hlt, hV⟩ := h2 n rfl
            refine ⟨_, ?_, by simpa using hV⟩
            simp only [execOp, hop, hxe, Instr.loadAt, Instr.sureAddr, Sem.run_bind, Sem.run_pure, Result.andThen_ok]
            rw [run_loadVar_fn hsh us (fun j hj => hcW j (by simp only [Sh.size] at hj; omega))]
            rfl
      · simp [Mem.obj?, Mem.get] at hv
      · cases hv
    · cases h
  | fieldAddr t x f =>
    rw [hop] at h
    simp only at h
    split at h
    · rename_i off sh hf
      simp only [Option.bind_eq_some_iff, Option.some.injEq, Prod.mk.injEq] at h
      obtain ⟨v0, hv, rfl, rfl⟩ := h
      refine ⟨rfl, ?_⟩
      have hx := hρ x
      obtain ⟨fs, fd, hu, hfd, hsh, rfl, hne⟩ := fieldOf_facts hf
      obtain ⟨i, d, hi, hd, hs, _⟩ := shOf_facts hsh
      have hz : i.size ≠ 0 := by omega
      unfold fieldAddrA at hv
      split at hv
      · rename_i cs hcs
        rw [hcs] at hx
        split at hv
        · rename_i hlt
          simp at hv; subst hv
          generalize hxe : a.eval x = x' at hx
          cases hx with
          | vptr cs b o us hcell hv' =>
            refine ⟨.pointer (some ⟨b, o + fd.offset, none⟩), by simp [execOp, hop, hxe, Instr.fieldAt, run_underlying hu, hfd, Instr.sureAddr, fieldPlace, run_sizeOf hi, hz, Addr_add], ?_⟩
            refine .vptr _ _ _ (fun j => us (fd.offset + j)) (fun j hj => ?_) (fun j hj => ?_)
            · have := hcell (fd.offset + j) (by simp at hj; omega)
              simpa [Nat.add_assoc] using this
            · have := hv' (fd.offset + j) (by simp at hj; omega)
              simpa [List.getD_eq_getElem?_getD, List.getElem?_drop] using this
        · cases hv
      · rename_i nm o hcs
        simp at hv; subst hv
        rw [hcs] at hx
        generalize hxe : a.eval x = x' at hx
        cases hx with
        | ptr nm o b hl =>
          exact ⟨.pointer (some ⟨b, o + fd.offset, none⟩), by simp [execOp, hop, hxe, Instr.fieldAt, run_underlying hu, hfd, Instr.sureAddr, fieldPlace, run_sizeOf hi, hz, Addr_add], .ptr _ _ _ hl⟩
      · cases hv
    · cases h
  | binOp op t x y p =>
    rw [hop] at h hp
    simp only [Option.bind_eq_some_iff, Option.some.injEq, Prod.mk.injEq] at h
    obtain ⟨v0, hv, rfl, rfl⟩ := h
    simp only [Bool.and_eq_true] at hp
    obtain ⟨v', h1, h2⟩ := pure_ok (P := C.P) (a := a) (o := o) (w := W) (g := g) (bin_sound (P := C.P) op t x y ((hρ x).flat hp.1) ((hρ y).flat hp.2.1) hv) (fun w => by simp [execOp, hop])
    exact ⟨rfl, v', h1, h2.flat hp.2.2⟩
  | unOp op t x =>
    rw [hop] at h hp
    simp only [Option.bind_eq_some_iff, Option.some.injEq, Prod.mk.injEq] at h
    obtain ⟨v0, hv, rfl, rfl⟩ := h
    simp only [Bool.and_eq_true] at hp
    obtain ⟨v', h1, h2⟩ := pure_ok (P := C.P) (a := a) (o := o) (w := W) (g := g) (un_sound (P := C.P) op ((hρ x).flat hp.1) hv) (fun w => by simp [execOp, hop])
    exact ⟨rfl, v', h1, h2.flat hp.2⟩
  | _ => rw [hop] at hp; cases hp
/-- A run of such operations, with its checks. -/
def runQ (C : Cfg) (fid : Nat) (ops : Array Oper) : List Nat → List AV → Option (List AV)
  | [], ts => some ts
  | i :: l, ts => match ops[i]? with
    | none => none
    | some o => match o.guard with
      | some _ => none
      | none => match opF C fid (fun _ _ => none) (fun _ _ _ => none) none o (ev ts) [] with
        | none => none
        | some r => match pure2 o.op (ev ts) r.1 with
          | true => runQ C fid ops l (setD ts o.dst r.1)
          | false => none
def noDst (ops : Array Oper) (l : List Nat) (t : Nat) : Bool := l.all fun i => match ops[i]? with
  | some o => match o.dst with
    | some d => !(Nat.beq d t)
    | none => true
  | none => false
theorem put_other {a : Act} {d : Option Nat} {t : Nat} {v : Value} (h : d ≠ some t) : (a.put d v).tmps.getD t undef = a.tmps.getD t undef := by
  cases d with
  | none => rfl
  | some d =>
    have hdt : d ≠ t := fun e => h (by rw [e])
    simp only [Act.put]
    rw [Array.getD_eq_getD_getElem?, Array.getD_eq_getD_getElem?, Array.getElem?_setIfInBounds_ne hdt]
/-- An operation whose run is known. -/
theorem valIn {F : Fence} {n : Nat} (hF : Fine F) {P : Program} {ops : Array Oper} {i : Nat} {o : Oper} {v : Value} (ho : ops[i]? = some o) (hd : ∀ c, o.op ≠ .defer c) (hg : o.guard = none) {next : Act → World → Prop} {Q : Exit → Act → World → Prop} {a : Act} {w : World}
    (hr : (execOp a.eval o).run P w = .ok (.value v) w) (h : next (a.put o.dst v) w) : nextIn F n P ops Q i next a w := by
  refine nextIn_of hF (fun o' ho' hw => ?_) (fun o' ho' hw => ?_) (fun hnone => by rw [ho] at hnone; cases hnone)
  · rw [ho] at ho'
    obtain rfl := Option.some.inj ho'
    refine ⟨?_, hd⟩
    unfold Oper.wp
    rw [hr]
    exact h
  · rw [ho] at ho'
    obtain rfl := Option.some.inj ho'
    rw [show Region.wanted o (yielded ops a.tmps) = true by simp [Region.wanted, hg]] at hw
    cases hw
theorem pureQ {F : Fence} {n : Nat} (hF : Fine F) {fid : Nat} {ops : Array Oper} {Q : Exit → Act → World → Prop} (hh : Hold g w w W) (rest : List Nat) : ∀ (l : List Nat) (ts ts' : List AV) (a : Act),
    runQ C fid ops l ts = some ts' → TmpR w g ts a.tmps →
    (∀ a', TmpR w g ts' a'.tmps → a'.defers = a.defers → (∀ t, noDst ops l t = true → a'.tmps.getD t undef = a.tmps.getD t undef) → wpOpsIn F n C.P ops Q rest a' W) → wpOpsIn F n C.P ops Q (l ++ rest) a W := by
  intro l
  induction l with
  | nil =>
    intro ts ts' a h ht hn
    simp only [runQ, Option.some.injEq] at h
    subst h
    exact hn a ht rfl fun _ _ => rfl
  | cons i l ih =>
    intro ts ts' a h ht hn
    unfold runQ at h
    cases ho : ops[i]? with
    | none => rw [ho] at h; cases h
    | some o =>
      rw [ho] at h
      simp only at h
      cases hg : o.guard with
      | some _ => rw [hg] at h; cases h
      | none =>
        rw [hg] at h
        simp only at h
        cases hr : opF C fid (fun _ _ => none) (fun _ _ _ => none) none o (ev ts) [] with
        | none => rw [hr] at h; cases h
        | some r =>
          rw [hr] at h
          simp only at h
          cases hp : pure2 o.op (ev ts) r.1 with
          | false => rw [hp] at h; cases h
          | true =>
            rw [hp] at h
            obtain ⟨v, m1⟩ := r
            obtain ⟨rfl, v', hrun, hv⟩ := pure2_sound (a := a) hh hr hp (ev_V ht)
            have hd : ∀ c, o.op ≠ .defer c := by
              intro c hc
              rw [hc] at hp; cases hp
            rw [List.cons_append, wpOpsIn_cons]
            refine valIn hF ho hd hg hrun ?_
            refine ih (setD ts o.dst v) ts' (a.put o.dst v') h (ht.put hv o.dst) fun a' ht' hd' hk => hn a' ht' (hd'.trans (put_defers _ _ _)) fun t htn => ?_
            simp only [noDst, List.all_cons, Bool.and_eq_true, ho] at htn
            rw [hk t htn.2]
            refine put_other fun e => ?_
            have := htn.1
            rw [e] at this
            simp [Nat.beq_refl] at this
end
end Go.Ab

/- A function with a range over a function: its parts, its return. -/
set_option linter.unusedVariables false
set_option linter.unusedSimpArgs false
namespace Go.Ab
open Go.RowKit

section
variable {C : Cfg} {B : Nat} {w W : World} {g : G}
open Classical in
/-- What follows at one end alone. -/
noncomputable def only (e0 : Ex) (st0 : St) : Ex → St → Option (AV × Mem) := fun e st => if e = e0 ∧ st = st0 then some (.any, []) else none
theorem only_self (e0 : Ex) (st0 : St) : only e0 st0 e0 st0 = some (.any, []) := by simp [only]
theorem only_eq {e0 e : Ex} {st0 st : St} {r : AV × Mem} (h : only e0 st0 e st = some r) : e = e0 ∧ st = st0 := by
  unfold only at h
  split at h
  · assumption
  · cases h
/-- Code that comes to one end. -/
theorem execTo (hC : CfgOk C) {F : Fence} {n : Nat} (hF : Fine F) {fid : Nat} {c : Code} (hcalm : calm c = true) {st st0 : St} {e0 : Ex} {a : Act} {w : World} {g : G} {Q : Exit → Act → World → Prop} (h : execW C fid (AP C) (AC C) c st (only e0 st0) = some (.any, [])) (hs : StR B w g st a)
    (hq : ∀ a' w' g', StR B w' g' st0 a' → Step B w g w' g' → a'.defers = a.defers → Q (exitOf e0) a' w') : c.wpIn F n C.P Q a w :=
  execIn hC hF (AC_sound hC) c hcalm st (only e0 st0) _ a w g Q h hs fun e st' a' w' g' hK hs' s hd => by
    obtain ⟨rfl, rfl⟩ := only_eq hK
    exact hq a' w' g' hs' s hd
/-- The memory behind code that goes on or returns. -/
def goK : Ex → St → Option (AV × Mem) := fun e st => match e with
  | .normal => some (.bool true, st.mem)
  | .ret => some (.bool false, st.mem)
  | .exit _ => none
theorem execGo (hC : CfgOk C) {F : Fence} {n : Nat} (hF : Fine F) {fid : Nat} {c : Code} (hcalm : calm c = true) {st : St} {b : Bool} {m' : Mem} {a : Act} {w : World} {g : G} {Q : Exit → Act → World → Prop} (h : execW C fid (AP C) (AC C) c st goK = some (.bool b, m')) (hs : StR B w g st a)
    (hq : ∀ a' w' g', MemR B w' g' m' → B ≤ w'.heap.size → Step B w g w' g' → a'.defers = a.defers → Q (if b then .normal else .ret) a' w') : c.wpIn F n C.P Q a w :=
  execIn hC hF (AC_sound hC) c hcalm st goK _ a w g Q h hs fun e st' a' w' g' hK hs' s hd => by
    cases e with
    | normal =>
      simp only [goK, Option.some.injEq, Prod.mk.injEq, AV.bool.injEq] at hK
      obtain ⟨rfl, rfl⟩ := hK
      exact hq a' w' g' hs'.mem hs'.size s hd
    | ret =>
      simp only [goK, Option.some.injEq, Prod.mk.injEq, AV.bool.injEq] at hK
      obtain ⟨rfl, rfl⟩ := hK
      exact hq a' w' g' hs'.mem hs'.size s hd
    | exit id => cases hK
theorem results_run {P : Program} {fn : Func} {st : St} {a : Act} {l : List AV} (hs : StR B W g st a) (h : resultsA P st.mem st.tmps fn.results.toList = some l) : ∃ v, (results fn a.tmps).run P W = .ok v W ∧ V W g (oneOf l) v := by
  obtain ⟨vl, r1, r2, r3⟩ := results_sound (P := P) hs.mem hs.tmp _ l h
  refine ⟨_, ?_, oneOf_V r2 r3⟩
  rw [results_eq, Array.mapM_eq_mapM_toList]
  simp only [Sem.run_bind, Sem.run_map, r1, Result.andThen_ok, Sem.run_pure]
/-- A return, nothing deferred. -/
theorem leaves0 {F : Fence} {n : Nat} {P : Program} {fn : Func} {R : Ending → World → Prop} {st : St} {a : Act} {l : List AV} (hs : StR B W g st a) (h : resultsA P st.mem st.tmps fn.results.toList = some l) (hd : a.defers = []) (hR : ∀ v, V W g (oneOf l) v → R (.returned v) W) : bodyPostM F n P fn R .ret a W := by
  obtain ⟨v, h1, h2⟩ := results_run hs h
  show LeavesInM F n P fn a.tmps R a.defers .returning W
  rw [hd]
  exact ⟨v, h1, hR v h2⟩
/-- A return behind a range over a function. -/
theorem leavesD {F : Fence} {n : Nat} {P : Program} {fn : Func} {R : Ending → World → Prop} {st : St} {a : Act} {l : List AV} {D : Nat} (hs : StR B W g st a) (h : resultsA P st.mem st.tmps fn.results.toList = some l) (hd : a.defers = [{ target := .collected D, args := #[] }]) (hK : W.heap[D]? = some (.deferred (some [])))
    (hR : ∀ v, V (W.putObj D (.deferred none)) g (oneOf l) v → MemR B (W.putObj D (.deferred none)) g st.mem → R (.returned v) (W.putObj D (.deferred none))) : bodyPostM F n P fn R .ret a W := by
  have hg := grownBy_putObj' W D (.deferred none)
  have hr : NonCells W (some D) := fun r e => by cases e; exact ⟨_, hK, rfl⟩
  have hs' : StR B (W.putObj D (.deferred none)) g st a := ⟨hs.tmp.grown hg hr, hs.mem.grown hg hr, Nat.le_trans hs.size hg.size⟩
  obtain ⟨v, h1, h2⟩ := results_run hs' h
  show LeavesInM F n P fn a.tmps R a.defers .returning W
  rw [hd]
  exact ⟨by simp, .inl ⟨D, _, rfl, run_takeDeferred hK, v, h1, hR v h2 hs'.mem⟩⟩
/-- A call that starts with no memory of its own names ends with none. -/
theorem MemR.none {m : Mem} (h : MemR B W g m) : MemR B W g.bare [] where
  obj nm bx cs hn := by simp [Mem.get] at hn
  tok nm n sz hn := by simp [Mem.get] at hn
  resv nm hn := by simp [Mem.get] at hn
  fresh nm _ := ⟨rfl, fun _ => rfl⟩
  inj nm nm' b h1 _ := by simp [blk, Mem.get] at h1
  wrLt b off hw := h.wrLt b off hw
  boxLt b hb := h.boxLt b hb
theorem Step.bare {g' : G} (hm : MemR B w g []) (h : Step B w g W g') : Step B w g W g'.bare where
  below := h.below
  cell := h.cell
  shape := h.shape
  wr := h.wr
  wrB := h.wrB
  box := h.box
  loc nm b hl := by rw [(hm.fresh nm (by simp)).1] at hl; cases hl
  tloc nm n b hl := by rw [(hm.fresh nm (by simp)).2 n] at hl; cases hl
  others := h.others
/-- A slice with nothing in it has any shape. -/
theorem V.resh {sh sh' : Sh} {z : Bool} {o : Own} {v : Value} (h : V w g (.lst sh z o []) v) (hc : cl (.lst sh z o []) = true) : V w g (.lst sh' z o []) v := by
  cases h with
  | nils _ _ ho => exact .nils _ _ ho
  | lst _ _ _ a cap us hs hc' hm hsh hcell hv ho =>
    refine .lst sh' o [] a cap us hs hc' hm (by simp) (by simp) (by simp) ?_
    cases o with
    | no => trivial
    | full => exact ho
    | tok => simp [cl] at hc
end
end Go.Ab

/- matrix.Stochastic: a round in values. -/
set_option linter.unusedVariables false
set_option linter.unusedSimpArgs false
set_option maxRecDepth 100000
namespace Go.Ab
open Go.Proofs.Try

abbrev resF : Option Ent := some (.obj true [.bool false])
def negF (es : List RV) : Bool := es.any RV.neg
theorem negF_drop {es : List RV} {i : Nat} (h : i < es.length) : negF (es.drop i) = (es[i].neg || negF (es.drop (i + 1))) := by
  rw [List.drop_eq_getElem_cons h]; rfl
theorem st_res {m : Mem} (b : Bool) (h : m[1]? = some resF) : storeA none m (.ptr 1 0) (.bool b) = some (m.set 1 (some (.obj true [.bool b]))) := by
  simp only [storeA, mobj h, Option.bind_some]
  rfl
theorem W45_6 {l : LV} {k : Nat} (hl : LOk k l) (hlen : l.es.length ≤ 4000) (x4 : AV) (K : Ex → St → Option (AV × Mem)) : ∀ (n i : Nat) (m : Mem), i + n = l.es.length → m[1]? = some resF →
    ∃ m', m'[1]? = some resF ∧ L45_6 (.ptr 1 0) x4 l.av (.int .i64 l.es.length) (.int .i64 i) m K = if negF (l.es.drop i) = true then K .ret (R45_6 (.ptr 1 0) m') else K (.exit 2) (O45_6 (.ptr 1 0) x4 m') := by
  intro n
  induction n with
  | zero =>
    intro i m hi h1
    obtain rfl : i = l.es.length := by omega
    refine ⟨m, h1, ?_⟩
    rw [L45_6_eq, n_lss, Option.bind_some, ifA_dec, if_neg (by omega), List.drop_length]
    rfl
  | succ n ih =>
    intro i m hi h1
    have hil : i < l.es.length := by omega
    have hm1 := idx_lt h1
    have g1 : (m ++ [cR l.es[i]])[1]? = some resF := by rw [List.getElem?_append_left hm1]; exact h1
    obtain ⟨m', w1, w2⟩ := ih (i + 1) (m ++ [cR l.es[i]]) (by omega) g1
    have e1 : (m ++ [cR zR]).set m.length (cR l.es[i]) = m ++ [cR l.es[i]] := by simp
    rw [negF_drop hil]
    cases hn : l.es[i].neg with
    | true =>
      refine ⟨(m ++ [cR l.es[i]]).set 1 resF, by rw [List.getElem?_set_self (by simp; omega)], ?_⟩
      rw [Bool.true_or, if_pos rfl]
      rw [L45_6_eq, n_lss, Option.bind_some, ifA_dec, if_pos hil, index_lv hl hil, Option.bind_some, load_row, Option.bind_some, new_z', new_r]
      simp only
      rw [rstA (x := zR) (by simp), Option.bind_some, e1, fld0, Option.bind_some, rld0 (x := l.es[i]) (by simp), Option.bind_some, hn, ifA_true, st_res false g1, Option.bind_some]
    | false =>
      refine ⟨m', w1, ?_⟩
      rw [Bool.false_or, ← w2]
      rw [L45_6_eq, n_lss, Option.bind_some, ifA_dec, if_pos hil, index_lv hl hil, Option.bind_some, load_row, Option.bind_some, new_z', new_r]
      simp only
      rw [rstA (x := zR) (by simp), Option.bind_some, e1, fld0, Option.bind_some, rld0 (x := l.es[i]) (by simp), Option.bind_some, hn, ifA_false, i_add1 (by omega), Option.bind_some]
theorem body45 {l : LV} {k : Nat} (hl : LOk k l) (fr : l.fr = l) (hk1 : 1 ≤ k) (hk : k ≤ 2 ^ 30) (hlen : l.es.length ≤ 60) {m : Mem} (h1 : m[1]? = some resF) : ∃ m', m'[1]? = some resF ∧
    execW cfg 45 (AP cfg) (AC cfg) (rB (c1 (c2 (c1 (c2 (c2 (bodyOf f45))))))) ⟨[.any, .any, .ptr 1 0, .any, l.av, .any, .any, .any, .any, .any, .any, .any, .any, .any, .any, .any, .any, .any, .any, .any, .any, .any, .any, .any, .any, .any, .any, .any, .any, .any, .any, .any, .any, .any, .any], m⟩ goK = some (.bool (!negF l.es && decide (sumQ l.es l.es.length = 1)), m') := by
  obtain ⟨m1, w1, w2⟩ := W45_6 hl (by omega) l.av (K45_6 goK) l.es.length 0 m (by omega) h1
  obtain ⟨s, s1, s2, s3⟩ := V83 hl hk1 (by omega) hk
  have hkk : 1 + l.es.length * (k + 1) ≤ 1 + 60 * (2 ^ 30 + 1) := Nat.add_le_add_left (Nat.mul_le_mul (by omega) (by omega)) _
  have hsb := s2.ok (sumQ_bd hl.ok hk1 _ (Nat.le_refl _)) (by omega)
  have e80 := V80 hsb (oneR_ok.mono (by omega)) s3 rfl (by omega) (by omega)
  rw [s2.q, can_one.q] at e80
  have pre : execW cfg 45 (AP cfg) (AC cfg) (rB (c1 (c2 (c1 (c2 (c2 (bodyOf f45))))))) ⟨[.any, .any, .ptr 1 0, .any, l.av, .any, .any, .any, .any, .any, .any, .any, .any, .any, .any, .any, .any, .any, .any, .any, .any, .any, .any, .any, .any, .any, .any, .any, .any, .any, .any, .any, .any, .any, .any], m⟩ goK =
      if negF l.es = true then some (.bool false, m1) else ifA (.bool (!decide (sumQ l.es l.es.length = 1))) (some (.bool false, m1.set 1 resF)) (some (.bool true, m1)) := by
    rw [Q45_b, len_lv, Option.bind_some]
    refine w2.trans ?_
    rw [List.drop_zero, K45_6_ret, K45_6_x2, pcall1 (fz_lv _), fr, s1, Option.map_some, Option.bind_some, pc0, V84, Option.map_some, Option.bind_some, pcRR, s3, show oneR.fr = oneR from rfl, e80, Option.map_some, Option.bind_some]
    rw [show unA .not (.bool (decide (sumQ l.es l.es.length = 1))) = some (.bool (!decide (sumQ l.es l.es.length = 1))) from rfl, Option.bind_some, st_res false w1, Option.bind_some]
    rfl
  rw [pre]
  cases hn : negF l.es with
  | true => exact ⟨m1, w1, by simp⟩
  | false =>
    by_cases hs : sumQ l.es l.es.length = 1
    · refine ⟨m1, w1, ?_⟩
      rw [decide_eq_true hs]; rfl
    · refine ⟨m1.set 1 resF, by rw [List.getElem?_set_self (idx_lt w1)], ?_⟩
      rw [decide_eq_false hs]; rfl
theorem right_neg {r : RV} {k : Nat} (h : rightR r = true) (hok : ROk k r) : r.neg = decide (r.q < 0) := by
  rw [(rightR_can h hok.num.nil hok.den.nil).neg]
  exact decide_eq_decide.2 (rat_neg r.q).symm
theorem neg_same {es : List RV} {k : Nat} (h : ∀ r ∈ es, rightR r = true ∧ ROk k r) : negF es = negB es := by
  induction es with
  | nil => rfl
  | cons r es ih =>
    show (r.neg || negF es) = (decide (r.q < 0) || negB es)
    rw [right_neg (h r List.mem_cons_self).1 (h r List.mem_cons_self).2, ih fun t ht => h t (List.mem_cons_of_mem _ ht)]
end Go.Ab

/- rows of matrix: the iterator's contract. -/
set_option linter.unusedVariables false
set_option linter.unusedSimpArgs false
set_option maxRecDepth 100000
namespace Go.Ab
open Go.Proofs.Try

section
variable (r c : Int) (z : Bool) (o : Own) (es : List AV)
abbrev it114 : AV := .vptr [.int .i64 r, .int .i64 c, .lst (some 3) z o es]
/-- The temporaries between two rounds; in a round. -/
def s114 (i : Int) : List AV := [.any, it114 r c z o es, .any, .any, .any, .int .i64 r, .int .i64 i, .any, .any, .any, .any, .any, .any, .any, .any, .any, .any, .any, .any, .any, .any, .any, .any, .any, .any, .any]
def t114 (i : Int) : List AV := [.any, it114 r c z o es, .any, .int .i64 i, .any, .int .i64 r, .int .i64 i, .any, .any, .any, .any, .any, .any, .any, .any, .any, .any, .any, .any, .any, .any, .any, .any, .any, .any, .any]
def u114 (i : Int) : List AV := [.any, it114 r c z o es, .any, .int .i64 i, .any, .int .i64 r, .int .i64 i, .any, .any, .any, .int .i64 i, .vptr [.lst (some 3) z o es], .lst (some 3) z o es, .int .i64 i, .vptr [.int .i64 c, .lst (some 3) z o es], .int .i64 c, .int .i64 (IntKind.wrap .i64 (i * c)), .int .i64 i, .int .i64 (IntKind.wrap .i64 (i + 1)), .vptr [.int .i64 c, .lst (some 3) z o es], .int .i64 c, .int .i64 (IntKind.wrap .i64 (IntKind.wrap .i64 (i + 1) * c)), .any, .any, .any, .any]
theorem q114_0 : runQ cfg 114 (opsOf (c1 (bodyOf f114))) [0, 1, 2] [.any, it114 r c z o es, .any, .any, .any, .any, .any, .any, .any, .any, .any, .any, .any, .any, .any, .any, .any, .any, .any, .any, .any, .any, .any, .any, .any, .any] = some [.any, it114 r c z o es, .any, .any, it114 r c z o es, .int .i64 r, .int .i64 0, .any, .any, .any, .any, .any, .any, .any, .any, .any, .any, .any, .any, .any, .any, .any, .any, .any, .any, .any] := by kernel_rfl
theorem q114_1 (i : Int) : runQ cfg 114 (opsOf (c1 (c1 (c1 (c2 (bodyOf f114)))))) [0] (s114 r c z o es i) = some [.any, it114 r c z o es, .any, .any, .any, .int .i64 r, .int .i64 i, .bool (decide (i < r)), .any, .any, .any, .any, .any, .any, .any, .any, .any, .any, .any, .any, .any, .any, .any, .any, .any, .any] := by kernel_rfl
theorem q114_2 (i : Int) : runQ cfg 114 (opsOf (c1 (c1 (c1 (c2 (c2 (c1 (c1 (c2 (bodyOf f114)))))))))) [0, 1] (s114 r c z o es i) = some [.any, it114 r c z o es, .any, .int .i64 i, .any, .int .i64 r, .int .i64 i, .any, .int .i64 i, .any, .any, .any, .any, .any, .any, .any, .any, .any, .any, .any, .any, .any, .any, .any, .any, .any] := by kernel_rfl
theorem q114_3 (i : Int) : runQ cfg 114 (opsOf (c1 (c2 (c1 (c1 (c2 (c2 (c1 (c1 (c2 (bodyOf f114))))))))))) [1, 2, 3, 4, 5, 6, 7, 8, 9, 10, 11, 12] (t114 r c z o es i) = some (u114 r c z o es i) := by kernel_rfl
theorem q114_4 (i : Int) : runQ cfg 114 (opsOf (c2 (c2 (c2 (c1 (c1 (c2 (bodyOf f114)))))))) [0, 1] (s114 r c z o es i) = some [.any, it114 r c z o es, .any, .any, .any, .int .i64 r, .int .i64 (IntKind.wrap .i64 (i + 1)), .any, .any, .any, .any, .any, .any, .any, .any, .any, .any, .any, .any, .any, .any, .any, .any, .any, .any, .int .i64 (IntKind.wrap .i64 (i + 1))] := by kernel_rfl
theorem q114_5 (i : Int) (b : Bool) : runQ cfg 114 (opsOf (c1 (c2 (c1 (c1 (c2 (c2 (c1 (c1 (c2 (bodyOf f114))))))))))) [15] [.any, it114 r c z o es, .any, .any, .any, .int .i64 r, .int .i64 i, .any, .any, .any, .any, .any, .any, .any, .any, .any, .any, .any, .any, .any, .any, .any, .any, .bool b, .any, .any] = some [.any, it114 r c z o es, .any, .any, .any, .int .i64 r, .int .i64 i, .any, .any, .any, .any, .any, .any, .any, .any, .any, .any, .any, .any, .any, .any, .any, .any, .bool b, .bool (!b), .any] := by kernel_rfl
end
theorem e114 : bodyOf f114 = .seq (.region 0 (opsOf (c1 (bodyOf f114))) false) (.block 0 (.loop (.seq (.region 1 (opsOf (c1 (c1 (c1 (c2 (bodyOf f114)))))) false) (.seq (.cond (.tmp 7) .skip (.exit 0)) (.seq (.block 1 (.seq (.region 2 (opsOf (c1 (c1 (c1 (c2 (c2 (c1 (c1 (c2 (bodyOf f114)))))))))) false) (.seq (.region 3 (opsOf (c1 (c2 (c1 (c1 (c2 (c2 (c1 (c1 (c2 (bodyOf f114))))))))))) false) (.cond (.tmp 24) .ret .skip)))) (.region 4 (opsOf (c2 (c2 (c2 (c1 (c1 (c2 (bodyOf f114)))))))) false)))))) := by kernel_rfl
theorem res114 (ts : Array Value) (w : World) : (results f114 ts).run prog w = .ok (.tuple #[]) w := by
  rw [results_eq, Array.mapM_eq_mapM_toList, show f114.results.toList = [] from rfl]
  simp
end Go.Ab

/- rows of matrix: what it gives, row by row. -/
set_option linter.unusedVariables false
set_option linter.unusedSimpArgs false
set_option maxRecDepth 100000
namespace Go.Ab
open Go.Proofs.Try Go.RowKit

abbrev rowA (z : Bool) (es : List AV) (c i : Nat) : AV := .lst (some 3) z .no ((es.take ((i + 1) * c)).drop (i * c))
/-- What a round is handed: the row's number and the row. -/
abbrev X114 (w : World) (g : G) (r c : Nat) (z : Bool) (es : List AV) := { p : Nat × Value // p.1 < r ∧ V w g (rowA z es c p.1) p.2 }
def enc114 {w : World} {g : G} {r c : Nat} {z : Bool} {es : List AV} (x : X114 w g r c z es) : Array Value := #[.int .i64 (x.1.1 : Int), x.1.2]
theorem anyD : ∀ (n t : Nat), (List.replicate n AV.any).getD t .any = .any := by
  intro n t
  rw [List.getD_eq_getElem?_getD, List.getElem?_replicate]
  split <;> rfl
theorem TmpR.put' {w : World} {g : G} {ts : List AV} {a : Act} (h : TmpR w g ts a.tmps) {v : AV} {v' : Value} (hv : V w g v v') (d : Nat) {ts' : List AV} (e : ts.set d v = ts') : TmpR w g ts' (a.put (some d) v').tmps := by
  subst e
  exact h.put hv (some d)
theorem put_self {a : Act} {d : Nat} {v : Value} (h : d < a.tmps.size) : (a.put (some d) v).tmps.getD d undef = v := by
  simp only [Act.put]
  rw [Array.getD_eq_getD_getElem?, Array.getElem?_setIfInBounds_self]
  simp [h]
noncomputable def g114 (i : Nat) : Oper := ((opsOf (c1 (c2 (c1 (c1 (c2 (c2 (c1 (c1 (c2 (bodyOf f114)))))))))))[i]?).getD default
theorem at3_0 : (opsOf (c1 (c2 (c1 (c1 (c2 (c2 (c1 (c1 (c2 (bodyOf f114)))))))))))[0]? = some (g114 0) := by kernel_rfl
theorem at3_13 : (opsOf (c1 (c2 (c1 (c1 (c2 (c2 (c1 (c1 (c2 (bodyOf f114)))))))))))[13]? = some (g114 13) := by kernel_rfl
theorem at3_14 : (opsOf (c1 (c2 (c1 (c1 (c2 (c2 (c1 (c1 (c2 (bodyOf f114)))))))))))[14]? = some (g114 14) := by kernel_rfl
theorem op3_0 : (g114 0).op = .move (.tmp 0) ∧ (g114 0).guard = none ∧ (g114 0).dst = some 9 := ⟨by kernel_rfl, by kernel_rfl, by kernel_rfl⟩
theorem op3_13 : (g114 13).op = .slice 22 (.tmp 12) (some (.tmp 16)) (some (.tmp 21)) none ∧ (g114 13).guard = none ∧ (g114 13).dst = some 22 := ⟨by kernel_rfl, by kernel_rfl, by kernel_rfl⟩
theorem op3_14 : (g114 14).op = .call { callee := .value (.tmp 9), args := #[.tmp 10, .tmp 22], argTypes := #[3, 22] } ∧ (g114 14).guard = none ∧ (g114 14).dst = some 23 := ⟨by kernel_rfl, by kernel_rfl, by kernel_rfl⟩
theorem TmpR.flat {w w' : World} {g g' : G} {ts : List AV} {vs : Array Value} (h : TmpR w g ts vs) (hw : ∀ x ∈ ts, wl x = true) : TmpR w' g' ts vs :=
  ⟨h.1, fun t => by
    by_cases ht : t < ts.length
    · exact (h.2 t).flat (hw _ (getD_mem ht))
    · rw [List.getD_eq_getElem?_getD, List.getElem?_eq_none (by omega)]; exact .any _⟩
theorem q114_6 (b : Bool) : runQ cfg 114 (opsOf (c1 (c2 (c1 (c1 (c2 (c2 (c1 (c1 (c2 (bodyOf f114))))))))))) [15] [.any, .any, .any, .any, .any, .any, .any, .any, .any, .any, .any, .any, .any, .any, .any, .any, .any, .any, .any, .any, .any, .any, .any, .bool b, .any, .any] = some [.any, .any, .any, .any, .any, .any, .any, .any, .any, .any, .any, .any, .any, .any, .any, .any, .any, .any, .any, .any, .any, .any, .any, .bool b, .bool (!b), .any] := by kernel_rfl
theorem V.int_eq {w : World} {g : G} {k : IntKind} {n : Int} {v : Value} (h : V w g (.int k n) v) : v = .int k n := by cases h; rfl
theorem V.bool_eq {w : World} {g : G} {b : Bool} {v : Value} (h : V w g (.bool b) v) : v = .bool b := by cases h; rfl
theorem ty22 : prog.underlying 22 = some (.slice 43) := by kernel_rfl
theorem sh43 : shOf prog 43 = some (some 3) := by kernel_rfl
theorem el43 : elemOk prog 43 (some 3) = true := by kernel_rfl
theorem tmpR_start {w : World} {g : G} {args : List AV} {vs : Array Value} (hl : args.length = vs.size) (hv : ∀ j, j < args.length → V w g (args.getD j .any) (vs.getD j undef)) (k : Nat) : TmpR w g (args ++ List.replicate k .any) (vs ++ Array.replicate k undef) := by
  refine ⟨by simp [hl], fun t => ?_⟩
  simp only [List.getD_eq_getElem?_getD, Array.getD_eq_getD_getElem?, List.getElem?_append, Array.getElem?_append]
  by_cases h1 : t < args.length
  · rw [if_pos h1, if_pos (by omega)]
    simpa [List.getD_eq_getElem?_getD, Array.getD_eq_getD_getElem?] using hv t h1
  · rw [if_neg h1, if_neg (by omega), List.getElem?_replicate]
    split <;> exact .any _
theorem hf114 : prog.funcs[114]? = some f114 := by kernel_rfl
theorem nt114 : f114.ntmps = 26 := by kernel_rfl
theorem hb114 : f114.body = some (bodyOf f114) := by kernel_rfl
theorem stops114 {w : World} {g : G} {r c : Nat} {z : Bool} {o : Own} {es : List AV} {pv : Value} (hV : V w g (it114 r c z o es) pv) (hl : es.length = r * c) (hr : r ≤ 60) (hc : c ≤ 60) {n : Nat} (hn : 1 ≤ n) :
    SeqStopsK Fence.wide n prog 114 #[pv] (enc114 (w := w) (g := g) (r := r) (c := c) (z := z) (es := es)) (Hold g w) (fun xs => xs.map (fun x => x.1.1) = List.range r) (fun _ => True) r w := by
  intro l J Jx W hW hJ hJx hY h0
  have hF : Fine Fence.wide := .inl rfl
  have hH := Hold.of_below hW (g := g)
  refine callsIn_of_wp (fn := f114) (c := bodyOf f114) ?hf ?hb ?hF ?hh ?hro
  case hf => exact hf114
  case hb => exact hb114
  case hF => exact hF.fn 114
  case hro => rfl
  have hA : ((#[.func (.yield l) #[] #[]] ++ #[pv]) ++ Array.replicate (f114.ntmps - (#[.func (.yield l) #[] #[]] ++ #[pv] : Array Value).size) undef : Array Value) = #[.func (.yield l) #[] #[], pv] ++ Array.replicate 24 undef := by
    rw [nt114]; rfl
  rw [hA]
  have hts : TmpR w g [.any, it114 r c z o es, .any, .any, .any, .any, .any, .any, .any, .any, .any, .any, .any, .any, .any, .any, .any, .any, .any, .any, .any, .any, .any, .any, .any, .any] (#[.func (.yield l) #[] #[], pv] ++ Array.replicate 24 undef) :=
    tmpR_start (args := [.any, it114 r c z o es]) (vs := #[.func (.yield l) #[] #[], pv]) rfl (fun j hj => by
      rcases j with _ | _ | j
      · exact V.any _
      · exact hV
      · simp at hj; omega) 24
  have hy0 : (#[.func (.yield l) #[] #[], pv] ++ Array.replicate 24 undef : Array Value).getD 0 undef = .func (.yield l) #[] #[] := by rw [Array.getD_eq_getD_getElem?]; simp
  generalize (#[.func (.yield l) #[] #[], pv] ++ Array.replicate 24 undef : Array Value) = tmps0 at hts hy0 ⊢
  rw [e114]
  refine wpIn_seq (wpIn_region ?_)
  rw [show List.range (opsOf (c1 (bodyOf f114))).size = [0, 1, 2] ++ [] by kernel_rfl]
  refine pureQ (C := cfg) hF hH [] [0, 1, 2] _ _ _ (q114_0 r c z o es) hts fun a1 ht1 hd1 hk1 => ?_
  refine wpIn_block (wpIn_loop_rounds (r + 1) ?_)
  have key : ∀ (j k : Nat) (pre : List (X114 w g r c z es)) (a : Act) (W : World), k + j = r → pre.map (fun x => x.1.1) = List.range k → J pre W → Hold g w w W → TmpR w g (s114 r c z o es k) a.tmps → a.tmps.getD 0 undef = .func (.yield l) #[] #[] → a.defers = [] →
      Code.roundsIn Fence.wide n prog (.seq (.region 1 (opsOf (c1 (c1 (c1 (c2 (bodyOf f114)))))) false) (.seq (.cond (.tmp 7) .skip (.exit 0)) (.seq (.block 1 (.seq (.region 2 (opsOf (c1 (c1 (c1 (c2 (c2 (c1 (c1 (c2 (bodyOf f114)))))))))) false) (.seq (.region 3 (opsOf (c1 (c2 (c1 (c1 (c2 (c2 (c1 (c1 (c2 (bodyOf f114))))))))))) false) (.cond (.tmp 24) .ret .skip)))) (.region 4 (opsOf (c2 (c2 (c2 (c1 (c1 (c2 (bodyOf f114)))))))) false))))
        (Exit.inBlock 0 (bodyPost prog f114 fun e W' => (∃ v, e = .returned v) ∧ ((∃ xs : List (X114 w g r c z es), xs.map (fun x => x.1.1) = List.range r ∧ J xs W') ∨ ∃ pre : List (X114 w g r c z es), True ∧ Jx pre W'))) (j + 1) a W := by
    intro j
    induction j with
    | zero =>
      intro k pre a W hk hpre hJp hH ht hy hd
      obtain rfl : k = r := by omega
      rw [roundsIn_succ]
      refine wpIn_seq (wpIn_region ?_)
      rw [show List.range (opsOf (c1 (c1 (c1 (c2 (bodyOf f114)))))).size = [0] ++ [] by kernel_rfl]
      refine pureQ (C := cfg) hF hH [] [0] _ _ _ (q114_1 k c z o es k) ht fun a1 ht1 hd1 hk1 => ?_
      have h7 := ht1.2 7
      have e7 : decide ((k : Int) < k) = false := by simp
      rw [e7] at h7
      have h7' : a1.eval (.tmp 7) = .bool false := by cases hx : a1.tmps.getD 7 undef <;> (rw [hx] at h7; cases h7) <;> exact hx
      refine wpIn_seq (wpIn_cond_false h7' (wpIn_exit ?_))
      exact ⟨hd1.trans hd, _, res114 _ _, ⟨_, rfl⟩, .inl ⟨pre, hpre, hJp⟩⟩
    | succ j ih =>
      intro k pre a W hk hpre hJp hH ht hy hd
      have hkr : k < r := by omega
      rw [roundsIn_succ]
      refine wpIn_seq (wpIn_region ?_)
      rw [show List.range (opsOf (c1 (c1 (c1 (c2 (bodyOf f114)))))).size = [0] ++ [] by kernel_rfl]
      refine pureQ (C := cfg) hF hH [] [0] _ _ _ (q114_1 r c z o es k) ht fun a1 ht1 hd1 hk1 => ?_
      have h7 := ht1.2 7
      have e7 : decide ((k : Int) < r) = true := by simp; omega
      rw [e7] at h7
      have h7' : a1.eval (.tmp 7) = .bool true := by cases hx : a1.tmps.getD 7 undef <;> (rw [hx] at h7; cases h7) <;> exact hx
      refine wpIn_seq (wpIn_cond_true h7' (wpIn_skip ?_))
      refine wpIn_seq (wpIn_block (wpIn_seq (wpIn_region ?_)))
      have ht1s : TmpR w g (s114 r c z o es k) a1.tmps := ht1.less rfl fun t => by
        match t with
        | 0 | 1 | 2 | 3 | 4 | 5 | 6 => exact .inl rfl
        | 7 => exact .inr rfl
        | t + 8 => exact .inl rfl
      rw [show List.range (opsOf (c1 (c1 (c1 (c2 (c2 (c1 (c1 (c2 (bodyOf f114)))))))))).size = [0, 1] ++ [] by kernel_rfl]
      refine pureQ (C := cfg) hF hH [] [0, 1] _ _ _ (q114_2 r c z o es k) ht1s fun a2 ht2 hd2 hk2 => ?_
      refine wpIn_seq (wpIn_region ?_)
      have hy2 : a2.tmps.getD 0 undef = .func (.yield l) #[] #[] := by rw [hk2 0 (by kernel_rfl), hk1 0 (by kernel_rfl)]; exact hy
      rw [show List.range (opsOf (c1 (c2 (c1 (c1 (c2 (c2 (c1 (c1 (c2 (bodyOf f114))))))))))).size = 0 :: ([1, 2, 3, 4, 5, 6, 7, 8, 9, 10, 11, 12] ++ [13, 14, 15]) by kernel_rfl, wpOpsIn_cons]
      refine moveIn hF at3_0 op3_0.1 op3_0.2.1 ?_
      rw [op3_0.2.2]
      have hsz2 : 26 = a2.tmps.size := ht2.1
      have e3 : a2.eval (.tmp 0) = .func (.yield l) #[] #[] := hy2
      rw [e3]
      have ht3 : TmpR w g (t114 r c z o es k) (a2.put (some 9) (.func (.yield l) #[] #[])).tmps :=
        (ht2.less (ts' := t114 r c z o es k) rfl fun t => by
          match t with
          | 0 | 1 | 2 | 3 | 4 | 5 | 6 | 7 => exact .inl rfl
          | 8 => exact .inr rfl
          | t + 9 => exact .inl rfl).put' (.any _) 9 rfl
      refine pureQ (C := cfg) hF hH [13, 14, 15] [1, 2, 3, 4, 5, 6, 7, 8, 9, 10, 11, 12] _ _ _ (q114_3 r c z o es k) ht3 fun a4 ht4 hd4 hk4 => ?_
      have hy4 : a4.tmps.getD 9 undef = .func (.yield l) #[] #[] := by
        rw [hk4 9 (by kernel_rfl)]
        exact put_self (by omega)
      have hk60 : k * c ≤ 60 * 60 := Nat.mul_le_mul (by omega) hc
      have hk61 : (k + 1) * c ≤ 60 * 60 := Nat.mul_le_mul (by omega) hc
      have hle : k * c ≤ (k + 1) * c := Nat.mul_le_mul (by omega) (Nat.le_refl _)
      have hle2 : (k + 1) * c ≤ es.length := by rw [hl]; exact Nat.mul_le_mul (by omega) (Nat.le_refl _)
      have e16 : a4.eval (.tmp 16) = .int .i64 ((k * c : Nat) : Int) := by
        have h := (ht4.2 16).int_eq (k := .i64) (n := IntKind.wrap .i64 ((k : Int) * c))
        rw [wrap_i64 (by rw [← Int.natCast_mul]; omega) (by rw [← Int.natCast_mul]; omega)] at h
        rw [Int.natCast_mul]; exact h
      have e21 : a4.eval (.tmp 21) = .int .i64 (((k + 1) * c : Nat) : Int) := by
        have h := (ht4.2 21).int_eq (k := .i64) (n := IntKind.wrap .i64 (IntKind.wrap .i64 ((k : Int) + 1) * c))
        have e1 : IntKind.wrap .i64 ((k : Int) + 1) = ((k + 1 : Nat) : Int) := by rw [wrap_i64 (by omega) (by omega)]; rfl
        rw [e1, wrap_i64 (by rw [← Int.natCast_mul]; omega) (by rw [← Int.natCast_mul]; omega)] at h
        rw [Int.natCast_mul]; exact h
      obtain ⟨v, hrun, hv⟩ := slice_any (P := prog) (ht4.2 12 : V w g (.lst (some 3) z o es) (a4.tmps.getD 12 undef)) hle hle2 22 ty22 sh43 el43
      rw [wpOpsIn_cons]
      refine valIn hF at3_13 (v := v) (fun c h => by rw [op3_13.1] at h; cases h) op3_13.2.1 ?_ ?_
      · have : (execOp a4.eval (g114 13)).run prog W = (do pure (Next.value (← Instr.sliceAt 22 (a4.eval (.tmp 12)) (some (a4.eval (.tmp 16))) (some (a4.eval (.tmp 21))) none)) : Sem Next).run prog W := by
          simp only [execOp, op3_13.1, Option.map_some, Option.map_none]
        show (execOp a4.eval (g114 13)).run prog W = _
        rw [this, e16, e21]
        simp only [Sem.run_bind]
        rw [show a4.eval (.tmp 12) = a4.tmps.getD 12 undef from rfl, hrun W]
        rfl
      rw [op3_13.2.2, wpOpsIn_cons]
      have hsz4 : 26 = a4.tmps.size := ht4.1
      have ht4s : TmpR w g (s114 r c z o es k) a4.tmps := ht4.less rfl fun t => by
        match t with
        | 0 | 1 | 2 | 4 | 5 | 6 | 7 | 8 | 9 => exact .inl rfl
        | 3 | 10 | 11 | 12 | 13 | 14 | 15 | 16 | 17 | 18 | 19 | 20 | 21 => exact .inr rfl
        | t + 22 => exact .inl rfl
      have ht5 : TmpR w g (s114 r c z o es k) (a4.put (some 22) v).tmps := ht4s.put' (.any _) 22 rfl
      have hlen : pre.length < r := by
        have := congrArg List.length hpre
        simp at this; omega
      have hx := hY pre ⟨(k, v), hkr, hv⟩ W hJp hlen
      have e9 : (a4.put (some 22) v).eval (.tmp 9) = .func (.yield l) #[] #[] := (put_other (by simp)).trans hy4
      have e10 : (a4.put (some 22) v).eval (.tmp 10) = .int .i64 (k : Int) := (put_other (by simp)).trans ((ht4.2 10).int_eq (k := .i64) (n := k))
      have e22 : (a4.put (some 22) v).eval (.tmp 22) = v := put_self (by omega)
      refine yieldIn hF hn at3_14 op3_14.1 rfl op3_14.2.1 e9 (R := fun e W' => (e = .returned (.bool true) ∧ J (pre ++ [⟨(k, v), hkr, hv⟩]) W' ∧ Hold g w W W') ∨ (e = .returned (.bool false) ∧ Jx (pre ++ [⟨(k, v), hkr, hv⟩]) W')) ?_ ?_
      · have : (#[Operand.tmp 10, Operand.tmp 22].map (a4.put (some 22) v).eval) = enc114 (w := w) (g := g) (r := r) (c := c) (z := z) (es := es) ⟨(k, v), hkr, hv⟩ := by
          simp only [List.map_toArray, List.map_cons, List.map_nil, e10, e22, enc114]
        rw [this]
        exact hx
      · have hdf : (a4.put (some 22) v).defers = [] := by
          rw [put_defers, hd4, put_defers, hd2, hd1, hd]
        rintro e W' (⟨rfl, hJ', hk'⟩ | ⟨rfl, hJx'⟩)
        · refine ⟨_, rfl, ?_⟩
          rw [op3_14.2.2]
          have hH' := hH.trans hk'
          refine pureQ (C := cfg) hF hH' [] [15] _ _ _ (q114_5 r c z o es k true) (ht5.put' (.bool true) 23 rfl) fun a6 ht6 hd6 hk6 => ?_
          have e24 : a6.eval (.tmp 24) = .bool false := (ht6.2 24).bool_eq (b := false)
          refine wpIn_cond_false e24 (wpIn_skip ?_)
          refine wpIn_region ?_
          rw [show List.range (opsOf (c2 (c2 (c2 (c1 (c1 (c2 (bodyOf f114)))))))).size = [0, 1] ++ [] by kernel_rfl]
          have ht6s : TmpR w g (s114 r c z o es k) a6.tmps := ht6.less rfl fun t => by
            match t with
            | 23 | 24 => exact .inr rfl
            | 0 | 1 | 2 | 3 | 4 | 5 | 6 | 7 | 8 | 9 | 10 | 11 | 12 | 13 | 14 | 15 | 16 | 17 | 18 | 19 | 20 | 21 | 22 => exact .inl rfl
            | t + 25 => exact .inl rfl
          refine pureQ (C := cfg) hF hH' [] [0, 1] _ _ _ (q114_4 r c z o es k) ht6s fun a7 ht7 hd7 hk7 => ?_
          have e1 : IntKind.wrap .i64 ((k : Int) + 1) = ((k + 1 : Nat) : Int) := by rw [wrap_i64 (by omega) (by omega)]; rfl
          rw [e1] at ht7
          refine ih (k + 1) (pre ++ [⟨(k, v), hkr, hv⟩]) a7 W' (by omega) (by rw [List.map_append, hpre, List.range_succ]; rfl) hJ' hH' (ht7.less rfl fun t => ?_) ?_ ?_
          · match t with
            | 25 => exact .inr rfl
            | 0 | 1 | 2 | 3 | 4 | 5 | 6 | 7 | 8 | 9 | 10 | 11 | 12 | 13 | 14 | 15 | 16 | 17 | 18 | 19 | 20 | 21 | 22 | 23 | 24 => exact .inl rfl
            | t + 26 => exact .inl rfl
          · rw [hk7 0 (by kernel_rfl), hk6 0 (by kernel_rfl), put_other (by simp), put_other (by simp), hk4 0 (by kernel_rfl), put_other (by simp)]
            exact hy2
          · rw [hd7, hd6, put_defers]; exact hdf
        · refine ⟨_, rfl, ?_⟩
          rw [op3_14.2.2]
          have hfl : TmpR W' g [.any, .any, .any, .any, .any, .any, .any, .any, .any, .any, .any, .any, .any, .any, .any, .any, .any, .any, .any, .any, .any, .any, .any, .any, .any, .any] (a4.put (some 22) v).tmps :=
            (TmpR.less ht5 (ts' := List.replicate 26 .any) rfl fun t => .inr (anyD 26 t)).flat (by simp [wl])
          refine pureQ (C := cfg) hF (Hold.refl g W' W') [] [15] _ _ _ (q114_6 false) (hfl.put' (.bool false) 23 rfl) fun a6 ht6 hd6 hk6 => ?_
          have e24 : a6.eval (.tmp 24) = .bool true := (ht6.2 24).bool_eq (b := true)
          refine wpIn_cond_true e24 (wpIn_ret ?_)
          exact ⟨by rw [hd6, put_defers]; exact hdf, _, res114 _ _, ⟨_, rfl⟩, .inr ⟨pre ++ [⟨(k, v), hkr, hv⟩], trivial, hJx'⟩⟩
  exact key r 0 [] a1 W (by omega) rfl h0 hH (ht1.less rfl fun t => by
    match t with
    | 4 => exact .inr rfl
    | 0 | 1 | 2 | 3 | 5 | 6 => exact .inl rfl
    | t + 7 => exact .inl rfl) ((hk1 0 (by kernel_rfl)).trans hy0) hd1
end Go.Ab

/- Arguments that can be read as data, as values of the interpreter. -/
set_option linter.unusedVariables false
set_option linter.unusedSimpArgs false
set_option maxRecDepth 100000
namespace Go.Ab
open Go.Proofs Go.Proofs.Try Go.RowKit

def g0 : G := ⟨fun _ _ => False, fun _ => False, fun _ => none, fun _ _ => none⟩
theorem get_nil (nm : Nat) : Mem.get ([] : Mem) nm = none := by simp [Mem.get]
theorem memR0 (w : World) : MemR w.heap.size w g0 [] where
  obj nm bx cs h := by rw [get_nil] at h; cases h
  tok nm n sz h := by rw [get_nil] at h; cases h
  resv nm h := ⟨rfl, fun _ => rfl⟩
  fresh nm h := ⟨rfl, fun _ => rfl⟩
  inj nm nm' b h := by unfold blk at h; rw [get_nil] at h; cases h
  wrLt b off h := h.elim
  boxLt b h := h.elim
theorem cfgOk : CfgOk cfg where
  name g fn h := by
    have hall : (Try.prog.funcs.toList.all fun fn => !(fn.name == "runtime.NumGoroutine")) = true := by kernel_rfl
    have hm : fn ∈ Try.prog.funcs.toList := by
      rw [Array.mem_toList_iff]
      exact Array.mem_of_getElem? h
    have := List.all_eq_true.1 hall fn hm
    simpa using this
  lib g h hh := by
    by_cases e1 : g = 45
    · subst e1
      obtain rfl : (fun _ => none) = h := Option.some.inj hh
      exact ⟨⟨Try.f45, by kernel_rfl, rfl⟩, fun vs v hv => by cases hv⟩
    · by_cases e2 : g = 47
      · subst e2
        obtain rfl : (fun _ => none) = h := Option.some.inj hh
        exact ⟨⟨Try.f47, by kernel_rfl, rfl⟩, fun vs v hv => by cases hv⟩
      · have b1 : Nat.beq g 45 = false := by
          cases hb : Nat.beq g 45 with
          | false => rfl
          | true => exact absurd (Nat.eq_of_beq_eq_true hb) e1
        have b2 : Nat.beq g 47 = false := by
          cases hb : Nat.beq g 47 with
          | false => rfl
          | true => exact absurd (Nat.eq_of_beq_eq_true hb) e2
        have hh' : (match Nat.beq g 45 with | true => some (fun _ => none) | false => match Nat.beq g 47 with | true => some (fun _ => none) | false => none) = some h := hh
        rw [b1, b2] at hh'
        cases hh'
/-! ### Types -/
theorem u3 : Try.prog.underlying 3 = some (.int .i64) := by kernel_rfl
theorem u4 : Try.prog.underlying 4 = some .bool := by kernel_rfl
theorem u116 : Try.prog.underlying 116 = some (.int .u32) := by kernel_rfl
theorem u41 : Try.prog.underlying 41 = some (.slice 116) := by kernel_rfl
theorem u22 : Try.prog.underlying 22 = some (.slice 43) := by kernel_rfl
theorem c3 : Try.prog.cellsOf 3 = 1 := by kernel_rfl
theorem c4 : Try.prog.cellsOf 4 = 1 := by kernel_rfl
theorem c22 : Try.prog.cellsOf 22 = 1 := by kernel_rfl
theorem c24 : Try.prog.cellsOf 24 = 3 := by kernel_rfl
theorem c41 : Try.prog.cellsOf 41 = 1 := by kernel_rfl
theorem c43 : Try.prog.cellsOf 43 = 3 := by kernel_rfl
theorem c116 : Try.prog.cellsOf 116 = 1 := by kernel_rfl
noncomputable def fieldsOf (t : Nat) : Array Field := match Try.prog.underlying t with
  | some (.struct fs) => fs
  | _ => #[]
theorem u43 : Try.prog.underlying 43 = some (.struct (fieldsOf 43)) := by kernel_rfl
theorem u24 : Try.prog.underlying 24 = some (.struct (fieldsOf 24)) := by kernel_rfl
theorem f43 : (fieldsOf 43).toList.map (fun f => (f.type, f.offset)) = [(4, 0), (41, 1), (41, 2)] := by kernel_rfl
theorem f24 : (fieldsOf 24).toList.map (fun f => (f.type, f.offset)) = [(3, 0), (3, 1), (22, 2)] := by kernel_rfl

/-! ### Cells -/
theorem cells_get {w : World} {a : Addr} {n : Nat} {cs : List Value} (h : w.cells? 0 a n = some cs) : cs.length = n ∧ ∀ j, j < n → w.cell? (a.add j) = cs[j]? := by
  unfold World.cells? at h
  rw [if_pos (Nat.zero_le _)] at h
  refine ⟨by simpa using mapM_some_length h, fun j hj => mapM_some_get h j j (by simp [hj])⟩
theorem cell_spot {w : World} {a : Addr} {u : Value} (h : w.cell? a = some u) : a.spot = none := World.cell?_spot h
theorem add_mk {a : Addr} (h : a.spot = none) (j : Nat) : a.add j = ⟨a.block, a.off + j, none⟩ := by
  obtain ⟨b, o, s⟩ := a
  subst h
  exact Addr_add b o j
theorem three {α : Type} {cs : List α} (h : cs.length = 3) : ∃ a b c, cs = [a, b, c] := by
  match cs, h with
  | [a, b, c], _ => exact ⟨a, b, c, rfl⟩

section
variable {H : Type} {enc : TypeId × Value → H} {W : World} {fuel : Nat} {cs : List Value} {x : DataW H × List MemPlace}

theorem field_read {t : Nat} (ht : Try.prog.underlying t = some (.struct (fieldsOf t))) (h : DataW.trod enc Try.prog W 0 (fun _ => true) true fuel t cs = some x) {t' off i : Nat} (hi : ((fieldsOf t).toList.map (fun f => (f.type, f.offset)))[i]? = some (t', off)) :
    ∃ n y, DataW.trod enc Try.prog W 0 (fun _ => true) true n t' ((cs.drop off).take (Try.prog.cellsOf t')) = some y := by
  obtain ⟨xs, n, rfl, _, _, hl, hf⟩ := DataW.trod_struct ht h
  rw [List.getElem?_map, Option.map_eq_some_iff] at hi
  obtain ⟨f, h1, h2⟩ := hi
  obtain ⟨rfl, rfl⟩ := Prod.mk.inj h2
  have hfi : (fieldsOf t)[i]? = some f := by rw [← h1, Array.getElem?_toList]
  have := hf i f hfi
  have hlt : i < xs.length := by
    rw [hl]
    obtain ⟨h, _⟩ := Array.getElem?_eq_some_iff.1 hfi
    exact h
  rw [List.getElem?_eq_getElem hlt] at this
  exact ⟨n, _, this⟩

theorem u32_at {a : Addr} {i : Nat} (h : (W.cells? 0 (a.add (i * Try.prog.cellsOf 116)) (Try.prog.cellsOf 116)).bind (DataW.trod enc Try.prog W 0 (fun _ => true) true fuel 116) = some x) : ∃ d : Nat, d < 4294967296 ∧ W.cell? (a.add i) = some (.int .u32 d) := by
  rw [c116, Nat.mul_one] at h
  obtain ⟨cs, h1, h2⟩ := Option.bind_eq_some_iff.1 h
  obtain ⟨n, rfl, _, hw⟩ := DataW.trod_int u116 h2
  have h3 := (cells_get h1).2 0 (by omega)
  have hw2 : 0 ≤ n ∧ n ≤ 4294967295 := by
    simp only [Lit.wf, Bool.and_eq_true, decide_eq_true_eq] at hw
    exact hw
  refine ⟨n.toNat, by omega, ?_⟩
  rw [Int.toNat_of_nonneg hw2.1]
  exact h3

/-- A number. -/
theorem nat_read (h : DataW.trod enc Try.prog W 0 (fun _ => true) true fuel 41 cs = some x) : ∃ v, ∃ y : NV, cs = [v] ∧ V W g0 y.av v ∧ XN y ∧ y.o = .no := by
  rcases DataW.trod_slice u41 h with ⟨rfl, _⟩ | ⟨a, len, cap, elems, rest, n, _, rfl, _, _, hl, hm, he, hel, hre, _⟩
  · exact ⟨_, ⟨true, .no, []⟩, rfl, .nils none .no (.inr rfl), ⟨fun i => by simp, fun _ => rfl⟩, rfl⟩
  · obtain ⟨hrl, hre⟩ := hre rfl
    have cell : ∀ i, ∃ d : Nat, i < cap → d < 4294967296 ∧ W.cell? (a.add i) = some (.int .u32 d) := by
      intro i
      by_cases hi : i < cap
      · by_cases hi2 : i < len
        · have h1 := hel i hi2
          rw [List.getElem?_eq_getElem (by omega)] at h1
          obtain ⟨d, hd⟩ := u32_at h1
          exact ⟨d, fun _ => hd⟩
        · have h1 := hre (i - len) (by omega)
          rw [List.getElem?_eq_getElem (by omega), show len + (i - len) = i by omega] at h1
          obtain ⟨d, hd⟩ := u32_at h1
          exact ⟨d, fun _ => hd⟩
      · exact ⟨0, fun h => absurd h hi⟩
    obtain ⟨f, hf⟩ := Classical.axiomOfChoice cell
    have hsp : cap = 0 ∨ a.spot = none := by
      by_cases h0 : cap = 0
      · exact .inl h0
      · exact .inr (cell_spot (hf 0 (by omega)).2)
    have hfl : flat (((List.range len).map f).map dg) = ((List.range len).map f).map dg := by
      generalize (List.range len).map f = l
      induction l with
      | nil => rfl
      | cons d l ih =>
        show (dg d).cells ++ flat (l.map dg) = _
        rw [ih]; rfl
    have hlen : (((List.range len).map f).map dg).length = len := by simp
    refine ⟨_, ⟨false, .no, (List.range len).map f⟩, rfl, ?_, ⟨fun i => ?_, fun h => by cases h⟩, rfl⟩
    · have hV := V.lst (w := W) (g := g0) none .no (((List.range len).map f).map dg) a cap (fun j => .int .u32 (f j)) hsp (by rw [hlen]; exact hl) hm
        (fun e he => by
          obtain ⟨d, _, rfl⟩ := List.mem_map.1 he
          exact ⟨rfl, rfl⟩)
        (fun j hj => by
          rw [hfl, hlen] at hj
          refine ⟨?_, fun h => h, fun h => h⟩
          have := (hf j (by omega)).2
          rw [add_mk (hsp.resolve_left (by omega))] at this
          exact this)
        (fun j hj => by
          rw [hfl, hlen] at hj
          rw [hfl, List.getD_eq_getElem?_getD, List.getElem?_map, List.getElem?_map, List.getElem?_range hj]
          exact .int _ _) trivial
      rw [hlen] at hV
      exact hV
    · show ((List.range len).map f).getD i 0 < _
      rw [List.getD_eq_getElem?_getD, List.getElem?_map]
      by_cases hi : i < len
      · rw [List.getElem?_range hi]
        exact (hf i (by omega)).1
      · rw [List.getElem?_eq_none (by simp; omega)]
        exact (by omega : 0 < 4294967296)

/-- A fraction. -/
theorem ratio_read (h : DataW.trod enc Try.prog W 0 (fun _ => true) true fuel 43 cs = some x) : ∃ c0 c1 c2, ∃ r : RV, cs = [c0, c1, c2] ∧ V W g0 (.bool r.neg) c0 ∧ V W g0 r.num.av c1 ∧ V W g0 r.den.av c2 ∧ XR r ∧ r.num.o = .no ∧ r.den.o = .no := by
  have hlen : cs.length = 3 := by
    obtain ⟨_, _, _, _, h1, _⟩ := DataW.trod_struct u43 h
    rw [h1, c43]
  obtain ⟨c0, c1, c2, rfl⟩ := three hlen
  obtain ⟨n0, y0, h0⟩ := field_read u43 h (t' := 4) (off := 0) (i := 0) (by rw [f43]; rfl)
  obtain ⟨n1, y1, h1⟩ := field_read u43 h (t' := 41) (off := 1) (i := 1) (by rw [f43]; rfl)
  obtain ⟨n2, y2, h2⟩ := field_read u43 h (t' := 41) (off := 2) (i := 2) (by rw [f43]; rfl)
  rw [c4] at h0
  rw [c41] at h1 h2
  obtain ⟨b, e0, _⟩ := DataW.trod_bool u4 h0
  obtain ⟨v1, z1, e1, q1, q2, q3⟩ := nat_read h1
  obtain ⟨v2, z2, e2, r1, r2, r3⟩ := nat_read h2
  simp only [List.drop_zero, List.drop_succ_cons, List.take_succ_cons, List.take_zero, List.cons.injEq, and_true] at e0 e1 e2
  subst e0; subst e1; subst e2
  refine ⟨_, _, _, ⟨b, z1, z2⟩, rfl, .bool b, q1, r1, ⟨q2, r2, ?_⟩, q3, r3⟩
  obtain ⟨a1, o1, d1⟩ := z1
  obtain ⟨a2, o2, d2⟩ := z2
  subst q3; subst r3
  rfl

theorem flat3 : ∀ (es : List RV) (j : Nat), j < es.length * 3 → (flat (es.map RV.av)).getD j .any = ((es.getD (j / 3) ⟨false, ⟨true, .no, []⟩, ⟨true, .no, []⟩⟩).av.cells).getD (j % 3) .any
  | [], j, h => by simp at h
  | r :: es, 0, h => rfl
  | r :: es, 1, h => rfl
  | r :: es, 2, h => rfl
  | r :: es, j + 3, h => by
    have ih := flat3 es j (by simp only [List.length_cons] at h; omega)
    have e1 : (j + 3) / 3 = j / 3 + 1 := by omega
    have e2 : (j + 3) % 3 = j % 3 := by omega
    rw [e1, e2, List.getD_cons_succ, ← ih]
    rfl
theorem flat3_len (es : List RV) : (flat (es.map RV.av)).length = es.length * 3 := by
  induction es with
  | nil => rfl
  | cons r es ih =>
    show (_ :: _ :: _ :: flat (es.map RV.av)).length = _
    rw [List.length_cons, List.length_cons, List.length_cons, ih, List.length_cons]; omega

theorem ratio_at {a : Addr} {i : Nat} (ha : i = 0 ∨ a.spot = none) (h : (W.cells? 0 (a.add (i * Try.prog.cellsOf 43)) (Try.prog.cellsOf 43)).bind (DataW.trod enc Try.prog W 0 (fun _ => true) true fuel 43) = some x) :
    a.spot = none ∧ ∃ r : RV, (XR r ∧ r.num.o = .no ∧ r.den.o = .no) ∧ ∀ j, j < 3 → ∃ u, W.cell? ⟨a.block, a.off + (i * 3 + j), none⟩ = some u ∧ V W g0 (r.av.cells.getD j .any) u := by
  rw [c43] at h
  obtain ⟨cs, h1, h2⟩ := Option.bind_eq_some_iff.1 h
  obtain ⟨c0, c1, c2, r, rfl, v0, v1, v2, xr, o1, o2⟩ := ratio_read h2
  have h3 := (cells_get h1).2
  have hs : a.spot = none := by
    rcases ha with rfl | ha
    · rw [Nat.zero_mul] at h3
      exact cell_spot (h3 0 (by omega))
    · exact ha
  refine ⟨hs, r, ⟨xr, o1, o2⟩, fun j hj => ?_⟩
  have h4 := h3 j hj
  rw [add_mk hs, Addr_add, Nat.add_assoc] at h4
  match j, hj with
  | 0, _ => exact ⟨c0, h4, v0⟩
  | 1, _ => exact ⟨c1, h4, v1⟩
  | 2, _ => exact ⟨c2, h4, v2⟩

theorem sh_rv {r : RV} (h1 : r.num.o = .no) (h2 : r.den.o = .no) : shOk (some 3) r.av = true ∧ pl r.av = true := by
  obtain ⟨b, ⟨a1, o1, d1⟩, ⟨a2, o2, d2⟩⟩ := r
  subst h1; subst h2
  exact ⟨rfl, rfl⟩

/-- A row of fractions. -/
theorem row_read (h : DataW.trod enc Try.prog W 0 (fun _ => true) true fuel 22 cs = some x) : ∃ v, ∃ l : LV, cs = [v] ∧ V W g0 l.av v ∧ (l.sh = some 3 ∨ l.es = []) ∧ (l.z = true → l.es = []) ∧ (∀ r ∈ l.es, XR r) ∧ l.o = .no := by
  rcases DataW.trod_slice u22 h with ⟨rfl, _⟩ | ⟨a, len, cap, elems, rest, n, _, rfl, _, _, hl, hm, he, hel, hre, _⟩
  · exact ⟨_, ⟨some 3, true, .no, []⟩, rfl, .nils _ .no (.inr rfl), .inl rfl, fun _ => rfl, (fun r hr => by cases hr), rfl⟩
  · obtain ⟨hrl, hre⟩ := hre rfl
    have raw : ∀ i, i < cap → ∃ y, (W.cells? 0 (a.add (i * Try.prog.cellsOf 43)) (Try.prog.cellsOf 43)).bind (DataW.trod enc Try.prog W 0 (fun _ => true) true n 43) = some y := by
      intro i hi
      by_cases hi2 : i < len
      · have h1 := hel i hi2
        rw [List.getElem?_eq_getElem (by omega)] at h1
        exact ⟨_, h1⟩
      · have h1 := hre (i - len) (by omega)
        rw [List.getElem?_eq_getElem (by omega), show len + (i - len) = i by omega] at h1
        exact ⟨_, h1⟩
    have hsp : cap = 0 ∨ a.spot = none := by
      by_cases h0 : cap = 0
      · exact .inl h0
      · obtain ⟨y, hy⟩ := raw 0 (by omega)
        exact .inr (ratio_at (.inl rfl) hy).1
    have cell : ∀ i, ∃ r : RV, i < cap → (XR r ∧ r.num.o = .no ∧ r.den.o = .no) ∧ ∀ j, j < 3 → ∃ u, W.cell? ⟨a.block, a.off + (i * 3 + j), none⟩ = some u ∧ V W g0 (r.av.cells.getD j .any) u := by
      intro i
      by_cases hi : i < cap
      · obtain ⟨y, hy⟩ := raw i hi
        obtain ⟨r, hr⟩ := (ratio_at (.inr (hsp.resolve_left (by omega))) hy).2
        exact ⟨r, fun _ => hr⟩
      · exact ⟨⟨false, ⟨true, .no, []⟩, ⟨true, .no, []⟩⟩, fun h => absurd h hi⟩
    obtain ⟨f, hf⟩ := Classical.axiomOfChoice cell
    have hlen : (((List.range len).map f).map RV.av).length = len := by simp
    have hlen0 : ((List.range len).map f).length = len := by simp
    have hget : ∀ j, j < len * 3 → ((List.range len).map f).getD (j / 3) ⟨false, ⟨true, .no, []⟩, ⟨true, .no, []⟩⟩ = f (j / 3) := by
      intro j hj
      rw [List.getD_eq_getElem?_getD, List.getElem?_map, List.getElem?_range (by omega)]
      rfl
    have hmem : ∀ r ∈ (List.range len).map f, XR r ∧ r.num.o = .no ∧ r.den.o = .no := by
      intro r hr
      obtain ⟨i, hi, rfl⟩ := List.mem_map.1 hr
      exact (hf i (by have := List.mem_range.1 hi; omega)).1
    have hcl : ∀ j, j < len * 3 → ∃ u, W.cell? ⟨a.block, a.off + j, none⟩ = some u ∧ V W g0 ((flat (((List.range len).map f).map RV.av)).getD j .any) u := by
      intro j hj
      rw [flat3 _ j (by rw [hlen0]; exact hj), hget j hj]
      have h1 := (hf (j / 3) (by omega)).2 (j % 3) (by omega)
      rw [show j / 3 * 3 + j % 3 = j by omega] at h1
      exact h1
    have hus : ∀ j, ∃ u, j < len * 3 → W.cell? ⟨a.block, a.off + j, none⟩ = some u ∧ V W g0 ((flat (((List.range len).map f).map RV.av)).getD j .any) u := by
      intro j
      by_cases hj : j < len * 3
      · obtain ⟨u, hu⟩ := hcl j hj
        exact ⟨u, fun _ => hu⟩
      · exact ⟨undef, fun h => absurd h hj⟩
    obtain ⟨us, hus⟩ := Classical.axiomOfChoice hus
    refine ⟨_, ⟨some 3, false, .no, (List.range len).map f⟩, rfl, ?_, .inl rfl, (fun h => by cases h), fun r hr => (hmem r hr).1, rfl⟩
    have hV := V.lst (w := W) (g := g0) (some 3) .no (((List.range len).map f).map RV.av) a cap us hsp (by rw [hlen]; exact hl) hm
      (fun e he => by
        obtain ⟨r, hr, rfl⟩ := List.mem_map.1 he
        exact sh_rv (hmem r hr).2.1 (hmem r hr).2.2)
      (fun j hj => by
        rw [flat3_len, hlen0] at hj
        exact ⟨(hus j hj).1, fun h => h, fun h => h⟩)
      (fun j hj => by
        rw [flat3_len, hlen0] at hj
        exact (hus j hj).2) trivial
    rw [hlen] at hV
    exact hV

/-- A matrix. -/
theorem mat_read {v : Value} {d : DataW H} {ps : List MemPlace} (hv : ∃ cs, v = .agg cs) (h : DataW.Trod enc Try.prog W 0 (fun _ => true) true 24 v d ps) : ∃ y : MV, V W g0 y.av v ∧ XM y ∧ y.fr = y := by
  obtain ⟨cs, rfl⟩ := hv
  obtain ⟨fuel, h⟩ := h
  have hlen : cs.toList.length = 3 := by
    obtain ⟨_, _, _, _, h1, _⟩ := DataW.trod_struct u24 h
    rw [c24] at h1
    exact h1
  have h : DataW.trod enc Try.prog W 0 (fun _ => true) true fuel 24 cs.toList = some (d, ps) := h
  obtain ⟨v0, v1, v2, hcs⟩ := three hlen
  obtain rfl : cs = #[v0, v1, v2] := by
    cases cs
    simp_all
  obtain ⟨n0, y0, h0⟩ := field_read u24 h (t' := 3) (off := 0) (i := 0) (by rw [f24]; rfl)
  obtain ⟨n1, y1, h1⟩ := field_read u24 h (t' := 3) (off := 1) (i := 1) (by rw [f24]; rfl)
  obtain ⟨n2, y2, h2⟩ := field_read u24 h (t' := 22) (off := 2) (i := 2) (by rw [f24]; rfl)
  rw [c3] at h0 h1
  rw [c22] at h2
  obtain ⟨a, e0, _⟩ := DataW.trod_int u3 h0
  obtain ⟨b, e1, _⟩ := DataW.trod_int u3 h1
  obtain ⟨v, l, e2, q1, q2, q3, q4, q5⟩ := row_read h2
  simp only [List.drop_zero, List.drop_succ_cons, List.take_succ_cons, List.take_zero, List.cons.injEq, and_true] at e0 e1 e2
  subst e0; subst e1; subst e2
  refine ⟨⟨a, b, l⟩, .agg _ _ rfl fun j hj => ?_, ⟨q2, q3, q4⟩, ?_⟩
  · match j, hj with
    | 0, _ => exact .int _ _
    | 1, _ => exact .int _ _
    | 2, _ => exact q1
  · obtain ⟨sh, z, o, es⟩ := l
    subst q5
    rfl
theorem okWide_agg {base : Nat} {t : Nat} {v : Value} {fs : Array Field} (ht : Try.prog.underlying t = some (.struct fs)) (h : Value.okWide Try.prog W .any base t v) : ∃ cs, v = .agg cs := by
  simp only [Value.okWide, ht] at h
  obtain ⟨cs, h, _⟩ := h
  exact ⟨cs, h⟩
end
end Go.Ab

/- A plug: functions that the interpreter does not walk, put in behind its back where nobody has called them. -/
set_option linter.unusedVariables false
set_option linter.unusedSimpArgs false
namespace Go.Ab
abbrev Cfg.plug (C : Cfg) (L : Nat → Option (List AV → Option AV)) : Cfg := ⟨C.P, C.inl, C.arrm, C.tokm, C.two, C.thaw, C.mask, C.ord, C.ahd, L⟩
/-- What C knows of a function L knows too; of the others C knows nothing. -/
def Plugs (C : Cfg) (L : Nat → Option (List AV → Option AV)) : Prop := ∀ g, L g = C.lib g ∨ C.lib g = some (fun _ => none)
section
variable {R : Type} {C : Cfg} {L : Nat → Option (List AV → Option AV)} {fid : Nat} {cp cp' : Nat → List AV → Option AV} {ci ci' : Nat → List AV → Mem → Option (AV × Mem)}
theorem callK_plug (hp : Plugs C L) (h : CLe cp cp' ci ci') {d : Option Nat} {g : Nat} {vs : List AV} {m : Mem} {K : AV → Mem → Option R} {x : R} (hx : callK C fid cp ci d g vs m K = some x) : callK (C.plug L) fid cp' ci' d g vs m K = some x := by
  unfold callK at hx ⊢
  cases hl : C.lib g with
  | some l =>
    rw [hl] at hx
    rcases hp g with e | e
    · rw [show (C.plug L).lib g = some l from e.trans hl]; exact hx
    · rw [e] at hl
      obtain rfl := Option.some.inj hl
      simp at hx
  | none =>
    rw [hl] at hx
    have e : (C.plug L).lib g = none := by
      rcases hp g with e | e
      · exact e.trans hl
      · rw [e] at hl; cases hl
    rw [e]
    simp only at hx ⊢
    cases hi : C.inl fid g with
    | true =>
      rw [hi] at hx
      cases d with
      | some d => exact hx
      | none =>
        simp only [Option.bind_eq_some_iff] at hx ⊢
        obtain ⟨r, hr, hx⟩ := hx
        cases ht : C.thaw fid g with
        | false => rw [ht] at hr; exact ⟨r, h.2 _ _ _ _ hr, hx⟩
        | true =>
          rw [ht] at hr
          simp only [thawCall, Option.bind_eq_some_iff] at hr ⊢
          obtain ⟨r1, h1, q, h2, h3⟩ := hr
          exact ⟨r, ⟨r1, h1, q, h.2 _ _ _ _ h2, h3⟩, hx⟩
    | false =>
      rw [hi] at hx
      simp only [Option.bind_eq_some_iff] at hx ⊢
      obtain ⟨r, hr, hx⟩ := hx
      refine ⟨r, ?_, hx⟩
      unfold pcall at hr ⊢
      simp only [Option.bind_eq_some_iff] at hr ⊢
      obtain ⟨r1, h1, h2⟩ := hr
      refine ⟨r1, h1, ?_⟩
      split at h2
      · cases h2
      · rename_i hne
        rw [if_neg hne]
        simp only [Option.map_eq_some_iff] at h2 ⊢
        obtain ⟨v, hv, h2⟩ := h2
        exact ⟨v, h.1 _ _ _ hv, h2⟩
theorem opF_plug (hp : Plugs C L) (h : CLe cp cp' ci ci') {d : Option Nat} {o : Oper} {ρ : Operand → AV} {m : Mem} {x : AV × Mem} (hx : opF C fid cp ci d o ρ m = some x) : opF (C.plug L) fid cp' ci' d o ρ m = some x := by
  unfold opF opK at hx ⊢
  cases ho : o.op with
  | call c =>
    rw [ho] at hx
    simp only at hx ⊢
    cases hc : c.callee with
    | value f =>
      rw [hc] at hx
      simp only [Option.bind_eq_some_iff] at hx ⊢
      obtain ⟨gc, h1, hx⟩ := hx
      exact ⟨gc, h1, callK_plug hp h hx⟩
    | _ => rw [hc] at hx; exact hx
  | _ => rw [ho] at hx; exact hx
theorem stepF_plug (hp : Plugs C L) (h : CLe cp cp' ci ci') {base : Option Nat} {ops : Array Oper} {i : Nat} {st s : St} (hx : stepF C fid cp ci base ops i st = some s) : stepF (C.plug L) fid cp' ci' base ops i st = some s := by
  unfold stepF at hx ⊢
  cases hi : ops[i]? with
  | none => rw [hi] at hx; cases hx
  | some o =>
    rw [hi] at hx
    simp only [Option.map_eq_some_iff] at hx ⊢
    obtain ⟨r, hr, hx⟩ := hx
    refine ⟨r, ?_, hx⟩
    unfold opG at hr ⊢
    cases hg : o.guard with
    | none => rw [hg] at hr; exact opF_plug hp h hr
    | some jw =>
      obtain ⟨j, want⟩ := jw
      rw [hg] at hr
      simp only at hr ⊢
      cases hd : (ops[j]?).bind (·.dst) with
      | none => rw [hd] at hr; cases hr
      | some g =>
        rw [hd] at hr
        simp only at hr ⊢
        split at hr
        · exact hr
        · split at hr
          · split at hr
            · rename_i hb; rw [if_pos hb]; exact opF_plug hp h hr
            · rename_i hb; rw [if_neg hb]; exact hr
          · cases hr
theorem runF_plug (hp : Plugs C L) (h : CLe cp cp' ci ci') {base : Option Nat} {ops : Array Oper} : ∀ (l : List Nat) {st s : St}, runF C fid cp ci base ops l st = some s → runF (C.plug L) fid cp' ci' base ops l st = some s
  | [], _, _, hx => hx
  | i :: l, st, s, hx => by
    simp only [runF, Option.bind_eq_some_iff] at hx ⊢
    obtain ⟨s1, h1, h2⟩ := hx
    exact ⟨s1, stepF_plug hp h h1, runF_plug hp h l h2⟩
theorem runOps_plug (hp : Plugs C L) (h : CLe cp cp' ci ci') {base : Option Nat} {ops : Array Oper} {l : List Nat} {st : St} {K : St → Option R} {r : R} (hx : runOps C fid cp ci base ops l st K = some r) : runOps (C.plug L) fid cp' ci' base ops l st K = some r := by
  rw [runOps_eq] at hx ⊢
  simp only [Option.bind_eq_some_iff] at hx ⊢
  obtain ⟨s, h1, h2⟩ := hx
  exact ⟨s, runF_plug hp h l h1, h2⟩
theorem execW_plug (hp : Plugs C L) (h : CLe cp cp' ci ci') : ∀ (c : Code) (st : St) (K : Ex → St → Option R) (r : R), execW C fid cp ci c st K = some r → execW (C.plug L) fid cp' ci' c st K = some r := by
  intro c
  induction c with
  | region id ops d =>
    intro st K r hx
    cases d with
    | false => simp only [execW] at hx ⊢; exact runOps_plug hp h hx
    | true =>
      simp only [execW] at hx ⊢
      cases hd : drawOk3 C.P ops (ordOf (C.ord fid id) ops.size) (C.ahd fid id) (C.two fid id) with
      | true => rw [hd] at hx; exact runOps_plug hp h hx
      | false => rw [hd] at hx; cases hx
  | seq a b iha ihb =>
    intro st K r hx
    simp only [execW] at hx ⊢
    have h1 := iha _ _ _ hx
    refine (execW_lin a).mono (fun e s r hr => ?_) h1
    cases e with
    | normal => exact ihb _ _ _ hr
    | exit id => exact hr
    | ret => exact hr
  | cond co a b iha ihb =>
    intro st K r hx
    simp only [execW] at hx ⊢
    unfold ifA at hx ⊢
    split at hx
    · split at hx
      · exact iha _ _ _ hx
      · exact ihb _ _ _ hx
    · cases hx
  | block id b ih =>
    intro st K r hx
    simp only [execW] at hx ⊢
    exact ih _ _ _ hx
  | loop b ih =>
    intro st K r hx
    simp only [execW, grd] at hx ⊢
    cases hf : fits (C.mask fid (keyOf b)).head st.tmps with
    | false => rw [hf] at hx; cases hx
    | true =>
      rw [hf] at hx
      simp only at hx ⊢
      obtain ⟨n, hn⟩ := lim_some hx
      have : ∀ n st, loopG (execW C fid cp ci b) (C.mask fid (keyOf b)) n st K = some r → loopG (execW (C.plug L) fid cp' ci' b) (C.mask fid (keyOf b)) n st K = some r := by
        intro n
        induction n with
        | zero => intro st hx; cases hx
        | succ n ihn =>
          intro st hx
          simp only [loopG] at hx ⊢
          have h1 := ih _ _ _ hx
          rcases execW_lin (R := R) (C := C.plug L) (fid := fid) (callP := cp') (callI := ci') b st with hl | ⟨e, s, hl⟩
          · rw [hl] at h1; cases h1
          · rw [hl] at h1 ⊢
            simp only at h1 ⊢
            cases e with
            | normal =>
              simp only [roundG, grd] at h1 ⊢
              cases hf' : fits (C.mask fid (keyOf b)).head s.tmps with
              | true => rw [hf'] at h1; exact ihn _ h1
              | false => rw [hf'] at h1; cases h1
            | exit id => exact h1
            | ret => exact h1
      exact Rise.lim (F := fun n => loopG (execW (C.plug L) fid cp' ci' b) (C.mask fid (keyOf b)) n _ K) (fun n r h => loopG_rise (execW_lin b) _ K n _ r h) (this n _ hn)
  | _ => intro st K r hx; exact hx
theorem acallW_plug (hp : Plugs C L) : ∀ k f args m r, acallW C k f args m = some r → acallW (C.plug L) k f args m = some r := by
  intro k
  induction k with
  | zero => intro f args m r h; cases h
  | succ k ih =>
    intro f args m r h
    rw [acallW] at h ⊢
    cases hf : C.P.funcs[f]? with
    | none => rw [hf] at h; cases h
    | some fn =>
      rw [hf] at h
      simp only at h ⊢
      cases hb : fn.body with
      | none => rw [hb] at h; cases h
      | some c =>
        rw [hb] at h
        exact execW_plug hp (acallP_le fun g vs m r => ih g vs m r) c _ _ _ h
theorem AC_plug (hp : Plugs C L) {f : Nat} {args : List AV} {m : Mem} {r : AV × Mem} (h : AC C f args m = some r) : AC (C.plug L) f args m = some r := by
  obtain ⟨k, hk⟩ := lim_some h
  exact Rise.lim (F := fun k => acallW (C.plug L) k f args m) (fun k r h => acallW_rise _ k f args m r h) (acallW_plug hp k f args m r hk)
theorem AP_plug (hp : Plugs C L) {f : Nat} {args : List AV} {v : AV} (h : AP C f args = some v) : AP (C.plug L) f args = some v :=
  (acallP_le fun g vs m r hr => AC_plug hp hr).1 f args v h
end
end Go.Ab

/- matrix.Stochastic on the machine. -/
set_option linter.unusedVariables false
set_option linter.unusedSimpArgs false
set_option maxRecDepth 100000
namespace Go.Ab
open Go.Proofs.Try Go.RowKit

theorem hf45 : prog.funcs[45]? = some f45 := by kernel_rfl
theorem hb45 : f45.body = some (bodyOf f45) := by kernel_rfl
theorem nt45 : f45.ntmps = 35 := by kernel_rfl
theorem e45 : bodyOf f45 = .seq (c1 (bodyOf f45)) (.seq (c1 (c2 (bodyOf f45))) (.seq (.seq (c1 (c1 (c2 (c2 (bodyOf f45))))) (.block 0 (.rangeFunc (.tmp 18) #[19, 20] (rA (c1 (c2 (c1 (c2 (c2 (bodyOf f45))))))) (rB (c1 (c2 (c1 (c2 (c2 (bodyOf f45)))))))))) (c2 (c2 (c2 (bodyOf f45)))))) := by kernel_rfl
theorem eA45 : rA (c1 (c2 (c1 (c2 (c2 (bodyOf f45)))))) = .region 4 (opsOf (rA (c1 (c2 (c1 (c2 (c2 (bodyOf f45)))))))) false := by kernel_rfl
theorem atA45 : (opsOf (rA (c1 (c2 (c1 (c2 (c2 (bodyOf f45))))))))[0]? = some (((opsOf (rA (c1 (c2 (c1 (c2 (c2 (bodyOf f45))))))))[0]?).getD default) := by kernel_rfl
theorem opA45 : (((opsOf (rA (c1 (c2 (c1 (c2 (c2 (bodyOf f45))))))))[0]?).getD default).op = .assign (.tmp 20) ∧ (((opsOf (rA (c1 (c2 (c1 (c2 (c2 (bodyOf f45))))))))[0]?).getD default).guard = none ∧ (((opsOf (rA (c1 (c2 (c1 (c2 (c2 (bodyOf f45))))))))[0]?).getD default).dst = some 4 := ⟨by kernel_rfl, by kernel_rfl, by kernel_rfl⟩
theorem szA45 : List.range (opsOf (rA (c1 (c2 (c1 (c2 (c2 (bodyOf f45)))))))).size = [0] := by kernel_rfl
theorem calm45 : calm (c1 (bodyOf f45)) = true ∧ calm (c1 (c2 (bodyOf f45))) = true ∧ calm (c1 (c1 (c2 (c2 (bodyOf f45))))) = true ∧ calm (rB (c1 (c2 (c1 (c2 (c2 (bodyOf f45))))))) = true ∧ calm (c2 (c2 (c2 (bodyOf f45)))) = true := ⟨by kernel_rfl, by kernel_rfl, by kernel_rfl, by kernel_rfl, by kernel_rfl⟩
theorem rs45 (ts : List AV) (m : Mem) (b : Bool) (h2 : ts.getD 2 .any = .ptr 1 0) (h : m[1]? = some (some (.obj true [.bool b]))) : resultsA prog m ts f45.results.toList = some [.bool b] := by
  have e : f45.results.toList = [.cell 2 4] := by kernel_rfl
  have e1 : resA prog m ts (.cell 2 4) = loadA none m (ts.getD 2 .any) := by kernel_rfl
  rw [e, resultsA, e1, h2]
  simp [loadA, mobj h, cutSh, resultsA]
theorem V82 (x : MV) (fr : x.fr = x) : AP cfg 82 [x.av] = some (.fn 114 [vM x]) := by
  refine AP_of (m := [cM x]) (v := .fn 114 [.ptr 0 0]) (l := []) ?_ ?_ rfl
  · rw [T82, box_mv]; rfl
  · have e : frz [cM x] fuelF (.fn 114 [.ptr 0 0]) = (mapF (frz [cM x] 8) [.ptr 0 0]).map fun q => (.fn 114 q.1, q.2) := rfl
    rw [e]
    have e2 : frz [cM x] 8 (.ptr 0 0) = some (vM x.fr, []) := frz_ptrM rfl
    simp only [mapF, e2, Option.bind_some, Option.map_some, fr, List.append_nil]
/-- The head: the matrix and the answer are boxed. -/
theorem head45 (x : MV) (fr : x.fr = x) : execW cfg 45 (AP cfg) (AC cfg) (c1 (bodyOf f45)) ⟨[x.av, .any, .any, .any, .any, .any, .any, .any, .any, .any, .any, .any, .any, .any, .any, .any, .any, .any, .any, .any, .any, .any, .any, .any, .any, .any, .any, .any, .any, .any, .any, .any, .any, .any, .any], []⟩
    (only .normal ⟨[x.av, .ptr 0 0, .ptr 1 0, .any, .any, .any, .any, .any, .any, .any, .any, .any, .any, .any, .any, .any, .any, .any, .any, .any, .any, .any, .any, .any, .any, .any, .any, .any, .any, .any, .any, .any, .any, .any, .any], [cM x, resF]⟩) = some (.any, []) := by
  rw [Q45_h0, box_mv, Option.bind_some]
  exact only_self _ _
abbrev ts45 (v7 v8 v9 v10 v11 v12 v13 v14 v15 v16 : AV) : List AV := [.any, .ptr 0 0, .ptr 1 0, .any, .any, .any, .any, v7, v8, v9, v10, v11, v12, v13, v14, v15, v16, .any, .any, .any, .any, .any, .any, .any, .any, .any, .any, .any, .any, .any, .any, .any, .any, .any, .any]
theorem mid45 {x : MV} {k : Nat} (hx : IsM k x) (hk : k < 2 ^ 38) : ∃ v7 v8 v9 v10 v11 v12 v13 v14 v15 v16, execW cfg 45 (AP cfg) (AC cfg) (c1 (c2 (bodyOf f45))) ⟨[.any, .ptr 0 0, .ptr 1 0, .any, .any, .any, .any, .any, .any, .any, .any, .any, .any, .any, .any, .any, .any, .any, .any, .any, .any, .any, .any, .any, .any, .any, .any, .any, .any, .any, .any, .any, .any, .any, .any], [cM x, resF]⟩
    (only (if rightM x = true ∧ x.rows = x.cols then .normal else .ret) ⟨ts45 v7 v8 v9 v10 v11 v12 v13 v14 v15 v16, [cM x, resF]⟩) = some (.any, []) := by
  have pre : ∀ K : Ex → St → Option (AV × Mem), execW cfg 45 (AP cfg) (AC cfg) (c1 (c2 (bodyOf f45))) ⟨[.any, .ptr 0 0, .ptr 1 0, .any, .any, .any, .any, .any, .any, .any, .any, .any, .any, .any, .any, .any, .any, .any, .any, .any, .any, .any, .any, .any, .any, .any, .any, .any, .any, .any, .any, .any, .any, .any, .any], [cM x, resF]⟩ K =
      ifA (.bool (!rightM x)) (K .ret ⟨ts45 x.av (.bool (rightM x)) (.bool (!rightM x)) (.bool true) (.tup []) (.tup []) (.tup []) (.tup []) (.tup []) (.bool true), [cM x, resF]⟩)
        (ifA (.bool (decide (x.rows ≠ x.cols))) (K .ret ⟨ts45 x.av (.bool (rightM x)) (.bool (!rightM x)) (.bool false) (.ptr 0 0) (.int .i64 x.rows) (.ptr 0 1) (.int .i64 x.cols) (.bool (decide (x.rows ≠ x.cols))) (.bool (decide (x.rows ≠ x.cols))), [cM x, resF]⟩)
          (K .normal ⟨ts45 x.av (.bool (rightM x)) (.bool (!rightM x)) (.bool false) (.ptr 0 0) (.int .i64 x.rows) (.ptr 0 1) (.int .i64 x.cols) (.bool (decide (x.rows ≠ x.cols))) (.bool (decide (x.rows ≠ x.cols))), [cM x, resF]⟩)) := by
    intro K
    rw [Q45_h1, mldA (x := x) rfl, Option.bind_some, pcM, hx.fr, V20 hx.ok hk (by have := hx.len; omega), Option.map_some, Option.bind_some]
    rw [show unA .not (.bool (rightM x)) = some (.bool (!rightM x)) from rfl, Option.bind_some]
    rw [st_res false rfl, Option.bind_some, fld0, Option.bind_some, mld0 (x := x) rfl, Option.bind_some, fld1, Option.bind_some, mld1 (x := x) rfl, Option.bind_some, binA_neq, Option.bind_some]
    rfl
  cases hb : rightM x with
  | false =>
    refine ⟨x.av, .bool false, .bool true, .bool true, .tup [], .tup [], .tup [], .tup [], .tup [], .bool true, ?_⟩
    rw [pre, hb, Bool.not_false, ifA_true, if_neg (by simp)]
    exact only_self _ _
  | true =>
    by_cases hrc : x.rows = x.cols
    · refine ⟨x.av, .bool true, .bool false, .bool false, .ptr 0 0, .int .i64 x.rows, .ptr 0 1, .int .i64 x.cols, .bool false, .bool false, ?_⟩
      rw [pre, hb, Bool.not_true, ifA_false, decide_eq_false (show ¬ x.rows ≠ x.cols from fun h => h hrc), ifA_false, if_pos ⟨rfl, hrc⟩]
      exact only_self _ _
    · refine ⟨x.av, .bool true, .bool false, .bool false, .ptr 0 0, .int .i64 x.rows, .ptr 0 1, .int .i64 x.cols, .bool true, .bool true, ?_⟩
      rw [pre, hb, Bool.not_true, ifA_false, decide_eq_true hrc, ifA_true, if_neg (fun h => hrc h.2)]
      exact only_self _ _
theorem call45 {x : MV} {k : Nat} (hx : IsM k x) (hk : k < 2 ^ 38) : execW cfg 45 (AP cfg) (AC cfg) (c1 (c1 (c2 (c2 (bodyOf f45))))) ⟨[.any, .ptr 0 0, .ptr 1 0, .any, .any, .any, .any, .any, .any, .any, .any, .any, .any, .any, .any, .any, .any, .any, .any, .any, .any, .any, .any, .any, .any, .any, .any, .any, .any, .any, .any, .any, .any, .any, .any], [cM x, resF]⟩
    (only .normal ⟨[.any, .ptr 0 0, .ptr 1 0, .any, .any, .any, .any, .any, .any, .any, .any, .any, .any, .any, .any, .any, .any, x.av, .fn 114 [vM x], .any, .any, .any, .any, .any, .any, .any, .any, .any, .any, .any, .any, .any, .any, .any, .any], [cM x, resF]⟩) = some (.any, []) := by
  rw [Q45_h3, mldA (x := x) rfl, Option.bind_some, pcM, hx.fr, V82 x hx.fr, Option.map_some, Option.bind_some]
  exact only_self _ _
theorem tail45 {m : Mem} (h : m[1]? = some resF) : execW cfg 45 (AP cfg) (AC cfg) (c2 (c2 (c2 (bodyOf f45)))) ⟨[.any, .any, .ptr 1 0, .any, .any, .any, .any, .any, .any, .any, .any, .any, .any, .any, .any, .any, .any, .any, .any, .any, .any, .any, .any, .any, .any, .any, .any, .any, .any, .any, .any, .any, .any, .any, .any], m⟩
    (only .ret ⟨[.any, .any, .ptr 1 0, .any, .any, .any, .any, .any, .any, .any, .any, .any, .any, .any, .any, .any, .any, .any, .any, .any, .any, .any, .any, .any, .any, .any, .any, .any, .any, .any, .any, .any, .any, .any, .any], m.set 1 (some (.obj true [.bool true]))⟩) = some (.any, []) := by
  rw [Q45_t, st_res true h, Option.bind_some]
  exact only_self _ _
end Go.Ab

/- matrix.Stochastic on the machine: the call. -/
set_option linter.unusedVariables false
set_option linter.unusedSimpArgs false
set_option maxRecDepth 100000
namespace Go.Ab
open Go.Proofs.Try Go.RowKit

theorem enters114 : ∀ (args : Array Value) (w : World), (callFunc 114 args).run prog w = .ok (.enter 114 args) w := by
  intro args w
  have hname : (f114.name == "runtime.NumGoroutine") = false := by kernel_rfl
  have hb : f114.body.isNone = false := by rw [hb114]; rfl
  simp only [callFunc, hf114, hname, hb, Sem.run_bind, Sem.run_pure, run_program, Result.andThen_ok, Bool.false_eq_true, if_false]
theorem fn_inv {w : World} {g : G} {f : Nat} {c : AV} {v : Value} (h : V w g (.fn f [c]) v) : ∃ pv, v = .func (.func f) #[] #[pv] ∧ V w g c pv := by
  cases h with
  | fn _ _ vs hl hv =>
    have hs : vs.size = 1 := by simpa using hl.symm
    obtain ⟨l⟩ := vs
    match l, hs with
    | [p], _ => exact ⟨p, rfl, by simpa using hv 0 (by simp)⟩
theorem V.it {w : World} {g : G} {a b : Int} {sh sh' : Sh} {z : Bool} {o : Own} {es : List AV} {v : Value} (h : V w g (.vptr [.int .i64 a, .int .i64 b, .lst sh z o es]) v) (hs : sh = sh' ∨ es = []) (hc : cl (.lst sh z o es) = true) : V w g (.vptr [.int .i64 a, .int .i64 b, .lst sh' z o es]) v := by
  rcases hs with rfl | rfl
  · exact h
  · cases h with
    | vptr cs b' off us hcell hv =>
      refine .vptr _ b' off us (fun j hj => hcell j (by simpa using hj)) (fun j hj => ?_)
      match j, hj with
      | 0, _ => exact hv 0 (by simp)
      | 1, _ => exact hv 1 (by simp)
      | 2, _ => exact (hv 2 (by simp)).resh hc
theorem cl_lv {l : LV} (h : l.fr = l) : cl l.av = true := by
  obtain ⟨sh, z, o, es⟩ := l
  cases o with
  | no => rfl
  | full => rfl
  | tok a b => simp [LV.fr, Own.fr] at h
theorem cutL_nil {es : List RV} (h : es = []) (c i : Nat) : cutL es c i = [] := by subst h; simp [cutL]
theorem fold45 (t : Array Value) (a b : Value) : ((#[19, 20] : Array Tmp).zip #[a, b]).foldl (fun t (p, v) => t.setIfInBounds p v) t = (t.setIfInBounds 19 a).setIfInBounds 20 b := by
  simp [Array.zip]
/-- Where nothing is named yet and nothing stays named. -/
theorem core45 {x : MV} {k : Nat} (hx : IsM k x) (hk1 : 1 ≤ k) (hk : k ≤ 2 ^ 30) : CallOk prog 45 [x.av] [] (.bool (stoB x)) [] := by
  intro B w g vs hm hB hl hv
  refine (callsIn_wide (n := 5)).1 ?_
  have hF : Fine Fence.wide := .inl rfl
  refine callsIn_of_wp_marks (fn := f45) (c := bodyOf f45) ?hf ?hb ?hF ?hh ?hro
  case hf => exact hf45
  case hb => exact hb45
  case hF => exact hF.fn 45
  case hro => rfl
  have hvs1 : vs.size = 1 := by simpa using hl.symm
  rw [nt45, hvs1]
  have hts := tmpR_start hl hv 34
  rw [e45]
  have hlvfr : x.lv.fr = x.lv := by have := hx.fr; unfold MV.fr at this; exact congrArg MV.lv this
  -- THE END
  have fin : ∀ (b : Bool) (st : St) (a : Act) (w1 : World) (g1 : G), StR B w1 g1 st a → Step B w g w1 g1 → st.tmps.getD 2 .any = .ptr 1 0 → st.mem[1]? = some (some (.obj true [.bool b])) → b = stoB x → a.defers = [] →
      bodyPostM Fence.wide 5 prog f45 (fun e w' => ∃ v' g', e = .returned v' ∧ Step B w g w' g' ∧ MemR B w' g' [] ∧ V w' g' (.bool (stoB x)) v') .ret a w1 := by
    intro b st a w1 g1 hs s h2 h1 hb hd
    refine leaves0 hs (rs45 _ _ b h2 h1) hd fun v hv => ?_
    refine ⟨v, g1.bare, rfl, s.bare hm, hs.mem.none, ?_⟩
    rw [← hb]
    exact hv.flat rfl
  refine wpIn_seq (execTo (C := cfg) cfgOk hF calm45.1 (head45 x hx.fr) (show StR B w g _ _ from ⟨hts, hm, hB⟩) fun a1 w1 g1 hs1 s1 hd1 => ?_)
  obtain ⟨v7, v8, v9, v10, v11, v12, v13, v14, v15, v16, hmid⟩ := mid45 hx (by omega)
  have hs1' : StR B w1 g1 ⟨[.any, .ptr 0 0, .ptr 1 0, .any, .any, .any, .any, .any, .any, .any, .any, .any, .any, .any, .any, .any, .any, .any, .any, .any, .any, .any, .any, .any, .any, .any, .any, .any, .any, .any, .any, .any, .any, .any, .any], [cM x, resF]⟩ a1 :=
    ⟨hs1.tmp.less rfl fun t => by
      match t with
      | 0 => exact .inr rfl
      | t + 1 => exact .inl rfl, hs1.mem, hs1.size⟩
  refine wpIn_seq (execTo (C := cfg) cfgOk hF calm45.2.1 hmid hs1' fun a2 w2 g2 hs2 s2 hd2 => ?_)
  by_cases hc : rightM x = true ∧ x.rows = x.cols
  · rw [if_pos hc]
    obtain ⟨hb, hrc⟩ := hc
    have hsz : sizeB x = true := by
      unfold rightM at hb
      exact (Bool.and_eq_true _ _ ▸ hb).1
    obtain ⟨r1, r2, r3, r4, r5⟩ := of_decide_eq_true hsz
    obtain ⟨r, hxr⟩ := Int.eq_ofNat_of_zero_le r1
    have hxr' : x.rows = (r : Int) := hxr
    have hxc' : x.cols = (r : Int) := by rw [← hrc]; exact hxr
    have hl2 : x.lv.es.length = r * r := by
      have : (x.lv.es.length : Int) = ((r * r : Nat) : Int) := by rw [r5, hxr', hxc']; simp
      exact Int.ofNat.inj this
    have hsto : stoB x = (List.range r).all fun i => rowB (cutL x.lv.es r i) := by
      unfold stoB
      rw [hb, decide_eq_true hrc, hxr', hxc']; rfl
    have hs2' : StR B w2 g2 ⟨[.any, .ptr 0 0, .ptr 1 0, .any, .any, .any, .any, .any, .any, .any, .any, .any, .any, .any, .any, .any, .any, .any, .any, .any, .any, .any, .any, .any, .any, .any, .any, .any, .any, .any, .any, .any, .any, .any, .any], [cM x, resF]⟩ a2 :=
      ⟨hs2.tmp.less rfl fun t => by
        match t with
        | 0 | 1 | 2 | 3 | 4 | 5 | 6 => exact .inl rfl
        | 7 | 8 | 9 | 10 | 11 | 12 | 13 | 14 | 15 | 16 => exact .inr rfl
        | t + 17 => exact .inl rfl, hs2.mem, hs2.size⟩
    refine wpIn_seq (wpIn_seq (execTo (C := cfg) cfgOk hF calm45.2.2.1 (call45 hx (by omega)) hs2' fun a3 w3 g3 hs3 s3 hd3 => ?_))
    have hd3' : a3.defers = [] := hd3.trans (hd2.trans hd1)
    obtain ⟨pv, hpv, hVp⟩ := fn_inv (hs3.tmp.2 18 : V w3 g3 (.fn 114 [vM x]) (a3.tmps.getD 18 undef))
    have hVi : V w3 g3 (it114 r r x.lv.z x.lv.o (x.lv.es.map RV.av)) pv := by
      have h1 : V w3 g3 (.vptr [.int .i64 (r : Int), .int .i64 (r : Int), .lst x.lv.sh x.lv.z x.lv.o (x.lv.es.map RV.av)]) pv := by
        have : vM x = .vptr [.int .i64 (r : Int), .int .i64 (r : Int), .lst x.lv.sh x.lv.z x.lv.o (x.lv.es.map RV.av)] := by rw [vM, hxr', hxc']; rfl
        rw [← this]; exact hVp
      exact h1.it (hx.ok.sh.imp id fun h => by rw [h]; rfl) (cl_lv hlvfr)
    have hBw3 : B ≤ w3.heap.size := hs3.size
    have s03 : Step B w g w3 g3 := (s1.trans s2).trans s3
    refine wpIn_block ?_
    refine wpIn_rangeFunc_ownF (F := Fence.wide) (n := 5) (P := prog) rfl (by omega) (gf := 114) (lb := #[pv]) hpv (hF.fn 114) enters114
      (stops114 (w := w3) (g := g3) hVi (by rw [List.length_map]; exact hl2) (by omega) (by omega) (n := 4) (by omega)) Hold.trans (fun W l o o' h1 h2 h3 _ => Hold.book (Nat.le_refl _) W l o o' h1 h2 h3) (Below.refl _ _) (fun _ => rfl)
      (fun pre W => (∀ y ∈ pre, rowB (cutL x.lv.es r y.1.1) = true) ∧ ∃ g' m', Step B w3 g3 W g' ∧ MemR B W g' m' ∧ B ≤ W.heap.size ∧ m'[1]? = some resF)
      (fun c pre W => c = .ret ∧ stoB x = false ∧ ∃ g' m', Step B w3 g3 W g' ∧ MemR B W g' m' ∧ B ≤ W.heap.size ∧ m'[1]? = some resF)
      ?hI ?hIx ⟨fun y hy => by simp at hy, g3, [cM x, resF], Step.refl _ _ _, hs3.mem, hs3.size, rfl⟩
      (fun y => ({ tmps := ((#[19, 20] : Array Tmp).zip (enc114 y)).foldl (fun t (p, v) => t.setIfInBounds p v) a3.tmps, defers := [] } : Act).put (some 4) y.1.2) ?assign ?body ?done ?stop
    case hI =>
      rintro pre W W' row ⟨h1, g', m', h2, h3, h4, h5⟩ hg hr
      have hn : NonCells W row := fun q e => (hr q e).2
      exact ⟨h1, g', m', h2.grown hg hn (fun q e => (hr q e).1) hBw3, h3.grown hg hn, Nat.le_trans h4 hg.size, h5⟩
    case hIx =>
      rintro c pre W W' row ⟨h0, h1, g', m', h2, h3, h4, h5⟩ hg hr
      have hn : NonCells W row := fun q e => (hr q e).2
      exact ⟨h0, h1, g', m', h2.grown hg hn (fun q e => (hr q e).1) hBw3, h3.grown hg hn, Nat.le_trans h4 hg.size, h5⟩
    case assign =>
      intro l y W K hK
      rw [eA45]
      refine wpIn_region ?_
      rw [szA45, wpOpsIn_cons]
      refine valIn (.inr ⟨l, rfl⟩) atA45 (v := y.1.2) (fun c h => by rw [opA45.1] at h; cases h) opA45.2.1 ?_ ?_
      · have e20 : ({ tmps := ((#[19, 20] : Array Tmp).zip (enc114 y)).foldl (fun t (p, v) => t.setIfInBounds p v) a3.tmps, defers := [] } : Act).eval (.tmp 20) = y.1.2 := by
          show Array.getD (((#[19, 20] : Array Tmp).zip (enc114 y)).foldl (fun t (p, v) => t.setIfInBounds p v) a3.tmps) 20 undef = _
          rw [show enc114 y = #[.int .i64 (y.1.1 : Int), y.1.2] from rfl, fold45]
          have h35 : 35 = a3.tmps.size := hs3.tmp.1
          rw [Array.getD_eq_getD_getElem?, Array.getElem?_setIfInBounds_self]
          simp [← h35]
        simp only [execOp, opA45.1, Sem.run_pure]
        rw [e20]
      · rw [opA45.2.2]
        exact hK
    case body =>
      rintro l pre y W ⟨h1, g', m', h2, h3, h4, h5⟩ hlen
      have hi : y.1.1 < r := y.2.1
      have hok : LOk k ⟨some 3, x.lv.z, .no, cutL x.lv.es r y.1.1⟩ := ⟨.inl rfl, fun hz => cutL_nil (hx.ok.z hz) _ _, fun t ht => hx.ok.fr t (cutL_mem ht), fun t ht => hx.ok.ok t (cutL_mem ht)⟩
      have hrow : (LV.av ⟨some 3, x.lv.z, .no, cutL x.lv.es r y.1.1⟩) = rowA x.lv.z (x.lv.es.map RV.av) r y.1.1 := by
        show AV.lst (some 3) x.lv.z .no ((cutL x.lv.es r y.1.1).map RV.av) = AV.lst (some 3) x.lv.z .no (((x.lv.es.map RV.av).take ((y.1.1 + 1) * r)).drop (y.1.1 * r))
        rw [← List.map_take, ← List.map_drop]; rfl
      have hlen2 : (cutL x.lv.es r y.1.1).length = r := cutL_length hl2 hi
      obtain ⟨m'', w1, w2⟩ := body45 hok rfl hk1 hk (show (cutL x.lv.es r y.1.1).length ≤ 60 by omega) h5
      have hneg : negF (cutL x.lv.es r y.1.1) = negB (cutL x.lv.es r y.1.1) := by
        refine neg_same fun t ht => ⟨?_, hx.ok.ok t (cutL_mem ht)⟩
        have hall : x.lv.es.all rightR = true := by
          unfold rightM at hb
          exact (Bool.and_eq_true _ _ ▸ hb).2
        exact List.all_eq_true.1 hall t (cutL_mem ht)
      have hrb : (!negF (cutL x.lv.es r y.1.1) && decide (sumQ (cutL x.lv.es r y.1.1) (cutL x.lv.es r y.1.1).length = 1)) = rowB (cutL x.lv.es r y.1.1) := by rw [hneg]; rfl
      have w2' := w2
      rw [show (LV.es ⟨some 3, x.lv.z, .no, cutL x.lv.es r y.1.1⟩) = cutL x.lv.es r y.1.1 from rfl, hrb, hrow] at w2'
      have htm : TmpR W g' [.any, .any, .ptr 1 0, .any, rowA x.lv.z (x.lv.es.map RV.av) r y.1.1, .any, .any, .any, .any, .any, .any, .any, .any, .any, .any, .any, .any, .any, .any, .any, .any, .any, .any, .any, .any, .any, .any, .any, .any, .any, .any, .any, .any, .any, .any]
          (({ tmps := ((#[19, 20] : Array Tmp).zip (enc114 y)).foldl (fun t (p, v) => t.setIfInBounds p v) a3.tmps, defers := [] } : Act).put (some 4) y.1.2).tmps := by
        have t0 : TmpR W g' [.any, .any, .ptr 1 0, .any, .any, .any, .any, .any, .any, .any, .any, .any, .any, .any, .any, .any, .any, .any, .any, .any, .any, .any, .any, .any, .any, .any, .any, .any, .any, .any, .any, .any, .any, .any, .any] a3.tmps :=
          (hs3.tmp.step h2).less rfl fun t => by
            match t with
            | 0 | 2 | 3 | 4 | 5 | 6 | 7 | 8 | 9 | 10 | 11 | 12 | 13 | 14 | 15 | 16 => exact .inl rfl
            | 1 | 17 | 18 => exact .inr rfl
            | t + 19 => exact .inl rfl
        have t1 := t0.put' (a := a3) (v := .any) (v' := .int .i64 (y.1.1 : Int)) (.any _) 19 rfl
        have t2 := t1.put' (v := .any) (v' := y.1.2) (.any _) 20 rfl
        have t3 := t2.put' (v := rowA x.lv.z (x.lv.es.map RV.av) r y.1.1) (v' := y.1.2) (y.2.2.step h2) 4 rfl
        rw [show enc114 y = #[.int .i64 (y.1.1 : Int), y.1.2] from rfl, fold45]
        exact t3
      refine execGo (C := cfg) cfgOk (.inr ⟨l, rfl⟩) calm45.2.2.2.1 w2' (show StR B W g' _ _ from ⟨htm, h3, h4⟩) fun a' w' g'' hmem hsz' stp hd' => ?_
      cases hr0 : rowB (cutL x.lv.es r y.1.1) with
      | true =>
        refine ⟨⟨stp.below.size, stp.others⟩, Hold.of_step stp (fun b off hb0 hn => h2.wr b off hb0 hn), fun y' hy' => ?_, g'', m'', h2.trans stp, hmem, hsz', w1⟩
        rcases List.mem_append.1 hy' with h | h
        · exact h1 y' h
        · rw [List.mem_singleton] at h; subst h; exact hr0
      | false =>
        refine ⟨⟨stp.below.size, stp.others⟩, rfl, ?_, g'', m'', h2.trans stp, hmem, hsz', w1⟩
        rw [hsto, List.all_eq_false]
        exact ⟨y.1.1, by simpa using hi, by rw [hr0]; simp⟩
    case done =>
      rintro D xs W hD hS ⟨h1, g', m', h2, h3, h4, h5⟩ hK
      show Code.wpIn Fence.wide 5 prog (c2 (c2 (c2 (bodyOf f45)))) _ _ _
      have t0 : TmpR W g' [.any, .any, .ptr 1 0, .any, .any, .any, .any, .any, .any, .any, .any, .any, .any, .any, .any, .any, .any, .any, .any, .any, .any, .any, .any, .any, .any, .any, .any, .any, .any, .any, .any, .any, .any, .any, .any] a3.tmps :=
        (hs3.tmp.step h2).less rfl fun t => by
          match t with
          | 0 | 2 | 3 | 4 | 5 | 6 | 7 | 8 | 9 | 10 | 11 | 12 | 13 | 14 | 15 | 16 => exact .inl rfl
          | 1 | 17 | 18 => exact .inr rfl
          | t + 19 => exact .inl rfl
      refine execTo (C := cfg) cfgOk hF calm45.2.2.2.2 (tail45 h5) (a := { a3 with defers := { target := .collected D, args := #[] } :: a3.defers }) (show StR B W g' _ _ from ⟨t0, h3, h4⟩) fun a4 w4 g4 hs4 s4 hd4 => ?_
      have hK4 := s4.others _ _ hK rfl
      have hall : stoB x = true := by
        rw [hsto, List.all_eq_true]
        intro i hi
        rw [← hS] at hi
        obtain ⟨y, hy, rfl⟩ := List.mem_map.1 hi
        exact h1 y hy
      refine leavesD hs4 (rs45 _ _ true rfl (by rw [List.getElem?_set_self (idx_lt h5)])) (by rw [hd4, hd3']) hK4 fun v hv hmm => ?_
      have hDw : w.heap.size ≤ D := Nat.le_trans s03.below.size hD
      refine ⟨v, g4.bare, rfl, ((((s03.trans h2).trans s4).grown (grownBy_putObj' w4 D (.deferred none)) (fun q e => by cases e; exact ⟨_, hK4, rfl⟩) (fun q e => by cases e; exact hDw) hB).bare hm), hmm.none, ?_⟩
      rw [hall]
      exact hv.flat rfl
    case stop =>
      rintro D c pre W hD _ ⟨rfl, hs0, g', m', h2, h3, h4, h5⟩ hK
      refine wpIn_ret ?_
      have t0 : TmpR W g' [.any, .any, .ptr 1 0, .any, .any, .any, .any, .any, .any, .any, .any, .any, .any, .any, .any, .any, .any, .any, .any, .any, .any, .any, .any, .any, .any, .any, .any, .any, .any, .any, .any, .any, .any, .any, .any] a3.tmps :=
        (hs3.tmp.step h2).less rfl fun t => by
          match t with
          | 0 | 2 | 3 | 4 | 5 | 6 | 7 | 8 | 9 | 10 | 11 | 12 | 13 | 14 | 15 | 16 => exact .inl rfl
          | 1 | 17 | 18 => exact .inr rfl
          | t + 19 => exact .inl rfl
      have hs4 : StR B W g' ⟨[.any, .any, .ptr 1 0, .any, .any, .any, .any, .any, .any, .any, .any, .any, .any, .any, .any, .any, .any, .any, .any, .any, .any, .any, .any, .any, .any, .any, .any, .any, .any, .any, .any, .any, .any, .any, .any], m'⟩ { a3 with defers := { target := .collected D, args := #[] } :: a3.defers } := ⟨t0, h3, h4⟩
      refine leavesD hs4 (rs45 _ _ false rfl h5) (by rw [hd3']) hK fun v hv hmm => ?_
      have hDw : w.heap.size ≤ D := Nat.le_trans s03.below.size hD
      refine ⟨v, g'.bare, rfl, (((s03.trans h2).grown (grownBy_putObj' W D (.deferred none)) (fun q e => by cases e; exact ⟨_, hK, rfl⟩) (fun q e => by cases e; exact hDw) hB).bare hm), hmm.none, ?_⟩
      rw [hs0]
      exact hv.flat rfl
  · rw [if_neg hc]
    refine fin false _ a2 w2 g2 hs2 (s1.trans s2) rfl rfl ?_ (hd2.trans hd1)
    unfold stoB
    cases hb : rightM x with
    | false => rfl
    | true => rw [decide_eq_false (fun h => hc ⟨hb, h⟩)]; rfl
end Go.Ab

/- The interpreter that knows matrix.Stochastic. -/
set_option linter.unusedVariables false
set_option linter.unusedSimpArgs false
set_option maxRecDepth 100000
namespace Go.Ab
open Go.Proofs.Try

theorem NV.av_inj {a b : NV} (h : a.av = b.av) : a = b := by
  obtain ⟨z, o, ds⟩ := a
  obtain ⟨z', o', ds'⟩ := b
  simp only [NV.av, AV.lst.injEq, true_and] at h
  obtain ⟨rfl, rfl, h⟩ := h
  have hd : ∀ x y : Nat, dg x = dg y → x = y := fun x y h => by
    simp only [dg, AV.int.injEq, true_and] at h
    omega
  rw [(List.map_inj_right hd).1 h]
theorem RV.av_inj {a b : RV} (h : a.av = b.av) : a = b := by
  obtain ⟨n, x, y⟩ := a
  obtain ⟨n', x', y'⟩ := b
  simp only [RV.av, AV.agg.injEq, List.cons.injEq, AV.bool.injEq, and_true] at h
  obtain ⟨rfl, h1, h2⟩ := h
  rw [NV.av_inj h1, NV.av_inj h2]
theorem MV.av_inj {a b : MV} (h : a.av = b.av) : a = b := by
  obtain ⟨r, c, ⟨sh, z, o, es⟩⟩ := a
  obtain ⟨r', c', ⟨sh', z', o', es'⟩⟩ := b
  simp only [MV.av, LV.av, AV.agg.injEq, List.cons.injEq, AV.int.injEq, AV.lst.injEq, true_and, and_true] at h
  obtain ⟨rfl, rfl, rfl, rfl, rfl, h⟩ := h
  rw [(List.map_inj_right (fun x y hxy => RV.av_inj hxy)).1 h]
theorem callOk45 {x : MV} {k : Nat} (hx : IsM k x) (hk1 : 1 ≤ k) (hk : k ≤ 2 ^ 30) (m : Mem) : CallOk prog 45 [x.av] m (.bool (stoB x)) m := by
  intro B w g vs hm hB hl hv
  have hf : mapF (frz m fuelF) [x.av] = some ([x.av], []) := by
    have e : frz m fuelF x.av = some (x.fr.av, []) := fz_mv x m
    simp only [mapF, e, hx.fr, Option.bind_some, Option.map_some, List.append_nil]
  classical
  refine pureCall_sound hm hB (P := prog) (f := 45) (call := fun f args m => if f = 45 ∧ args = [x.av] ∧ m = [] then some (.bool (stoB x), []) else none) (fun args m v m' h => ?_) hl hv hf (r := .bool (stoB x)) ?_
  · simp only at h
    split at h
    · rename_i hc
      obtain ⟨_, rfl, rfl⟩ := hc
      simp only [Option.some.injEq, Prod.mk.injEq] at h
      obtain ⟨rfl, rfl⟩ := h
      exact core45 hx hk1 hk
    · cases h
  · simp only [acallP, true_and, if_true, Option.bind_some]
    rfl
open Classical in
noncomputable def h45 (vs : List AV) : Option AV := if h : ∃ x : MV, ∃ k, IsM k x ∧ 1 ≤ k ∧ k ≤ 2 ^ 30 ∧ vs = [x.av] then some (.bool (stoB (Classical.choose h))) else none
theorem h45_eq {x : MV} {k : Nat} (hx : IsM k x) (hk1 : 1 ≤ k) (hk : k ≤ 2 ^ 30) : h45 [x.av] = some (.bool (stoB x)) := by
  have h : ∃ y : MV, ∃ k, IsM k y ∧ 1 ≤ k ∧ k ≤ 2 ^ 30 ∧ [x.av] = [y.av] := ⟨x, k, hx, hk1, hk, rfl⟩
  unfold h45
  rw [dif_pos h]
  obtain ⟨_, _, _, _, e⟩ := Classical.choose_spec h
  rw [← MV.av_inj (List.cons.inj e).1]
noncomputable def lib2 (g : Nat) : Option (List AV → Option AV) := match Nat.beq g 45 with
  | true => some h45
  | false => cfg.lib g
noncomputable def cfg2 : Cfg := cfg.plug lib2
theorem plugs2 : Plugs cfg lib2 := fun g => by
  unfold lib2
  cases hb : Nat.beq g 45 with
  | false => exact .inl rfl
  | true =>
    right
    have := Nat.eq_of_beq_eq_true hb
    subst this
    rfl
theorem AP2 {f : Nat} {args : List AV} {v : AV} (h : AP cfg f args = some v) : AP cfg2 f args = some v := AP_plug plugs2 h
theorem cfgOk2 : CfgOk cfg2 where
  name := cfgOk.name
  lib g h hh := by
    have hh' : lib2 g = some h := hh
    unfold lib2 at hh'
    cases hb : Nat.beq g 45 with
    | false => rw [hb] at hh'; exact cfgOk.lib g h hh'
    | true =>
      rw [hb] at hh'
      obtain rfl := Option.some.inj hh'
      have := Nat.eq_of_beq_eq_true hb
      subst this
      refine ⟨⟨f45, hf45, by rw [hb45]; rfl⟩, fun vs v hv m => ?_⟩
      unfold h45 at hv
      split at hv
      · rename_i hx
        obtain ⟨k, h1, h2, h3, e⟩ := Classical.choose_spec hx
        simp only [Option.some.injEq] at hv
        subst hv
        have hc := callOk45 h1 h2 h3 m
        rw [← e] at hc
        exact hc
      · cases hv
end Go.Ab

/- What the interpreter does, function by function. -/
set_option maxRecDepth 100000
set_option linter.unusedVariables false
namespace Go.Ab
open Go.Proofs.Try
/-! ### sortilege/sortilegelaw19.MatrixWalks -/
theorem T8 (a0 a1 a2 : AV) (m : Mem) : AC cfg2 8 [a0, a1, a2] m =
  (boxA none (some 3) m a0).bind fun r1 =>
  (boxA none (some 3) r1.2 a1).bind fun r2 =>
  (loadA (some 3) r2.2 r1.1).bind fun v3 =>
  (pcall (AP cfg2) (some r2.2.length) r2.2 13 [v3, (.int .i64 8)]).bind fun r4 =>
  (loadA (some 3) r4.2 r2.1).bind fun v5 =>
  (pcall (AP cfg2) (some r2.2.length) r4.2 13 [v5, (.int .i64 8)]).bind fun r6 =>
  (storeA (some 3) r6.2 r1.1 r4.1).bind fun m7 =>
  (storeA (some 3) m7 r2.1 r6.1).bind fun m8 =>
  (loadA (some 3) m8 r1.1).bind fun v9 =>
  (h45 [v9]).bind fun v10 =>
  (loadA (some 3) m8 r1.1).bind fun v11 =>
  (pcall (AP cfg2) (some m8.length) m8 46 [v11]).bind fun r12 =>
  (binA .bl .neq v10 r12.1).bind fun v13 =>
  ifA v13 (
  some ((.bool false), r12.2)) (
  (loadA (some 3) r12.2 r2.1).bind fun v14 =>
  (h45 [v14]).bind fun v15 =>
  (loadA (some 3) r12.2 r2.1).bind fun v16 =>
  (pcall (AP cfg2) (some m8.length) r12.2 46 [v16]).bind fun r17 =>
  (binA .bl .neq v15 r17.1).bind fun v18 =>
  ifA v18 (
  some ((.bool false), r17.2)) (
  (loadA (some 3) r17.2 r1.1).bind fun v19 =>
  (pcall (AP cfg2) none r17.2 46 [v19]).bind fun r20 =>
  (unA .not r20.1).bind fun v21 =>
  ifA v21 (
  (pcall (AP cfg2) none r20.2 26 []).bind fun r22 =>
  some (r22.1, r22.2)) (
  (loadA (some 3) r20.2 r2.1).bind fun v23 =>
  (pcall (AP cfg2) none r20.2 46 [v23]).bind fun r24 =>
  (unA .not r24.1).bind fun v25 =>
  ifA v25 (
  (pcall (AP cfg2) none r24.2 26 []).bind fun r26 =>
  some (r26.1, r26.2)) (
  (fieldAddrA 0 r1.1).bind fun v27 =>
  (loadA none r24.2 v27).bind fun v28 =>
  (fieldAddrA 0 r2.1).bind fun v29 =>
  (loadA none r24.2 v29).bind fun v30 =>
  (binA .other .neq v28 v30).bind fun v31 =>
  ifA v31 (
  (pcall (AP cfg2) none r24.2 26 []).bind fun r32 =>
  some (r32.1, r32.2)) (
  (loadA (some 3) r24.2 r1.1).bind fun v33 =>
  (loadA (some 3) r24.2 r2.1).bind fun v34 =>
  (pcall (AP cfg2) none r24.2 41 [v33, v34]).bind fun r35 =>
  (extractA r35.1 0).bind fun v36 =>
  (extractA r35.1 1).bind fun v37 =>
  (storeA (some 3) (newAt none r35.2 (.obj true [(.int .i64 0), (.int .i64 0), (.lst none true .full [])])).2 (.ptr (newAt none r35.2 .resv).1 0) v36).bind fun m38 =>
  (loadA (some 3) m38 r1.1).bind fun v39 =>
  (binA .other .rem a2 (.int .i64 9)).bind fun v40 =>
  (binA .other .add v40 (.int .i64 9)).bind fun v41 =>
  (binA .other .rem v41 (.int .i64 9)).bind fun v42 =>
  (pcall (AP cfg2) none m38 30 [v39, v42]).bind fun r43 =>
  (extractA r43.1 0).bind fun v44 =>
  (extractA r43.1 1).bind fun v45 =>
  (storeA (some 3) (newAt none r43.2 (.obj true [(.int .i64 0), (.int .i64 0), (.lst none true .full [])])).2 (.ptr (newAt none r43.2 .resv).1 0) v44).bind fun m46 =>
  (binA .other .eql v37 (.int .i64 0)).bind fun v47 =>
  ifA v47 (
  (binA .other .eql v45 (.int .i64 0)).bind fun v48 =>
  ifA v48 (
  (loadA (some 3) m46 (.ptr (newAt none r35.2 .resv).1 0)).bind fun v49 =>
  (h45 [v49]).bind fun v50 =>
  ifA v50 (
  (loadA (some 3) m46 (.ptr (newAt none r43.2 .resv).1 0)).bind fun v51 =>
  (h45 [v51]).bind fun v52 =>
  ifA v52 (
  (pcall (AP cfg2) none m46 26 []).bind fun r53 =>
  some (r53.1, r53.2)) (
  some ((.bool false), m46))) (
  some ((.bool false), m46))) (
  some ((.bool false), m46))) (
  some ((.bool false), m46))))))) :=
(AC_eq cfg2 8 [a0, a1, a2] m (fn := f8) (c := bodyOf f8) (by kernel_rfl) rfl).trans (by kernel_rfl)
end Go.Ab

/- The law of stochastic matrices in values. -/
set_option linter.unusedVariables false
set_option linter.unusedSimpArgs false
set_option maxRecDepth 100000
namespace Go.Ab
open Go.Proofs.Try Go.RowKit

section
variable {m : Mem} {d : Option Nat} {g : Nat}
theorem p2M (x : MV) : pcall (AP cfg2) d m g [x.av] = (AP cfg2 g [x.fr.av]).map fun v => (v, m) := pcall1 (fz_mv x)
theorem p2MI (x : MV) (a : Int) : pcall (AP cfg2) d m g [x.av, .int .i64 a] = (AP cfg2 g [x.fr.av, .int .i64 a]).map fun v => (v, m) := pcall2 (fz_mv x) (fz_int _ a)
theorem p2MM (x y : MV) : pcall (AP cfg2) d m g [x.av, y.av] = (AP cfg2 g [x.fr.av, y.fr.av]).map fun v => (v, m) := pcall2 (fz_mv x) (fz_mv y)
theorem P26b : pcall (AP cfg2) d m 26 [] = some (.bool true, m) := by rw [pcall0, AP2 V26]; rfl
end
theorem bl_neq' (a b : Bool) : binA .bl .neq (.bool a) (.bool b) = some (.bool (a != b)) := by cases a <;> cases b <;> rfl
theorem MatrixWalks_law {a b : MV} (ha : XM a.fr) (hb : XM b.fr) (n : Int) : ∃ m', AC cfg2 8 [a.av, b.av, .int .i64 n] [] = some (.bool true, m') := by
  obtain ⟨x, x1, x2, x3, x4, x5⟩ := V13 (n := 8) (by omega) ha (mv_frfr' a)
  obtain ⟨y, y1, y2, y3, y4, y5⟩ := V13 (n := 8) (by omega) hb (mv_frfr' b)
  have ix : IsM 3 x := ⟨x2, x4, x3⟩
  have iy : IsM 3 y := ⟨y2, y4, y3⟩
  have ex := h45_eq ix (by omega) (by omega)
  have ey := h45_eq iy (by omega) (by omega)
  have fx := V46 ix (by omega) (by omega)
  have fy := V46 iy (by omega) (by omega)
  obtain ⟨N, hN, n1, n2, n3⟩ := exp9 n
  have pre : AC cfg2 8 [a.av, b.av, .int .i64 n] [] = AC cfg2 8 [a.av, b.av, .int .i64 n] [] := rfl
  conv at pre => rhs; rw [T8, box_mv, Option.bind_some, box_mv, Option.bind_some]
  simp only [List.length_nil, List.length_cons, List.nil_append, List.cons_append, Nat.zero_add, Nat.reduceAdd] at pre
  rw [mldA (x := a) rfl, Option.bind_some, p2MI, show ((8 : Int)) = ((8 : Nat) : Int) from rfl, AP2 x1, Option.map_some, Option.bind_some, mldA (x := b) rfl, Option.bind_some, p2MI, AP2 y1, Option.map_some, Option.bind_some, mstA (x := a) rfl, Option.bind_some] at pre
  simp only [List.set_cons_succ, List.set_cons_zero] at pre
  rw [mstA (x := b) rfl, Option.bind_some] at pre
  simp only [List.set_cons_succ, List.set_cons_zero] at pre
  rw [mldA (x := x) rfl, Option.bind_some, ex, Option.bind_some, Option.bind_some, p2M, x4, AP2 fx, Option.map_some, Option.bind_some, bl_neq', Option.bind_some, bne_self_eq_false, ifA_false, mldA (x := y) rfl, Option.bind_some, ey, Option.bind_some, Option.bind_some, p2M, y4, AP2 fy, Option.map_some, Option.bind_some, bl_neq', Option.bind_some, bne_self_eq_false, ifA_false, mldA (x := x) rfl, Option.bind_some, p2M, x4, AP2 fx, Option.map_some, Option.bind_some, not_b, Option.bind_some] at pre
  cases hsx : stoB x with
  | false =>
    rw [hsx, Bool.not_false, ifA_true, P26b, Option.bind_some] at pre
    exact ⟨_, pre⟩
  | true =>
    rw [hsx, Bool.not_true, ifA_false, mldA (x := y) rfl, Option.bind_some, p2M, y4, AP2 fy, Option.map_some, Option.bind_some, not_b, Option.bind_some] at pre
    cases hsy : stoB y with
    | false =>
      rw [hsy, Bool.not_false, ifA_true, P26b, Option.bind_some] at pre
      exact ⟨_, pre⟩
    | true =>
      rw [hsy, Bool.not_true, ifA_false, fld0, Option.bind_some, mld0 (x := x) rfl, Option.bind_some, fld0, Option.bind_some, mld0 (x := y) rfl, Option.bind_some, binA_neq, Option.bind_some] at pre
      by_cases hrr : x.rows = y.rows
      · rw [decide_eq_false (show ¬ x.rows ≠ y.rows from fun h => h hrr), ifA_false] at pre
        have sx := hsx
        have sy := hsy
        unfold stoB at sx sy
        simp only [Bool.and_eq_true, decide_eq_true_eq] at sx sy
        have hrx := sx.1
        have hry := sy.1
        have hqx := sx.2.1
        have hqy := sy.2.1
        obtain ⟨r, c, hr, hc0, r6, c6, hlx0⟩ := right_len hrx
        have hcr : c = r := by omega
        have hc : x.cols = (r : Int) := by rw [hc0, hcr]
        have hlx : x.lv.es.length = r * r := by rw [hlx0, hcr]
        have hr' : y.rows = (r : Int) := by rw [← hrr]; exact hr
        have hc' : y.cols = (r : Int) := by rw [← hqy]; exact hr'
        have hly : y.lv.es.length = r * r := by
          obtain ⟨r2, c2, hr2, hc2, _, _, hl2⟩ := right_len hry
          have e1 : r2 = r := by omega
          have e2 : c2 = r := by omega
          rw [hl2, e1, e2]
        have Sx : Sto r (ent x r) := (stoB_iff hrx hr hc hlx).1 hsx
        have Sy : Sto r (ent y r) := (stoB_iff hry hr' hc' hly).1 hsy
        have hme : mulE x y = 0 := by
          unfold mulE
          rw [if_pos ⟨hrx, hry⟩, if_pos (by rw [hc, hr'])]
        have hpe : powE x (N : Int) = 0 := by
          unfold powE
          rw [if_pos hrx, if_pos hqx, if_neg (by omega), if_neg (by omega)]
        obtain ⟨z, e, z1, z2, z3⟩ := V41 (K := 421) ix iy (by omega) (by omega) (by omega)
        obtain ⟨u, f, u1, u2, u3⟩ := V30 (K := 2 ^ 30) (n := (N : Int)) ix (by omega) (by omega) (by omega) (powB_of ix (by omega) (by omega))
        have rz := z3 hme
        have ru := u3 hpe
        have hrn : x.rows.toNat = r := by rw [hr]; rfl
        have hcn : x.cols.toNat = r := by rw [hc]; rfl
        have hdn : y.cols.toNat = r := by rw [hc']; rfl
        rw [hme, hrn, hdn, hcn] at z2
        rw [hpe, hrn] at u2
        have pu : PM (2 ^ 30) r (ent x r) N u := Res.pm u2
        have he : e = 0 := z2.e
        have hf : f = 0 := u2.e
        subst he
        subst hf
        have lz := z2.len rfl
        have iz : IsM 421 z := ⟨z2.ok, z2.fr, by rw [lz]; have := Nat.mul_le_mul r6 r6; omega⟩
        have iu : IsM (2 ^ 30) u := pu.isM r6
        have Sz : Sto r (ent z r) := (Sx.mul Sy).congr fun i j hi hj => by
          obtain ⟨e1, e2⟩ := row_col (i := i) hj
          show qAt z (i * r + j) = _
          rw [z2.q rfl _ (cell_lt60 hi hj), mulQ, e1, e2, dot_ent]; rfl
        have Su : Sto r (ent u r) := (Sx.pow N).congr fun i j hi hj => pu.q i j hi hj
        have bz : stoB z = true := (stoB_iff rz (z2.rows rfl) (z2.cols rfl) lz).2 Sz
        have bu : stoB u = true := (stoB_iff ru pu.rows pu.cols pu.len).2 Su
        have ez := h45_eq iz (by omega) (by omega)
        have eu := h45_eq iu (by omega) (by omega)
        rw [bz] at ez
        rw [bu] at eu
        rw [mldA (x := x) rfl, Option.bind_some, mldA (x := y) rfl, Option.bind_some, p2MM, x4, y4, AP2 z1, Option.map_some, Option.bind_some, ext0', Option.bind_some, ext1', Option.bind_some] at pre
        simp only [List.length_nil, List.length_cons, List.nil_append, List.cons_append, Nat.zero_add, Nat.reduceAdd, new_m, new_r] at pre
        rw [mstA (x := zM) rfl, Option.bind_some] at pre
        simp only [List.set_cons_succ, List.set_cons_zero] at pre
        rw [mldA (x := x) rfl, Option.bind_some, n1, Option.bind_some, n2, Option.bind_some, n3, Option.bind_some, p2MI, x4, AP2 u1, Option.map_some, Option.bind_some, ext0', Option.bind_some, ext1', Option.bind_some] at pre
        simp only [List.length_nil, List.length_cons, List.nil_append, List.cons_append, Nat.zero_add, Nat.reduceAdd, new_m, new_r] at pre
        rw [mstA (x := zM) rfl, Option.bind_some] at pre
        simp only [List.set_cons_succ, List.set_cons_zero] at pre
        rw [show binA .other .eql (.int .i64 0) (.int .i64 0) = some (.bool true) from rfl, Option.bind_some, ifA_true, Option.bind_some, ifA_true, mldA (x := z) rfl, Option.bind_some, ez, Option.bind_some, ifA_true, mldA (x := u) rfl, Option.bind_some, eu, Option.bind_some, ifA_true, P26b, Option.bind_some] at pre
        exact ⟨_, pre⟩
      · rw [decide_eq_true hrr, ifA_true, P26b, Option.bind_some] at pre
        exact ⟨_, pre⟩
/-- The law on the machine. -/
theorem law_calls2 {f : Nat} {args : List AV} {vs : Array Value} {W : World} (h : ∃ m', AC cfg2 f args [] = some (.bool true, m')) (hl : args.length = vs.size) (hv : ∀ j, j < args.length → V W g0 (args.getD j .any) (vs.getD j undef)) :
    Calls Go.Proofs.Try.prog f vs W fun e W' => e = .returned (.bool true) ∧ Below W.heap.size W W' := by
  obtain ⟨m', hm'⟩ := h
  refine ((AC_sound cfgOk2 f args [] _ _ hm').1 W.heap.size W g0 vs (memR0 W) (Nat.le_refl _) hl hv).mono ?_
  rintro e W' ⟨v', g', rfl, hs, _, hv'⟩
  cases hv'
  exact ⟨rfl, hs.below⟩
end Go.Ab
