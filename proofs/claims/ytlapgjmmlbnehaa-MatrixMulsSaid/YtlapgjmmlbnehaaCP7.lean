/- The law of Mul and Power in values. -/
import Derived.Test.YtlapgjmmlbnehaaCP4
import Derived.Test.YtlapgjmmlbnehaaCP5
import Derived.Test.YtlapgjmmlbnehaaCP6
import Derived.ProofKit
import Derived.OpenShut
import Derived.ChangeArms
import Derived.KernelRfl
set_option linter.unusedVariables false
set_option linter.unusedSimpArgs false
set_option maxRecDepth 100000
namespace Go.Ab
open Go.Proofs.Try

theorem mulE_sizes {x y : MV} (h : mulE x y = 0) : x.rows.toNat ≤ 60 ∧ y.cols.toNat ≤ 60 := by
  unfold mulE at h
  by_cases c : rightM x = true ∧ rightM y = true
  · exact ⟨(sizes c.1).1, (sizes c.2).2⟩
  · rw [if_neg c] at h; cases h
theorem powE_sizes {x : MV} {n : Int} (h : powE x n = 0) : x.rows.toNat ≤ 60 ∧ x.rows.toNat ≤ 60 := by
  unfold powE at h
  by_cases c : rightM x = true
  · exact ⟨(sizes c).1, (sizes c).1⟩
  · rw [if_neg c] at h; cases h
theorem i_rem (a b : Int) (hb : b ≠ 0) : binA .other .rem (.int .i64 a) (.int .i64 b) = some (.int .i64 (a.tmod b)) := by
  have e : binA .other .rem (.int .i64 a) (.int .i64 b) = if b = 0 then none else some (.int .i64 (a.tmod b)) := rfl
  rw [e, if_neg hb]
theorem MatrixMuls_law {a b : MV} (ha : XM a.fr) (hb : XM b.fr) (n : Int) : ∃ m', AC cfg 6 [a.av, b.av, .int .i64 n] [] = some (.bool true, m') := by
  obtain ⟨x, x1, x2, x3, x4, _⟩ := V13 (n := 6) (by omega) ha (mv_frfr' a)
  obtain ⟨y, y1, y2, y3, y4, _⟩ := V13 (n := 6) (by omega) hb (mv_frfr' b)
  obtain ⟨c, c1, c2, c3, c4, _⟩ := V43 (n := 3) (by omega) x2.xm x4
  have ix : IsM 3 x := ⟨x2, x4, x3⟩
  have iy : IsM 3 y := ⟨y2, y4, y3⟩
  have ic : IsM 3 c := ⟨c2, c4, c3⟩
  obtain ⟨s, e, s1, s2⟩ := V41 (K := 421) ix iy (by omega) (by omega) (by omega)
  obtain ⟨s', e', s1', s2'⟩ := V42 (K := 421) ix iy (by omega) (by omega) (by omega)
  have r3 : ∀ v : Int, binA .other .rem (.int .i64 v) (.int .i64 3) = some (.int .i64 (v.tmod 3)) := fun v => i_rem v 3 (by decide)
  have r12 : ∀ v : Int, binA .other .rem (.int .i64 v) (.int .i64 12) = some (.int .i64 (v.tmod 12)) := fun v => i_rem v 12 (by decide)
  have pows : ∀ N : Int, ∃ g w g' w' h q h' q', AP cfg 30 [c.av, .int .i64 N] = some (.tup [MV.av g, .int .i64 w]) ∧ AP cfg 44 [c.av, .int .i64 N] = some (.tup [MV.av g', .int .i64 w']) ∧ AP cfg 30 [x.av, .int .i64 (N.tmod 3)] = some (.tup [MV.av h, .int .i64 q]) ∧ AP cfg 44 [x.av, .int .i64 (N.tmod 3)] = some (.tup [MV.av h', .int .i64 q']) ∧
      Res g w (powE c N) c.rows.toNat c.rows.toNat (powQ c c.rows.toNat N.toNat) (2 ^ 30) ∧ Res g' w' (powE c N) c.rows.toNat c.rows.toNat (powQ c c.rows.toNat N.toNat) (2 ^ 30) ∧
      Res h q (powE x (N.tmod 3)) x.rows.toNat x.rows.toNat (powQ x x.rows.toNat (N.tmod 3).toNat) (2 ^ 30) ∧ Res h' q' (powE x (N.tmod 3)) x.rows.toNat x.rows.toNat (powQ x x.rows.toNat (N.tmod 3).toNat) (2 ^ 30) := by
    intro N
    obtain ⟨g, w, g1, g2⟩ := V30 (K := 2 ^ 30) (n := N) ic (by omega) (by omega) (by omega) (powB_of ic (by omega) (by omega))
    obtain ⟨g', w', g1', g2'⟩ := V44 (K := 2 ^ 30) (n := N) ic (by omega) (by omega) (by omega) (powB_of ic (by omega) (by omega))
    obtain ⟨h, q, h1, h2⟩ := V30 (K := 2 ^ 30) (n := N.tmod 3) ix (by omega) (by omega) (by omega) (powB_of ix (by omega) (by omega))
    obtain ⟨h', q', h1', h2'⟩ := V44 (K := 2 ^ 30) (n := N.tmod 3) ix (by omega) (by omega) (by omega) (powB_of ix (by omega) (by omega))
    exact ⟨g, w, g', w', h, q, h', q', g1, g1', h1, h1', g2, g2', h2, h2'⟩
  have pre : AC cfg 6 [a.av, b.av, .int .i64 n] [] = P6_5_8 a.av b.av (.int .i64 n) [cM x, cM y, cM s, cM s', cM c] (.ptr 0 0, [cM a]) (.ptr 1 0, [cM a, cM b]) (x.av, [cM a, cM b]) (y.av, [cM a, cM b]) (.tup [s.av, .int .i64 e], [cM x, cM y]) (.tup [s'.av, .int .i64 e'], [cM x, cM y, cM s]) (c.av, [cM x, cM y, cM s, cM s']) a.av b.av x.av y.av s.av (.int .i64 e) x.av y.av s'.av (.int .i64 e') x.av (finK cfg.P f6.results.toList) := by
    rw [T6, P6_0_1_eq, box_mv, Option.bind_some, box_mv, Option.bind_some]
    simp only [List.length_nil, List.length_cons, List.nil_append, List.cons_append, Nat.zero_add, Nat.reduceAdd, new_m, new_r]
    rw [P6_1_2_eq]
    simp only [List.length_nil, List.length_cons, List.nil_append, List.cons_append, Nat.zero_add, Nat.reduceAdd, new_m, new_r]
    rw [mldA (x := a) rfl, Option.bind_some, pcMI, show ((6 : Int)) = ((6 : Nat) : Int) from rfl, x1, Option.map_some, Option.bind_some, mldA (x := b) rfl, Option.bind_some, pcMI, y1, Option.map_some, Option.bind_some, mstA (x := a) rfl, Option.bind_some]
    simp only [List.set_cons_succ, List.set_cons_zero]
    rw [mstA (x := b) rfl, Option.bind_some]
    simp only [List.set_cons_succ, List.set_cons_zero]
    rw [P6_2_3_eq, mldA (x := x) rfl, Option.bind_some, mldA (x := y) rfl, Option.bind_some, pcMM, x4, y4, s1, Option.map_some, Option.bind_some, ext0', Option.bind_some, ext1', Option.bind_some, P6_2_4_eq]
    simp only [List.length_nil, List.length_cons, List.nil_append, List.cons_append, Nat.zero_add, Nat.reduceAdd, new_m, new_r]
    rw [mstA (x := zM) rfl, Option.bind_some]
    simp only [List.set_cons_succ, List.set_cons_zero]
    rw [P6_3_5_eq, mldA (x := x) rfl, Option.bind_some, mldA (x := y) rfl, Option.bind_some, pcMM, x4, y4, s1', Option.map_some, Option.bind_some, ext0', Option.bind_some, ext1', Option.bind_some, P6_3_6_eq]
    simp only [List.length_nil, List.length_cons, List.nil_append, List.cons_append, Nat.zero_add, Nat.reduceAdd, new_m, new_r]
    rw [mstA (x := zM) rfl, Option.bind_some]
    simp only [List.set_cons_succ, List.set_cons_zero]
    rw [P6_4_7_eq, mldA (x := x) rfl, Option.bind_some, pcMI, x4, show ((3 : Int)) = ((3 : Nat) : Int) from rfl, c1, Option.map_some, Option.bind_some]
    simp only [List.length_nil, List.length_cons, List.nil_append, List.cons_append, Nat.zero_add, Nat.reduceAdd, new_m, new_r]
    rw [mstA (x := zM) rfl, Option.bind_some]
    simp only [List.set_cons_succ, List.set_cons_zero]
  by_cases d1 : n > 12
  · by_cases d2 : n ≤ 200
    · obtain ⟨g, w, g', w', h, q, h', q', g1, g1', h1, h1', g2, g2', h2, h2'⟩ := pows (n.tmod 12)
      refine ⟨[cM x, cM y, cM s, cM s', cM c, cM g, cM g', cM h, cM h'], pre.trans ?_⟩
      rw [P6_5_8_eq, binA_gtr, Option.bind_some, ifA_dec, if_pos d1, binA_leq, Option.bind_some, ifA_dec, if_pos d2, P6_6_9_eq, r12, Option.bind_some]
      rw [P6_7_12_eq]
      simp only [List.length_nil, List.length_cons, List.nil_append, List.cons_append, Nat.zero_add, Nat.reduceAdd, new_m, new_r]
      rw [mldA (x := c) rfl, Option.bind_some, pcMI, c4, g1, Option.map_some, Option.bind_some, ext0', Option.bind_some, ext1', Option.bind_some, P6_7_15_eq]
      simp only [List.length_nil, List.length_cons, List.nil_append, List.cons_append, Nat.zero_add, Nat.reduceAdd, new_m, new_r]
      rw [mstA (x := zM) rfl, Option.bind_some]
      simp only [List.set_cons_succ, List.set_cons_zero]
      rw [P6_8_18_eq]
      simp only [List.length_nil, List.length_cons, List.nil_append, List.cons_append, Nat.zero_add, Nat.reduceAdd, new_m, new_r]
      rw [mldA (x := c) rfl, Option.bind_some, pcMI, c4, g1', Option.map_some, Option.bind_some, ext0', Option.bind_some, ext1', Option.bind_some, P6_8_21_eq]
      simp only [List.length_nil, List.length_cons, List.nil_append, List.cons_append, Nat.zero_add, Nat.reduceAdd, new_m, new_r]
      rw [mstA (x := zM) rfl, Option.bind_some]
      simp only [List.set_cons_succ, List.set_cons_zero]
      rw [P6_9_24_eq]
      simp only [List.length_nil, List.length_cons, List.nil_append, List.cons_append, Nat.zero_add, Nat.reduceAdd, new_m, new_r]
      rw [mldA (x := x) rfl, Option.bind_some, r3, Option.bind_some, pcMI, x4, h1, Option.map_some, Option.bind_some, ext0', Option.bind_some, P6_9_27_eq, ext1', Option.bind_some]
      simp only [List.length_nil, List.length_cons, List.nil_append, List.cons_append, Nat.zero_add, Nat.reduceAdd, new_m, new_r]
      rw [mstA (x := zM) rfl, Option.bind_some]
      simp only [List.set_cons_succ, List.set_cons_zero]
      rw [P6_10_30_eq]
      simp only [List.length_nil, List.length_cons, List.nil_append, List.cons_append, Nat.zero_add, Nat.reduceAdd, new_m, new_r]
      rw [mldA (x := x) rfl, Option.bind_some, r3, Option.bind_some, pcMI, x4, h1', Option.map_some, Option.bind_some, ext0', Option.bind_some, P6_10_33_eq, ext1', Option.bind_some]
      simp only [List.length_nil, List.length_cons, List.nil_append, List.cons_append, Nat.zero_add, Nat.reduceAdd, new_m, new_r]
      rw [mstA (x := zM) rfl, Option.bind_some]
      simp only [List.set_cons_succ, List.set_cons_zero]
      rw [P6_11_36_eq]
      simp only [List.length_nil, List.length_cons, List.nil_append, List.cons_append, Nat.zero_add, Nat.reduceAdd, new_m, new_r]
      rw [mldA (x := s) rfl, Option.bind_some, mldA (x := s') rfl, Option.bind_some, pcLaw0 s2 s2' (by omega) (by omega) mulE_sizes, Option.bind_some]
      rw [P6_11_39_eq, ifA_true]
      simp only [List.length_nil, List.length_cons, List.nil_append, List.cons_append, Nat.zero_add, Nat.reduceAdd, new_m, new_r]
      rw [mldA (x := g) rfl, Option.bind_some, mldA (x := g') rfl, Option.bind_some, pcLaw0 g2 g2' (by omega) (by omega) powE_sizes, Option.bind_some]
      rw [P6_11_44_eq, ifA_true]
      simp only [List.length_nil, List.length_cons, List.nil_append, List.cons_append, Nat.zero_add, Nat.reduceAdd, new_m, new_r]
      rw [mldA (x := h) rfl, Option.bind_some, mldA (x := h') rfl, Option.bind_some, pcLaw0 h2 h2' (by omega) (by omega) powE_sizes, Option.bind_some]
      rw [P6_11_52_eq, ifA_true, P26', Option.bind_some]
      rfl
    · obtain ⟨g, w, g', w', h, q, h', q', g1, g1', h1, h1', g2, g2', h2, h2'⟩ := pows n
      refine ⟨[cM x, cM y, cM s, cM s', cM c, cM g, cM g', cM h, cM h'], pre.trans ?_⟩
      rw [P6_5_8_eq, binA_gtr, Option.bind_some, ifA_dec, if_pos d1, binA_leq, Option.bind_some, ifA_dec, if_neg d2]
      rw [P6_7_10_eq]
      simp only [List.length_nil, List.length_cons, List.nil_append, List.cons_append, Nat.zero_add, Nat.reduceAdd, new_m, new_r]
      rw [mldA (x := c) rfl, Option.bind_some, pcMI, c4, g1, Option.map_some, Option.bind_some, ext0', Option.bind_some, ext1', Option.bind_some, P6_7_13_eq]
      simp only [List.length_nil, List.length_cons, List.nil_append, List.cons_append, Nat.zero_add, Nat.reduceAdd, new_m, new_r]
      rw [mstA (x := zM) rfl, Option.bind_some]
      simp only [List.set_cons_succ, List.set_cons_zero]
      rw [P6_8_16_eq]
      simp only [List.length_nil, List.length_cons, List.nil_append, List.cons_append, Nat.zero_add, Nat.reduceAdd, new_m, new_r]
      rw [mldA (x := c) rfl, Option.bind_some, pcMI, c4, g1', Option.map_some, Option.bind_some, ext0', Option.bind_some, ext1', Option.bind_some, P6_8_19_eq]
      simp only [List.length_nil, List.length_cons, List.nil_append, List.cons_append, Nat.zero_add, Nat.reduceAdd, new_m, new_r]
      rw [mstA (x := zM) rfl, Option.bind_some]
      simp only [List.set_cons_succ, List.set_cons_zero]
      rw [P6_9_22_eq]
      simp only [List.length_nil, List.length_cons, List.nil_append, List.cons_append, Nat.zero_add, Nat.reduceAdd, new_m, new_r]
      rw [mldA (x := x) rfl, Option.bind_some, r3, Option.bind_some, pcMI, x4, h1, Option.map_some, Option.bind_some, ext0', Option.bind_some, P6_9_25_eq, ext1', Option.bind_some]
      simp only [List.length_nil, List.length_cons, List.nil_append, List.cons_append, Nat.zero_add, Nat.reduceAdd, new_m, new_r]
      rw [mstA (x := zM) rfl, Option.bind_some]
      simp only [List.set_cons_succ, List.set_cons_zero]
      rw [P6_10_28_eq]
      simp only [List.length_nil, List.length_cons, List.nil_append, List.cons_append, Nat.zero_add, Nat.reduceAdd, new_m, new_r]
      rw [mldA (x := x) rfl, Option.bind_some, r3, Option.bind_some, pcMI, x4, h1', Option.map_some, Option.bind_some, ext0', Option.bind_some, P6_10_31_eq, ext1', Option.bind_some]
      simp only [List.length_nil, List.length_cons, List.nil_append, List.cons_append, Nat.zero_add, Nat.reduceAdd, new_m, new_r]
      rw [mstA (x := zM) rfl, Option.bind_some]
      simp only [List.set_cons_succ, List.set_cons_zero]
      rw [P6_11_34_eq]
      simp only [List.length_nil, List.length_cons, List.nil_append, List.cons_append, Nat.zero_add, Nat.reduceAdd, new_m, new_r]
      rw [mldA (x := s) rfl, Option.bind_some, mldA (x := s') rfl, Option.bind_some, pcLaw0 s2 s2' (by omega) (by omega) mulE_sizes, Option.bind_some]
      rw [P6_11_37_eq, ifA_true]
      simp only [List.length_nil, List.length_cons, List.nil_append, List.cons_append, Nat.zero_add, Nat.reduceAdd, new_m, new_r]
      rw [mldA (x := g) rfl, Option.bind_some, mldA (x := g') rfl, Option.bind_some, pcLaw0 g2 g2' (by omega) (by omega) powE_sizes, Option.bind_some]
      rw [P6_11_40_eq, ifA_true]
      simp only [List.length_nil, List.length_cons, List.nil_append, List.cons_append, Nat.zero_add, Nat.reduceAdd, new_m, new_r]
      rw [mldA (x := h) rfl, Option.bind_some, mldA (x := h') rfl, Option.bind_some, pcLaw0 h2 h2' (by omega) (by omega) powE_sizes, Option.bind_some]
      rw [P6_11_46_eq, ifA_true, P26', Option.bind_some]
      rfl
  · obtain ⟨g, w, g', w', h, q, h', q', g1, g1', h1, h1', g2, g2', h2, h2'⟩ := pows n
    refine ⟨[cM x, cM y, cM s, cM s', cM c, cM g, cM g', cM h, cM h'], pre.trans ?_⟩
    rw [P6_5_8_eq, binA_gtr, Option.bind_some, ifA_dec, if_neg d1]
    rw [P6_7_11_eq]
    simp only [List.length_nil, List.length_cons, List.nil_append, List.cons_append, Nat.zero_add, Nat.reduceAdd, new_m, new_r]
    rw [mldA (x := c) rfl, Option.bind_some, pcMI, c4, g1, Option.map_some, Option.bind_some, ext0', Option.bind_some, ext1', Option.bind_some, P6_7_14_eq]
    simp only [List.length_nil, List.length_cons, List.nil_append, List.cons_append, Nat.zero_add, Nat.reduceAdd, new_m, new_r]
    rw [mstA (x := zM) rfl, Option.bind_some]
    simp only [List.set_cons_succ, List.set_cons_zero]
    rw [P6_8_17_eq]
    simp only [List.length_nil, List.length_cons, List.nil_append, List.cons_append, Nat.zero_add, Nat.reduceAdd, new_m, new_r]
    rw [mldA (x := c) rfl, Option.bind_some, pcMI, c4, g1', Option.map_some, Option.bind_some, ext0', Option.bind_some, ext1', Option.bind_some, P6_8_20_eq]
    simp only [List.length_nil, List.length_cons, List.nil_append, List.cons_append, Nat.zero_add, Nat.reduceAdd, new_m, new_r]
    rw [mstA (x := zM) rfl, Option.bind_some]
    simp only [List.set_cons_succ, List.set_cons_zero]
    rw [P6_9_23_eq]
    simp only [List.length_nil, List.length_cons, List.nil_append, List.cons_append, Nat.zero_add, Nat.reduceAdd, new_m, new_r]
    rw [mldA (x := x) rfl, Option.bind_some, r3, Option.bind_some, pcMI, x4, h1, Option.map_some, Option.bind_some, ext0', Option.bind_some, P6_9_26_eq, ext1', Option.bind_some]
    simp only [List.length_nil, List.length_cons, List.nil_append, List.cons_append, Nat.zero_add, Nat.reduceAdd, new_m, new_r]
    rw [mstA (x := zM) rfl, Option.bind_some]
    simp only [List.set_cons_succ, List.set_cons_zero]
    rw [P6_10_29_eq]
    simp only [List.length_nil, List.length_cons, List.nil_append, List.cons_append, Nat.zero_add, Nat.reduceAdd, new_m, new_r]
    rw [mldA (x := x) rfl, Option.bind_some, r3, Option.bind_some, pcMI, x4, h1', Option.map_some, Option.bind_some, ext0', Option.bind_some, P6_10_32_eq, ext1', Option.bind_some]
    simp only [List.length_nil, List.length_cons, List.nil_append, List.cons_append, Nat.zero_add, Nat.reduceAdd, new_m, new_r]
    rw [mstA (x := zM) rfl, Option.bind_some]
    simp only [List.set_cons_succ, List.set_cons_zero]
    rw [P6_11_35_eq]
    simp only [List.length_nil, List.length_cons, List.nil_append, List.cons_append, Nat.zero_add, Nat.reduceAdd, new_m, new_r]
    rw [mldA (x := s) rfl, Option.bind_some, mldA (x := s') rfl, Option.bind_some, pcLaw0 s2 s2' (by omega) (by omega) mulE_sizes, Option.bind_some]
    rw [P6_11_38_eq, ifA_true]
    simp only [List.length_nil, List.length_cons, List.nil_append, List.cons_append, Nat.zero_add, Nat.reduceAdd, new_m, new_r]
    rw [mldA (x := g) rfl, Option.bind_some, mldA (x := g') rfl, Option.bind_some, pcLaw0 g2 g2' (by omega) (by omega) powE_sizes, Option.bind_some]
    rw [P6_11_42_eq, ifA_true]
    simp only [List.length_nil, List.length_cons, List.nil_append, List.cons_append, Nat.zero_add, Nat.reduceAdd, new_m, new_r]
    rw [mldA (x := h) rfl, Option.bind_some, mldA (x := h') rfl, Option.bind_some, pcLaw0 h2 h2' (by omega) (by omega) powE_sizes, Option.bind_some]
    rw [P6_11_49_eq, ifA_true, P26', Option.bind_some]
    rfl
end Go.Ab

/- Arguments that can be read as data, as values of the interpreter. -/
set_option linter.unusedVariables false
set_option linter.unusedSimpArgs false
set_option maxRecDepth 100000
namespace Go.Ab
open Go.Proofs Go.Proofs.Try Go.RowKit

def g0 : G := ⟨fun _ _ => False, fun _ => False, fun _ => none, fun _ _ => none⟩
theorem get_nil (nm : Nat) : Mem.get ([] : Mem) nm = none := by simp [Mem.get]
theorem memR0 (w : World) : MemR w.heap.size w g0 [] where
  obj nm bx cs h := by rw [get_nil] at h; cases h
  tok nm n sz h := by rw [get_nil] at h; cases h
  resv nm h := ⟨rfl, fun _ => rfl⟩
  fresh nm h := ⟨rfl, fun _ => rfl⟩
  inj nm nm' b h := by unfold blk at h; rw [get_nil] at h; cases h
  wrLt b off h := h.elim
  boxLt b h := h.elim
theorem cfgOk : CfgOk cfg where
  name g fn h := by
    have hall : (Try.prog.funcs.toList.all fun fn => !(fn.name == "runtime.NumGoroutine")) = true := by kernel_rfl
    have hm : fn ∈ Try.prog.funcs.toList := by
      rw [Array.mem_toList_iff]
      exact Array.mem_of_getElem? h
    have := List.all_eq_true.1 hall fn hm
    simpa using this
  lib g h hh := by cases hh
/-- A law that answers true in values answers true on the machine, and turns nothing that was there. -/
theorem law_calls {f : Nat} {args : List AV} {vs : Array Value} {W : World} (h : ∃ m', AC cfg f args [] = some (.bool true, m')) (hl : args.length = vs.size) (hv : ∀ j, j < args.length → V W g0 (args.getD j .any) (vs.getD j undef)) :
    Calls Try.prog f vs W fun e W' => e = .returned (.bool true) ∧ Below W.heap.size W W' := by
  obtain ⟨m', hm'⟩ := h
  refine ((AC_sound cfgOk f args [] _ _ hm').1 W.heap.size W g0 vs (memR0 W) (Nat.le_refl _) hl hv).mono ?_
  rintro e W' ⟨v', g', rfl, hs, _, hv'⟩
  cases hv'
  exact ⟨rfl, hs.below⟩

/-! ### Types -/
theorem u3 : Try.prog.underlying 3 = some (.int .i64) := by kernel_rfl
theorem u4 : Try.prog.underlying 4 = some .bool := by kernel_rfl
theorem u116 : Try.prog.underlying 116 = some (.int .u32) := by kernel_rfl
theorem u41 : Try.prog.underlying 41 = some (.slice 116) := by kernel_rfl
theorem u22 : Try.prog.underlying 22 = some (.slice 43) := by kernel_rfl
theorem c3 : Try.prog.cellsOf 3 = 1 := by kernel_rfl
theorem c4 : Try.prog.cellsOf 4 = 1 := by kernel_rfl
theorem c22 : Try.prog.cellsOf 22 = 1 := by kernel_rfl
theorem c24 : Try.prog.cellsOf 24 = 3 := by kernel_rfl
theorem c41 : Try.prog.cellsOf 41 = 1 := by kernel_rfl
theorem c43 : Try.prog.cellsOf 43 = 3 := by kernel_rfl
theorem c116 : Try.prog.cellsOf 116 = 1 := by kernel_rfl
noncomputable def fieldsOf (t : Nat) : Array Field := match Try.prog.underlying t with
  | some (.struct fs) => fs
  | _ => #[]
theorem u43 : Try.prog.underlying 43 = some (.struct (fieldsOf 43)) := by kernel_rfl
theorem u24 : Try.prog.underlying 24 = some (.struct (fieldsOf 24)) := by kernel_rfl
theorem f43 : (fieldsOf 43).toList.map (fun f => (f.type, f.offset)) = [(4, 0), (41, 1), (41, 2)] := by kernel_rfl
theorem f24 : (fieldsOf 24).toList.map (fun f => (f.type, f.offset)) = [(3, 0), (3, 1), (22, 2)] := by kernel_rfl

/-! ### Cells -/
theorem cells_get {w : World} {a : Addr} {n : Nat} {cs : List Value} (h : w.cells? 0 a n = some cs) : cs.length = n ∧ ∀ j, j < n → w.cell? (a.add j) = cs[j]? := by
  unfold World.cells? at h
  rw [if_pos (Nat.zero_le _)] at h
  refine ⟨by simpa using mapM_some_length h, fun j hj => mapM_some_get h j j (by simp [hj])⟩
theorem cell_spot {w : World} {a : Addr} {u : Value} (h : w.cell? a = some u) : a.spot = none := World.cell?_spot h
theorem add_mk {a : Addr} (h : a.spot = none) (j : Nat) : a.add j = ⟨a.block, a.off + j, none⟩ := by
  obtain ⟨b, o, s⟩ := a
  subst h
  exact Addr_add b o j
theorem three {α : Type} {cs : List α} (h : cs.length = 3) : ∃ a b c, cs = [a, b, c] := by
  match cs, h with
  | [a, b, c], _ => exact ⟨a, b, c, rfl⟩

section
variable {H : Type} {enc : TypeId × Value → H} {W : World} {fuel : Nat} {cs : List Value} {x : DataW H × List MemPlace}

theorem field_read {t : Nat} (ht : Try.prog.underlying t = some (.struct (fieldsOf t))) (h : DataW.trod enc Try.prog W 0 (fun _ => true) true fuel t cs = some x) {t' off i : Nat} (hi : ((fieldsOf t).toList.map (fun f => (f.type, f.offset)))[i]? = some (t', off)) :
    ∃ n y, DataW.trod enc Try.prog W 0 (fun _ => true) true n t' ((cs.drop off).take (Try.prog.cellsOf t')) = some y := by
  obtain ⟨xs, n, rfl, _, _, hl, hf⟩ := DataW.trod_struct ht h
  rw [List.getElem?_map, Option.map_eq_some_iff] at hi
  obtain ⟨f, h1, h2⟩ := hi
  obtain ⟨rfl, rfl⟩ := Prod.mk.inj h2
  have hfi : (fieldsOf t)[i]? = some f := by rw [← h1, Array.getElem?_toList]
  have := hf i f hfi
  have hlt : i < xs.length := by
    rw [hl]
    obtain ⟨h, _⟩ := Array.getElem?_eq_some_iff.1 hfi
    exact h
  rw [List.getElem?_eq_getElem hlt] at this
  exact ⟨n, _, this⟩

theorem u32_at {a : Addr} {i : Nat} (h : (W.cells? 0 (a.add (i * Try.prog.cellsOf 116)) (Try.prog.cellsOf 116)).bind (DataW.trod enc Try.prog W 0 (fun _ => true) true fuel 116) = some x) : ∃ d : Nat, d < 4294967296 ∧ W.cell? (a.add i) = some (.int .u32 d) := by
  rw [c116, Nat.mul_one] at h
  obtain ⟨cs, h1, h2⟩ := Option.bind_eq_some_iff.1 h
  obtain ⟨n, rfl, _, hw⟩ := DataW.trod_int u116 h2
  have h3 := (cells_get h1).2 0 (by omega)
  have hw2 : 0 ≤ n ∧ n ≤ 4294967295 := by
    simp only [Lit.wf, Bool.and_eq_true, decide_eq_true_eq] at hw
    exact hw
  refine ⟨n.toNat, by omega, ?_⟩
  rw [Int.toNat_of_nonneg hw2.1]
  exact h3

/-- A number. -/
theorem nat_read (h : DataW.trod enc Try.prog W 0 (fun _ => true) true fuel 41 cs = some x) : ∃ v, ∃ y : NV, cs = [v] ∧ V W g0 y.av v ∧ XN y ∧ y.o = .no := by
  rcases DataW.trod_slice u41 h with ⟨rfl, _⟩ | ⟨a, len, cap, elems, rest, n, _, rfl, _, _, hl, hm, he, hel, hre, _⟩
  · exact ⟨_, ⟨true, .no, []⟩, rfl, .nils none .no (.inr rfl), ⟨fun i => by simp, fun _ => rfl⟩, rfl⟩
  · obtain ⟨hrl, hre⟩ := hre rfl
    have cell : ∀ i, ∃ d : Nat, i < cap → d < 4294967296 ∧ W.cell? (a.add i) = some (.int .u32 d) := by
      intro i
      by_cases hi : i < cap
      · by_cases hi2 : i < len
        · have h1 := hel i hi2
          rw [List.getElem?_eq_getElem (by omega)] at h1
          obtain ⟨d, hd⟩ := u32_at h1
          exact ⟨d, fun _ => hd⟩
        · have h1 := hre (i - len) (by omega)
          rw [List.getElem?_eq_getElem (by omega), show len + (i - len) = i by omega] at h1
          obtain ⟨d, hd⟩ := u32_at h1
          exact ⟨d, fun _ => hd⟩
      · exact ⟨0, fun h => absurd h hi⟩
    obtain ⟨f, hf⟩ := Classical.axiomOfChoice cell
    have hsp : cap = 0 ∨ a.spot = none := by
      by_cases h0 : cap = 0
      · exact .inl h0
      · exact .inr (cell_spot (hf 0 (by omega)).2)
    have hfl : flat (((List.range len).map f).map dg) = ((List.range len).map f).map dg := by
      generalize (List.range len).map f = l
      induction l with
      | nil => rfl
      | cons d l ih =>
        show (dg d).cells ++ flat (l.map dg) = _
        rw [ih]; rfl
    have hlen : (((List.range len).map f).map dg).length = len := by simp
    refine ⟨_, ⟨false, .no, (List.range len).map f⟩, rfl, ?_, ⟨fun i => ?_, fun h => by cases h⟩, rfl⟩
    · have hV := V.lst (w := W) (g := g0) none .no (((List.range len).map f).map dg) a cap (fun j => .int .u32 (f j)) hsp (by rw [hlen]; exact hl) hm
        (fun e he => by
          obtain ⟨d, _, rfl⟩ := List.mem_map.1 he
          exact ⟨rfl, rfl⟩)
        (fun j hj => by
          rw [hfl, hlen] at hj
          refine ⟨?_, fun h => h, fun h => h⟩
          have := (hf j (by omega)).2
          rw [add_mk (hsp.resolve_left (by omega))] at this
          exact this)
        (fun j hj => by
          rw [hfl, hlen] at hj
          rw [hfl, List.getD_eq_getElem?_getD, List.getElem?_map, List.getElem?_map, List.getElem?_range hj]
          exact .int _ _) trivial
      rw [hlen] at hV
      exact hV
    · show ((List.range len).map f).getD i 0 < _
      rw [List.getD_eq_getElem?_getD, List.getElem?_map]
      by_cases hi : i < len
      · rw [List.getElem?_range hi]
        exact (hf i (by omega)).1
      · rw [List.getElem?_eq_none (by simp; omega)]
        exact (by omega : 0 < 4294967296)

/-- A fraction. -/
theorem ratio_read (h : DataW.trod enc Try.prog W 0 (fun _ => true) true fuel 43 cs = some x) : ∃ c0 c1 c2, ∃ r : RV, cs = [c0, c1, c2] ∧ V W g0 (.bool r.neg) c0 ∧ V W g0 r.num.av c1 ∧ V W g0 r.den.av c2 ∧ XR r ∧ r.num.o = .no ∧ r.den.o = .no := by
  have hlen : cs.length = 3 := by
    obtain ⟨_, _, _, _, h1, _⟩ := DataW.trod_struct u43 h
    rw [h1, c43]
  obtain ⟨c0, c1, c2, rfl⟩ := three hlen
  obtain ⟨n0, y0, h0⟩ := field_read u43 h (t' := 4) (off := 0) (i := 0) (by rw [f43]; rfl)
  obtain ⟨n1, y1, h1⟩ := field_read u43 h (t' := 41) (off := 1) (i := 1) (by rw [f43]; rfl)
  obtain ⟨n2, y2, h2⟩ := field_read u43 h (t' := 41) (off := 2) (i := 2) (by rw [f43]; rfl)
  rw [c4] at h0
  rw [c41] at h1 h2
  obtain ⟨b, e0, _⟩ := DataW.trod_bool u4 h0
  obtain ⟨v1, z1, e1, q1, q2, q3⟩ := nat_read h1
  obtain ⟨v2, z2, e2, r1, r2, r3⟩ := nat_read h2
  simp only [List.drop_zero, List.drop_succ_cons, List.take_succ_cons, List.take_zero, List.cons.injEq, and_true] at e0 e1 e2
  subst e0; subst e1; subst e2
  refine ⟨_, _, _, ⟨b, z1, z2⟩, rfl, .bool b, q1, r1, ⟨q2, r2, ?_⟩, q3, r3⟩
  obtain ⟨a1, o1, d1⟩ := z1
  obtain ⟨a2, o2, d2⟩ := z2
  subst q3; subst r3
  rfl

theorem flat3 : ∀ (es : List RV) (j : Nat), j < es.length * 3 → (flat (es.map RV.av)).getD j .any = ((es.getD (j / 3) ⟨false, ⟨true, .no, []⟩, ⟨true, .no, []⟩⟩).av.cells).getD (j % 3) .any
  | [], j, h => by simp at h
  | r :: es, 0, h => rfl
  | r :: es, 1, h => rfl
  | r :: es, 2, h => rfl
  | r :: es, j + 3, h => by
    have ih := flat3 es j (by simp only [List.length_cons] at h; omega)
    have e1 : (j + 3) / 3 = j / 3 + 1 := by omega
    have e2 : (j + 3) % 3 = j % 3 := by omega
    rw [e1, e2, List.getD_cons_succ, ← ih]
    rfl
theorem flat3_len (es : List RV) : (flat (es.map RV.av)).length = es.length * 3 := by
  induction es with
  | nil => rfl
  | cons r es ih =>
    show (_ :: _ :: _ :: flat (es.map RV.av)).length = _
    rw [List.length_cons, List.length_cons, List.length_cons, ih, List.length_cons]; omega

theorem ratio_at {a : Addr} {i : Nat} (ha : i = 0 ∨ a.spot = none) (h : (W.cells? 0 (a.add (i * Try.prog.cellsOf 43)) (Try.prog.cellsOf 43)).bind (DataW.trod enc Try.prog W 0 (fun _ => true) true fuel 43) = some x) :
    a.spot = none ∧ ∃ r : RV, (XR r ∧ r.num.o = .no ∧ r.den.o = .no) ∧ ∀ j, j < 3 → ∃ u, W.cell? ⟨a.block, a.off + (i * 3 + j), none⟩ = some u ∧ V W g0 (r.av.cells.getD j .any) u := by
  rw [c43] at h
  obtain ⟨cs, h1, h2⟩ := Option.bind_eq_some_iff.1 h
  obtain ⟨c0, c1, c2, r, rfl, v0, v1, v2, xr, o1, o2⟩ := ratio_read h2
  have h3 := (cells_get h1).2
  have hs : a.spot = none := by
    rcases ha with rfl | ha
    · rw [Nat.zero_mul] at h3
      exact cell_spot (h3 0 (by omega))
    · exact ha
  refine ⟨hs, r, ⟨xr, o1, o2⟩, fun j hj => ?_⟩
  have h4 := h3 j hj
  rw [add_mk hs, Addr_add, Nat.add_assoc] at h4
  match j, hj with
  | 0, _ => exact ⟨c0, h4, v0⟩
  | 1, _ => exact ⟨c1, h4, v1⟩
  | 2, _ => exact ⟨c2, h4, v2⟩

theorem sh_rv {r : RV} (h1 : r.num.o = .no) (h2 : r.den.o = .no) : shOk (some 3) r.av = true ∧ pl r.av = true := by
  obtain ⟨b, ⟨a1, o1, d1⟩, ⟨a2, o2, d2⟩⟩ := r
  subst h1; subst h2
  exact ⟨rfl, rfl⟩

/-- A row of fractions. -/
theorem row_read (h : DataW.trod enc Try.prog W 0 (fun _ => true) true fuel 22 cs = some x) : ∃ v, ∃ l : LV, cs = [v] ∧ V W g0 l.av v ∧ (l.sh = some 3 ∨ l.es = []) ∧ (l.z = true → l.es = []) ∧ (∀ r ∈ l.es, XR r) ∧ l.o = .no := by
  rcases DataW.trod_slice u22 h with ⟨rfl, _⟩ | ⟨a, len, cap, elems, rest, n, _, rfl, _, _, hl, hm, he, hel, hre, _⟩
  · exact ⟨_, ⟨some 3, true, .no, []⟩, rfl, .nils _ .no (.inr rfl), .inl rfl, fun _ => rfl, (fun r hr => by cases hr), rfl⟩
  · obtain ⟨hrl, hre⟩ := hre rfl
    have raw : ∀ i, i < cap → ∃ y, (W.cells? 0 (a.add (i * Try.prog.cellsOf 43)) (Try.prog.cellsOf 43)).bind (DataW.trod enc Try.prog W 0 (fun _ => true) true n 43) = some y := by
      intro i hi
      by_cases hi2 : i < len
      · have h1 := hel i hi2
        rw [List.getElem?_eq_getElem (by omega)] at h1
        exact ⟨_, h1⟩
      · have h1 := hre (i - len) (by omega)
        rw [List.getElem?_eq_getElem (by omega), show len + (i - len) = i by omega] at h1
        exact ⟨_, h1⟩
    have hsp : cap = 0 ∨ a.spot = none := by
      by_cases h0 : cap = 0
      · exact .inl h0
      · obtain ⟨y, hy⟩ := raw 0 (by omega)
        exact .inr (ratio_at (.inl rfl) hy).1
    have cell : ∀ i, ∃ r : RV, i < cap → (XR r ∧ r.num.o = .no ∧ r.den.o = .no) ∧ ∀ j, j < 3 → ∃ u, W.cell? ⟨a.block, a.off + (i * 3 + j), none⟩ = some u ∧ V W g0 (r.av.cells.getD j .any) u := by
      intro i
      by_cases hi : i < cap
      · obtain ⟨y, hy⟩ := raw i hi
        obtain ⟨r, hr⟩ := (ratio_at (.inr (hsp.resolve_left (by omega))) hy).2
        exact ⟨r, fun _ => hr⟩
      · exact ⟨⟨false, ⟨true, .no, []⟩, ⟨true, .no, []⟩⟩, fun h => absurd h hi⟩
    obtain ⟨f, hf⟩ := Classical.axiomOfChoice cell
    have hlen : (((List.range len).map f).map RV.av).length = len := by simp
    have hlen0 : ((List.range len).map f).length = len := by simp
    have hget : ∀ j, j < len * 3 → ((List.range len).map f).getD (j / 3) ⟨false, ⟨true, .no, []⟩, ⟨true, .no, []⟩⟩ = f (j / 3) := by
      intro j hj
      rw [List.getD_eq_getElem?_getD, List.getElem?_map, List.getElem?_range (by omega)]
      rfl
    have hmem : ∀ r ∈ (List.range len).map f, XR r ∧ r.num.o = .no ∧ r.den.o = .no := by
      intro r hr
      obtain ⟨i, hi, rfl⟩ := List.mem_map.1 hr
      exact (hf i (by have := List.mem_range.1 hi; omega)).1
    have hcl : ∀ j, j < len * 3 → ∃ u, W.cell? ⟨a.block, a.off + j, none⟩ = some u ∧ V W g0 ((flat (((List.range len).map f).map RV.av)).getD j .any) u := by
      intro j hj
      rw [flat3 _ j (by rw [hlen0]; exact hj), hget j hj]
      have h1 := (hf (j / 3) (by omega)).2 (j % 3) (by omega)
      rw [show j / 3 * 3 + j % 3 = j by omega] at h1
      exact h1
    have hus : ∀ j, ∃ u, j < len * 3 → W.cell? ⟨a.block, a.off + j, none⟩ = some u ∧ V W g0 ((flat (((List.range len).map f).map RV.av)).getD j .any) u := by
      intro j
      by_cases hj : j < len * 3
      · obtain ⟨u, hu⟩ := hcl j hj
        exact ⟨u, fun _ => hu⟩
      · exact ⟨undef, fun h => absurd h hj⟩
    obtain ⟨us, hus⟩ := Classical.axiomOfChoice hus
    refine ⟨_, ⟨some 3, false, .no, (List.range len).map f⟩, rfl, ?_, .inl rfl, (fun h => by cases h), fun r hr => (hmem r hr).1, rfl⟩
    have hV := V.lst (w := W) (g := g0) (some 3) .no (((List.range len).map f).map RV.av) a cap us hsp (by rw [hlen]; exact hl) hm
      (fun e he => by
        obtain ⟨r, hr, rfl⟩ := List.mem_map.1 he
        exact sh_rv (hmem r hr).2.1 (hmem r hr).2.2)
      (fun j hj => by
        rw [flat3_len, hlen0] at hj
        exact ⟨(hus j hj).1, fun h => h, fun h => h⟩)
      (fun j hj => by
        rw [flat3_len, hlen0] at hj
        exact (hus j hj).2) trivial
    rw [hlen] at hV
    exact hV

/-- A matrix. -/
theorem mat_read {v : Value} {d : DataW H} {ps : List MemPlace} (hv : ∃ cs, v = .agg cs) (h : DataW.Trod enc Try.prog W 0 (fun _ => true) true 24 v d ps) : ∃ y : MV, V W g0 y.av v ∧ XM y ∧ y.fr = y := by
  obtain ⟨cs, rfl⟩ := hv
  obtain ⟨fuel, h⟩ := h
  have hlen : cs.toList.length = 3 := by
    obtain ⟨_, _, _, _, h1, _⟩ := DataW.trod_struct u24 h
    rw [c24] at h1
    exact h1
  have h : DataW.trod enc Try.prog W 0 (fun _ => true) true fuel 24 cs.toList = some (d, ps) := h
  obtain ⟨v0, v1, v2, hcs⟩ := three hlen
  obtain rfl : cs = #[v0, v1, v2] := by
    cases cs
    simp_all
  obtain ⟨n0, y0, h0⟩ := field_read u24 h (t' := 3) (off := 0) (i := 0) (by rw [f24]; rfl)
  obtain ⟨n1, y1, h1⟩ := field_read u24 h (t' := 3) (off := 1) (i := 1) (by rw [f24]; rfl)
  obtain ⟨n2, y2, h2⟩ := field_read u24 h (t' := 22) (off := 2) (i := 2) (by rw [f24]; rfl)
  rw [c3] at h0 h1
  rw [c22] at h2
  obtain ⟨a, e0, _⟩ := DataW.trod_int u3 h0
  obtain ⟨b, e1, _⟩ := DataW.trod_int u3 h1
  obtain ⟨v, l, e2, q1, q2, q3, q4, q5⟩ := row_read h2
  simp only [List.drop_zero, List.drop_succ_cons, List.take_succ_cons, List.take_zero, List.cons.injEq, and_true] at e0 e1 e2
  subst e0; subst e1; subst e2
  refine ⟨⟨a, b, l⟩, .agg _ _ rfl fun j hj => ?_, ⟨q2, q3, q4⟩, ?_⟩
  · match j, hj with
    | 0, _ => exact .int _ _
    | 1, _ => exact .int _ _
    | 2, _ => exact q1
  · obtain ⟨sh, z, o, es⟩ := l
    subst q5
    rfl
theorem okWide_agg {base : Nat} {t : Nat} {v : Value} {fs : Array Field} (ht : Try.prog.underlying t = some (.struct fs)) (h : Value.okWide Try.prog W .any base t v) : ∃ cs, v = .agg cs := by
  simp only [Value.okWide, ht] at h
  obtain ⟨cs, h, _⟩ := h
  exact ⟨cs, h⟩
end
end Go.Ab
