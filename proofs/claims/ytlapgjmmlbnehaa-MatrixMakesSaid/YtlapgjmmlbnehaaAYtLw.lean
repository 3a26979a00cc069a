/- The law of Make, At, Zero and Identity in values. -/
import Derived.Test.YtlapgjmmlbnehaaAYtLw0
import Derived.Test.YtlapgjmmlbnehaaAYtLm
set_option linter.unusedVariables false
set_option linter.unusedSimpArgs false
set_option maxRecDepth 100000
namespace Go.Ab
open Go.Proofs.Try

theorem pcLaw {m : Mem} {d : Option Nat} {x y : MV} {e f : Int} {k : Nat} (hx : LOk k x.lv) (hy : LOk k y.lv) (fx : x.fr = x) (fy : y.fr = y) (hk1 : 1 ≤ k) (hk : k < 2 ^ 36) (hlen : x.lv.es.length < 2 ^ 40) (he : e = f) (hs : sameM x y = true) : pcall (AP cfg) d m 22 [x.av, .int .i64 e, y.av, .int .i64 f] = some (.bool true, m) := by
  rw [pcall4 (fz_mv x) (fz_int _ _) (fz_mv y) (fz_int _ _), fx, fy, V22 hx hy hk1 hk hlen, hs, decide_eq_true he]; rfl
theorem P26 {m : Mem} {d : Option Nat} : pcall (AP cfg) d m 26 [] = some (.bool true, m) := by
  rw [pcall0, V26]; rfl
theorem ext0 (a b : AV) : extractA (.tup [a, b]) 0 = some a := rfl
theorem ext1 (a b : AV) : extractA (.tup [a, b]) 1 = some b := rfl
theorem pcIIL {m : Mem} {d : Option Nat} {g : Nat} (a b : Int) (l : LV) : pcall (AP cfg) d m g [.int .i64 a, .int .i64 b, l.av] = (AP cfg g [.int .i64 a, .int .i64 b, l.fr.av]).map fun v => (v, m) := pcall3 (fz_int _ a) (fz_int _ b) (fz_lv l)
theorem pcMII {m : Mem} {d : Option Nat} {g : Nat} (x : MV) (a b : Int) : pcall (AP cfg) d m g [x.av, .int .i64 a, .int .i64 b] = (AP cfg g [x.fr.av, .int .i64 a, .int .i64 b]).map fun v => (v, m) := pcall3 (fz_mv x) (fz_int _ a) (fz_int _ b)
theorem LOk.len_cells {F : Nat → Nat → RV} {a b : Nat} (ha : a ≤ 60) (hb : b ≤ 60) : (cellsF F b a).length < 2 ^ 40 := by
  rw [cellsF_length]
  have := Nat.mul_le_mul ha hb
  omega

theorem pcMI {m : Mem} {d : Option Nat} {g : Nat} (x : MV) (a : Int) : pcall (AP cfg) d m g [x.av, .int .i64 a] = (AP cfg g [x.fr.av, .int .i64 a]).map fun v => (v, m) := pcall2 (fz_mv x) (fz_int _ a)
theorem mv_frfr (x : MV) : x.fr.fr = x.fr := by
  obtain ⟨a, b, ⟨c, d, o, es⟩⟩ := x
  cases o <;> rfl
theorem MatrixMakes_law {x : MV} (hx : XM x.fr) (i k n : Int) : ∃ m', AC cfg 3 [x.av, .int .i64 i, .int .i64 k, .int .i64 n] [] = some (.bool true, m') := by
  obtain ⟨y, y1, y2, y3, y4⟩ := V13_60 hx (mv_frfr x)
  obtain ⟨g, e, g1, g2, g3, g4⟩ := V14 (a := y.rows) (b := y.cols) (k := 3) (by omega) y2 (by omega)
  obtain ⟨w, f, w1, w2, w3, w4⟩ := V15 (a := y.rows) (b := y.cols) (k := 3) (by omega) y2 (by omega)
  obtain ⟨a, a1, a2, a3, a4⟩ := V16 i k
  obtain ⟨b, b1, b2, b3, b4⟩ := V17 i k
  obtain ⟨c, c1, c2, c3, c4⟩ := V18 n
  obtain ⟨d, d1, d2, d3, d4⟩ := V19 n
  obtain ⟨r, r1, r2, r3, r4⟩ := V24 (k := 3) i k (by omega) y2 (by omega)
  obtain ⟨s, s1, s2, s3, s4⟩ := V25 (k := 3) i k (by omega) y2 (by omega)
  have y5 : y.lv.fr = y.lv := congrArg MV.lv y4
  have hz60 : ∀ p q : Int, sizeE p q = 0 → p.toNat ≤ 60 ∧ q.toNat ≤ 60 := by
    intro p q h
    unfold sizeE at h
    by_cases c1 : p < 0 ∨ q < 0
    · rw [if_pos c1] at h; omega
    · rw [if_neg c1] at h
      by_cases c2 : p > 60 ∨ q > 60
      · rw [if_pos c2] at h; omega
      · omega
  have q22a : pcall (AP cfg) (some 8) [cM x, cM y, cM g, cM w, cM a, cM b, cM c, cM d] 22 [g.av, .int .i64 e, w.av, .int .i64 f] = some (.bool true, [cM x, cM y, cM g, cM w, cM a, cM b, cM c, cM d]) := by
    rcases g4 with ⟨h1, rfl, h3, h4, h5⟩ | ⟨h1, rfl, rfl⟩
    · rcases w4 with ⟨j1, rfl, j3, j4, j5⟩ | ⟨j1, rfl, rfl⟩
      · exact pcLaw g3 w3 g2 w2 (by omega) (by omega) (by rw [h5, List.length_map]; omega) rfl (sameM_of (h3.trans j3.symm) (h4.trans j4.symm) (by rw [h5, j5, map_copyR]))
      · rw [h1] at j1; cases j1
    · rcases w4 with ⟨j1, rfl, j3, j4, j5⟩ | ⟨j1, rfl, rfl⟩
      · rw [h1] at j1; cases j1
      · exact pcLaw g3 w3 g2 w2 (by omega) (by omega) (by show (0 : Nat) < _; omega) rfl (sameM_refl _)
  have q22b : pcall (AP cfg) (some 8) [cM x, cM y, cM g, cM w, cM a, cM b, cM c, cM d] 22 [a.av, .int .i64 (sizeE i k), b.av, .int .i64 (sizeE i k)] = some (.bool true, [cM x, cM y, cM g, cM w, cM a, cM b, cM c, cM d]) := by
    rcases a4 with ⟨h1, rfl⟩ | ⟨h1, h3, h4, h5⟩
    · rcases b4 with ⟨j1, rfl⟩ | ⟨j1, j3, j4, j5⟩
      · exact pcLaw a3 b3 a2 b2 (by omega) (by omega) (by show (0 : Nat) < _; omega) rfl (sameM_refl _)
      · exact absurd j1 h1
    · rcases b4 with ⟨j1, rfl⟩ | ⟨j1, j3, j4, j5⟩
      · exact absurd h1 j1
      · obtain ⟨z1, z2⟩ := hz60 i k h1
        exact pcLaw a3 b3 a2 b2 (by omega) (by omega) (by rw [h5]; exact LOk.len_cells z1 z2) rfl (sameM_of (h3.trans j3.symm) (h4.trans j4.symm) (by rw [h5, j5, zero_zeros]))
  have q22c : pcall (AP cfg) (some 8) [cM x, cM y, cM g, cM w, cM a, cM b, cM c, cM d] 22 [c.av, .int .i64 (sizeE n n), d.av, .int .i64 (sizeE n n)] = some (.bool true, [cM x, cM y, cM g, cM w, cM a, cM b, cM c, cM d]) := by
    rcases c4 with ⟨h1, rfl⟩ | ⟨h1, h3, h4, h5⟩
    · rcases d4 with ⟨j1, rfl⟩ | ⟨j1, j3, j4, j5⟩
      · exact pcLaw c3 d3 c2 d2 (by omega) (by omega) (by show (0 : Nat) < _; omega) rfl (sameM_refl _)
      · exact absurd j1 h1
    · rcases d4 with ⟨j1, rfl⟩ | ⟨j1, j3, j4, j5⟩
      · exact absurd h1 j1
      · obtain ⟨z1, z2⟩ := hz60 n n h1
        exact pcLaw c3 d3 c2 d2 (by omega) (by omega) (by rw [h5]; exact LOk.len_cells z1 z2) rfl (sameM_of (h3.trans j3.symm) (h4.trans j4.symm) (by rw [h5, j5, unit_one]))
  have q20 : AP cfg 20 [y.av] = some (.bool (rightM y)) := V20 y2 (by omega) (by omega)
  have q21 : AP cfg 21 [y.av] = some (.bool (rightM y)) := V21 y2 (by omega) (by omega)
  have q23 : AP cfg 23 [r.av, s.av] = some (.bool true) := by
    rw [V23 r2 s2 (by omega) (by omega), r4, s4, decide_eq_true rfl]
  have pcRR : pcall (AP cfg) (some 8) [cM x, cM y, cM g, cM w, cM a, cM b, cM c, cM d] 23 [r.av, s.av] = some (.bool true, [cM x, cM y, cM g, cM w, cM a, cM b, cM c, cM d]) := by
    rw [pcall2 (fz_rv r) (fz_rv s), r3, s3, q23]; rfl
  have gx : ∀ e : Mem, (cM x :: e)[0]? = some (cM x) := fun _ => rfl
  have gy : ∀ e : Mem, (cM x :: cM y :: e)[1]? = some (cM y) := fun _ => rfl
  refine ⟨[cM x, cM y, cM g, cM w, cM a, cM b, cM c, cM d], ?_⟩
  rw [T3, P3_0_1_eq, box_mv, Option.bind_some]
  rw [P3_1_2_eq]
  simp only [List.length_nil, List.nil_append, new_m, new_r]
  rw [mldA (gx _), Option.bind_some, pcMI, y1, Option.map_some, Option.bind_some]
  simp only [List.length_nil, List.length_cons, List.nil_append, List.cons_append, Nat.zero_add, Nat.reduceAdd, new_m, new_r]
  rw [mstA (x := zM) rfl, Option.bind_some]
  simp only [List.set_cons_succ, List.set_cons_zero]
  rw [P3_2_3_eq]
  simp only [new_r, List.length_cons, List.length_nil, Nat.zero_add, Nat.reduceAdd]
  rw [fld0, Option.bind_some, mld0 (gy _), Option.bind_some, fld1, Option.bind_some, mld1 (gy _), Option.bind_some, fld2, Option.bind_some, mld2 (gy _), Option.bind_some]
  rw [P3_2_4_eq, pcIIL, y5, g1, Option.map_some, Option.bind_some, ext0, Option.bind_some, ext1, Option.bind_some]
  simp only [List.length_nil, List.length_cons, List.nil_append, List.cons_append, Nat.zero_add, Nat.reduceAdd, new_m, new_r]
  rw [mstA (x := zM) rfl, Option.bind_some]
  simp only [List.set_cons_succ, List.set_cons_zero]
  rw [P3_2_5_eq, P3_3_6_eq]
  simp only [new_r, List.length_cons, List.length_nil, Nat.zero_add, Nat.reduceAdd]
  rw [fld0, Option.bind_some, mld0 (gy _), Option.bind_some, fld1, Option.bind_some, mld1 (gy _), Option.bind_some, fld2, Option.bind_some, mld2 (gy _), Option.bind_some]
  rw [P3_3_7_eq, pcIIL, y5, w1, Option.map_some, Option.bind_some, ext0, Option.bind_some, ext1, Option.bind_some]
  simp only [List.length_nil, List.length_cons, List.nil_append, List.cons_append, Nat.zero_add, Nat.reduceAdd, new_m, new_r]
  rw [mstA (x := zM) rfl, Option.bind_some]
  simp only [List.set_cons_succ, List.set_cons_zero]
  rw [P3_3_8_eq, P3_4_9_eq, pcII, a1, Option.map_some, Option.bind_some, ext0, Option.bind_some, ext1, Option.bind_some, P3_4_10_eq]
  simp only [List.length_nil, List.length_cons, List.nil_append, List.cons_append, Nat.zero_add, Nat.reduceAdd, new_m, new_r]
  rw [mstA (x := zM) rfl, Option.bind_some]
  simp only [List.set_cons_succ, List.set_cons_zero]
  rw [P3_5_11_eq, pcII, b1, Option.map_some, Option.bind_some, ext0, Option.bind_some, ext1, Option.bind_some, P3_5_12_eq]
  simp only [List.length_nil, List.length_cons, List.nil_append, List.cons_append, Nat.zero_add, Nat.reduceAdd, new_m, new_r]
  rw [mstA (x := zM) rfl, Option.bind_some]
  simp only [List.set_cons_succ, List.set_cons_zero]
  rw [P3_6_13_eq, pcI, c1, Option.map_some, Option.bind_some, ext0, Option.bind_some, ext1, Option.bind_some, P3_6_14_eq]
  simp only [List.length_nil, List.length_cons, List.nil_append, List.cons_append, Nat.zero_add, Nat.reduceAdd, new_m, new_r]
  rw [mstA (x := zM) rfl, Option.bind_some]
  simp only [List.set_cons_succ, List.set_cons_zero]
  rw [P3_7_15_eq, pcI, d1, Option.map_some, Option.bind_some, ext0, Option.bind_some, ext1, Option.bind_some, P3_7_16_eq]
  simp only [List.length_nil, List.length_cons, List.nil_append, List.cons_append, Nat.zero_add, Nat.reduceAdd, new_m, new_r]
  rw [mstA (x := zM) rfl, Option.bind_some]
  simp only [List.set_cons_succ, List.set_cons_zero]
  rw [P3_8_17_eq]
  simp only [new_r, List.length_cons, List.length_nil, Nat.zero_add, Nat.reduceAdd]
  rw [mldA (gy _), Option.bind_some, pcM, y4, q20, Option.map_some, Option.bind_some, mldA (gy _), Option.bind_some, pcM, y4, q21, Option.map_some, Option.bind_some, bl_eql, Option.bind_some, beq_self_eq_true]
  rw [P3_8_18_eq, ifA_true]
  simp only [new_r, List.length_cons, List.length_nil, Nat.zero_add, Nat.reduceAdd]
  rw [mldA (x := g) rfl, Option.bind_some, mldA (x := w) rfl, Option.bind_some, q22a, Option.bind_some]
  rw [P3_8_19_eq, ifA_true]
  simp only [new_r, List.length_cons, List.length_nil, Nat.zero_add, Nat.reduceAdd]
  rw [mldA (x := a) rfl, Option.bind_some, mldA (x := b) rfl, Option.bind_some, q22b, Option.bind_some]
  rw [P3_8_21_eq, ifA_true]
  simp only [new_r, List.length_cons, List.length_nil, Nat.zero_add, Nat.reduceAdd]
  rw [mldA (x := c) rfl, Option.bind_some, mldA (x := d) rfl, Option.bind_some]
  rw [P3_8_24_eq]
  simp only [new_r, List.length_cons, List.length_nil, Nat.zero_add, Nat.reduceAdd]
  rw [q22c, Option.bind_some, ifA_true, mldA (gy _), Option.bind_some]
  rw [P3_8_28_eq]
  simp only [new_r, List.length_cons, List.length_nil, Nat.zero_add, Nat.reduceAdd]
  rw [pcMII, y4, r1, Option.map_some, Option.bind_some, mldA (gy _), Option.bind_some, pcMII, y4, s1, Option.map_some, Option.bind_some, pcRR, Option.bind_some]
  rw [P3_8_33_eq, ifA_true, P26, Option.bind_some]
  rfl
end Go.Ab
