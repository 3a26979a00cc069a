/- The reference's sums, products and comparisons of fractions, in values. -/
import Derived.Test.YtlapgjmmlbnehaaAYtRt
set_option linter.unusedVariables false
set_option linter.unusedSimpArgs false
set_option maxRecDepth 100000
namespace Go.Ab
open Go.Proofs.Try

def sgQ (q : Rat) : Int := if q = 0 then 0 else if q.num < 0 then -1 else 1
theorem sgQ_zero (q : Rat) : sgQ q = 0 ↔ q = 0 := by
  unfold sgQ
  constructor
  · intro h
    split at h
    · assumption
    · split at h <;> omega
  · intro h; rw [if_pos h]
theorem Can.len0 {r : RV} {q : Rat} (h : Can r q) : r.num.ds.length = 0 ↔ q = 0 := by
  rw [h.num, digs_len0, Int.natAbs_eq_zero, Rat.num_eq_zero]
theorem V86 {r : RV} {k : Nat} (h : ROk k r) (hk : k < 2 ^ 38) : AP cfg 86 [r.av] = some (.int .i64 (sgQ r.q)) := by
  obtain ⟨s, e1, e2, e3⟩ := V71 h.fr hk
  rw [RV.fr_q] at e2
  refine AP_ofz _ _ (fz_int _ _) rfl (m := [cR s]) ?_
  rw [T86]
  simp only [Nat.reduceAdd, Option.bind_some, Option.map_some, box_rv, new_z, new_r, new_zs, new_rs, fld0, fld1, fld2, res1, res2, ld0neg, ld0num, ld0den, ld0all, st0all, st0neg, ld1neg, ld1num, ld1den, ld1all, st1all, st1neg, ld2neg, ld2num, ld2den, ld2all, st2all, st2neg, ld3neg, ld3num, ld3den, ld3all, st3all, st3neg, ld4neg, ld4num, ld4den, ld4all, st4all, st4neg, ex0, ex1, ex2, bld0, bld2, bld12, bld012, nil_av, not_b, bl_neq, bl_eql, List.length_cons, List.length_nil, List.length_append, List.nil_append, List.cons_append, List.append_nil, Nat.zero_add, List.set_cons_zero, List.set_cons_succ, List.set_nil, pcN, pcI, pcNN, pcBNN, pcR, pcRR, pc0, e1, len_nv, n_eql0, ifA_dec]
  unfold sgQ
  by_cases h0 : r.q = 0
  · rw [if_pos (e2.len0.2 h0), if_pos h0]
  · rw [if_neg (fun hh => h0 (e2.len0.1 hh)), if_neg h0, e2.neg, ifA_dec]
    split <;> rfl
theorem V118 {r : RV} {k : Nat} (h : ROk k r) (hk : k < 2 ^ 38) : ∃ s : RV, AP cfg 118 [r.av] = some s.av ∧ Can s (-r.q) ∧ s.fr = s := by
  obtain ⟨s, e1, e2, e3⟩ := V71 h.fr hk
  rw [RV.fr_q] at e2
  have hlen : ∀ b : Bool, decide (s.num.ds.length > 0) = decide (r.q ≠ 0) := by
    intro b
    refine decide_eq_decide.2 ?_
    have := e2.len0
    constructor
    · intro h1 h2
      have := this.2 h2
      omega
    · intro h1
      have : s.num.ds.length ≠ 0 := fun e => h1 (this.1 e)
      omega
  have hs1 : s.num.fr = s.num := congrArg RV.num e3
  have hs2 : s.den.fr = s.den := congrArg RV.den e3
  have hc : ∀ b : Bool, b = decide ((-r.q).num < 0) → Can ⟨b, s.num, s.den⟩ (-r.q) := by
    intro b hb
    refine ⟨hb, ?_, ?_, e2.numz, e2.denz⟩
    · rw [Rat.neg_num, Int.natAbs_neg]; exact e2.num
    · rw [Rat.neg_den]; exact e2.den
  cases hn : s.neg with
  | true =>
    have hq : r.q.num < 0 := by have := e2.neg; rw [hn] at this; exact of_decide_eq_true this.symm
    refine ⟨⟨false, s.num, s.den⟩, (AP_ofz _ _ (fz_rv ⟨false, s.num, s.den⟩) (noV_rv _) (m := [cR ⟨false, s.num, s.den⟩, cR ⟨false, s.num, s.den⟩]) ?_).trans (by simp only [RV.fr, hs1, hs2]), hc false ?_, by simp only [RV.fr, hs1, hs2]⟩
    · rw [T118]
      simp only [Nat.reduceAdd, Option.bind_some, Option.map_some, box_rv, new_z, new_r, new_zs, new_rs, fld0, fld1, fld2, res1, res2, ld0neg, ld0num, ld0den, ld0all, st0all, st0neg, ld1neg, ld1num, ld1den, ld1all, st1all, st1neg, ld2neg, ld2num, ld2den, ld2all, st2all, st2neg, ld3neg, ld3num, ld3den, ld3all, st3all, st3neg, ld4neg, ld4num, ld4den, ld4all, st4all, st4neg, ex0, ex1, ex2, bld0, bld2, bld12, bld012, nil_av, not_b, bl_neq, bl_eql, List.length_cons, List.length_nil, List.length_append, List.nil_append, List.cons_append, List.append_nil, Nat.zero_add, List.set_cons_zero, List.set_cons_succ, List.set_nil, pcN, pcI, pcNN, pcBNN, pcR, pcRR, pc0, e1, hn, Bool.not_true, ifA_false]
    · rw [Rat.neg_num]; exact (decide_eq_false (by omega)).symm
  | false =>
    have hq : ¬ r.q.num < 0 := by have := e2.neg; rw [hn] at this; exact of_decide_eq_false this.symm
    refine ⟨⟨decide (r.q ≠ 0), s.num, s.den⟩, (AP_ofz _ _ (fz_rv ⟨decide (r.q ≠ 0), s.num, s.den⟩) (noV_rv _) (m := [cR ⟨decide (r.q ≠ 0), s.num, s.den⟩, cR ⟨decide (r.q ≠ 0), s.num, s.den⟩]) ?_).trans (by simp only [RV.fr, hs1, hs2]), hc _ ?_, by simp only [RV.fr, hs1, hs2]⟩
    · rw [T118]
      simp only [Nat.reduceAdd, Option.bind_some, Option.map_some, box_rv, new_z, new_r, new_zs, new_rs, fld0, fld1, fld2, res1, res2, ld0neg, ld0num, ld0den, ld0all, st0all, st0neg, ld1neg, ld1num, ld1den, ld1all, st1all, st1neg, ld2neg, ld2num, ld2den, ld2all, st2all, st2neg, ld3neg, ld3num, ld3den, ld3all, st3all, st3neg, ld4neg, ld4num, ld4den, ld4all, st4all, st4neg, ex0, ex1, ex2, bld0, bld2, bld12, bld012, nil_av, not_b, bl_neq, bl_eql, List.length_cons, List.length_nil, List.length_append, List.nil_append, List.cons_append, List.append_nil, Nat.zero_add, List.set_cons_zero, List.set_cons_succ, List.set_nil, pcN, pcI, pcNN, pcBNN, pcR, pcRR, pc0, e1, hn, Bool.not_false, ifA_true, len_nv, n_gtr0, hlen true]
    · rw [Rat.neg_num]
      refine decide_eq_decide.2 ?_
      have h0 : r.q = 0 ↔ r.q.num = 0 := Rat.num_eq_zero.symm
      constructor
      · intro h1
        have : r.q.num ≠ 0 := fun e => h1 (h0.2 e)
        omega
      · intro h1 h2
        have := h0.1 h2
        omega
theorem V76 {a b : RV} {k : Nat} (ha : ROk k a) (hb : ROk k b) (hk1 : 1 ≤ k) (hk : k < 2 ^ 36) : ∃ s : RV, AP cfg 76 [a.av, b.av] = some s.av ∧ Can s (a.q + b.q) ∧ s.fr = s := by
  obtain ⟨s, e1, e2, e3⟩ := V71 ha.fr (by omega)
  obtain ⟨t, f1, f2, f3⟩ := V71 hb.fr (by omega)
  rw [RV.fr_q] at e2 f2
  have os := e2.ok (ha.bd hk1) (by omega)
  have ot := f2.ok (hb.bd hk1) (by omega)
  have hs1 : s.num.fr = s.num := congrArg RV.num e3
  have hs2 : s.den.fr = s.den := congrArg RV.den e3
  have ht1 : t.num.fr = t.num := congrArg RV.num f3
  have ht2 : t.den.fr = t.den := congrArg RV.den f3
  have lx := ln_mul (Nat.le_trans os.num.v_len os.ln) (Nat.le_trans ot.den.v_len ot.ld)
  have ly := ln_mul (Nat.le_trans ot.num.v_len ot.ln) (Nat.le_trans os.den.v_len os.ld)
  have ld := ln_mul (Nat.le_trans os.den.v_len os.ld) (Nat.le_trans ot.den.v_len ot.ld)
  have lxy := ln_add lx ly
  have g1 := V72 os.num ot.den
  have g2 := V72 ot.num os.den
  have g3 := V72 os.den ot.den
  have ox : NOk (refN (s.num.v * t.den.v)) := refN_ok (by omega)
  have oy : NOk (refN (t.num.v * s.den.v)) := refN_ok (by omega)
  have od : NOk (refN (s.den.v * t.den.v)) := refN_ok (by omega)
  have g4 := V111 ox oy (refN_fr _) (refN_fr _)
  have g5 := V98 ox oy
  have g6 := V112 ox oy (refN_fr _) (refN_fr _)
  have g7 := V112 oy ox (refN_fr _) (refN_fr _)
  rw [refN_v, refN_v] at g4 g5
  unfold subR at g6 g7
  rw [refN_v, refN_v] at g6 g7
  have hd0 : s.den.v * t.den.v ≠ 0 := Nat.mul_ne_zero e2.den0 f2.den0
  have hsum : a.q + b.q = mkRat (sgn s.neg (s.num.v * t.den.v) + sgn t.neg (t.num.v * s.den.v)) (s.den.v * t.den.v) := by
    rw [← e2.q, ← f2.q]
    exact qOf_add e2.den0 f2.den0
  have fin : ∀ (neg : Bool) (n : Nat), (digs n).length < 2 ^ 38 → mkRat (sgn s.neg (s.num.v * t.den.v) + sgn t.neg (t.num.v * s.den.v)) (s.den.v * t.den.v) = qOf neg n (s.den.v * t.den.v) → ∃ r : RV, AP cfg 69 [.bool neg, (refN n).av, (refN (s.den.v * t.den.v)).av] = some (.tup [r.av, .int .i64 0]) ∧ Can r (a.q + b.q) ∧ r.fr = r := by
    intro neg n hn he
    rcases V69 neg (refN_ok (n := n) (by omega)) od (by rw [refN_v]; exact hn) (by rw [refN_v]; omega) with ⟨h0, _⟩ | ⟨_, r, h1, h2, h3⟩
    · rw [refN_v] at h0; exact absurd h0 hd0
    · rw [refN_v, refN_v, ← he, ← hsum] at h2
      exact ⟨r, h1, h2, h3⟩
  by_cases hn : s.neg = t.neg
  · obtain ⟨r, h1, h2, h3⟩ := fin s.neg (s.num.v * t.den.v + t.num.v * s.den.v) (by omega) (by rw [← hn, sgn_same]; rfl)
    refine ⟨r, (AP_ofz _ _ (fz_rv r) (noV_rv _) (m := [cR s, cR t, cR r, cR r]) ?_).trans (by rw [h3]), h2, h3⟩
    rw [T76]
    simp only [Nat.reduceAdd, Option.bind_some, Option.map_some, box_rv, new_z, new_r, new_zs, new_rs, fld0, fld1, fld2, res1, res2, ld0neg, ld0num, ld0den, ld0all, st0all, st0neg, ld1neg, ld1num, ld1den, ld1all, st1all, st1neg, ld2neg, ld2num, ld2den, ld2all, st2all, st2neg, ld3neg, ld3num, ld3den, ld3all, st3all, st3neg, ld4neg, ld4num, ld4den, ld4all, st4all, st4neg, ex0, ex1, ex2, bld0, bld2, bld12, bld012, nil_av, not_b, bl_neq, bl_eql, List.length_cons, List.length_nil, List.length_append, List.nil_append, List.cons_append, List.append_nil, Nat.zero_add, List.set_cons_zero, List.set_cons_succ, List.set_nil, pcN, pcI, pcNN, pcBNN, pcR, pcRR, pc0, e1, f1, hs1, hs2, ht1, ht2, g1, g2, g3, refN_fr, g4, hn, bne_self_eq_false, ifA_false]
    rw [hn] at h1
    simp only [Nat.reduceAdd, Option.bind_some, Option.map_some, box_rv, new_z, new_r, new_zs, new_rs, fld0, fld1, fld2, res1, res2, ld0neg, ld0num, ld0den, ld0all, st0all, st0neg, ld1neg, ld1num, ld1den, ld1all, st1all, st1neg, ld2neg, ld2num, ld2den, ld2all, st2all, st2neg, ld3neg, ld3num, ld3den, ld3all, st3all, st3neg, ld4neg, ld4num, ld4den, ld4all, st4all, st4neg, ex0, ex1, ex2, bld0, bld2, bld12, bld012, nil_av, not_b, bl_neq, bl_eql, List.length_cons, List.length_nil, List.length_append, List.nil_append, List.cons_append, List.append_nil, Nat.zero_add, List.set_cons_zero, List.set_cons_succ, List.set_nil, pcN, pcI, pcNN, pcBNN, pcR, pcRR, pc0, h1]
  · have hne : (s.neg != t.neg) = true := by simpa using hn
    by_cases hlt : s.num.v * t.den.v < t.num.v * s.den.v
    · obtain ⟨r, h1, h2, h3⟩ := fin t.neg (t.num.v * s.den.v - s.num.v * t.den.v) (Nat.lt_of_le_of_lt (digs_mono (Nat.sub_le _ _)) (by omega)) (by rw [sgn_lt hn hlt]; rfl)
      refine ⟨r, (AP_ofz _ _ (fz_rv r) (noV_rv _) (m := [cR s, cR t, cR r, cR r]) ?_).trans (by rw [h3]), h2, h3⟩
      have hc : ¬ cmpV (s.num.v * t.den.v) (t.num.v * s.den.v) ≥ 0 := by unfold cmpV; rw [if_pos hlt]; omega
      rw [if_neg (by omega)] at g7
      rw [T76]
      simp only [Nat.reduceAdd, Option.bind_some, Option.map_some, box_rv, new_z, new_r, new_zs, new_rs, fld0, fld1, fld2, res1, res2, ld0neg, ld0num, ld0den, ld0all, st0all, st0neg, ld1neg, ld1num, ld1den, ld1all, st1all, st1neg, ld2neg, ld2num, ld2den, ld2all, st2all, st2neg, ld3neg, ld3num, ld3den, ld3all, st3all, st3neg, ld4neg, ld4num, ld4den, ld4all, st4all, st4neg, ex0, ex1, ex2, bld0, bld2, bld12, bld012, nil_av, not_b, bl_neq, bl_eql, List.length_cons, List.length_nil, List.length_append, List.nil_append, List.cons_append, List.append_nil, Nat.zero_add, List.set_cons_zero, List.set_cons_succ, List.set_nil, pcN, pcI, pcNN, pcBNN, pcR, pcRR, pc0, e1, f1, hs1, hs2, ht1, ht2, g1, g2, g3, refN_fr, g4, hne, ifA_true, g5, binA_geq, ifA_dec]
      rw [if_neg hc]
      simp only [Nat.reduceAdd, Option.bind_some, Option.map_some, box_rv, new_z, new_r, new_zs, new_rs, fld0, fld1, fld2, res1, res2, ld0neg, ld0num, ld0den, ld0all, st0all, st0neg, ld1neg, ld1num, ld1den, ld1all, st1all, st1neg, ld2neg, ld2num, ld2den, ld2all, st2all, st2neg, ld3neg, ld3num, ld3den, ld3all, st3all, st3neg, ld4neg, ld4num, ld4den, ld4all, st4all, st4neg, ex0, ex1, ex2, bld0, bld2, bld12, bld012, nil_av, not_b, bl_neq, bl_eql, List.length_cons, List.length_nil, List.length_append, List.nil_append, List.cons_append, List.append_nil, Nat.zero_add, List.set_cons_zero, List.set_cons_succ, List.set_nil, pcN, pcI, pcNN, pcBNN, pcR, pcRR, pc0, refN_fr, g7, h1]
    · obtain ⟨r, h1, h2, h3⟩ := fin s.neg (s.num.v * t.den.v - t.num.v * s.den.v) (Nat.lt_of_le_of_lt (digs_mono (Nat.sub_le _ _)) (by omega)) (by rw [sgn_gt hn hlt]; rfl)
      refine ⟨r, (AP_ofz _ _ (fz_rv r) (noV_rv _) (m := [cR s, cR t, cR r, cR r]) ?_).trans (by rw [h3]), h2, h3⟩
      have hc : cmpV (s.num.v * t.den.v) (t.num.v * s.den.v) ≥ 0 := by unfold cmpV; rw [if_neg hlt]; split <;> omega
      rw [if_neg hlt] at g6
      rw [T76]
      simp only [Nat.reduceAdd, Option.bind_some, Option.map_some, box_rv, new_z, new_r, new_zs, new_rs, fld0, fld1, fld2, res1, res2, ld0neg, ld0num, ld0den, ld0all, st0all, st0neg, ld1neg, ld1num, ld1den, ld1all, st1all, st1neg, ld2neg, ld2num, ld2den, ld2all, st2all, st2neg, ld3neg, ld3num, ld3den, ld3all, st3all, st3neg, ld4neg, ld4num, ld4den, ld4all, st4all, st4neg, ex0, ex1, ex2, bld0, bld2, bld12, bld012, nil_av, not_b, bl_neq, bl_eql, List.length_cons, List.length_nil, List.length_append, List.nil_append, List.cons_append, List.append_nil, Nat.zero_add, List.set_cons_zero, List.set_cons_succ, List.set_nil, pcN, pcI, pcNN, pcBNN, pcR, pcRR, pc0, e1, f1, hs1, hs2, ht1, ht2, g1, g2, g3, refN_fr, g4, hne, ifA_true, g5, binA_geq, ifA_dec]
      rw [if_pos hc]
      simp only [Nat.reduceAdd, Option.bind_some, Option.map_some, box_rv, new_z, new_r, new_zs, new_rs, fld0, fld1, fld2, res1, res2, ld0neg, ld0num, ld0den, ld0all, st0all, st0neg, ld1neg, ld1num, ld1den, ld1all, st1all, st1neg, ld2neg, ld2num, ld2den, ld2all, st2all, st2neg, ld3neg, ld3num, ld3den, ld3all, st3all, st3neg, ld4neg, ld4num, ld4den, ld4all, st4all, st4neg, ex0, ex1, ex2, bld0, bld2, bld12, bld012, nil_av, not_b, bl_neq, bl_eql, List.length_cons, List.length_nil, List.length_append, List.nil_append, List.cons_append, List.append_nil, Nat.zero_add, List.set_cons_zero, List.set_cons_succ, List.set_nil, pcN, pcI, pcNN, pcBNN, pcR, pcRR, pc0, refN_fr, g6, h1]
theorem V100 {a b : RV} {k : Nat} (ha : ROk k a) (hb : ROk k b) (hk1 : 1 ≤ k) (hk : k < 2 ^ 36) : ∃ s : RV, AP cfg 100 [a.av, b.av] = some s.av ∧ Can s (a.q - b.q) ∧ s.fr = s := by
  obtain ⟨t, f1, f2, f3⟩ := V118 hb.fr (by omega)
  rw [RV.fr_q] at f2
  have bt : Bd k (-b.q) := by
    have := hb.bd hk1
    refine ⟨?_, ?_⟩
    · rw [Rat.neg_num, Int.natAbs_neg]; exact this.1
    · rw [Rat.neg_den]; exact this.2
  have ot := f2.ok bt (by omega)
  obtain ⟨s, e1, e2, e3⟩ := V76 ha.fr ot hk1 hk
  rw [f2.q, RV.fr_q, ← Rat.sub_eq_add_neg] at e2
  refine ⟨s, (AP_ofz _ _ (fz_rv s) (noV_rv _) (m := [cR a, cR b, cR s]) ?_).trans (by rw [e3]), e2, e3⟩
  rw [T100]
  simp only [Nat.reduceAdd, Option.bind_some, Option.map_some, box_rv, new_z, new_r, new_zs, new_rs, fld0, fld1, fld2, res1, res2, ld0neg, ld0num, ld0den, ld0all, st0all, st0neg, ld1neg, ld1num, ld1den, ld1all, st1all, st1neg, ld2neg, ld2num, ld2den, ld2all, st2all, st2neg, ld3neg, ld3num, ld3den, ld3all, st3all, st3neg, ld4neg, ld4num, ld4den, ld4all, st4all, st4neg, ex0, ex1, ex2, bld0, bld2, bld12, bld012, nil_av, not_b, bl_neq, bl_eql, List.length_cons, List.length_nil, List.length_append, List.nil_append, List.cons_append, List.append_nil, Nat.zero_add, List.set_cons_zero, List.set_cons_succ, List.set_nil, pcN, pcI, pcNN, pcBNN, pcR, pcRR, pc0, f1, f3, e1]
theorem V66 {a b : RV} {k : Nat} (ha : ROk k a) (hb : ROk k b) (hk1 : 1 ≤ k) (hk : k < 2 ^ 36) : AP cfg 66 [a.av, b.av] = some (.int .i64 (sgQ (a.q - b.q))) := by
  obtain ⟨s, e1, e2, e3⟩ := V100 ha.fr hb.fr hk1 hk
  rw [RV.fr_q, RV.fr_q] at e2
  have bs := Bd_add (ha.bd hk1) (q := -b.q) (l := k) (by
    have := hb.bd hk1
    refine ⟨?_, ?_⟩
    · rw [Rat.neg_num, Int.natAbs_neg]; exact this.1
    · rw [Rat.neg_den]; exact this.2) hk1
  rw [← Rat.sub_eq_add_neg] at bs
  have os := e2.ok bs (by omega)
  have e4 := V86 os (by omega)
  rw [e2.q] at e4
  refine AP_ofz _ _ (fz_int _ _) rfl (m := [cR a, cR b]) ?_
  rw [T66]
  simp only [Nat.reduceAdd, Option.bind_some, Option.map_some, box_rv, new_z, new_r, new_zs, new_rs, fld0, fld1, fld2, res1, res2, ld0neg, ld0num, ld0den, ld0all, st0all, st0neg, ld1neg, ld1num, ld1den, ld1all, st1all, st1neg, ld2neg, ld2num, ld2den, ld2all, st2all, st2neg, ld3neg, ld3num, ld3den, ld3all, st3all, st3neg, ld4neg, ld4num, ld4den, ld4all, st4all, st4neg, ex0, ex1, ex2, bld0, bld2, bld12, bld012, nil_av, not_b, bl_neq, bl_eql, List.length_cons, List.length_nil, List.length_append, List.nil_append, List.cons_append, List.append_nil, Nat.zero_add, List.set_cons_zero, List.set_cons_succ, List.set_nil, pcN, pcI, pcNN, pcBNN, pcR, pcRR, pc0, e1, e3, e4]
theorem V23 {a b : RV} {k : Nat} (ha : ROk k a) (hb : ROk k b) (hk1 : 1 ≤ k) (hk : k < 2 ^ 36) : AP cfg 23 [a.av, b.av] = some (.bool (decide (a.q = b.q))) := by
  have e1 := V66 ha.fr hb.fr hk1 hk
  rw [RV.fr_q, RV.fr_q] at e1
  refine AP_ofz _ _ (fz_bool _) rfl (m := [cR a, cR b]) ?_
  rw [T23]
  simp only [Nat.reduceAdd, Option.bind_some, Option.map_some, box_rv, new_z, new_r, new_zs, new_rs, fld0, fld1, fld2, res1, res2, ld0neg, ld0num, ld0den, ld0all, st0all, st0neg, ld1neg, ld1num, ld1den, ld1all, st1all, st1neg, ld2neg, ld2num, ld2den, ld2all, st2all, st2neg, ld3neg, ld3num, ld3den, ld3all, st3all, st3neg, ld4neg, ld4num, ld4den, ld4all, st4all, st4neg, ex0, ex1, ex2, bld0, bld2, bld12, bld012, nil_av, not_b, bl_neq, bl_eql, List.length_cons, List.length_nil, List.length_append, List.nil_append, List.cons_append, List.append_nil, Nat.zero_add, List.set_cons_zero, List.set_cons_succ, List.set_nil, pcN, pcI, pcNN, pcBNN, pcR, pcRR, pc0, e1, binA_eql]
  congr 3
  refine decide_eq_decide.2 ?_
  rw [sgQ_zero]
  constructor
  · intro h
    have := Rat.sub_add_cancel (a := a.q) (b := b.q)
    rw [h, Rat.zero_add] at this
    exact this.symm
  · intro h; rw [h, Rat.sub_self]
end Go.Ab
