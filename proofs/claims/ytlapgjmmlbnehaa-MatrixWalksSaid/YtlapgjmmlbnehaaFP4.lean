/- The reference's sums, products and comparisons of fractions, in values. -/
import Derived.Test.YtlapgjmmlbnehaaFP3
import Derived.Test.YtlapgjmmlbnehaaFP1
set_option linter.unusedVariables false
set_option linter.unusedSimpArgs false
set_option maxRecDepth 100000
namespace Go.Ab
open Go.Proofs.Try

def sgQ (q : Rat) : Int := if q = 0 then 0 else if q.num < 0 then -1 else 1
theorem sgQ_zero (q : Rat) : sgQ q = 0 ↔ q = 0 := by
  unfold sgQ
  constructor
  · intro h
    split at h
    · assumption
    · split at h <;> omega
  · intro h; rw [if_pos h]
theorem Can.len0 {r : RV} {q : Rat} (h : Can r q) : r.num.ds.length = 0 ↔ q = 0 := by
  rw [h.num, digs_len0, Int.natAbs_eq_zero, Rat.num_eq_zero]
theorem V86 {r : RV} {k : Nat} (h : ROk k r) (hk : k < 2 ^ 38) : AP cfg 86 [r.av] = some (.int .i64 (sgQ r.q)) := by
  obtain ⟨s, e1, e2, e3⟩ := V71 h.fr hk
  rw [RV.fr_q] at e2
  refine AP_ofz _ _ (fz_int _ _) rfl (m := [cR s]) ?_
  rw [T86]
  simp only [Nat.reduceAdd, Option.bind_some, Option.map_some, box_rv, new_z, new_r, new_zs, new_rs, fld0, fld1, fld2, res1, res2, ld0neg, ld0num, ld0den, ld0all, st0all, st0neg, ld1neg, ld1num, ld1den, ld1all, st1all, st1neg, ld2neg, ld2num, ld2den, ld2all, st2all, st2neg, ld3neg, ld3num, ld3den, ld3all, st3all, st3neg, ld4neg, ld4num, ld4den, ld4all, st4all, st4neg, ex0, ex1, ex2, bld0, bld2, bld12, bld012, nil_av, not_b, bl_neq, bl_eql, List.length_cons, List.length_nil, List.length_append, List.nil_append, List.cons_append, List.append_nil, Nat.zero_add, List.set_cons_zero, List.set_cons_succ, List.set_nil, pcN, pcI, pcNN, pcBNN, pcR, pcRR, pc0, e1, len_nv, n_eql0, ifA_dec]
  unfold sgQ
  by_cases h0 : r.q = 0
  · rw [if_pos (e2.len0.2 h0), if_pos h0]
  · rw [if_neg (fun hh => h0 (e2.len0.1 hh)), if_neg h0, e2.neg, ifA_dec]
    split <;> rfl
theorem V118 {r : RV} {k : Nat} (h : ROk k r) (hk : k < 2 ^ 38) : ∃ s : RV, AP cfg 118 [r.av] = some s.av ∧ Can s (-r.q) ∧ s.fr = s := by
  obtain ⟨s, e1, e2, e3⟩ := V71 h.fr hk
  rw [RV.fr_q] at e2
  have hlen : ∀ b : Bool, decide (s.num.ds.length > 0) = decide (r.q ≠ 0) := by
    intro b
    refine decide_eq_decide.2 ?_
    have := e2.len0
    constructor
    · intro h1 h2
      have := this.2 h2
      omega
    · intro h1
      have : s.num.ds.length ≠ 0 := fun e => h1 (this.1 e)
      omega
  have hs1 : s.num.fr = s.num := congrArg RV.num e3
  have hs2 : s.den.fr = s.den := congrArg RV.den e3
  have hc : ∀ b : Bool, b = decide ((-r.q).num < 0) → Can ⟨b, s.num, s.den⟩ (-r.q) := by
    intro b hb
    refine ⟨hb, ?_, ?_, e2.numz, e2.denz⟩
    · rw [Rat.neg_num, Int.natAbs_neg]; exact e2.num
    · rw [Rat.neg_den]; exact e2.den
  cases hn : s.neg with
  | true =>
    have hq : r.q.num < 0 := by have := e2.neg; rw [hn] at this; exact of_decide_eq_true this.symm
    refine ⟨⟨false, s.num, s.den⟩, (AP_ofz _ _ (fz_rv ⟨false, s.num, s.den⟩) (noV_rv _) (m := [cR ⟨false, s.num, s.den⟩, cR ⟨false, s.num, s.den⟩]) ?_).trans (by simp only [RV.fr, hs1, hs2]), hc false ?_, by simp only [RV.fr, hs1, hs2]⟩
    · rw [T118]
      simp only [Nat.reduceAdd, Option.bind_some, Option.map_some, box_rv, new_z, new_r, new_zs, new_rs, fld0, fld1, fld2, res1, res2, ld0neg, ld0num, ld0den, ld0all, st0all, st0neg, ld1neg, ld1num, ld1den, ld1all, st1all, st1neg, ld2neg, ld2num, ld2den, ld2all, st2all, st2neg, ld3neg, ld3num, ld3den, ld3all, st3all, st3neg, ld4neg, ld4num, ld4den, ld4all, st4all, st4neg, ex0, ex1, ex2, bld0, bld2, bld12, bld012, nil_av, not_b, bl_neq, bl_eql, List.length_cons, List.length_nil, List.length_append, List.nil_append, List.cons_append, List.append_nil, Nat.zero_add, List.set_cons_zero, List.set_cons_succ, List.set_nil, pcN, pcI, pcNN, pcBNN, pcR, pcRR, pc0, e1, hn, Bool.not_true, ifA_false]
    · rw [Rat.neg_num]; exact (decide_eq_false (by omega)).symm
  | false =>
    have hq : ¬ r.q.num < 0 := by have := e2.neg; rw [hn] at this; exact of_decide_eq_false this.symm
    refine ⟨⟨decide (r.q ≠ 0), s.num, s.den⟩, (AP_ofz _ _ (fz_rv ⟨decide (r.q ≠ 0), s.num, s.den⟩) (noV_rv _) (m := [cR ⟨decide (r.q ≠ 0), s.num, s.den⟩, cR ⟨decide (r.q ≠ 0), s.num, s.den⟩]) ?_).trans (by simp only [RV.fr, hs1, hs2]), hc _ ?_, by simp only [RV.fr, hs1, hs2]⟩
    · rw [T118]
      simp only [Nat.reduceAdd, Option.bind_some, Option.map_some, box_rv, new_z, new_r, new_zs, new_rs, fld0, fld1, fld2, res1, res2, ld0neg, ld0num, ld0den, ld0all, st0all, st0neg, ld1neg, ld1num, ld1den, ld1all, st1all, st1neg, ld2neg, ld2num, ld2den, ld2all, st2all, st2neg, ld3neg, ld3num, ld3den, ld3all, st3all, st3neg, ld4neg, ld4num, ld4den, ld4all, st4all, st4neg, ex0, ex1, ex2, bld0, bld2, bld12, bld012, nil_av, not_b, bl_neq, bl_eql, List.length_cons, List.length_nil, List.length_append, List.nil_append, List.cons_append, List.append_nil, Nat.zero_add, List.set_cons_zero, List.set_cons_succ, List.set_nil, pcN, pcI, pcNN, pcBNN, pcR, pcRR, pc0, e1, hn, Bool.not_false, ifA_true, len_nv, n_gtr0, hlen true]
    · rw [Rat.neg_num]
      refine decide_eq_decide.2 ?_
      have h0 : r.q = 0 ↔ r.q.num = 0 := Rat.num_eq_zero.symm
      constructor
      · intro h1
        have : r.q.num ≠ 0 := fun e => h1 (h0.2 e)
        omega
      · intro h1 h2
        have := h0.1 h2
        omega
theorem V76 {a b : RV} {k : Nat} (ha : ROk k a) (hb : ROk k b) (hk1 : 1 ≤ k) (hk : k < 2 ^ 36) : ∃ s : RV, AP cfg 76 [a.av, b.av] = some s.av ∧ Can s (a.q + b.q) ∧ s.fr = s := by
  obtain ⟨s, e1, e2, e3⟩ := V71 ha.fr (by omega)
  obtain ⟨t, f1, f2, f3⟩ := V71 hb.fr (by omega)
  rw [RV.fr_q] at e2 f2
  have os := e2.ok (ha.bd hk1) (by omega)
  have ot := f2.ok (hb.bd hk1) (by omega)
  have hs1 : s.num.fr = s.num := congrArg RV.num e3
  have hs2 : s.den.fr = s.den := congrArg RV.den e3
  have ht1 : t.num.fr = t.num := congrArg RV.num f3
  have ht2 : t.den.fr = t.den := congrArg RV.den f3
  have lx := ln_mul (Nat.le_trans os.num.v_len os.ln) (Nat.le_trans ot.den.v_len ot.ld)
  have ly := ln_mul (Nat.le_trans ot.num.v_len ot.ln) (Nat.le_trans os.den.v_len os.ld)
  have ld := ln_mul (Nat.le_trans os.den.v_len os.ld) (Nat.le_trans ot.den.v_len ot.ld)
  have lxy := ln_add lx ly
  have g1 := V72 os.num ot.den
  have g2 := V72 ot.num os.den
  have g3 := V72 os.den ot.den
  have ox : NOk (refN (s.num.v * t.den.v)) := refN_ok (by omega)
  have oy : NOk (refN (t.num.v * s.den.v)) := refN_ok (by omega)
  have od : NOk (refN (s.den.v * t.den.v)) := refN_ok (by omega)
  have g4 := V111 ox oy (refN_fr _) (refN_fr _)
  have g5 := V98 ox oy
  have g6 := V112 ox oy (refN_fr _) (refN_fr _)
  have g7 := V112 oy ox (refN_fr _) (refN_fr _)
  rw [refN_v, refN_v] at g4 g5
  unfold subR at g6 g7
  rw [refN_v, refN_v] at g6 g7
  have hd0 : s.den.v * t.den.v ≠ 0 := Nat.mul_ne_zero e2.den0 f2.den0
  have hsum : a.q + b.q = mkRat (sgn s.neg (s.num.v * t.den.v) + sgn t.neg (t.num.v * s.den.v)) (s.den.v * t.den.v) := by
    rw [← e2.q, ← f2.q]
    exact qOf_add e2.den0 f2.den0
  have fin : ∀ (neg : Bool) (n : Nat), (digs n).length < 2 ^ 38 → mkRat (sgn s.neg (s.num.v * t.den.v) + sgn t.neg (t.num.v * s.den.v)) (s.den.v * t.den.v) = qOf neg n (s.den.v * t.den.v) → ∃ r : RV, AP cfg 69 [.bool neg, (refN n).av, (refN (s.den.v * t.den.v)).av] = some (.tup [r.av, .int .i64 0]) ∧ Can r (a.q + b.q) ∧ r.fr = r := by
    intro neg n hn he
    rcases V69 neg (refN_ok (n := n) (by omega)) od (by rw [refN_v]; exact hn) (by rw [refN_v]; omega) with ⟨h0, _⟩ | ⟨_, r, h1, h2, h3⟩
    · rw [refN_v] at h0; exact absurd h0 hd0
    · rw [refN_v, refN_v, ← he, ← hsum] at h2
      exact ⟨r, h1, h2, h3⟩
  by_cases hn : s.neg = t.neg
  · obtain ⟨r, h1, h2, h3⟩ := fin s.neg (s.num.v * t.den.v + t.num.v * s.den.v) (by omega) (by rw [← hn, sgn_same]; rfl)
    refine ⟨r, (AP_ofz _ _ (fz_rv r) (noV_rv _) (m := [cR s, cR t, cR r, cR r]) ?_).trans (by rw [h3]), h2, h3⟩
    rw [T76]
    simp only [Nat.reduceAdd, Option.bind_some, Option.map_some, box_rv, new_z, new_r, new_zs, new_rs, fld0, fld1, fld2, res1, res2, ld0neg, ld0num, ld0den, ld0all, st0all, st0neg, ld1neg, ld1num, ld1den, ld1all, st1all, st1neg, ld2neg, ld2num, ld2den, ld2all, st2all, st2neg, ld3neg, ld3num, ld3den, ld3all, st3all, st3neg, ld4neg, ld4num, ld4den, ld4all, st4all, st4neg, ex0, ex1, ex2, bld0, bld2, bld12, bld012, nil_av, not_b, bl_neq, bl_eql, List.length_cons, List.length_nil, List.length_append, List.nil_append, List.cons_append, List.append_nil, Nat.zero_add, List.set_cons_zero, List.set_cons_succ, List.set_nil, pcN, pcI, pcNN, pcBNN, pcR, pcRR, pc0, e1, f1, hs1, hs2, ht1, ht2, g1, g2, g3, refN_fr, g4, hn, bne_self_eq_false, ifA_false]
    rw [hn] at h1
    simp only [Nat.reduceAdd, Option.bind_some, Option.map_some, box_rv, new_z, new_r, new_zs, new_rs, fld0, fld1, fld2, res1, res2, ld0neg, ld0num, ld0den, ld0all, st0all, st0neg, ld1neg, ld1num, ld1den, ld1all, st1all, st1neg, ld2neg, ld2num, ld2den, ld2all, st2all, st2neg, ld3neg, ld3num, ld3den, ld3all, st3all, st3neg, ld4neg, ld4num, ld4den, ld4all, st4all, st4neg, ex0, ex1, ex2, bld0, bld2, bld12, bld012, nil_av, not_b, bl_neq, bl_eql, List.length_cons, List.length_nil, List.length_append, List.nil_append, List.cons_append, List.append_nil, Nat.zero_add, List.set_cons_zero, List.set_cons_succ, List.set_nil, pcN, pcI, pcNN, pcBNN, pcR, pcRR, pc0, h1]
  · have hne : (s.neg != t.neg) = true := by simpa using hn
    by_cases hlt : s.num.v * t.den.v < t.num.v * s.den.v
    · obtain ⟨r, h1, h2, h3⟩ := fin t.neg (t.num.v * s.den.v - s.num.v * t.den.v) (Nat.lt_of_le_of_lt (digs_mono (Nat.sub_le _ _)) (by omega)) (by rw [sgn_lt hn hlt]; rfl)
      refine ⟨r, (AP_ofz _ _ (fz_rv r) (noV_rv _) (m := [cR s, cR t, cR r, cR r]) ?_).trans (by rw [h3]), h2, h3⟩
      have hc : ¬ cmpV (s.num.v * t.den.v) (t.num.v * s.den.v) ≥ 0 := by unfold cmpV; rw [if_pos hlt]; omega
      rw [if_neg (by omega)] at g7
      rw [T76]
      simp only [Nat.reduceAdd, Option.bind_some, Option.map_some, box_rv, new_z, new_r, new_zs, new_rs, fld0, fld1, fld2, res1, res2, ld0neg, ld0num, ld0den, ld0all, st0all, st0neg, ld1neg, ld1num, ld1den, ld1all, st1all, st1neg, ld2neg, ld2num, ld2den, ld2all, st2all, st2neg, ld3neg, ld3num, ld3den, ld3all, st3all, st3neg, ld4neg, ld4num, ld4den, ld4all, st4all, st4neg, ex0, ex1, ex2, bld0, bld2, bld12, bld012, nil_av, not_b, bl_neq, bl_eql, List.length_cons, List.length_nil, List.length_append, List.nil_append, List.cons_append, List.append_nil, Nat.zero_add, List.set_cons_zero, List.set_cons_succ, List.set_nil, pcN, pcI, pcNN, pcBNN, pcR, pcRR, pc0, e1, f1, hs1, hs2, ht1, ht2, g1, g2, g3, refN_fr, g4, hne, ifA_true, g5, binA_geq, ifA_dec]
      rw [if_neg hc]
      simp only [Nat.reduceAdd, Option.bind_some, Option.map_some, box_rv, new_z, new_r, new_zs, new_rs, fld0, fld1, fld2, res1, res2, ld0neg, ld0num, ld0den, ld0all, st0all, st0neg, ld1neg, ld1num, ld1den, ld1all, st1all, st1neg, ld2neg, ld2num, ld2den, ld2all, st2all, st2neg, ld3neg, ld3num, ld3den, ld3all, st3all, st3neg, ld4neg, ld4num, ld4den, ld4all, st4all, st4neg, ex0, ex1, ex2, bld0, bld2, bld12, bld012, nil_av, not_b, bl_neq, bl_eql, List.length_cons, List.length_nil, List.length_append, List.nil_append, List.cons_append, List.append_nil, Nat.zero_add, List.set_cons_zero, List.set_cons_succ, List.set_nil, pcN, pcI, pcNN, pcBNN, pcR, pcRR, pc0, refN_fr, g7, h1]
    · obtain ⟨r, h1, h2, h3⟩ := fin s.neg (s.num.v * t.den.v - t.num.v * s.den.v) (Nat.lt_of_le_of_lt (digs_mono (Nat.sub_le _ _)) (by omega)) (by rw [sgn_gt hn hlt]; rfl)
      refine ⟨r, (AP_ofz _ _ (fz_rv r) (noV_rv _) (m := [cR s, cR t, cR r, cR r]) ?_).trans (by rw [h3]), h2, h3⟩
      have hc : cmpV (s.num.v * t.den.v) (t.num.v * s.den.v) ≥ 0 := by unfold cmpV; rw [if_neg hlt]; split <;> omega
      rw [if_neg hlt] at g6
      rw [T76]
      simp only [Nat.reduceAdd, Option.bind_some, Option.map_some, box_rv, new_z, new_r, new_zs, new_rs, fld0, fld1, fld2, res1, res2, ld0neg, ld0num, ld0den, ld0all, st0all, st0neg, ld1neg, ld1num, ld1den, ld1all, st1all, st1neg, ld2neg, ld2num, ld2den, ld2all, st2all, st2neg, ld3neg, ld3num, ld3den, ld3all, st3all, st3neg, ld4neg, ld4num, ld4den, ld4all, st4all, st4neg, ex0, ex1, ex2, bld0, bld2, bld12, bld012, nil_av, not_b, bl_neq, bl_eql, List.length_cons, List.length_nil, List.length_append, List.nil_append, List.cons_append, List.append_nil, Nat.zero_add, List.set_cons_zero, List.set_cons_succ, List.set_nil, pcN, pcI, pcNN, pcBNN, pcR, pcRR, pc0, e1, f1, hs1, hs2, ht1, ht2, g1, g2, g3, refN_fr, g4, hne, ifA_true, g5, binA_geq, ifA_dec]
      rw [if_pos hc]
      simp only [Nat.reduceAdd, Option.bind_some, Option.map_some, box_rv, new_z, new_r, new_zs, new_rs, fld0, fld1, fld2, res1, res2, ld0neg, ld0num, ld0den, ld0all, st0all, st0neg, ld1neg, ld1num, ld1den, ld1all, st1all, st1neg, ld2neg, ld2num, ld2den, ld2all, st2all, st2neg, ld3neg, ld3num, ld3den, ld3all, st3all, st3neg, ld4neg, ld4num, ld4den, ld4all, st4all, st4neg, ex0, ex1, ex2, bld0, bld2, bld12, bld012, nil_av, not_b, bl_neq, bl_eql, List.length_cons, List.length_nil, List.length_append, List.nil_append, List.cons_append, List.append_nil, Nat.zero_add, List.set_cons_zero, List.set_cons_succ, List.set_nil, pcN, pcI, pcNN, pcBNN, pcR, pcRR, pc0, refN_fr, g6, h1]
theorem V100 {a b : RV} {k : Nat} (ha : ROk k a) (hb : ROk k b) (hk1 : 1 ≤ k) (hk : k < 2 ^ 36) : ∃ s : RV, AP cfg 100 [a.av, b.av] = some s.av ∧ Can s (a.q - b.q) ∧ s.fr = s := by
  obtain ⟨t, f1, f2, f3⟩ := V118 hb.fr (by omega)
  rw [RV.fr_q] at f2
  have bt : Bd k (-b.q) := by
    have := hb.bd hk1
    refine ⟨?_, ?_⟩
    · rw [Rat.neg_num, Int.natAbs_neg]; exact this.1
    · rw [Rat.neg_den]; exact this.2
  have ot := f2.ok bt (by omega)
  obtain ⟨s, e1, e2, e3⟩ := V76 ha.fr ot hk1 hk
  rw [f2.q, RV.fr_q, ← Rat.sub_eq_add_neg] at e2
  refine ⟨s, (AP_ofz _ _ (fz_rv s) (noV_rv _) (m := [cR a, cR b, cR s]) ?_).trans (by rw [e3]), e2, e3⟩
  rw [T100]
  simp only [Nat.reduceAdd, Option.bind_some, Option.map_some, box_rv, new_z, new_r, new_zs, new_rs, fld0, fld1, fld2, res1, res2, ld0neg, ld0num, ld0den, ld0all, st0all, st0neg, ld1neg, ld1num, ld1den, ld1all, st1all, st1neg, ld2neg, ld2num, ld2den, ld2all, st2all, st2neg, ld3neg, ld3num, ld3den, ld3all, st3all, st3neg, ld4neg, ld4num, ld4den, ld4all, st4all, st4neg, ex0, ex1, ex2, bld0, bld2, bld12, bld012, nil_av, not_b, bl_neq, bl_eql, List.length_cons, List.length_nil, List.length_append, List.nil_append, List.cons_append, List.append_nil, Nat.zero_add, List.set_cons_zero, List.set_cons_succ, List.set_nil, pcN, pcI, pcNN, pcBNN, pcR, pcRR, pc0, f1, f3, e1]
theorem V66 {a b : RV} {k : Nat} (ha : ROk k a) (hb : ROk k b) (hk1 : 1 ≤ k) (hk : k < 2 ^ 36) : AP cfg 66 [a.av, b.av] = some (.int .i64 (sgQ (a.q - b.q))) := by
  obtain ⟨s, e1, e2, e3⟩ := V100 ha.fr hb.fr hk1 hk
  rw [RV.fr_q, RV.fr_q] at e2
  have bs := Bd_add (ha.bd hk1) (q := -b.q) (l := k) (by
    have := hb.bd hk1
    refine ⟨?_, ?_⟩
    · rw [Rat.neg_num, Int.natAbs_neg]; exact this.1
    · rw [Rat.neg_den]; exact this.2) hk1
  rw [← Rat.sub_eq_add_neg] at bs
  have os := e2.ok bs (by omega)
  have e4 := V86 os (by omega)
  rw [e2.q] at e4
  refine AP_ofz _ _ (fz_int _ _) rfl (m := [cR a, cR b]) ?_
  rw [T66]
  simp only [Nat.reduceAdd, Option.bind_some, Option.map_some, box_rv, new_z, new_r, new_zs, new_rs, fld0, fld1, fld2, res1, res2, ld0neg, ld0num, ld0den, ld0all, st0all, st0neg, ld1neg, ld1num, ld1den, ld1all, st1all, st1neg, ld2neg, ld2num, ld2den, ld2all, st2all, st2neg, ld3neg, ld3num, ld3den, ld3all, st3all, st3neg, ld4neg, ld4num, ld4den, ld4all, st4all, st4neg, ex0, ex1, ex2, bld0, bld2, bld12, bld012, nil_av, not_b, bl_neq, bl_eql, List.length_cons, List.length_nil, List.length_append, List.nil_append, List.cons_append, List.append_nil, Nat.zero_add, List.set_cons_zero, List.set_cons_succ, List.set_nil, pcN, pcI, pcNN, pcBNN, pcR, pcRR, pc0, e1, e3, e4]
theorem V23 {a b : RV} {k : Nat} (ha : ROk k a) (hb : ROk k b) (hk1 : 1 ≤ k) (hk : k < 2 ^ 36) : AP cfg 23 [a.av, b.av] = some (.bool (decide (a.q = b.q))) := by
  have e1 := V66 ha.fr hb.fr hk1 hk
  rw [RV.fr_q, RV.fr_q] at e1
  refine AP_ofz _ _ (fz_bool _) rfl (m := [cR a, cR b]) ?_
  rw [T23]
  simp only [Nat.reduceAdd, Option.bind_some, Option.map_some, box_rv, new_z, new_r, new_zs, new_rs, fld0, fld1, fld2, res1, res2, ld0neg, ld0num, ld0den, ld0all, st0all, st0neg, ld1neg, ld1num, ld1den, ld1all, st1all, st1neg, ld2neg, ld2num, ld2den, ld2all, st2all, st2neg, ld3neg, ld3num, ld3den, ld3all, st3all, st3neg, ld4neg, ld4num, ld4den, ld4all, st4all, st4neg, ex0, ex1, ex2, bld0, bld2, bld12, bld012, nil_av, not_b, bl_neq, bl_eql, List.length_cons, List.length_nil, List.length_append, List.nil_append, List.cons_append, List.append_nil, Nat.zero_add, List.set_cons_zero, List.set_cons_succ, List.set_nil, pcN, pcI, pcNN, pcBNN, pcR, pcRR, pc0, e1, binA_eql]
  congr 3
  refine decide_eq_decide.2 ?_
  rw [sgQ_zero]
  constructor
  · intro h
    have := Rat.sub_add_cancel (a := a.q) (b := b.q)
    rw [h, Rat.zero_add] at this
    exact this.symm
  · intro h; rw [h, Rat.sub_self]
end Go.Ab

/- Lowest terms in the reference; sums and products of ratio, in values. -/
set_option linter.unusedVariables false
set_option linter.unusedSimpArgs false
set_option maxRecDepth 100000
namespace Go.Ab
open Go.Proofs.Try

theorem V65 {r : RV} {k : Nat} (h : ROk k r) (hk : k < 2 ^ 38) : AP cfg 65 [r.av] = some (.bool (rightR r)) := by
  have ln := Nat.le_trans h.num.v_len h.ln
  have ld := Nat.le_trans h.den.v_len h.ld
  have e1 := V97 h.num.fr
  have e2 := V97 h.den.fr
  have e3 := V99 h.num.fr h.den.fr (by show (digs r.num.v).length < _; omega) (by show (digs r.den.v).length < _; omega)
  have v1 : r.num.fr.v = r.num.v := rfl
  have v2 : r.den.fr.v = r.den.v := rfl
  rw [v1, v2] at e3
  have lg : (digs (Nat.gcd r.num.v r.den.v)).length < 2 ^ 40 := digs_gcd_len (by omega) (by omega)
  have o1 : NOk (refN 1) := refN_ok ln1'
  have e5 := V98 (refN_ok lg) o1
  have e6 := V98 h.den.fr o1
  rw [refN_v, refN_v] at e5
  rw [refN_v, v2] at e6
  have d1 : r.num.fr.ds = r.num.ds := rfl
  have d2 : r.den.fr.ds = r.den.ds := rfl
  rw [d1] at e1
  rw [d2] at e2
  have cm : ∀ n : Nat, (binA .other .eql (.int .i64 (cmpV n 1)) (.int .i64 0)) = some (.bool (decide (n = 1))) := by
    intro n
    rw [binA_eql]
    congr 2
    refine decide_eq_decide.2 ?_
    unfold cmpV
    constructor <;> intro h <;> (repeat' split at *) <;> omega
  refine AP_ofz _ _ (fz_bool _) rfl (m := [cR r]) ?_
  rw [T65]
  simp only [Nat.reduceAdd, Option.bind_some, Option.map_some, box_rv, new_z, new_r, new_zs, new_rs, fld0, fld1, fld2, res1, res2, ld0neg, ld0num, ld0den, ld0all, st0all, st0neg, ld1neg, ld1num, ld1den, ld1all, st1all, st1neg, ld2neg, ld2num, ld2den, ld2all, st2all, st2neg, ld3neg, ld3num, ld3den, ld3all, st3all, st3neg, ld4neg, ld4num, ld4den, ld4all, st4all, st4neg, ex0, ex1, ex2, bld0, bld2, bld12, bld012, nil_av, not_b, bl_neq, bl_eql, List.length_cons, List.length_nil, List.length_append, List.nil_append, List.cons_append, List.append_nil, Nat.zero_add, List.set_cons_zero, List.set_cons_succ, List.set_nil, pcN, pcI, pcNN, pcBNN, pcR, pcRR, pc0, e1]
  unfold rightR
  cases h1 : canB r.num.ds with
  | false => rfl
  | true =>
    simp only [Nat.reduceAdd, Option.bind_some, Option.map_some, box_rv, new_z, new_r, new_zs, new_rs, fld0, fld1, fld2, res1, res2, ld0neg, ld0num, ld0den, ld0all, st0all, st0neg, ld1neg, ld1num, ld1den, ld1all, st1all, st1neg, ld2neg, ld2num, ld2den, ld2all, st2all, st2neg, ld3neg, ld3num, ld3den, ld3all, st3all, st3neg, ld4neg, ld4num, ld4den, ld4all, st4all, st4neg, ex0, ex1, ex2, bld0, bld2, bld12, bld012, nil_av, not_b, bl_neq, bl_eql, List.length_cons, List.length_nil, List.length_append, List.nil_append, List.cons_append, List.append_nil, Nat.zero_add, List.set_cons_zero, List.set_cons_succ, List.set_nil, pcN, pcI, pcNN, pcBNN, pcR, pcRR, pc0, Bool.not_true, ifA_false, e2, Bool.true_and]
    cases h2 : canB r.den.ds with
    | false => rfl
    | true =>
      simp only [Nat.reduceAdd, Option.bind_some, Option.map_some, box_rv, new_z, new_r, new_zs, new_rs, fld0, fld1, fld2, res1, res2, ld0neg, ld0num, ld0den, ld0all, st0all, st0neg, ld1neg, ld1num, ld1den, ld1all, st1all, st1neg, ld2neg, ld2num, ld2den, ld2all, st2all, st2neg, ld3neg, ld3num, ld3den, ld3all, st3all, st3neg, ld4neg, ld4num, ld4den, ld4all, st4all, st4neg, ex0, ex1, ex2, bld0, bld2, bld12, bld012, nil_av, not_b, bl_neq, bl_eql, List.length_cons, List.length_nil, List.length_append, List.nil_append, List.cons_append, List.append_nil, Nat.zero_add, List.set_cons_zero, List.set_cons_succ, List.set_nil, pcN, pcI, pcNN, pcBNN, pcR, pcRR, pc0, Bool.not_true, ifA_false, len_nv, n_eql0, Bool.true_and, canB_len h2]
      rw [ifA_dec]
      by_cases h3 : r.den.v = 0
      · rw [if_pos h3]; simp [h3]
      · rw [if_neg h3]
        simp only [Nat.reduceAdd, Option.bind_some, Option.map_some, box_rv, new_z, new_r, new_zs, new_rs, fld0, fld1, fld2, res1, res2, ld0neg, ld0num, ld0den, ld0all, st0all, st0neg, ld1neg, ld1num, ld1den, ld1all, st1all, st1neg, ld2neg, ld2num, ld2den, ld2all, st2all, st2neg, ld3neg, ld3num, ld3den, ld3all, st3all, st3neg, ld4neg, ld4num, ld4den, ld4all, st4all, st4neg, ex0, ex1, ex2, bld0, bld2, bld12, bld012, nil_av, not_b, bl_neq, bl_eql, List.length_cons, List.length_nil, List.length_append, List.nil_append, List.cons_append, List.append_nil, Nat.zero_add, List.set_cons_zero, List.set_cons_succ, List.set_nil, pcN, pcI, pcNN, pcBNN, pcR, pcRR, pc0, len_nv, n_eql0, canB_len h1]
        rw [ifA_dec]
        by_cases h4 : r.num.v = 0
        · rw [if_pos h4]
          cases hn : r.neg with
          | true => simp only [Nat.reduceAdd, Option.bind_some, Option.map_some, box_rv, new_z, new_r, new_zs, new_rs, fld0, fld1, fld2, res1, res2, ld0neg, ld0num, ld0den, ld0all, st0all, st0neg, ld1neg, ld1num, ld1den, ld1all, st1all, st1neg, ld2neg, ld2num, ld2den, ld2all, st2all, st2neg, ld3neg, ld3num, ld3den, ld3all, st3all, st3neg, ld4neg, ld4num, ld4den, ld4all, st4all, st4neg, ex0, ex1, ex2, bld0, bld2, bld12, bld012, nil_av, not_b, bl_neq, bl_eql, List.length_cons, List.length_nil, List.length_append, List.nil_append, List.cons_append, List.append_nil, Nat.zero_add, List.set_cons_zero, List.set_cons_succ, List.set_nil, pcN, pcI, pcNN, pcBNN, pcR, pcRR, pc0, Bool.not_true, ifA_false]; simp [h4]
          | false =>
            simp only [Nat.reduceAdd, Option.bind_some, Option.map_some, box_rv, new_z, new_r, new_zs, new_rs, fld0, fld1, fld2, res1, res2, ld0neg, ld0num, ld0den, ld0all, st0all, st0neg, ld1neg, ld1num, ld1den, ld1all, st1all, st1neg, ld2neg, ld2num, ld2den, ld2all, st2all, st2neg, ld3neg, ld3num, ld3den, ld3all, st3all, st3neg, ld4neg, ld4num, ld4den, ld4all, st4all, st4neg, ex0, ex1, ex2, bld0, bld2, bld12, bld012, nil_av, not_b, bl_neq, bl_eql, List.length_cons, List.length_nil, List.length_append, List.nil_append, List.cons_append, List.append_nil, Nat.zero_add, List.set_cons_zero, List.set_cons_succ, List.set_nil, pcN, pcI, pcNN, pcBNN, pcR, pcRR, pc0, Bool.not_false, ifA_true, V70one, refN_fr, e6, cm]
            simp [h3, h4]
        · rw [if_neg h4]
          simp only [Nat.reduceAdd, Option.bind_some, Option.map_some, box_rv, new_z, new_r, new_zs, new_rs, fld0, fld1, fld2, res1, res2, ld0neg, ld0num, ld0den, ld0all, st0all, st0neg, ld1neg, ld1num, ld1den, ld1all, st1all, st1neg, ld2neg, ld2num, ld2den, ld2all, st2all, st2neg, ld3neg, ld3num, ld3den, ld3all, st3all, st3neg, ld4neg, ld4num, ld4den, ld4all, st4all, st4neg, ex0, ex1, ex2, bld0, bld2, bld12, bld012, nil_av, not_b, bl_neq, bl_eql, List.length_cons, List.length_nil, List.length_append, List.nil_append, List.cons_append, List.append_nil, Nat.zero_add, List.set_cons_zero, List.set_cons_succ, List.set_nil, pcN, pcI, pcNN, pcBNN, pcR, pcRR, pc0, V70one, e3, refN_fr, e5, cm]
          simp [h3, h4]
/-! ### The program's -/
theorem V78 {a b : RV} {k : Nat} (ha : ROk k a) (hb : ROk k b) (hk1 : 1 ≤ k) (hk : k < 2 ^ 36) : ∃ s : RV, AP cfg 78 [a.av, b.av] = some s.av ∧ Can s (a.q * b.q) ∧ s.fr = s := by
  have g1 := V107 ha.num.fr hb.num.fr
  have g2 := V107 ha.den.fr hb.den.fr
  have v1 : a.num.fr.v = a.num.v := rfl
  have v2 : a.den.fr.v = a.den.v := rfl
  have v3 : b.num.fr.v = b.num.v := rfl
  have v4 : b.den.fr.v = b.den.v := rfl
  rw [v1, v3] at g1
  rw [v2, v4] at g2
  have ln := ln_mul (Nat.le_trans ha.num.v_len ha.ln) (Nat.le_trans hb.num.v_len hb.ln)
  have ld := ln_mul (Nat.le_trans ha.den.v_len ha.ld) (Nat.le_trans hb.den.v_len hb.ld)
  have on : NOk ⟨false, .no, digs (a.num.v * b.num.v)⟩ := nok_digs (by omega)
  have od : NOk ⟨false, .no, digs (a.den.v * b.den.v)⟩ := nok_digs (by omega)
  have nf : ∀ n : Nat, (NV.mk false .no (digs n)).fr = ⟨false, .no, digs n⟩ := fun _ => rfl
  have nv : ∀ n : Nat, (NV.mk false .no (digs n)).v = n := fun n => val_digs n
  obtain ⟨r, h1, h2, h3⟩ := V106 (a.neg != b.neg) on od
  rw [nv, nv, ← qOf_mul] at h2
  refine ⟨r, (AP_ofz _ _ (fz_rv r) (noV_rv _) (m := [cR a, cR b, cR r]) ?_).trans (by rw [h3]), h2, h3⟩
  rw [T78]
  simp only [Nat.reduceAdd, Option.bind_some, Option.map_some, box_rv, new_z, new_r, new_zs, new_rs, fld0, fld1, fld2, res1, res2, ld0neg, ld0num, ld0den, ld0all, st0all, st0neg, ld1neg, ld1num, ld1den, ld1all, st1all, st1neg, ld2neg, ld2num, ld2den, ld2all, st2all, st2neg, ld3neg, ld3num, ld3den, ld3all, st3all, st3neg, ld4neg, ld4num, ld4den, ld4all, st4all, st4neg, ex0, ex1, ex2, bld0, bld2, bld12, bld012, nil_av, not_b, bl_neq, bl_eql, List.length_cons, List.length_nil, List.length_append, List.nil_append, List.cons_append, List.append_nil, Nat.zero_add, List.set_cons_zero, List.set_cons_succ, List.set_nil, pcN, pcI, pcNN, pcBNN, pcR, pcRR, pc0, g1, g2, nf, h1]
theorem signR_zero {r : RV} : signR r = 0 ↔ r.q = 0 := by
  unfold signR
  by_cases h : r.num.v = 0 ∨ r.den.v = 0
  · rw [if_pos h]
    refine ⟨fun _ => ?_, fun _ => rfl⟩
    rcases h with h | h
    · rw [RV.q, h, qOf_num0]
    · rw [RV.q, h, qOf_den0]
  · rw [if_neg h]
    constructor
    · intro h'; split at h' <;> omega
    · intro h'
      have hd : r.den.v ≠ 0 := fun e => h (.inr e)
      exact absurd (.inl ((qOf_eq0 hd).1 h')) h
theorem V75 {a b : RV} {k : Nat} (ha : ROk k a) (hb : ROk k b) (hk1 : 1 ≤ k) (hk : k < 2 ^ 36) : ∃ s : RV, AP cfg 75 [a.av, b.av] = some s.av ∧ Can s (a.q + b.q) ∧ s.fr = s := by
  have e1 := V105 ha.fr
  have e2 := V105 hb.fr
  have s1 : signR a.fr = signR a := rfl
  have s2 : signR b.fr = signR b := rfl
  rw [s1] at e1
  rw [s2] at e2
  have v1 : a.num.fr.v = a.num.v := rfl
  have v2 : a.den.fr.v = a.den.v := rfl
  have v3 : b.num.fr.v = b.num.v := rfl
  have v4 : b.den.fr.v = b.den.v := rfl
  by_cases ha0 : signR a = 0
  · obtain ⟨r, h1, h2, h3⟩ := V106 b.neg hb.num.fr hb.den.fr
    rw [v3, v4] at h2
    refine ⟨r, (AP_ofz _ _ (fz_rv r) (noV_rv _) (m := [cR a, cR b, cR r]) ?_).trans (by rw [h3]), ?_, h3⟩
    · rw [T75]
      simp only [Nat.reduceAdd, Option.bind_some, Option.map_some, box_rv, new_z, new_r, new_zs, new_rs, fld0, fld1, fld2, res1, res2, ld0neg, ld0num, ld0den, ld0all, st0all, st0neg, ld1neg, ld1num, ld1den, ld1all, st1all, st1neg, ld2neg, ld2num, ld2den, ld2all, st2all, st2neg, ld3neg, ld3num, ld3den, ld3all, st3all, st3neg, ld4neg, ld4num, ld4den, ld4all, st4all, st4neg, ex0, ex1, ex2, bld0, bld2, bld12, bld012, nil_av, not_b, bl_neq, bl_eql, List.length_cons, List.length_nil, List.length_append, List.nil_append, List.cons_append, List.append_nil, Nat.zero_add, List.set_cons_zero, List.set_cons_succ, List.set_nil, pcN, pcI, pcNN, pcBNN, pcR, pcRR, pc0, e1, binA_eql, ifA_dec]
      rw [if_pos ha0]
      simp only [Nat.reduceAdd, Option.bind_some, Option.map_some, box_rv, new_z, new_r, new_zs, new_rs, fld0, fld1, fld2, res1, res2, ld0neg, ld0num, ld0den, ld0all, st0all, st0neg, ld1neg, ld1num, ld1den, ld1all, st1all, st1neg, ld2neg, ld2num, ld2den, ld2all, st2all, st2neg, ld3neg, ld3num, ld3den, ld3all, st3all, st3neg, ld4neg, ld4num, ld4den, ld4all, st4all, st4neg, ex0, ex1, ex2, bld0, bld2, bld12, bld012, nil_av, not_b, bl_neq, bl_eql, List.length_cons, List.length_nil, List.length_append, List.nil_append, List.cons_append, List.append_nil, Nat.zero_add, List.set_cons_zero, List.set_cons_succ, List.set_nil, pcN, pcI, pcNN, pcBNN, pcR, pcRR, pc0, h1]
    · rw [signR_zero.1 ha0, Rat.zero_add]; exact h2
  · by_cases hb0 : signR b = 0
    · obtain ⟨r, h1, h2, h3⟩ := V106 a.neg ha.num.fr ha.den.fr
      rw [v1, v2] at h2
      refine ⟨r, (AP_ofz _ _ (fz_rv r) (noV_rv _) (m := [cR a, cR b, cR r]) ?_).trans (by rw [h3]), ?_, h3⟩
      · rw [T75]
        simp only [Nat.reduceAdd, Option.bind_some, Option.map_some, box_rv, new_z, new_r, new_zs, new_rs, fld0, fld1, fld2, res1, res2, ld0neg, ld0num, ld0den, ld0all, st0all, st0neg, ld1neg, ld1num, ld1den, ld1all, st1all, st1neg, ld2neg, ld2num, ld2den, ld2all, st2all, st2neg, ld3neg, ld3num, ld3den, ld3all, st3all, st3neg, ld4neg, ld4num, ld4den, ld4all, st4all, st4neg, ex0, ex1, ex2, bld0, bld2, bld12, bld012, nil_av, not_b, bl_neq, bl_eql, List.length_cons, List.length_nil, List.length_append, List.nil_append, List.cons_append, List.append_nil, Nat.zero_add, List.set_cons_zero, List.set_cons_succ, List.set_nil, pcN, pcI, pcNN, pcBNN, pcR, pcRR, pc0, e1, binA_eql, ifA_dec]
        rw [if_neg ha0]
        simp only [Nat.reduceAdd, Option.bind_some, Option.map_some, box_rv, new_z, new_r, new_zs, new_rs, fld0, fld1, fld2, res1, res2, ld0neg, ld0num, ld0den, ld0all, st0all, st0neg, ld1neg, ld1num, ld1den, ld1all, st1all, st1neg, ld2neg, ld2num, ld2den, ld2all, st2all, st2neg, ld3neg, ld3num, ld3den, ld3all, st3all, st3neg, ld4neg, ld4num, ld4den, ld4all, st4all, st4neg, ex0, ex1, ex2, bld0, bld2, bld12, bld012, nil_av, not_b, bl_neq, bl_eql, List.length_cons, List.length_nil, List.length_append, List.nil_append, List.cons_append, List.append_nil, Nat.zero_add, List.set_cons_zero, List.set_cons_succ, List.set_nil, pcN, pcI, pcNN, pcBNN, pcR, pcRR, pc0, e2, binA_eql, ifA_dec]
        rw [if_pos hb0]
        simp only [Nat.reduceAdd, Option.bind_some, Option.map_some, box_rv, new_z, new_r, new_zs, new_rs, fld0, fld1, fld2, res1, res2, ld0neg, ld0num, ld0den, ld0all, st0all, st0neg, ld1neg, ld1num, ld1den, ld1all, st1all, st1neg, ld2neg, ld2num, ld2den, ld2all, st2all, st2neg, ld3neg, ld3num, ld3den, ld3all, st3all, st3neg, ld4neg, ld4num, ld4den, ld4all, st4all, st4neg, ex0, ex1, ex2, bld0, bld2, bld12, bld012, nil_av, not_b, bl_neq, bl_eql, List.length_cons, List.length_nil, List.length_append, List.nil_append, List.cons_append, List.append_nil, Nat.zero_add, List.set_cons_zero, List.set_cons_succ, List.set_nil, pcN, pcI, pcNN, pcBNN, pcR, pcRR, pc0, h1]
      · rw [signR_zero.1 hb0, Rat.add_zero]; exact h2
    · have da : a.den.v ≠ 0 := fun e => ha0 (by unfold signR; rw [if_pos (.inr e)])
      have db : b.den.v ≠ 0 := fun e => hb0 (by unfold signR; rw [if_pos (.inr e)])
      have g1 := V107 ha.num.fr hb.den.fr
      have g2 := V107 hb.num.fr ha.den.fr
      have g3 := V107 ha.den.fr hb.den.fr
      rw [v1, v4] at g1
      rw [v3, v2] at g2
      rw [v2, v4] at g3
      have lx := ln_mul (Nat.le_trans ha.num.v_len ha.ln) (Nat.le_trans hb.den.v_len hb.ld)
      have ly := ln_mul (Nat.le_trans hb.num.v_len hb.ln) (Nat.le_trans ha.den.v_len ha.ld)
      have ld := ln_mul (Nat.le_trans ha.den.v_len ha.ld) (Nat.le_trans hb.den.v_len hb.ld)
      have lxy := ln_add lx ly
      have ox : NOk ⟨false, .no, digs (a.num.v * b.den.v)⟩ := nok_digs (by omega)
      have oy : NOk ⟨false, .no, digs (b.num.v * a.den.v)⟩ := nok_digs (by omega)
      have od : NOk ⟨false, .no, digs (a.den.v * b.den.v)⟩ := nok_digs (by omega)
      have nf : ∀ n : Nat, (NV.mk false .no (digs n)).fr = ⟨false, .no, digs n⟩ := fun _ => rfl
      have nv : ∀ n : Nat, (NV.mk false .no (digs n)).v = n := fun n => val_digs n
      have g4 := V108 ox oy
      have g5 := V109 ox oy
      have g6 := V110 ox oy
      have g7 := V110 oy ox
      rw [nv, nv] at g4 g5
      unfold subV at g6 g7
      rw [nv, nv] at g6 g7
      have hsum : a.q + b.q = mkRat (sgn a.neg (a.num.v * b.den.v) + sgn b.neg (b.num.v * a.den.v)) (a.den.v * b.den.v) := qOf_add da db
      have fin : ∀ (neg : Bool) (n : Nat), (digs n).length < 2 ^ 38 → mkRat (sgn a.neg (a.num.v * b.den.v) + sgn b.neg (b.num.v * a.den.v)) (a.den.v * b.den.v) = qOf neg n (a.den.v * b.den.v) → ∃ r : RV, AP cfg 106 [.bool neg, (NV.mk false .no (digs n)).av, (NV.mk false .no (digs (a.den.v * b.den.v))).av] = some r.av ∧ Can r (a.q + b.q) ∧ r.fr = r := by
        intro neg n hn he
        obtain ⟨r, h1, h2, h3⟩ := V106 neg (x := ⟨false, .no, digs n⟩) (nok_digs (by omega)) od
        rw [nv, nv, ← he, ← hsum] at h2
        exact ⟨r, h1, h2, h3⟩
      by_cases hn : a.neg = b.neg
      · obtain ⟨r, h1, h2, h3⟩ := fin a.neg (a.num.v * b.den.v + b.num.v * a.den.v) (by omega) (by rw [← hn, sgn_same]; rfl)
        refine ⟨r, (AP_ofz _ _ (fz_rv r) (noV_rv _) (m := [cR a, cR b, cR r]) ?_).trans (by rw [h3]), h2, h3⟩
        rw [T75]
        simp only [Nat.reduceAdd, Option.bind_some, Option.map_some, box_rv, new_z, new_r, new_zs, new_rs, fld0, fld1, fld2, res1, res2, ld0neg, ld0num, ld0den, ld0all, st0all, st0neg, ld1neg, ld1num, ld1den, ld1all, st1all, st1neg, ld2neg, ld2num, ld2den, ld2all, st2all, st2neg, ld3neg, ld3num, ld3den, ld3all, st3all, st3neg, ld4neg, ld4num, ld4den, ld4all, st4all, st4neg, ex0, ex1, ex2, bld0, bld2, bld12, bld012, nil_av, not_b, bl_neq, bl_eql, List.length_cons, List.length_nil, List.length_append, List.nil_append, List.cons_append, List.append_nil, Nat.zero_add, List.set_cons_zero, List.set_cons_succ, List.set_nil, pcN, pcI, pcNN, pcBNN, pcR, pcRR, pc0, e1, binA_eql, ifA_dec]
        rw [if_neg ha0]
        simp only [Nat.reduceAdd, Option.bind_some, Option.map_some, box_rv, new_z, new_r, new_zs, new_rs, fld0, fld1, fld2, res1, res2, ld0neg, ld0num, ld0den, ld0all, st0all, st0neg, ld1neg, ld1num, ld1den, ld1all, st1all, st1neg, ld2neg, ld2num, ld2den, ld2all, st2all, st2neg, ld3neg, ld3num, ld3den, ld3all, st3all, st3neg, ld4neg, ld4num, ld4den, ld4all, st4all, st4neg, ex0, ex1, ex2, bld0, bld2, bld12, bld012, nil_av, not_b, bl_neq, bl_eql, List.length_cons, List.length_nil, List.length_append, List.nil_append, List.cons_append, List.append_nil, Nat.zero_add, List.set_cons_zero, List.set_cons_succ, List.set_nil, pcN, pcI, pcNN, pcBNN, pcR, pcRR, pc0, e2, binA_eql, ifA_dec]
        rw [if_neg hb0]
        rw [hn] at h1
        simp only [Nat.reduceAdd, Option.bind_some, Option.map_some, box_rv, new_z, new_r, new_zs, new_rs, fld0, fld1, fld2, res1, res2, ld0neg, ld0num, ld0den, ld0all, st0all, st0neg, ld1neg, ld1num, ld1den, ld1all, st1all, st1neg, ld2neg, ld2num, ld2den, ld2all, st2all, st2neg, ld3neg, ld3num, ld3den, ld3all, st3all, st3neg, ld4neg, ld4num, ld4den, ld4all, st4all, st4neg, ex0, ex1, ex2, bld0, bld2, bld12, bld012, nil_av, not_b, bl_neq, bl_eql, List.length_cons, List.length_nil, List.length_append, List.nil_append, List.cons_append, List.append_nil, Nat.zero_add, List.set_cons_zero, List.set_cons_succ, List.set_nil, pcN, pcI, pcNN, pcBNN, pcR, pcRR, pc0, g1, g2, g3, nf, hn, BEq.rfl, ifA_true, g4, h1]
      · have hne : (a.neg == b.neg) = false := by simpa using hn
        by_cases hlt : a.num.v * b.den.v < b.num.v * a.den.v
        · obtain ⟨r, h1, h2, h3⟩ := fin b.neg (b.num.v * a.den.v - a.num.v * b.den.v) (Nat.lt_of_le_of_lt (digs_mono (Nat.sub_le _ _)) (by omega)) (by rw [sgn_lt hn hlt]; rfl)
          refine ⟨r, (AP_ofz _ _ (fz_rv r) (noV_rv _) (m := [cR b, cR b, cR r]) ?_).trans (by rw [h3]), h2, h3⟩
          have hc : cmpV (a.num.v * b.den.v) (b.num.v * a.den.v) < 0 := by unfold cmpV; rw [if_pos hlt]; omega
          rw [if_neg (by omega)] at g7
          rw [T75]
          simp only [Nat.reduceAdd, Option.bind_some, Option.map_some, box_rv, new_z, new_r, new_zs, new_rs, fld0, fld1, fld2, res1, res2, ld0neg, ld0num, ld0den, ld0all, st0all, st0neg, ld1neg, ld1num, ld1den, ld1all, st1all, st1neg, ld2neg, ld2num, ld2den, ld2all, st2all, st2neg, ld3neg, ld3num, ld3den, ld3all, st3all, st3neg, ld4neg, ld4num, ld4den, ld4all, st4all, st4neg, ex0, ex1, ex2, bld0, bld2, bld12, bld012, nil_av, not_b, bl_neq, bl_eql, List.length_cons, List.length_nil, List.length_append, List.nil_append, List.cons_append, List.append_nil, Nat.zero_add, List.set_cons_zero, List.set_cons_succ, List.set_nil, pcN, pcI, pcNN, pcBNN, pcR, pcRR, pc0, e1, binA_eql, ifA_dec]
          rw [if_neg ha0]
          simp only [Nat.reduceAdd, Option.bind_some, Option.map_some, box_rv, new_z, new_r, new_zs, new_rs, fld0, fld1, fld2, res1, res2, ld0neg, ld0num, ld0den, ld0all, st0all, st0neg, ld1neg, ld1num, ld1den, ld1all, st1all, st1neg, ld2neg, ld2num, ld2den, ld2all, st2all, st2neg, ld3neg, ld3num, ld3den, ld3all, st3all, st3neg, ld4neg, ld4num, ld4den, ld4all, st4all, st4neg, ex0, ex1, ex2, bld0, bld2, bld12, bld012, nil_av, not_b, bl_neq, bl_eql, List.length_cons, List.length_nil, List.length_append, List.nil_append, List.cons_append, List.append_nil, Nat.zero_add, List.set_cons_zero, List.set_cons_succ, List.set_nil, pcN, pcI, pcNN, pcBNN, pcR, pcRR, pc0, e2, binA_eql, ifA_dec]
          rw [if_neg hb0]
          simp only [Nat.reduceAdd, Option.bind_some, Option.map_some, box_rv, new_z, new_r, new_zs, new_rs, fld0, fld1, fld2, res1, res2, ld0neg, ld0num, ld0den, ld0all, st0all, st0neg, ld1neg, ld1num, ld1den, ld1all, st1all, st1neg, ld2neg, ld2num, ld2den, ld2all, st2all, st2neg, ld3neg, ld3num, ld3den, ld3all, st3all, st3neg, ld4neg, ld4num, ld4den, ld4all, st4all, st4neg, ex0, ex1, ex2, bld0, bld2, bld12, bld012, nil_av, not_b, bl_neq, bl_eql, List.length_cons, List.length_nil, List.length_append, List.nil_append, List.cons_append, List.append_nil, Nat.zero_add, List.set_cons_zero, List.set_cons_succ, List.set_nil, pcN, pcI, pcNN, pcBNN, pcR, pcRR, pc0, g1, g2, g3, nf, hne, ifA_false, g5, binA_lss, ifA_dec]
          rw [if_pos hc]
          simp only [Nat.reduceAdd, Option.bind_some, Option.map_some, box_rv, new_z, new_r, new_zs, new_rs, fld0, fld1, fld2, res1, res2, ld0neg, ld0num, ld0den, ld0all, st0all, st0neg, ld1neg, ld1num, ld1den, ld1all, st1all, st1neg, ld2neg, ld2num, ld2den, ld2all, st2all, st2neg, ld3neg, ld3num, ld3den, ld3all, st3all, st3neg, ld4neg, ld4num, ld4den, ld4all, st4all, st4neg, ex0, ex1, ex2, bld0, bld2, bld12, bld012, nil_av, not_b, bl_neq, bl_eql, List.length_cons, List.length_nil, List.length_append, List.nil_append, List.cons_append, List.append_nil, Nat.zero_add, List.set_cons_zero, List.set_cons_succ, List.set_nil, pcN, pcI, pcNN, pcBNN, pcR, pcRR, pc0, nf, g7, h1]
        · obtain ⟨r, h1, h2, h3⟩ := fin a.neg (a.num.v * b.den.v - b.num.v * a.den.v) (Nat.lt_of_le_of_lt (digs_mono (Nat.sub_le _ _)) (by omega)) (by rw [sgn_gt hn hlt]; rfl)
          refine ⟨r, (AP_ofz _ _ (fz_rv r) (noV_rv _) (m := [cR a, cR b, cR r]) ?_).trans (by rw [h3]), h2, h3⟩
          have hc : ¬ cmpV (a.num.v * b.den.v) (b.num.v * a.den.v) < 0 := by unfold cmpV; rw [if_neg hlt]; split <;> omega
          rw [if_neg hlt] at g6
          rw [T75]
          simp only [Nat.reduceAdd, Option.bind_some, Option.map_some, box_rv, new_z, new_r, new_zs, new_rs, fld0, fld1, fld2, res1, res2, ld0neg, ld0num, ld0den, ld0all, st0all, st0neg, ld1neg, ld1num, ld1den, ld1all, st1all, st1neg, ld2neg, ld2num, ld2den, ld2all, st2all, st2neg, ld3neg, ld3num, ld3den, ld3all, st3all, st3neg, ld4neg, ld4num, ld4den, ld4all, st4all, st4neg, ex0, ex1, ex2, bld0, bld2, bld12, bld012, nil_av, not_b, bl_neq, bl_eql, List.length_cons, List.length_nil, List.length_append, List.nil_append, List.cons_append, List.append_nil, Nat.zero_add, List.set_cons_zero, List.set_cons_succ, List.set_nil, pcN, pcI, pcNN, pcBNN, pcR, pcRR, pc0, e1, binA_eql, ifA_dec]
          rw [if_neg ha0]
          simp only [Nat.reduceAdd, Option.bind_some, Option.map_some, box_rv, new_z, new_r, new_zs, new_rs, fld0, fld1, fld2, res1, res2, ld0neg, ld0num, ld0den, ld0all, st0all, st0neg, ld1neg, ld1num, ld1den, ld1all, st1all, st1neg, ld2neg, ld2num, ld2den, ld2all, st2all, st2neg, ld3neg, ld3num, ld3den, ld3all, st3all, st3neg, ld4neg, ld4num, ld4den, ld4all, st4all, st4neg, ex0, ex1, ex2, bld0, bld2, bld12, bld012, nil_av, not_b, bl_neq, bl_eql, List.length_cons, List.length_nil, List.length_append, List.nil_append, List.cons_append, List.append_nil, Nat.zero_add, List.set_cons_zero, List.set_cons_succ, List.set_nil, pcN, pcI, pcNN, pcBNN, pcR, pcRR, pc0, e2, binA_eql, ifA_dec]
          rw [if_neg hb0]
          simp only [Nat.reduceAdd, Option.bind_some, Option.map_some, box_rv, new_z, new_r, new_zs, new_rs, fld0, fld1, fld2, res1, res2, ld0neg, ld0num, ld0den, ld0all, st0all, st0neg, ld1neg, ld1num, ld1den, ld1all, st1all, st1neg, ld2neg, ld2num, ld2den, ld2all, st2all, st2neg, ld3neg, ld3num, ld3den, ld3all, st3all, st3neg, ld4neg, ld4num, ld4den, ld4all, st4all, st4neg, ex0, ex1, ex2, bld0, bld2, bld12, bld012, nil_av, not_b, bl_neq, bl_eql, List.length_cons, List.length_nil, List.length_append, List.nil_append, List.cons_append, List.append_nil, Nat.zero_add, List.set_cons_zero, List.set_cons_succ, List.set_nil, pcN, pcI, pcNN, pcBNN, pcR, pcRR, pc0, g1, g2, g3, nf, hne, ifA_false, g5, binA_lss, ifA_dec]
          rw [if_neg hc]
          simp only [Nat.reduceAdd, Option.bind_some, Option.map_some, box_rv, new_z, new_r, new_zs, new_rs, fld0, fld1, fld2, res1, res2, ld0neg, ld0num, ld0den, ld0all, st0all, st0neg, ld1neg, ld1num, ld1den, ld1all, st1all, st1neg, ld2neg, ld2num, ld2den, ld2all, st2all, st2neg, ld3neg, ld3num, ld3den, ld3all, st3all, st3neg, ld4neg, ld4num, ld4den, ld4all, st4all, st4neg, ex0, ex1, ex2, bld0, bld2, bld12, bld012, nil_av, not_b, bl_neq, bl_eql, List.length_cons, List.length_nil, List.length_append, List.nil_append, List.cons_append, List.append_nil, Nat.zero_add, List.set_cons_zero, List.set_cons_succ, List.set_nil, pcN, pcI, pcNN, pcBNN, pcR, pcRR, pc0, nf, g6, h1]
end Go.Ab

/- What the interpreter does, function by function. -/
set_option maxRecDepth 100000
set_option linter.unusedVariables false
namespace Go.Ab
open Go.Proofs.Try
/-! ### sortilege/matrix.Make -/
/-! ### sortilege/matrix.Zero -/
/-! ### sortilege/matrix.Identity -/
theorem T18 (a0 : AV) (m : Mem) : AC cfg 18 [a0] m =
  (pcall (AP cfg) none (newAt none m (.obj true [(.int .i64 0), (.int .i64 0), (.lst none true .full [])])).2 57 [a0, a0]).bind fun r1 =>
  (binA .other .neq r1.1 (.int .i64 0)).bind fun v2 =>
  ifA v2 (
  (buildA (.agg [(.int .i64 0), (.int .i64 0), (.lst none true .full [])]) []).bind fun v3 =>
  (storeA (some 3) r1.2 (.ptr (newAt none m .resv).1 0) v3).bind fun m4 =>
  (loadA (some 3) m4 (.ptr (newAt none m .resv).1 0)).bind fun v5 =>
  some ((.tup [v5, r1.1]), m4)) (
  (pcall (AP cfg) none r1.2 58 [a0, a0, (.fn 62 [])]).bind fun r6 =>
  (storeA (some 3) r6.2 (.ptr (newAt none m .resv).1 0) r6.1).bind fun m7 =>
  (loadA (some 3) m7 (.ptr (newAt none m .resv).1 0)).bind fun v8 =>
  some ((.tup [v8, (.int .i64 0)]), m7)) :=
(AC_eq cfg 18 [a0] m (fn := f18) (c := bodyOf f18) at18 rfl).trans (by kernel_rfl)
/-! ### sortilege/matrix.Right -/
def O20_4 (m : Mem) : St := ⟨[.any, .any, .any, .any, .any, .any, .any, .any, .any, .any, .any, .any, .any, .any, .any, .any, .any, .any, .any, .any, .any, .any, .any, .any, .any, .any, .any, .any, .any, .any, .any, .any, .any, .any, .any, .any, .any, .any, .any, .any, .any, .any, .any, .any, .any], m⟩
def R20_4 (x2 : AV) (m : Mem) : St := ⟨[.any, .any, x2, .any, .any, .any, .any, .any, .any, .any, .any, .any, .any, .any, .any, .any, .any, .any, .any, .any, .any, .any, .any, .any, .any, .any, .any, .any, .any, .any, .any, .any, .any, .any, .any, .any, .any, .any, .any, .any, .any, .any, .any, .any, .any], m⟩
noncomputable def L20_4 (x35 x36 x37 : AV) (m : Mem) (K : Ex → St → Option (AV × Mem)) : Option (AV × Mem) := loopW (execW cfg 20 (AP cfg) (AC cfg) (c1 (c1 (c2 (c1 (c2 (c2 (bodyOf f20)))))))) (cfg.mask 20 (some 4)) ⟨[.any, .any, .any, .any, .any, .any, .any, .any, .any, .any, .any, .any, .any, .any, .any, .any, .any, .any, .any, .any, .any, .any, .any, .any, .any, .any, .any, .any, .any, .any, .any, .any, .any, .any, .any, x35, x36, x37, .any, .any, .any, .any, .any, .any, .any], m⟩ K
noncomputable abbrev K20_4_0 (K : Ex → St → Option (AV × Mem)) : Ex → St → Option (AV × Mem) := seqK (fun st => execW cfg 20 (AP cfg) (AC cfg) (c2 (c2 (c2 (bodyOf f20)))) st K) K
noncomputable abbrev K20_4_1 (K : Ex → St → Option (AV × Mem)) : Ex → St → Option (AV × Mem) := blockK 0 (K20_4_0 K)
noncomputable abbrev K20_4 (K : Ex → St → Option (AV × Mem)) : Ex → St → Option (AV × Mem) := (K20_4_1 K)
theorem T20 (a0 : AV) (m : Mem) : AC cfg 20 [a0] m =
  (boxA none (some 3) m a0).bind fun r1 =>
  (fieldAddrA 0 r1.1).bind fun v2 =>
  (loadA none r1.2 v2).bind fun v3 =>
  (binA .other .lss v3 (.int .i64 0)).bind fun v4 =>
  ifA v4 (
  some ((.bool false), r1.2)) (
  (fieldAddrA 0 r1.1).bind fun v5 =>
  (loadA none r1.2 v5).bind fun v6 =>
  (binA .other .gtr v6 (.int .i64 60)).bind fun v7 =>
  ifA v7 (
  some ((.bool false), r1.2)) (
  (fieldAddrA 1 r1.1).bind fun v8 =>
  (loadA none r1.2 v8).bind fun v9 =>
  (binA .other .lss v9 (.int .i64 0)).bind fun v10 =>
  ifA v10 (
  some ((.bool false), r1.2)) (
  (fieldAddrA 1 r1.1).bind fun v11 =>
  (loadA none r1.2 v11).bind fun v12 =>
  (binA .other .gtr v12 (.int .i64 60)).bind fun v13 =>
  ifA v13 (
  some ((.bool false), r1.2)) (
  (fieldAddrA 2 r1.1).bind fun v14 =>
  (loadA none r1.2 v14).bind fun v15 =>
  (lenA false v15).bind fun v16 =>
  (fieldAddrA 0 r1.1).bind fun v17 =>
  (loadA none r1.2 v17).bind fun v18 =>
  (fieldAddrA 1 r1.1).bind fun v19 =>
  (loadA none r1.2 v19).bind fun v20 =>
  (binA .other .mul v18 v20).bind fun v21 =>
  (binA .other .neq v16 v21).bind fun v22 =>
  ifA v22 (
  some ((.bool false), r1.2)) (
  (fieldAddrA 2 r1.1).bind fun v23 =>
  (loadA none r1.2 v23).bind fun v24 =>
  (lenA false v24).bind fun v25 =>
  L20_4 v24 v25 (.int .i64 0) r1.2 (K20_4 (finK cfg.P f20.results.toList))))))) :=
(AC_eq cfg 20 [a0] m (fn := f20) (c := bodyOf f20) at20 rfl).trans (by kernel_rfl)
theorem L20_4_eq (x35 x36 x37 : AV) (m : Mem) (K : Ex → St → Option (AV × Mem)) : L20_4 x35 x36 x37 m K =
  (binA .other .lss x37 x36).bind fun v1 =>
  ifA v1 (
  (indexAddrA (some 3) x35 x37).bind fun v2 =>
  (loadA (some 3) m v2).bind fun v3 =>
  (storeA (some 3) (newAt none m (.obj true [(.bool false), (.lst none true .full []), (.lst none true .full [])])).2 (.ptr (newAt none m .resv).1 0) v3).bind fun m4 =>
  (loadA (some 3) m4 (.ptr (newAt none m .resv).1 0)).bind fun v5 =>
  (pcall (AP cfg) none m4 64 [v5]).bind fun r6 =>
  (unA .not r6.1).bind fun v7 =>
  ifA v7 (
  K .ret (R20_4 (.bool false) r6.2)) (
  (binA .other .add x37 (.int .i64 1)).bind fun v8 =>
  L20_4 x35 x36 v8 r6.2 K)) (
  K (.exit 0) (O20_4 m)) :=
(loopW_eq (execW_lin _) _ _ _).trans (by kernel_rfl)
theorem K20_4_x0 (m : Mem) : K20_4 (finK cfg.P f20.results.toList) (.exit 0) (O20_4  m) =
  some ((.bool true), m) := by kernel_rfl
theorem K20_4_ret (x2 : AV) (m : Mem) : K20_4 (finK cfg.P f20.results.toList) .ret (R20_4 x2 m) =
  some (x2, m) := by kernel_rfl
/-! ### sortilege/matrix.At -/
/-! ### sortilege/matrix.Power -/
def O30_10 (x4 x6 : AV) (m : Mem) : St := ⟨[.any, .any, .any, .any, x4, .any, x6, .any, .any, .any, .any, .any, .any, .any, .any, .any, .any, .any, .any, .any, .any, .any, .any, .any, .any, .any, .any, .any, .any, .any, .any, .any, .any, .any, .any, .any, .any, .any, .any, .any, .any, .any, .any, .any, .any, .any, .any, .any, .any, .any, .any], m⟩
noncomputable def L30_10 (x1 x4 x6 x7 : AV) (m : Mem) (K : Ex → St → Option (AV × Mem)) : Option (AV × Mem) := loopW (execW cfg 30 (AP cfg) (AC cfg) (c1 (c1 (c1 (c2 (c2 (c2 (bodyOf f30)))))))) (cfg.mask 30 (some 10)) ⟨[.any, x1, .any, .any, x4, .any, x6, x7, .any, .any, .any, .any, .any, .any, .any, .any, .any, .any, .any, .any, .any, .any, .any, .any, .any, .any, .any, .any, .any, .any, .any, .any, .any, .any, .any, .any, .any, .any, .any, .any, .any, .any, .any, .any, .any, .any, .any, .any, .any, .any, .any], m⟩ K
noncomputable abbrev K30_10_0 (K : Ex → St → Option (AV × Mem)) : Ex → St → Option (AV × Mem) := seqK (fun st => execW cfg 30 (AP cfg) (AC cfg) (c2 (c2 (c2 (c2 (bodyOf f30))))) st K) K
noncomputable abbrev K30_10_1 (K : Ex → St → Option (AV × Mem)) : Ex → St → Option (AV × Mem) := blockK 1 (K30_10_0 K)
noncomputable abbrev K30_10 (K : Ex → St → Option (AV × Mem)) : Ex → St → Option (AV × Mem) := (K30_10_1 K)
theorem T30 (a0 a1 : AV) (m : Mem) : AC cfg 30 [a0, a1] m =
  (boxA none (some 3) m a0).bind fun r1 =>
  (loadA (some 3) (newAt none r1.2 (.obj true [(.int .i64 0), (.int .i64 0), (.lst none true .full [])])).2 r1.1).bind fun v2 =>
  (pcall (AP cfg) none (newAt none r1.2 (.obj true [(.int .i64 0), (.int .i64 0), (.lst none true .full [])])).2 20 [v2]).bind fun r3 =>
  (unA .not r3.1).bind fun v4 =>
  ifA v4 (
  (buildA (.agg [(.int .i64 0), (.int .i64 0), (.lst none true .full [])]) []).bind fun v5 =>
  (storeA (some 3) r3.2 (.ptr (newAt none r1.2 .resv).1 0) v5).bind fun m6 =>
  (loadA (some 3) m6 (.ptr (newAt none r1.2 .resv).1 0)).bind fun v7 =>
  some ((.tup [v7, (.int .i64 1)]), m6)) (
  (fieldAddrA 0 r1.1).bind fun v8 =>
  (loadA none r3.2 v8).bind fun v9 =>
  (fieldAddrA 1 r1.1).bind fun v10 =>
  (loadA none r3.2 v10).bind fun v11 =>
  (binA .other .neq v9 v11).bind fun v12 =>
  ifA v12 (
  (buildA (.agg [(.int .i64 0), (.int .i64 0), (.lst none true .full [])]) []).bind fun v13 =>
  (storeA (some 3) r3.2 (.ptr (newAt none r1.2 .resv).1 0) v13).bind fun m14 =>
  (loadA (some 3) m14 (.ptr (newAt none r1.2 .resv).1 0)).bind fun v15 =>
  some ((.tup [v15, (.int .i64 30)]), m14)) (
  (binA .other .lss a1 (.int .i64 0)).bind fun v16 =>
  ifA v16 (
  (buildA (.agg [(.int .i64 0), (.int .i64 0), (.lst none true .full [])]) []).bind fun v17 =>
  (storeA (some 3) r3.2 (.ptr (newAt none r1.2 .resv).1 0) v17).bind fun m18 =>
  (loadA (some 3) m18 (.ptr (newAt none r1.2 .resv).1 0)).bind fun v19 =>
  some ((.tup [v19, (.int .i64 1)]), m18)) (
  (binA .other .gtr a1 (.int .i64 200)).bind fun v20 =>
  ifA v20 (
  (buildA (.agg [(.int .i64 0), (.int .i64 0), (.lst none true .full [])]) []).bind fun v21 =>
  (storeA (some 3) r3.2 (.ptr (newAt none r1.2 .resv).1 0) v21).bind fun m22 =>
  (loadA (some 3) m22 (.ptr (newAt none r1.2 .resv).1 0)).bind fun v23 =>
  some ((.tup [v23, (.int .i64 2)]), m22)) (
  (fieldAddrA 0 r1.1).bind fun v24 =>
  (loadA none (reserve r3.2 2) v24).bind fun v25 =>
  (fieldAddrA 0 r1.1).bind fun v26 =>
  (loadA none (reserve r3.2 2) v26).bind fun v27 =>
  (pcall (AP cfg) (some r3.2.length) (reserve r3.2 2) 58 [v25, v27, (.fn 62 [])]).bind fun r28 =>
  (loadA (some 3) r28.2 r1.1).bind fun v29 =>
  (pcall (AP cfg) (some r3.2.length) r28.2 56 [v29]).bind fun r30 =>
  (storeA (some 3) (newAt (some (r3.2.length + 1)) (newAt (some r3.2.length) r30.2 (.obj true [(.int .i64 0), (.int .i64 0), (.lst none true .full [])])).2 (.obj true [(.int .i64 0), (.int .i64 0), (.lst none true .full [])])).2 (.ptr (newAt (some r3.2.length) r30.2 .resv).1 0) r28.1).bind fun m31 =>
  (storeA (some 3) m31 (.ptr (newAt (some (r3.2.length + 1)) (newAt (some r3.2.length) r30.2 (.obj true [(.int .i64 0), (.int .i64 0), (.lst none true .full [])])).2 .resv).1 0) r30.1).bind fun m32 =>
  L30_10 a1 (.ptr (newAt none r1.2 .resv).1 0) (.ptr (newAt (some r3.2.length) r30.2 .resv).1 0) (.ptr (newAt (some (r3.2.length + 1)) (newAt (some r3.2.length) r30.2 (.obj true [(.int .i64 0), (.int .i64 0), (.lst none true .full [])])).2 .resv).1 0) m32 (K30_10 (finK cfg.P f30.results.toList)))))) :=
(AC_eq cfg 30 [a0, a1] m (fn := f30) (c := bodyOf f30) at30 rfl).trans (by kernel_rfl)
theorem L30_10_eq (x1 x4 x6 x7 : AV) (m : Mem) (K : Ex → St → Option (AV × Mem)) : L30_10 x1 x4 x6 x7 m K =
  (binA .other .gtr x1 (.int .i64 0)).bind fun v1 =>
  ifA v1 (
  (binA .other .and x1 (.int .i64 1)).bind fun v2 =>
  (binA .other .eql v2 (.int .i64 1)).bind fun v3 =>
  ifA v3 (
  (loadA (some 3) m x6).bind fun v4 =>
  (loadA (some 3) m x7).bind fun v5 =>
  (pcall (AP cfg) none m 73 [v4, v5]).bind fun r6 =>
  (storeA (some 3) r6.2 x6 r6.1).bind fun m7 =>
  (binA .other .gtr x1 (.int .i64 1)).bind fun v8 =>
  ifA v8 (
  (loadA (some 3) m7 x7).bind fun v9 =>
  (loadA (some 3) m7 x7).bind fun v10 =>
  (pcall (AP cfg) none m7 73 [v9, v10]).bind fun r11 =>
  (storeA (some 3) r11.2 x7 r11.1).bind fun m12 =>
  (binA .other .shr x1 (.int .u64 1)).bind fun v13 =>
  L30_10 v13 x4 x6 x7 m12 K) (
  (binA .other .shr x1 (.int .u64 1)).bind fun v14 =>
  L30_10 v14 x4 x6 x7 m7 K)) (
  (binA .other .gtr x1 (.int .i64 1)).bind fun v15 =>
  ifA v15 (
  (loadA (some 3) m x7).bind fun v16 =>
  (loadA (some 3) m x7).bind fun v17 =>
  (pcall (AP cfg) none m 73 [v16, v17]).bind fun r18 =>
  (storeA (some 3) r18.2 x7 r18.1).bind fun m19 =>
  (binA .other .shr x1 (.int .u64 1)).bind fun v20 =>
  L30_10 v20 x4 x6 x7 m19 K) (
  (binA .other .shr x1 (.int .u64 1)).bind fun v21 =>
  L30_10 v21 x4 x6 x7 m K))) (
  K (.exit 1) (O30_10 x4 x6 m)) :=
(loopW_eq (execW_lin _) _ _ _).trans (by kernel_rfl)
theorem K30_10_x1 (x4 x6 : AV) (m : Mem) : K30_10 (finK cfg.P f30.results.toList) (.exit 1) (O30_10 x4 x6 m) =
  (loadA (some 3) m x6).bind fun v1 =>
  (storeA (some 3) m x4 v1).bind fun m2 =>
  (loadA (some 3) m2 x4).bind fun v3 =>
  some ((.tup [v3, (.int .i64 0)]), m2) := by kernel_rfl
/-! ### sortilege/matrix.Rank -/
/-! ### sortilege/matrix.Solve -/
/-! ### sortilege/matrix.Inverse -/
/-! ### sortilege/matrix.clone -/
def O56_3 (x2 x3 : AV) (m : Mem) : St := ⟨[.any, .any, x2, x3, .any, .any, .any, .any, .any, .any, .any, .any, .any, .any, .any, .any, .any, .any, .any, .any, .any, .any, .any, .any, .any, .any, .any], m⟩
noncomputable def L56_3 (x2 x3 x12 x13 x14 : AV) (m : Mem) (K : Ex → St → Option (AV × Mem)) : Option (AV × Mem) := loopW (execW cfg 56 (AP cfg) (AC cfg) (c1 (c1 (c2 (c1 (c2 (c2 (bodyOf f56)))))))) (cfg.mask 56 (some 3)) ⟨[.any, .any, x2, x3, .any, .any, .any, .any, .any, .any, .any, .any, x12, x13, x14, .any, .any, .any, .any, .any, .any, .any, .any, .any, .any, .any, .any], m⟩ K
noncomputable abbrev K56_3_0 (K : Ex → St → Option (AV × Mem)) : Ex → St → Option (AV × Mem) := seqK (fun st => execW cfg 56 (AP cfg) (AC cfg) (c2 (c2 (c2 (bodyOf f56)))) st K) K
noncomputable abbrev K56_3_1 (K : Ex → St → Option (AV × Mem)) : Ex → St → Option (AV × Mem) := blockK 0 (K56_3_0 K)
noncomputable abbrev K56_3 (K : Ex → St → Option (AV × Mem)) : Ex → St → Option (AV × Mem) := (K56_3_1 K)
theorem T56 (a0 : AV) (m : Mem) : AC cfg 56 [a0] m =
  (boxA none (some 3) m a0).bind fun r1 =>
  (fieldAddrA 0 r1.1).bind fun v2 =>
  (loadA none (newAt none r1.2 (.obj true [(.int .i64 0), (.int .i64 0), (.lst none true .full [])])).2 v2).bind fun v3 =>
  (fieldAddrA 1 r1.1).bind fun v4 =>
  (loadA none (newAt none r1.2 (.obj true [(.int .i64 0), (.int .i64 0), (.lst none true .full [])])).2 v4).bind fun v5 =>
  (buildA (.agg [(.int .i64 0), (.int .i64 0), (.lst none true .full [])]) [(0, none, v3), (1, none, v5)]).bind fun v6 =>
  (storeA (some 3) (newAt none (newAt none r1.2 (.obj true [(.int .i64 0), (.int .i64 0), (.lst none true .full [])])).2 (.obj true [(.int .i64 0), (.int .i64 0), (.lst none true .full [])])).2 (.ptr (newAt none (newAt none r1.2 (.obj true [(.int .i64 0), (.int .i64 0), (.lst none true .full [])])).2 .resv).1 0) v6).bind fun m7 =>
  (fieldAddrA 2 r1.1).bind fun v8 =>
  (loadA none m7 v8).bind fun v9 =>
  (lenA false v9).bind fun v10 =>
  L56_3 (.ptr (newAt none r1.2 .resv).1 0) (.ptr (newAt none (newAt none r1.2 (.obj true [(.int .i64 0), (.int .i64 0), (.lst none true .full [])])).2 .resv).1 0) v9 v10 (.int .i64 0) m7 (K56_3 (finK cfg.P f56.results.toList)) :=
(AC_eq cfg 56 [a0] m (fn := f56) (c := bodyOf f56) at56 rfl).trans (by kernel_rfl)
theorem L56_3_eq (x2 x3 x12 x13 x14 : AV) (m : Mem) (K : Ex → St → Option (AV × Mem)) : L56_3 x2 x3 x12 x13 x14 m K =
  (binA .other .lss x14 x13).bind fun v1 =>
  ifA v1 (
  (indexAddrA (some 3) x12 x14).bind fun v2 =>
  (loadA (some 3) m v2).bind fun v3 =>
  (storeA (some 3) (newAt none m (.obj true [(.bool false), (.lst none true .full []), (.lst none true .full [])])).2 (.ptr (newAt none m .resv).1 0) v3).bind fun m4 =>
  (fieldAddrA 2 x3).bind fun v5 =>
  (loadA none (reserve m4 1) v5).bind fun v6 =>
  (loadA (some 3) (reserve m4 1) (.ptr (newAt none m .resv).1 0)).bind fun v7 =>
  (pcall (AP cfg) (some m4.length) (reserve m4 1) 67 [v7]).bind fun r8 =>
  (buildSliceA (some 3) [r8.1]).bind fun v9 =>
  (appA (some m4.length) false 43 (some 3) 56 r8.2 v6 v9).bind fun r10 =>
  (fieldAddrA 2 x3).bind fun v11 =>
  (storeA none r10.2 v11 r10.1).bind fun m12 =>
  (binA .other .add x14 (.int .i64 1)).bind fun v13 =>
  L56_3 x2 x3 x12 x13 v13 m12 K) (
  K (.exit 0) (O56_3 x2 x3 m)) :=
(loopW_eq (execW_lin _) _ _ _).trans (by kernel_rfl)
theorem K56_3_x0 (x2 x3 : AV) (m : Mem) : K56_3 (finK cfg.P f56.results.toList) (.exit 0) (O56_3 x2 x3 m) =
  (loadA (some 3) m x3).bind fun v1 =>
  (storeA (some 3) m x2 v1).bind fun m2 =>
  (loadA (some 3) m2 x2).bind fun v3 =>
  some (v3, m2) := by kernel_rfl
/-! ### sortilege/matrix.sized -/
theorem T57 (a0 a1 : AV) (m : Mem) : AC cfg 57 [a0, a1] m =
  (binA .other .lss a0 (.int .i64 0)).bind fun v1 =>
  ifA v1 (
  some ((.int .i64 1), m)) (
  (binA .other .lss a1 (.int .i64 0)).bind fun v2 =>
  ifA v2 (
  some ((.int .i64 1), m)) (
  (binA .other .gtr a0 (.int .i64 60)).bind fun v3 =>
  ifA v3 (
  some ((.int .i64 2), m)) (
  (binA .other .gtr a1 (.int .i64 60)).bind fun v4 =>
  ifA v4 (
  some ((.int .i64 2), m)) (
  some ((.int .i64 0), m))))) :=
(AC_eq cfg 57 [a0, a1] m (fn := f57) (c := bodyOf f57) at57 rfl).trans (by kernel_rfl)
/-! ### sortilege/matrix.filled -/
def O58_3 (x6 x7 : AV) (m : Mem) : St := ⟨[.any, .any, .any, .any, .any, .any, x6, x7, .any, .any, .any, .any, .any, .any, .any, .any, .any, .any, .any, .any, .any, .any, .any, .any, .any, .any, .any, .any, .any, .any, .any, .any, .any], m⟩
noncomputable def L58_3 (x1 x2 x6 x7 x13 x14 : AV) (m : Mem) (K : Ex → St → Option (AV × Mem)) : Option (AV × Mem) := loopW (execW cfg 58 (AP cfg) (AC cfg) (c1 (c1 (c2 (c1 (c2 (c2 (bodyOf f58)))))))) (cfg.mask 58 (some 3)) ⟨[.any, x1, x2, .any, .any, .any, x6, x7, .any, .any, .any, .any, .any, x13, x14, .any, .any, .any, .any, .any, .any, .any, .any, .any, .any, .any, .any, .any, .any, .any, .any, .any, .any], m⟩ K
def O58_6 (x1 x2 x6 x7 x13 x14 : AV) (m : Mem) : St := ⟨[.any, x1, x2, .any, .any, .any, x6, x7, .any, .any, .any, .any, .any, x13, x14, .any, .any, .any, .any, .any, .any, .any, .any, .any, .any, .any, .any, .any, .any, .any, .any, .any, .any], m⟩
noncomputable def L58_6 (x1 x2 x6 x7 x8 x13 x14 x17 x18 : AV) (m : Mem) (K : Ex → St → Option (AV × Mem)) : Option (AV × Mem) := loopW (execW cfg 58 (AP cfg) (AC cfg) (c1 (c1 (c2 (c2 (c1 (c1 (c2 (c2 (c1 (c1 (c2 (c1 (c2 (c2 (bodyOf f58)))))))))))))))) (cfg.mask 58 (some 6)) ⟨[.any, x1, x2, .any, .any, .any, x6, x7, x8, .any, .any, .any, .any, x13, x14, .any, .any, x17, x18, .any, .any, .any, .any, .any, .any, .any, .any, .any, .any, .any, .any, .any, .any], m⟩ K
noncomputable abbrev K58_3_0 (K : Ex → St → Option (AV × Mem)) : Ex → St → Option (AV × Mem) := seqK (fun st => execW cfg 58 (AP cfg) (AC cfg) (c2 (c2 (c2 (bodyOf f58)))) st K) K
noncomputable abbrev K58_3_1 (K : Ex → St → Option (AV × Mem)) : Ex → St → Option (AV × Mem) := blockK 0 (K58_3_0 K)
noncomputable abbrev K58_3 (K : Ex → St → Option (AV × Mem)) : Ex → St → Option (AV × Mem) := (K58_3_1 K)
noncomputable abbrev K58_6_0 (K : Ex → St → Option (AV × Mem)) : Ex → St → Option (AV × Mem) := seqK (fun st => execW cfg 58 (AP cfg) (AC cfg) (c2 (c2 (c2 (c1 (c1 (c2 (c1 (c2 (c2 (bodyOf f58)))))))))) st (roundG (fun st => loopW (execW cfg 58 (AP cfg) (AC cfg) (c1 (c1 (c2 (c1 (c2 (c2 (bodyOf f58)))))))) (cfg.mask 58 (some 3)) st K) (cfg.mask 58 (some 3)) K)) (roundG (fun st => loopW (execW cfg 58 (AP cfg) (AC cfg) (c1 (c1 (c2 (c1 (c2 (c2 (bodyOf f58)))))))) (cfg.mask 58 (some 3)) st K) (cfg.mask 58 (some 3)) K)
noncomputable abbrev K58_6_1 (K : Ex → St → Option (AV × Mem)) : Ex → St → Option (AV × Mem) := blockK 1 (K58_6_0 K)
noncomputable abbrev K58_6_2 (K : Ex → St → Option (AV × Mem)) : Ex → St → Option (AV × Mem) := blockK 2 (K58_6_1 K)
noncomputable abbrev K58_6 (K : Ex → St → Option (AV × Mem)) : Ex → St → Option (AV × Mem) := (K58_6_2 K)
theorem T58 (a0 a1 a2 : AV) (m : Mem) : AC cfg 58 [a0, a1, a2] m =
  (buildA (.agg [(.int .i64 0), (.int .i64 0), (.lst none true .full [])]) [(0, none, a0), (1, none, a1)]).bind fun v1 =>
  (storeA (some 3) (newAt none (newAt none m (.obj true [(.int .i64 0), (.int .i64 0), (.lst none true .full [])])).2 (.obj true [(.int .i64 0), (.int .i64 0), (.lst none true .full [])])).2 (.ptr (newAt none (newAt none m (.obj true [(.int .i64 0), (.int .i64 0), (.lst none true .full [])])).2 .resv).1 0) v1).bind fun m2 =>
  L58_3 a1 a2 (.ptr (newAt none m .resv).1 0) (.ptr (newAt none (newAt none m (.obj true [(.int .i64 0), (.int .i64 0), (.lst none true .full [])])).2 .resv).1 0) a0 (.int .i64 0) m2 (K58_3 (finK cfg.P f58.results.toList)) :=
(AC_eq cfg 58 [a0, a1, a2] m (fn := f58) (c := bodyOf f58) at58 rfl).trans (by kernel_rfl)
theorem L58_3_eq (x1 x2 x6 x7 x13 x14 : AV) (m : Mem) (K : Ex → St → Option (AV × Mem)) : L58_3 x1 x2 x6 x7 x13 x14 m K =
  (binA .other .lss x14 x13).bind fun v1 =>
  ifA v1 (
  L58_6 x1 x2 x6 x7 x14 x13 x14 x1 (.int .i64 0) m (K58_6 K)) (
  K (.exit 0) (O58_3 x6 x7 m)) :=
(loopW_eq (execW_lin _) _ _ _).trans (by kernel_rfl)
theorem L58_6_eq (x1 x2 x6 x7 x8 x13 x14 x17 x18 : AV) (m : Mem) (K : Ex → St → Option (AV × Mem)) : L58_6 x1 x2 x6 x7 x8 x13 x14 x17 x18 m K =
  (binA .other .lss x18 x17).bind fun v1 =>
  ifA v1 (
  (fieldAddrA 2 x7).bind fun v2 =>
  (loadA none (reserve m 1) v2).bind fun v3 =>
  (fnOf x2).bind fun g4 =>
  callK cfg 58 (AP cfg) (AC cfg) (some m.length) g4.1 ([x8, x18] ++ g4.2) (reserve m 1) fun v5 m6 =>
  (buildSliceA (some 3) [v5]).bind fun v7 =>
  (appA (some m.length) false 43 (some 3) 56 m6 v3 v7).bind fun r8 =>
  (fieldAddrA 2 x7).bind fun v9 =>
  (storeA none r8.2 v9 r8.1).bind fun m10 =>
  (binA .other .add x18 (.int .i64 1)).bind fun v11 =>
  L58_6 x1 x2 x6 x7 x8 x13 x14 x17 v11 m10 K) (
  K (.exit 2) (O58_6 x1 x2 x6 x7 x13 x14 m)) :=
(loopW_eq (execW_lin _) _ _ _).trans (by kernel_rfl)
theorem K58_3_x0 (x6 x7 : AV) (m : Mem) : K58_3 (finK cfg.P f58.results.toList) (.exit 0) (O58_3 x6 x7 m) =
  (loadA (some 3) m x7).bind fun v1 =>
  (storeA (some 3) m x6 v1).bind fun m2 =>
  (loadA (some 3) m2 x6).bind fun v3 =>
  some (v3, m2) := by kernel_rfl
theorem K58_6_x2 (x1 x2 x6 x7 x13 x14 : AV) (m : Mem) (K : Ex → St → Option (AV × Mem)) : K58_6 K (.exit 2) (O58_6 x1 x2 x6 x7 x13 x14 m) =
  (binA .other .add x14 (.int .i64 1)).bind fun v1 =>
  L58_3 x1 x2 x6 x7 x13 v1 m K := by kernel_rfl
/-! ### sortilege/matrix.unit -/
theorem T62 (a0 a1 : AV) (m : Mem) : AC cfg 62 [a0, a1] m =
  (binA .other .eql a0 a1).bind fun v1 =>
  ifA v1 (
  (pcall (AP cfg) none (newAt none m (.obj true [(.bool false), (.lst none true .full []), (.lst none true .full [])])).2 84 []).bind fun r2 =>
  (storeA (some 3) r2.2 (.ptr (newAt none m .resv).1 0) r2.1).bind fun m3 =>
  (loadA (some 3) m3 (.ptr (newAt none m .resv).1 0)).bind fun v4 =>
  some (v4, m3)) (
  (pcall (AP cfg) none (newAt none m (.obj true [(.bool false), (.lst none true .full []), (.lst none true .full [])])).2 60 []).bind fun r5 =>
  (storeA (some 3) r5.2 (.ptr (newAt none m .resv).1 0) r5.1).bind fun m6 =>
  (loadA (some 3) m6 (.ptr (newAt none m .resv).1 0)).bind fun v7 =>
  some (v7, m6)) :=
(AC_eq cfg 62 [a0, a1] m (fn := f62) (c := bodyOf f62) at62 rfl).trans (by kernel_rfl)
/-! ### sortilege/matrix.copied -/
theorem T67 (a0 : AV) (m : Mem) : AC cfg 67 [a0] m =
  (boxA none (some 3) m a0).bind fun r1 =>
  (fieldAddrA 0 r1.1).bind fun v2 =>
  (loadA none (reserve (newAt none r1.2 (.obj true [(.bool false), (.lst none true .full []), (.lst none true .full [])])).2 2) v2).bind fun v3 =>
  (fieldAddrA 1 r1.1).bind fun v4 =>
  (loadA none (reserve (newAt none r1.2 (.obj true [(.bool false), (.lst none true .full []), (.lst none true .full [])])).2 2) v4).bind fun v5 =>
  (fieldAddrA 2 r1.1).bind fun v6 =>
  (loadA none (reserve (newAt none r1.2 (.obj true [(.bool false), (.lst none true .full []), (.lst none true .full [])])).2 2) v6).bind fun v7 =>
  (appA (some (newAt none r1.2 (.obj true [(.bool false), (.lst none true .full []), (.lst none true .full [])])).2.length) false 116 none 4 (reserve (newAt none r1.2 (.obj true [(.bool false), (.lst none true .full []), (.lst none true .full [])])).2 2) (.lst none true .full []) v5).bind fun r8 =>
  (appA (some ((newAt none r1.2 (.obj true [(.bool false), (.lst none true .full []), (.lst none true .full [])])).2.length + 1)) false 116 none 4 r8.2 (.lst none true .full []) v7).bind fun r9 =>
  (buildA (.agg [(.bool false), (.lst none true .full []), (.lst none true .full [])]) [(0, none, v3), (1, none, r8.1), (2, none, r9.1)]).bind fun v10 =>
  (storeA (some 3) r9.2 (.ptr (newAt none r1.2 .resv).1 0) v10).bind fun m11 =>
  (loadA (some 3) m11 (.ptr (newAt none r1.2 .resv).1 0)).bind fun v12 =>
  some (v12, m11) :=
(AC_eq cfg 67 [a0] m (fn := f67) (c := bodyOf f67) at67 rfl).trans (by kernel_rfl)
/-! ### sortilege/matrix.times -/
theorem T73 (a0 a1 : AV) (m : Mem) : AC cfg 73 [a0, a1] m =
  (boxA none (some 3) m a0).bind fun r1 =>
  (boxA none (some 3) r1.2 a1).bind fun r2 =>
  (fieldAddrA 0 r1.1).bind fun v3 =>
  (loadA none (newAt none r2.2 (.obj true [(.int .i64 0), (.int .i64 0), (.lst none true .full [])])).2 v3).bind fun v4 =>
  (fieldAddrA 1 r2.1).bind fun v5 =>
  (loadA none (newAt none r2.2 (.obj true [(.int .i64 0), (.int .i64 0), (.lst none true .full [])])).2 v5).bind fun v6 =>
  (pcall (AP cfg) none (newAt none r2.2 (.obj true [(.int .i64 0), (.int .i64 0), (.lst none true .full [])])).2 58 [v4, v6, (.fn 104 [r1.1, r2.1])]).bind fun r7 =>
  (storeA (some 3) r7.2 (.ptr (newAt none r2.2 .resv).1 0) r7.1).bind fun m8 =>
  (loadA (some 3) m8 (.ptr (newAt none r2.2 .resv).1 0)).bind fun v9 =>
  some (v9, m8) :=
(AC_eq cfg 73 [a0, a1] m (fn := f73) (c := bodyOf f73) at73 rfl).trans (by kernel_rfl)
/-! ### sortilege/matrix.rows -/
theorem T82 (a0 : AV) (m : Mem) : AC cfg 82 [a0] m =
  (boxA none (some 3) m a0).bind fun r1 =>
  some ((.fn 114 [r1.1]), r1.2) :=
(AC_eq cfg 82 [a0] m (fn := f82) (c := bodyOf f82) at82 rfl).trans (by kernel_rfl)
/-! ### sortilege/matrix.steps -/
/-! ### sortilege/matrix.solved -/
/-! ### sortilege/matrix.times$1 -/
def O104_3 (x6 x7 : AV) (m : Mem) : St := ⟨[.any, .any, .any, .any, .any, .any, x6, x7, .any, .any, .any, .any, .any, .any, .any, .any, .any, .any, .any, .any, .any, .any, .any, .any, .any, .any, .any, .any, .any, .any, .any, .any, .any, .any, .any, .any, .any, .any, .any, .any, .any, .any, .any, .any, .any, .any, .any, .any, .any, .any, .any, .any, .any, .any], m⟩
noncomputable def L104_3 (x0 x1 x2 x3 x6 x7 x13 x14 : AV) (m : Mem) (K : Ex → St → Option (AV × Mem)) : Option (AV × Mem) := loopW (execW cfg 104 (AP cfg) (AC cfg) (c1 (c1 (c2 (c1 (c2 (c2 (bodyOf f104)))))))) (cfg.mask 104 (some 3)) ⟨[x0, x1, x2, x3, .any, .any, x6, x7, .any, .any, .any, .any, .any, x13, x14, .any, .any, .any, .any, .any, .any, .any, .any, .any, .any, .any, .any, .any, .any, .any, .any, .any, .any, .any, .any, .any, .any, .any, .any, .any, .any, .any, .any, .any, .any, .any, .any, .any, .any, .any, .any, .any, .any, .any], m⟩ K
noncomputable abbrev K104_3_0 (K : Ex → St → Option (AV × Mem)) : Ex → St → Option (AV × Mem) := seqK (fun st => execW cfg 104 (AP cfg) (AC cfg) (c2 (c2 (c2 (bodyOf f104)))) st K) K
noncomputable abbrev K104_3_1 (K : Ex → St → Option (AV × Mem)) : Ex → St → Option (AV × Mem) := blockK 0 (K104_3_0 K)
noncomputable abbrev K104_3 (K : Ex → St → Option (AV × Mem)) : Ex → St → Option (AV × Mem) := (K104_3_1 K)
theorem T104 (a0 a1 a2 a3 : AV) (m : Mem) : AC cfg 104 [a0, a1, a2, a3] m =
  (pcall (AP cfg) none (newAt none m (.obj true [(.bool false), (.lst none true .full []), (.lst none true .full [])])).2 60 []).bind fun r1 =>
  (storeA (some 3) (newAt none r1.2 (.obj true [(.bool false), (.lst none true .full []), (.lst none true .full [])])).2 (.ptr (newAt none r1.2 .resv).1 0) r1.1).bind fun m2 =>
  (fieldAddrA 1 a2).bind fun v3 =>
  (loadA none m2 v3).bind fun v4 =>
  L104_3 a0 a1 a2 a3 (.ptr (newAt none m .resv).1 0) (.ptr (newAt none r1.2 .resv).1 0) v4 (.int .i64 0) m2 (K104_3 (finK cfg.P f104.results.toList)) :=
(AC_eq cfg 104 [a0, a1, a2, a3] m (fn := f104) (c := bodyOf f104) at104 rfl).trans (by kernel_rfl)
theorem L104_3_eq (x0 x1 x2 x3 x6 x7 x13 x14 : AV) (m : Mem) (K : Ex → St → Option (AV × Mem)) : L104_3 x0 x1 x2 x3 x6 x7 x13 x14 m K =
  (binA .other .lss x14 x13).bind fun v1 =>
  ifA v1 (
  (fieldAddrA 2 x2).bind fun v2 =>
  (loadA none (reserve m 2) v2).bind fun v3 =>
  (fieldAddrA 1 x2).bind fun v4 =>
  (loadA none (reserve m 2) v4).bind fun v5 =>
  (binA .other .mul x0 v5).bind fun v6 =>
  (binA .other .add v6 x14).bind fun v7 =>
  (indexAddrA (some 3) v3 v7).bind fun v8 =>
  (loadA (some 3) (reserve m 2) v8).bind fun v9 =>
  (fieldAddrA 2 x3).bind fun v10 =>
  (loadA none (reserve m 2) v10).bind fun v11 =>
  (fieldAddrA 1 x3).bind fun v12 =>
  (loadA none (reserve m 2) v12).bind fun v13 =>
  (binA .other .mul x14 v13).bind fun v14 =>
  (binA .other .add v14 x1).bind fun v15 =>
  (indexAddrA (some 3) v11 v15).bind fun v16 =>
  (loadA (some 3) (reserve m 2) v16).bind fun v17 =>
  (storeA (some 3) (newAt (some (m.length + 1)) (newAt (some m.length) (reserve m 2) (.obj true [(.bool false), (.lst none true .full []), (.lst none true .full [])])).2 (.obj true [(.bool false), (.lst none true .full []), (.lst none true .full [])])).2 (.ptr (newAt (some m.length) (reserve m 2) .resv).1 0) v9).bind fun m18 =>
  (storeA (some 3) m18 (.ptr (newAt (some (m.length + 1)) (newAt (some m.length) (reserve m 2) (.obj true [(.bool false), (.lst none true .full []), (.lst none true .full [])])).2 .resv).1 0) v17).bind fun m19 =>
  ifB (namesV v10 (.ptr (newAt (some m.length) (reserve m 2) .resv).1 0)) (
  ifB (namesV v12 (.ptr (newAt (some m.length) (reserve m 2) .resv).1 0)) (
  ifB (namesV v16 (.ptr (newAt (some m.length) (reserve m 2) .resv).1 0)) (
  (fieldAddrA 1 (.ptr (newAt (some m.length) (reserve m 2) .resv).1 0)).bind fun v20 =>
  (loadA none m19 v20).bind fun v21 =>
  (lenA false v21).bind fun v22 =>
  (binA .other .gtr v22 (.int .i64 0)).bind fun v23 =>
  ifA v23 (
  (fieldAddrA 1 (.ptr (newAt (some (m.length + 1)) (newAt (some m.length) (reserve m 2) (.obj true [(.bool false), (.lst none true .full []), (.lst none true .full [])])).2 .resv).1 0)).bind fun v24 =>
  (loadA none m19 v24).bind fun v25 =>
  (lenA false v25).bind fun v26 =>
  (binA .other .gtr v26 (.int .i64 0)).bind fun v27 =>
  ifA v27 (
  (loadA (some 3) m19 x7).bind fun v28 =>
  (loadA (some 3) m19 (.ptr (newAt (some m.length) (reserve m 2) .resv).1 0)).bind fun v29 =>
  (loadA (some 3) m19 (.ptr (newAt (some (m.length + 1)) (newAt (some m.length) (reserve m 2) (.obj true [(.bool false), (.lst none true .full []), (.lst none true .full [])])).2 .resv).1 0)).bind fun v30 =>
  (pcall (AP cfg) (some m19.length) m19 78 [v29, v30]).bind fun r31 =>
  (pcall (AP cfg) (some m19.length) r31.2 75 [v28, r31.1]).bind fun r32 =>
  (storeA (some 3) r32.2 x7 r32.1).bind fun m33 =>
  (binA .other .add x14 (.int .i64 1)).bind fun v34 =>
  L104_3 x0 x1 x2 x3 x6 x7 x13 v34 m33 K) (
  (binA .other .add x14 (.int .i64 1)).bind fun v35 =>
  L104_3 x0 x1 x2 x3 x6 x7 x13 v35 m19 K)) (
  (binA .other .add x14 (.int .i64 1)).bind fun v36 =>
  L104_3 x0 x1 x2 x3 x6 x7 x13 v36 m19 K))))) (
  K (.exit 0) (O104_3 x6 x7 m)) :=
(loopW_eq (execW_lin _) _ _ _).trans (by kernel_rfl)
theorem K104_3_x0 (x6 x7 : AV) (m : Mem) : K104_3 (finK cfg.P f104.results.toList) (.exit 0) (O104_3 x6 x7 m) =
  (loadA (some 3) m x7).bind fun v1 =>
  (storeA (some 3) m x6 v1).bind fun m2 =>
  (loadA (some 3) m2 x6).bind fun v3 =>
  some (v3, m2) := by kernel_rfl
/-! ### sortilege/matrix.pivot -/
/-! ### sortilege/matrix.swap -/
/-! ### sortilege/matrix.clear -/
/-! ### sortilege/matrix.weight -/
end Go.Ab

/- Right, At and Same of both matrix packages, in values. -/
set_option linter.unusedVariables false
set_option linter.unusedSimpArgs false
set_option maxRecDepth 100000
namespace Go.Ab
open Go.Proofs.Try

theorem st_last {m : Mem} {x r : RV} : storeA (some 3) (m ++ [cR x]) (.ptr m.length 0) r.av = some (m ++ [cR r]) := by
  rw [rstA (get_last : (m ++ [cR x])[m.length]? = some (cR x)), List.set_append_right _ _ (Nat.le_refl _), Nat.sub_self, List.set_cons_zero]
theorem ld_last {m : Mem} {r : RV} : loadA (some 3) (m ++ [cR r]) (.ptr m.length 0) = some r.av := rldA get_last
theorem new_z' (m : Mem) : newAt none m (.obj true [.bool false, .lst none true .full [], .lst none true .full []]) = (m.length, m ++ [cR zR]) := rfl
def sizeB (x : MV) : Bool := decide (0 ≤ x.rows ∧ x.rows ≤ 60 ∧ 0 ≤ x.cols ∧ x.cols ≤ 60 ∧ (x.lv.es.length : Int) = x.rows * x.cols)
def rightM (x : MV) : Bool := sizeB x && x.lv.es.all rightR
theorem mul60 {a b : Int} (h1 : 0 ≤ a) (h2 : a ≤ 60) (h3 : 0 ≤ b) (h4 : b ≤ 60) : 0 ≤ a * b ∧ a * b ≤ 3600 := by
  obtain ⟨x, rfl⟩ := Int.eq_ofNat_of_zero_le h1
  obtain ⟨y, rfl⟩ := Int.eq_ofNat_of_zero_le h3
  have : x * y ≤ 60 * 60 := Nat.mul_le_mul (by omega) (by omega)
  rw [← Int.natCast_mul]
  omega
theorem i_mul60 {a b : Int} (h1 : 0 ≤ a) (h2 : a ≤ 60) (h3 : 0 ≤ b) (h4 : b ≤ 60) : binA .other .mul (.int .i64 a) (.int .i64 b) = some (.int .i64 (a * b)) := by
  obtain ⟨k1, k2⟩ := mul60 h1 h2 h3 h4
  rw [binA_mul, wrap_i64 (by omega) (by omega)]

/-! ### Right (20) -/
theorem W20 (l : LV) (k : Nat) (hl : LOk k l) (hk : k < 2 ^ 38) (hlen : l.es.length < 2 ^ 40) (K : Ex → St → Option (AV × Mem)) : ∀ (j i : Nat) (m : Mem), i + j = l.es.length →
    ∃ m', L20_4 l.av (.int .i64 l.es.length) (.int .i64 i) m K = if (l.es.drop i).all rightR = true then K (.exit 0) (O20_4 m') else K .ret (R20_4 (.bool false) m') := by
  intro j
  induction j with
  | zero =>
    intro i m hi
    refine ⟨m, ?_⟩
    rw [L20_4_eq, n_lss, Option.bind_some, ifA_dec, if_neg (by omega), List.drop_of_length_le (by omega)]
    rfl
  | succ j ih =>
    intro i m hi
    have hil : i < l.es.length := by omega
    have hr := hl.ok l.es[i] (List.getElem_mem hil)
    have hf := hl.fr l.es[i] (List.getElem_mem hil)
    obtain ⟨m', ih⟩ := ih (i + 1) (m ++ [cR l.es[i]]) (by omega)
    have e1 := V64 hr
    have hd : l.es.drop i = l.es[i] :: l.es.drop (i + 1) := List.drop_eq_getElem_cons hil
    rw [hd, List.all_cons]
    rw [L20_4_eq, n_lss, Option.bind_some, ifA_dec, if_pos hil, index_lv hl hil, Option.bind_some, load_row, Option.bind_some, new_z', new_r, st_last, Option.bind_some, ld_last, Option.bind_some, pcR, hf, e1, Option.map_some, Option.bind_some, not_b, Option.bind_some]
    cases hb : rightR l.es[i] with
    | false => exact ⟨_, rfl⟩
    | true =>
      refine ⟨m', ?_⟩
      rw [Bool.not_true, ifA_false, i_add1 (by omega), Option.bind_some, ih, Bool.true_and]
theorem V20 {x : MV} {k : Nat} (h : LOk k x.lv) (hk : k < 2 ^ 38) (hlen : x.lv.es.length < 2 ^ 40) : AP cfg 20 [x.av] = some (.bool (rightM x)) := by
  have g : ([cM x] : Mem)[0]? = some (cM x) := rfl
  have key : ∃ m', AC cfg 20 [x.av] [] = some (.bool (rightM x), m') := by
    rw [T20, box_mv]
    simp only [Option.bind_some, fld0, fld1, fld2, List.length_nil, List.nil_append]
    rw [mld0 g, Option.bind_some, binA_lss, Option.bind_some, ifA_dec]
    unfold rightM sizeB
    by_cases c1 : x.rows < 0
    · rw [if_pos c1, decide_eq_false (by omega)]; exact ⟨_, rfl⟩
    rw [if_neg c1, Option.bind_some, binA_gtr, Option.bind_some, ifA_dec]
    by_cases c2 : x.rows > 60
    · rw [if_pos c2, decide_eq_false (by omega)]; exact ⟨_, rfl⟩
    rw [if_neg c2, mld1 g, Option.bind_some, binA_lss, Option.bind_some, ifA_dec]
    by_cases c3 : x.cols < 0
    · rw [if_pos c3, decide_eq_false (by omega)]; exact ⟨_, rfl⟩
    rw [if_neg c3, Option.bind_some, binA_gtr, Option.bind_some, ifA_dec]
    by_cases c4 : x.cols > 60
    · rw [if_pos c4, decide_eq_false (by omega)]; exact ⟨_, rfl⟩
    rw [if_neg c4, mld2 g, Option.bind_some, len_lv, Option.bind_some, Option.bind_some, Option.bind_some, i_mul60 (by omega) (by omega) (by omega) (by omega), Option.bind_some, binA_neq, Option.bind_some, ifA_dec]
    by_cases c5 : (x.lv.es.length : Int) = x.rows * x.cols
    · obtain ⟨m', hw⟩ := W20 x.lv k h hk hlen (K20_4 (finK cfg.P f20.results.toList)) x.lv.es.length 0 [cM x] (by omega)
      rw [if_neg (fun hn => hn c5), Option.bind_some, len_lv, Option.bind_some]
      refine ⟨m', hw.trans ?_⟩
      rw [decide_eq_true ⟨by omega, by omega, by omega, by omega, c5⟩, Bool.true_and, List.drop_zero, K20_4_x0, K20_4_ret]
      cases x.lv.es.all rightR <;> rfl
    · rw [if_pos c5, decide_eq_false (fun hn => c5 hn.2.2.2.2)]; exact ⟨_, rfl⟩
  obtain ⟨m', hm⟩ := key
  exact AP_ofz _ _ (fz_bool _) rfl hm

/-! ### Right (21) -/
theorem W21 (l : LV) (k : Nat) (hl : LOk k l) (hk : k < 2 ^ 38) (hlen : l.es.length < 2 ^ 40) (K : Ex → St → Option (AV × Mem)) : ∀ (j i : Nat) (m : Mem), i + j = l.es.length →
    ∃ m', L21_4 l.av (.int .i64 l.es.length) (.int .i64 i) m K = if (l.es.drop i).all rightR = true then K (.exit 0) (O21_4 m') else K .ret (R21_4 (.bool false) m') := by
  intro j
  induction j with
  | zero =>
    intro i m hi
    refine ⟨m, ?_⟩
    rw [L21_4_eq, n_lss, Option.bind_some, ifA_dec, if_neg (by omega), List.drop_of_length_le (by omega)]
    rfl
  | succ j ih =>
    intro i m hi
    have hil : i < l.es.length := by omega
    have hr := hl.ok l.es[i] (List.getElem_mem hil)
    have hf := hl.fr l.es[i] (List.getElem_mem hil)
    obtain ⟨m', ih⟩ := ih (i + 1) (m ++ [cR l.es[i]]) (by omega)
    have e1 := V65 hr hk
    have hd : l.es.drop i = l.es[i] :: l.es.drop (i + 1) := List.drop_eq_getElem_cons hil
    rw [hd, List.all_cons]
    rw [L21_4_eq, n_lss, Option.bind_some, ifA_dec, if_pos hil, index_lv hl hil, Option.bind_some, load_row, Option.bind_some, new_z', new_r, st_last, Option.bind_some, ld_last, Option.bind_some, pcR, hf, e1, Option.map_some, Option.bind_some, not_b, Option.bind_some]
    cases hb : rightR l.es[i] with
    | false => exact ⟨_, rfl⟩
    | true =>
      refine ⟨m', ?_⟩
      rw [Bool.not_true, ifA_false, i_add1 (by omega), Option.bind_some, ih, Bool.true_and]
theorem V21 {x : MV} {k : Nat} (h : LOk k x.lv) (hk : k < 2 ^ 38) (hlen : x.lv.es.length < 2 ^ 40) : AP cfg 21 [x.av] = some (.bool (rightM x)) := by
  have g : ([cM x] : Mem)[0]? = some (cM x) := rfl
  have key : ∃ m', AC cfg 21 [x.av] [] = some (.bool (rightM x), m') := by
    rw [T21, box_mv]
    simp only [Option.bind_some, fld0, fld1, fld2, List.length_nil, List.nil_append]
    rw [mld0 g, Option.bind_some, binA_lss, Option.bind_some, ifA_dec]
    unfold rightM sizeB
    by_cases c1 : x.rows < 0
    · rw [if_pos c1, decide_eq_false (by omega)]; exact ⟨_, rfl⟩
    rw [if_neg c1, Option.bind_some, binA_gtr, Option.bind_some, ifA_dec]
    by_cases c2 : x.rows > 60
    · rw [if_pos c2, decide_eq_false (by omega)]; exact ⟨_, rfl⟩
    rw [if_neg c2, mld1 g, Option.bind_some, binA_lss, Option.bind_some, ifA_dec]
    by_cases c3 : x.cols < 0
    · rw [if_pos c3, decide_eq_false (by omega)]; exact ⟨_, rfl⟩
    rw [if_neg c3, Option.bind_some, binA_gtr, Option.bind_some, ifA_dec]
    by_cases c4 : x.cols > 60
    · rw [if_pos c4, decide_eq_false (by omega)]; exact ⟨_, rfl⟩
    rw [if_neg c4, mld2 g, Option.bind_some, len_lv, Option.bind_some, Option.bind_some, Option.bind_some, i_mul60 (by omega) (by omega) (by omega) (by omega), Option.bind_some, binA_neq, Option.bind_some, ifA_dec]
    by_cases c5 : (x.lv.es.length : Int) = x.rows * x.cols
    · obtain ⟨m', hw⟩ := W21 x.lv k h hk hlen (K21_4 (finK cfg.P f21.results.toList)) x.lv.es.length 0 [cM x] (by omega)
      rw [if_neg (fun hn => hn c5), Option.bind_some, len_lv, Option.bind_some]
      refine ⟨m', hw.trans ?_⟩
      rw [decide_eq_true ⟨by omega, by omega, by omega, by omega, c5⟩, Bool.true_and, List.drop_zero, K21_4_x0, K21_4_ret]
      cases x.lv.es.all rightR <;> rfl
    · rw [if_pos c5, decide_eq_false (fun hn => c5 hn.2.2.2.2)]; exact ⟨_, rfl⟩
  obtain ⟨m', hm⟩ := key
  exact AP_ofz _ _ (fz_bool _) rfl hm

/-! ### Same (40) -/
def sameM (x y : MV) : Bool := decide (x.rows = y.rows) && (decide (x.cols = y.cols) && decide (x.lv.es.map RV.q = y.lv.es.map RV.q))
end Go.Ab

/- Copies and built matrices of both matrix packages, in values. -/
set_option linter.unusedVariables false
set_option linter.unusedSimpArgs false
set_option maxRecDepth 100000
namespace Go.Ab
open Go.Proofs.Try

/-! ### A fraction that shares nothing -/
def copyR (r : RV) : RV := ⟨r.neg, rowN r.num.ds, rowN r.den.ds⟩
theorem copyR_fr (r : RV) : (copyR r).fr = copyR r := by simp only [copyR, RV.fr, rowN_fr]
theorem copyR_q (r : RV) : (copyR r).q = r.q := by simp only [copyR, RV.q, rowN_v]; rfl
theorem copyR_right (r : RV) : rightR (copyR r) = rightR r := by simp only [copyR, rightR, rowN_ds, rowN_v]; rfl
theorem copyR_ok {r : RV} {k : Nat} (h : ROk k r) : ROk k (copyR r) := ⟨rowN_ok h.num.dg h.num.len, rowN_ok h.den.dg h.den.len, by simp only [copyR, rowN_ds]; exact h.ln, by simp only [copyR, rowN_ds]; exact h.ld⟩
def tkV (k : Nat) (ds : List Nat) : NV := if ds = [] then nilV else ⟨false, .tok k 116, ds⟩
theorem tkV_fr (k : Nat) (ds : List Nat) : (tkV k ds).fr = rowN ds := by unfold tkV rowN; split <;> rfl
theorem app_nilk {m : Mem} {k : Nat} {x : NV} (hk : m[k]? = some (some .resv)) (h : x.ds.length * 4 ≤ roomA) : ∃ m', appA (some k) false 116 none 4 m (.lst none true .full []) x.av = some ((tkV k x.ds).av, m') ∧ (∀ j, j ≠ k → m'[j]? = m[j]?) ∧ m'.length = m.length := by
  obtain ⟨z, o, ds⟩ := x
  cases ds with
  | nil => exact ⟨m, rfl, fun _ _ => rfl, rfl⟩
  | cons d ds =>
    have h2 : (ds.length + 1) * 4 ≤ roomA := by simpa using h
    refine ⟨m.set k (some (.tok (ds.length + 1) 1)), ?_, fun j hj => List.getElem?_set_ne (fun e => hj e.symm), by simp⟩
    simp only [tkV, NV.av, appA, List.map_cons, List.length_cons, List.length_nil, List.length_map, Nat.zero_add, h2, if_true, newAt, Sh.size, List.nil_append, reduceCtorEq, if_false, Bool.false_eq_true, or_true]
theorem V67 {r : RV} {k : Nat} (h : ROk k r) : AP cfg 67 [r.av] = some (copyR r).av := by
  have hn := h.num.len
  have hd := h.den.len
  obtain ⟨m1, a1, a2, a3⟩ := app_nilk (m := [cR r, cR zR, some .resv, some .resv]) (k := 2) (x := r.num) rfl (by simp only [roomA]; omega)
  obtain ⟨m2, b1, b2, b3⟩ := app_nilk (m := m1) (k := 3) (x := r.den) (by rw [a2 3 (by omega)]; rfl) (by simp only [roomA]; omega)
  have g1 : m2[1]? = some (cR zR) := by rw [b2 1 (by omega), a2 1 (by omega)]; rfl
  have hfr : (RV.mk r.neg (tkV 2 r.num.ds) (tkV 3 r.den.ds)).fr = copyR r := by simp only [RV.fr, tkV_fr, copyR]
  have hl : 1 < m2.length := by rw [b3, a3]; simp
  refine (AP_ofz _ _ (fz_rv ⟨r.neg, tkV 2 r.num.ds, tkV 3 r.den.ds⟩) (noV_rv _) (m := m2.set 1 (cR ⟨r.neg, tkV 2 r.num.ds, tkV 3 r.den.ds⟩)) ?_).trans (by rw [hfr])
  rw [T67]
  simp only [Option.bind_some, box_rv, new_z', new_r, fld0, fld1, fld2, res2, List.length_nil, List.nil_append, List.length_cons, List.cons_append, Nat.zero_add, ld0neg, ld0num, ld0den, Nat.reduceAdd]
  rw [a1]
  simp only [Option.bind_some]
  rw [b1]
  simp only [Option.bind_some, nil_av, bld012]
  rw [rstA g1, Option.bind_some, rldA (by rw [List.getElem?_set_self hl])]
  rfl

/-! ### A row grows -/
/-- All boxes but one stay. -/
def Kn (n : Nat) (m m' : Mem) : Prop := m.length ≤ m'.length ∧ ∀ (p : Nat) (bx : Bool) (cs : List AV), p ≠ n → m[p]? = some (some (Ent.obj bx cs)) → m'[p]? = some (some (Ent.obj bx cs))
theorem Kn.trans {n : Nat} {a b c : Mem} (h : Kn n a b) (k : Kn n b c) : Kn n a c := ⟨Nat.le_trans h.1 k.1, fun p bx cs hp hh => k.2 p bx cs hp (h.2 p bx cs hp hh)⟩
theorem push {m : Mem} {n : Nat} {y : MV} {r : RV} (hb : m[n]? = some (cM y)) (hr : RowAt m y.lv) (hlen : y.lv.es.length < 5000) :
    ∃ l' m' m'', appA (some m.length) false 43 (some 3) 56 (reserve m 1) y.lv.av (.lst (some 3) false .full [r.av]) = some (l'.av, m') ∧ l'.es = y.lv.es ++ [r] ∧ storeA none m' (.ptr n 2) l'.av = some m'' ∧ m''[n]? = some (cM ⟨y.rows, y.cols, l'⟩) ∧ RowAt m'' l' ∧ Kn n m m'' := by
  rw [res1]
  obtain ⟨l', m', h1, h2, h3, h4⟩ := app_mat (r := r) (hr.app [some .resv]) (k := m.length) get_last (by simp only [roomA]; omega)
  have hk := (Kp.app m [some .resv]).trans h4
  have hb' := hk.2 n true _ hb
  have hnl : n < m'.length := by
    apply Classical.byContradiction
    intro hc
    rw [List.getElem?_eq_none (by omega)] at hb'
    cases hb'
  refine ⟨l', m', _, h1, h3, mst2 hb', by rw [List.getElem?_set_self hnl], h2.set hb' _, ?_⟩
  refine ⟨by rw [List.length_set]; exact hk.1, fun p bx cs hp hh => ?_⟩
  rw [List.getElem?_set_ne (fun e => hp e.symm)]
  exact hk.2 p bx cs hh
theorem RowAt.mono {m m' : Mem} {l : LV} (h : RowAt m l) {r : RV} (e : m' = m ++ [cR r]) : RowAt m' l := e ▸ h.app _
theorem rowAt_lok {m : Mem} {l : LV} {k : Nat} (h : RowAt m l) (hf : ∀ r ∈ l.es, r.fr = r) (ho : ∀ r ∈ l.es, ROk k r) : LOk k l := by
  rcases h with rfl | ⟨h1, h2, h3, _⟩
  · exact ⟨.inr rfl, fun _ => rfl, hf, ho⟩
  · exact ⟨.inl h1, fun hz => absurd (h2.symm.trans hz) (by decide), hf, ho⟩
/-- What a function hands out that has built a row. -/
theorem rowAt_fr {m : Mem} {l : LV} (h : RowAt m l) : l.fr.fr = l.fr := by
  rcases h with rfl | ⟨h1, h2, h3, nm, h4, _⟩
  · rfl
  · obtain ⟨sh, z, o, es⟩ := l
    simp only at h4
    subst h4
    rfl
theorem bldM01 (a b : Int) : buildA (.agg [.int .i64 0, .int .i64 0, .lst none true .full []]) [(0, none, .int .i64 a), (1, none, .int .i64 b)] = some (MV.av ⟨a, b, nilL⟩) := rfl
theorem bldM : buildA (.agg [.int .i64 0, .int .i64 0, .lst none true .full []]) [] = some zM.av := rfl

/-! ### clone -/
theorem W56 {x : MV} {k : Nat} (hx : LOk k x.lv) (hlen : x.lv.es.length < 4500) (K : Ex → St → Option (AV × Mem)) : ∀ (j i : Nat) (m : Mem) (l : LV), i + j = x.lv.es.length → m[1]? = some (cM zM) → m[2]? = some (cM ⟨x.rows, x.cols, l⟩) → RowAt m l → l.es = (x.lv.es.take i).map copyR →
    ∃ m' l', m'[1]? = some (cM zM) ∧ m'[2]? = some (cM ⟨x.rows, x.cols, l'⟩) ∧ RowAt m' l' ∧ l'.es = x.lv.es.map copyR ∧ L56_3 (.ptr 1 0) (.ptr 2 0) x.lv.av (.int .i64 x.lv.es.length) (.int .i64 i) m K = K (.exit 0) (O56_3 (.ptr 1 0) (.ptr 2 0) m') := by
  intro j
  induction j with
  | zero =>
    intro i m l hi h1 h2 h3 h4
    refine ⟨m, l, h1, h2, h3, by rw [h4, List.take_of_length_le (by omega)], ?_⟩
    rw [L56_3_eq, n_lss, Option.bind_some, ifA_dec, if_neg (by omega)]
  | succ j ih =>
    intro i m l hi h1 h2 h3 h4
    have hil : i < x.lv.es.length := by omega
    have hr := hx.ok x.lv.es[i] (List.getElem_mem hil)
    have hf := hx.fr x.lv.es[i] (List.getElem_mem hil)
    have kp := Kp.app m [cR x.lv.es[i]]
    have hb := kp.2 2 true _ h2
    have hll : l.es.length < 5000 := by rw [h4]; simp; omega
    obtain ⟨l', m1, m2, p1, p2, p3, p4, p5, p6⟩ := push (r := copyR x.lv.es[i]) hb (h3.app [cR x.lv.es[i]]) hll
    have kq := kp.trans (Kp.app (m ++ [cR x.lv.es[i]]) [some .resv])
    obtain ⟨m', l'', q1, q2, q3, q4, q5⟩ := ih (i + 1) m2 l' (by omega) (p6.2 1 true _ (by omega) (kp.2 1 true _ h1)) p4 p5 (by
      rw [p2]
      show l.es ++ _ = _
      rw [h4, List.take_succ_eq_append_getElem hil, List.map_append]; rfl)
    refine ⟨m', l'', q1, q2, q3, q4, ?_⟩
    have g2 := kq.2 2 true _ h2
    have gr : ((m ++ [cR x.lv.es[i]]) ++ [some Ent.resv])[m.length]? = some (cR x.lv.es[i]) := by
      rw [List.getElem?_append_left (by simp)]; exact get_last
    rw [L56_3_eq, n_lss, Option.bind_some, ifA_dec, if_pos hil, index_lv hx hil, Option.bind_some, load_row, Option.bind_some, new_z', new_r, st_last, Option.bind_some, fld2, Option.bind_some]
    rw [res1] at p1 ⊢
    rw [mld2 g2, Option.bind_some, rldA gr, Option.bind_some, pcR, hf, V67 hr, Option.map_some, Option.bind_some, build_row (copyR_fr _), Option.bind_some, p1, Option.bind_some, Option.bind_some, p3, Option.bind_some, i_add1 (by omega), Option.bind_some]
    exact q5
theorem V56 {x : MV} {k : Nat} (hx : LOk k x.lv) (hlen : x.lv.es.length < 4500) : ∃ y : MV, AP cfg 56 [x.av] = some y.av ∧ y.rows = x.rows ∧ y.cols = x.cols ∧ y.lv.es = x.lv.es.map copyR ∧ LOk k y.lv ∧ y.fr = y := by
  obtain ⟨m', l', q1, q2, q3, q4, q5⟩ := W56 hx hlen (K56_3 (finK cfg.P f56.results.toList)) x.lv.es.length 0 [cM x, cM zM, cM ⟨x.rows, x.cols, nilL⟩] nilL (by omega) rfl rfl (.inl rfl) rfl
  have hl1 : 1 < m'.length := by
    apply Classical.byContradiction
    intro hc
    rw [List.getElem?_eq_none (by omega)] at q1
    cases q1
  have hlo : LOk k l' := rowAt_lok q3 (by rw [q4]; intro r hr; obtain ⟨r', _, rfl⟩ := List.mem_map.1 hr; exact copyR_fr _) (by rw [q4]; intro r hr; obtain ⟨r', h', rfl⟩ := List.mem_map.1 hr; exact copyR_ok (hx.ok r' h'))
  refine ⟨⟨x.rows, x.cols, l'.fr⟩, AP_ofz _ _ (fz_mv ⟨x.rows, x.cols, l'⟩) (noV_mv _) (m := m'.set 1 (cM ⟨x.rows, x.cols, l'⟩)) ?_, rfl, rfl, q4, hlo.fr', by simp only [MV.fr, rowAt_fr q3]⟩
  have g0 : ([cM x] : Mem)[0]? = some (cM x) := rfl
  have e1 : ([cM x, cM zM] : Mem)[0]? = some (cM x) := rfl
  have e2 : ([cM x, cM zM, cM zM] : Mem)[2]? = some (cM zM) := rfl
  have e3 : ([cM x, cM zM, cM ⟨x.rows, x.cols, nilL⟩] : Mem)[0]? = some (cM x) := rfl
  rw [T56]
  simp only [Option.bind_some, box_mv, new_m, new_r, fld0, fld1, fld2, List.length_nil, List.nil_append, List.length_cons, List.cons_append, Nat.zero_add, Nat.reduceAdd]
  rw [mld0 e1, Option.bind_some, mld1 e1, Option.bind_some, bldM01, Option.bind_some, mstA e2, Option.bind_some]
  simp only [List.set_cons_succ, List.set_cons_zero]
  rw [mld2 e3, Option.bind_some, len_lv, Option.bind_some]
  refine q5.trans ?_
  rw [K56_3_x0, mldA q2, Option.bind_some, mstA q1, Option.bind_some, mldA (by rw [List.getElem?_set_self hl1])]
  rfl

/-! ### Make -/
end Go.Ab

/- What the interpreter does, function by function. -/
set_option maxRecDepth 100000
set_option linter.unusedVariables false
namespace Go.Ab
open Go.Proofs.Try
/-! ### sortilege/matrix.Add -/
/-! ### sortilege/matrix.Scale -/
/-! ### sortilege/matrix.Transpose -/
/-! ### sortilege/matrix.Same -/
/-! ### sortilege/matrix.Mul -/
theorem T41 (a0 a1 : AV) (m : Mem) : AC cfg 41 [a0, a1] m =
  (boxA none (some 3) m a0).bind fun r1 =>
  (boxA none (some 3) r1.2 a1).bind fun r2 =>
  (loadA (some 3) (newAt none r2.2 (.obj true [(.int .i64 0), (.int .i64 0), (.lst none true .full [])])).2 r1.1).bind fun v3 =>
  (pcall (AP cfg) none (newAt none r2.2 (.obj true [(.int .i64 0), (.int .i64 0), (.lst none true .full [])])).2 20 [v3]).bind fun r4 =>
  (unA .not r4.1).bind fun v5 =>
  ifA v5 (
  (buildA (.agg [(.int .i64 0), (.int .i64 0), (.lst none true .full [])]) []).bind fun v6 =>
  (storeA (some 3) r4.2 (.ptr (newAt none r2.2 .resv).1 0) v6).bind fun m7 =>
  (loadA (some 3) m7 (.ptr (newAt none r2.2 .resv).1 0)).bind fun v8 =>
  some ((.tup [v8, (.int .i64 1)]), m7)) (
  (loadA (some 3) r4.2 r2.1).bind fun v9 =>
  (pcall (AP cfg) none r4.2 20 [v9]).bind fun r10 =>
  (unA .not r10.1).bind fun v11 =>
  ifA v11 (
  (buildA (.agg [(.int .i64 0), (.int .i64 0), (.lst none true .full [])]) []).bind fun v12 =>
  (storeA (some 3) r10.2 (.ptr (newAt none r2.2 .resv).1 0) v12).bind fun m13 =>
  (loadA (some 3) m13 (.ptr (newAt none r2.2 .resv).1 0)).bind fun v14 =>
  some ((.tup [v14, (.int .i64 1)]), m13)) (
  (fieldAddrA 1 r1.1).bind fun v15 =>
  (loadA none r10.2 v15).bind fun v16 =>
  (fieldAddrA 0 r2.1).bind fun v17 =>
  (loadA none r10.2 v17).bind fun v18 =>
  (binA .other .neq v16 v18).bind fun v19 =>
  ifA v19 (
  (buildA (.agg [(.int .i64 0), (.int .i64 0), (.lst none true .full [])]) []).bind fun v20 =>
  (storeA (some 3) r10.2 (.ptr (newAt none r2.2 .resv).1 0) v20).bind fun m21 =>
  (loadA (some 3) m21 (.ptr (newAt none r2.2 .resv).1 0)).bind fun v22 =>
  some ((.tup [v22, (.int .i64 30)]), m21)) (
  (loadA (some 3) r10.2 r1.1).bind fun v23 =>
  (loadA (some 3) r10.2 r2.1).bind fun v24 =>
  (pcall (AP cfg) none r10.2 73 [v23, v24]).bind fun r25 =>
  (storeA (some 3) r25.2 (.ptr (newAt none r2.2 .resv).1 0) r25.1).bind fun m26 =>
  (loadA (some 3) m26 (.ptr (newAt none r2.2 .resv).1 0)).bind fun v27 =>
  some ((.tup [v27, (.int .i64 0)]), m26)))) :=
(AC_eq cfg 41 [a0, a1] m (fn := f41) (c := bodyOf f41) at41 rfl).trans (by kernel_rfl)
/-! ### sortilege/matrix.Zero$1 -/
/-! ### sortilege/matrix.Add$1 -/
/-! ### sortilege/matrix.Scale$1 -/
/-! ### sortilege/matrix.Transpose$1 -/
end Go.Ab

/- Matrices whose cells a function tells. -/
set_option linter.unusedVariables false
set_option linter.unusedSimpArgs false
set_option maxRecDepth 100000
namespace Go.Ab
open Go.Proofs.Try

theorem pcM {m : Mem} {d : Option Nat} {g : Nat} (x : MV) : pcall (AP cfg) d m g [x.av] = (AP cfg g [x.fr.av]).map fun v => (v, m) := pcall1 (fz_mv x)
theorem pcII {m : Mem} {d : Option Nat} {g : Nat} (k k' : IntKind) (a b : Int) : pcall (AP cfg) d m g [.int k a, .int k' b] = (AP cfg g [.int k a, .int k' b]).map fun v => (v, m) := pcall2 (fz_int k a) (fz_int k' b)

/-! ### sized -/
def sizeE (a b : Int) : Int := if a < 0 ∨ b < 0 then 1 else if a > 60 ∨ b > 60 then 2 else 0
theorem V57 (a b : Int) : AP cfg 57 [.int .i64 a, .int .i64 b] = some (.int .i64 (sizeE a b)) := by
  refine AP_ofz _ _ (fz_int _ _) rfl (m := []) ?_
  rw [T57, binA_lss, Option.bind_some, ifA_dec]
  unfold sizeE
  by_cases c1 : a < 0
  · rw [if_pos c1, if_pos (.inl c1)]
  · rw [if_neg c1, binA_lss, Option.bind_some, ifA_dec]
    by_cases c2 : b < 0
    · rw [if_pos c2, if_pos (.inr c2)]
    · rw [if_neg c2, if_neg (fun h => h.elim c1 c2), binA_gtr, Option.bind_some, ifA_dec]
      by_cases c3 : a > 60
      · rw [if_pos c3, if_pos (.inl c3)]
      · rw [if_neg c3, binA_gtr, Option.bind_some, ifA_dec]
        by_cases c4 : b > 60
        · rw [if_pos c4, if_pos (.inr c4)]
        · rw [if_neg c4, if_neg (fun h => h.elim c3 c4)]

/-! ### filled -/
def rowF (F : Nat → Nat → RV) (cols i : Nat) : List RV := (List.range cols).map (F i)
def cellsF (F : Nat → Nat → RV) (cols : Nat) : Nat → List RV
  | 0 => []
  | i + 1 => cellsF F cols i ++ rowF F cols i
theorem cellsF_length (F : Nat → Nat → RV) (cols : Nat) : ∀ i, (cellsF F cols i).length = i * cols
  | 0 => by simp [cellsF]
  | i + 1 => by simp [cellsF, rowF, cellsF_length F cols i, Nat.succ_mul]
theorem cellsF_mem {F : Nat → Nat → RV} {cols : Nat} {r : RV} : ∀ {i : Nat}, r ∈ cellsF F cols i → ∃ a b, a < i ∧ b < cols ∧ r = F a b
  | 0, h => by simp [cellsF] at h
  | i + 1, h => by
    simp only [cellsF, List.mem_append] at h
    rcases h with h | h
    · obtain ⟨a, b, h1, h2, h3⟩ := cellsF_mem h
      exact ⟨a, b, by omega, h2, h3⟩
    · simp only [rowF, List.mem_map, List.mem_range] at h
      obtain ⟨b, hb, rfl⟩ := h
      exact ⟨i, b, by omega, hb, rfl⟩
theorem callK_p {fid g : Nat} {vs : List AV} {m : Mem} {d : Option Nat} {K : AV → Mem → Option (AV × Mem)} (hi : cfg.inl fid g = false) (hl : cfg.lib g = none) : callK cfg fid (AP cfg) (AC cfg) d g vs m K = (pcall (AP cfg) d m g vs).bind fun r => K r.1 r.2 := by
  unfold callK
  rw [hl]
  simp only []
  rw [hi]
structure FillOk (g : Nat) (cs : List AV) (F : Nat → Nat → RV) (rows cols k : Nat) : Prop where
  inl : cfg.inl 58 g = false
  lib : cfg.lib g = none
  csz : ∀ m, mapF (frz m fuelF) cs = some (cs, [])
  call : ∀ i j : Nat, i < rows → j < cols → AP cfg g ([.int .i64 i, .int .i64 j] ++ cs) = some (F i j).av
  fr : ∀ i j : Nat, i < rows → j < cols → (F i j).fr = F i j
  ok : ∀ i j : Nat, i < rows → j < cols → ROk k (F i j)
theorem pc_fill {g : Nat} {cs : List AV} {F : Nat → Nat → RV} {rows cols k : Nat} (h : FillOk g cs F rows cols k) {i j : Nat} (hi : i < rows) (hj : j < cols) {m : Mem} {d : Option Nat} : pcall (AP cfg) d m g ([.int .i64 i, .int .i64 j] ++ cs) = some ((F i j).av, m) := by
  have e : mapF (frz m fuelF) ([.int .i64 i, .int .i64 j] ++ cs) = some ([.int .i64 i, .int .i64 j] ++ cs, []) := by
    have h1 := h.csz m
    have f1 : ∀ n : Int, frz m fuelF (.int .i64 n) = some (.int .i64 n, []) := fun _ => rfl
    simp [mapF, h1, f1]
  unfold pcall
  rw [e]
  have hc := h.call i j hi hj
  simp only [List.cons_append, List.nil_append] at hc
  simp [hc, kill]
theorem W58_6 {g : Nat} {cs : List AV} {F : Nat → Nat → RV} {rows cols k : Nat} (h : FillOk g cs F rows cols k) (hr : rows ≤ 60) (hc : cols ≤ 60) (K : Ex → St → Option (AV × Mem)) {i : Nat} (hi : i < rows) (x13 x14 : AV) : ∀ (j c : Nat) (m : Mem) (l : LV), c + j = cols → m[0]? = some (cM zM) → m[1]? = some (cM ⟨rows, cols, l⟩) → RowAt m l → l.es = cellsF F cols i ++ (List.range c).map (F i) →
    ∃ m' l', m'[0]? = some (cM zM) ∧ m'[1]? = some (cM ⟨rows, cols, l'⟩) ∧ RowAt m' l' ∧ l'.es = cellsF F cols (i + 1) ∧ L58_6 (.int .i64 cols) (.fn g cs) (.ptr 0 0) (.ptr 1 0) (.int .i64 i) x13 x14 (.int .i64 cols) (.int .i64 c) m K = K (.exit 2) (O58_6 (.int .i64 cols) (.fn g cs) (.ptr 0 0) (.ptr 1 0) x13 x14 m') := by
  intro j
  induction j with
  | zero =>
    intro c m l hcj h1 h2 h3 h4
    have : c = cols := by omega
    subst this
    refine ⟨m, l, h1, h2, h3, h4, ?_⟩
    rw [L58_6_eq, n_lss, Option.bind_some, ifA_dec, if_neg (by omega)]
  | succ j ih =>
    intro c m l hcj h1 h2 h3 h4
    have hcl : c < cols := by omega
    have hle : i * cols ≤ 60 * 60 := Nat.mul_le_mul (by omega) hc
    have hll : l.es.length < 5000 := by rw [h4, List.length_append, cellsF_length, List.length_map, List.length_range]; omega
    obtain ⟨l', m1, m2, p1, p2, p3, p4, p5, p6⟩ := push (r := F i c) h2 h3 hll
    obtain ⟨m', l'', q1, q2, q3, q4, q5⟩ := ih (c + 1) m2 l' (by omega) (p6.2 0 true _ (by omega) h1) p4 p5 (by
      rw [p2]
      show l.es ++ _ = _
      rw [h4, List.range_succ, List.map_append, List.append_assoc]; rfl)
    refine ⟨m', l'', q1, q2, q3, q4, ?_⟩
    have g2 := (Kp.app m [some .resv]).2 1 true _ h2
    rw [L58_6_eq, n_lss, Option.bind_some, ifA_dec, if_pos hcl, fld2, Option.bind_some]
    have hfn : fnOf (.fn g cs) = some (g, cs) := rfl
    have p1' := p1
    rw [res1] at p1' ⊢
    rw [mld2 g2, Option.bind_some, hfn, Option.bind_some, callK_p h.inl h.lib, pc_fill h hi hcl, Option.bind_some, build_row (h.fr i c hi hcl), Option.bind_some, p1', Option.bind_some, Option.bind_some, p3, Option.bind_some, i_add1 (by omega), Option.bind_some]
    exact q5
theorem W58_3 {g : Nat} {cs : List AV} {F : Nat → Nat → RV} {rows cols k : Nat} (h : FillOk g cs F rows cols k) (hr : rows ≤ 60) (hc : cols ≤ 60) (K : Ex → St → Option (AV × Mem)) : ∀ (j i : Nat) (m : Mem) (l : LV), i + j = rows → m[0]? = some (cM zM) → m[1]? = some (cM ⟨rows, cols, l⟩) → RowAt m l → l.es = cellsF F cols i →
    ∃ m' l', m'[0]? = some (cM zM) ∧ m'[1]? = some (cM ⟨rows, cols, l'⟩) ∧ RowAt m' l' ∧ l'.es = cellsF F cols rows ∧ L58_3 (.int .i64 cols) (.fn g cs) (.ptr 0 0) (.ptr 1 0) (.int .i64 rows) (.int .i64 i) m K = K (.exit 0) (O58_3 (.ptr 0 0) (.ptr 1 0) m') := by
  intro j
  induction j with
  | zero =>
    intro i m l hij h1 h2 h3 h4
    have : i = rows := by omega
    subst this
    refine ⟨m, l, h1, h2, h3, h4, ?_⟩
    rw [L58_3_eq, n_lss, Option.bind_some, ifA_dec, if_neg (by omega)]
  | succ j ih =>
    intro i m l hij h1 h2 h3 h4
    have hil : i < rows := by omega
    obtain ⟨m1, l1, a1, a2, a3, a4, a5⟩ := W58_6 h hr hc (K58_6 K) hil (.int .i64 rows) (.int .i64 i) cols 0 m l (by omega) h1 h2 h3 (by rw [h4]; simp)
    obtain ⟨m', l', q1, q2, q3, q4, q5⟩ := ih (i + 1) m1 l1 (by omega) a1 a2 a3 a4
    refine ⟨m', l', q1, q2, q3, q4, ?_⟩
    rw [L58_3_eq, n_lss, Option.bind_some, ifA_dec, if_pos hil]
    refine Eq.trans ?_ (a5.trans ?_)
    · rfl
    rw [K58_6_x2, i_add1 (by omega), Option.bind_some]
    exact q5
theorem V58 {g : Nat} {cs : List AV} {F : Nat → Nat → RV} {rows cols k : Nat} (h : FillOk g cs F rows cols k) (hr : rows ≤ 60) (hc : cols ≤ 60) : ∃ y : MV, AP cfg 58 [.int .i64 rows, .int .i64 cols, .fn g cs] = some y.av ∧ y.rows = rows ∧ y.cols = cols ∧ y.lv.es = cellsF F cols rows ∧ LOk k y.lv ∧ y.fr = y := by
  obtain ⟨m', l', q1, q2, q3, q4, q5⟩ := W58_3 h hr hc (K58_3 (finK cfg.P f58.results.toList)) rows 0 [cM zM, cM ⟨rows, cols, nilL⟩] nilL (by omega) rfl rfl (.inl rfl) rfl
  have hl1 : 0 < m'.length := by
    apply Classical.byContradiction
    intro hcc
    rw [List.getElem?_eq_none (by omega)] at q1
    cases q1
  have hlo : LOk k l' := rowAt_lok q3 (by rw [q4]; intro r hr; obtain ⟨a, b, h1, h2, rfl⟩ := cellsF_mem hr; exact h.fr a b h1 h2) (by rw [q4]; intro r hr; obtain ⟨a, b, h1, h2, rfl⟩ := cellsF_mem hr; exact h.ok a b h1 h2)
  refine ⟨⟨rows, cols, l'.fr⟩, AP_ofz _ _ (fz_mv ⟨rows, cols, l'⟩) (noV_mv _) (m := m'.set 0 (cM ⟨rows, cols, l'⟩)) ?_, rfl, rfl, q4, hlo.fr', by simp only [MV.fr, rowAt_fr q3]⟩
  have e2 : ([cM zM, cM zM] : Mem)[1]? = some (cM zM) := rfl
  rw [T58, bldM01, Option.bind_some]
  simp only [new_m, new_r, List.length_nil, List.nil_append, List.length_cons, List.cons_append, Nat.zero_add]
  rw [mstA e2, Option.bind_some]
  simp only [List.set_cons_succ, List.set_cons_zero]
  refine q5.trans ?_
  rw [K58_3_x0, mldA q2, Option.bind_some, mstA q1, Option.bind_some, mldA (by rw [List.getElem?_set_self hl1])]
  rfl

/-! ### Zero, Identity -/
def unitR (a b : Nat) : RV := if a = b then oneR else zeroR
theorem unitR_fr (a b : Nat) : (unitR a b).fr = unitR a b := by unfold unitR; split <;> rfl
theorem V62 (a b : Nat) : AP cfg 62 [.int .i64 a, .int .i64 b] = some (unitR a b).av := by
  unfold unitR
  by_cases h : a = b
  · rw [if_pos h]
    refine AP_ofz _ _ (fz_rv oneR) (noV_rv _) (m := [cR oneR]) ?_
    rw [T62, n_eql, Option.bind_some, ifA_dec, if_pos h]
    simp only [new_z', new_r, List.length_nil, List.nil_append]
    rw [pc0, V84, Option.map_some, Option.bind_some, rstA (x := zR) rfl, Option.bind_some]
    simp only [List.set_cons_zero]
    rw [rldA (x := oneR) rfl]
    rfl
  · rw [if_neg h]
    refine AP_ofz _ _ (fz_rv zeroR) (noV_rv _) (m := [cR zeroR]) ?_
    rw [T62, n_eql, Option.bind_some, ifA_dec, if_neg h]
    simp only [new_z', new_r, List.length_nil, List.nil_append]
    rw [pc0, V60, Option.map_some, Option.bind_some, rstA (x := zR) rfl, Option.bind_some]
    simp only [List.set_cons_zero]
    rw [rldA (x := zeroR) rfl]
    rfl
theorem zeroR_ok : ROk 1 zeroR := can_zero.ok (Bd_zero (by omega)) (by omega)
theorem oneR_ok : ROk 1 oneR := can_one.ok (Bd_one (by omega)) (by omega)
theorem fill62 (rows cols : Nat) : FillOk 62 [] unitR rows cols 1 := ⟨rfl, rfl, fun _ => rfl, fun i j _ _ => V62 i j, fun i j _ _ => unitR_fr i j, fun i j _ _ => by unfold unitR; split <;> first | exact oneR_ok | exact zeroR_ok⟩
theorem fz_fn0 (g : Nat) : Fz (.fn g []) (.fn g []) := fun _ => rfl
theorem zM_ok (k : Nat) : LOk k zM.lv := ⟨.inr rfl, fun _ => rfl, by simp [zM, nilL], by simp [zM, nilL]⟩
theorem V18 (a : Int) : ∃ y : MV, AP cfg 18 [.int .i64 a] = some (.tup [y.av, .int .i64 (sizeE a a)]) ∧ y.fr = y ∧ LOk 1 y.lv ∧
    ((sizeE a a ≠ 0 ∧ y = zM) ∨ (sizeE a a = 0 ∧ y.rows = a ∧ y.cols = a ∧ y.lv.es = cellsF unitR a.toNat a.toNat)) := by
  by_cases h0 : sizeE a a = 0
  · have hb : 0 ≤ a ∧ a ≤ 60 := by unfold sizeE at h0; (repeat' split at h0) <;> omega
    obtain ⟨x, rfl⟩ := Int.eq_ofNat_of_zero_le hb.1
    obtain ⟨y, f1, f2, f3, f4, f5, f6⟩ := V58 (fill62 x x) (by omega) (by omega)
    refine ⟨y, (AP_ofz _ _ (fz_tupM2 y (fza_int _ _)) rfl (m := [cM y]) ?_).trans (by rw [f6]), f6, f5, .inr ⟨h0, f2, f3, f4⟩⟩
    rw [T18]
    simp only [new_m, new_r, List.length_nil, List.nil_append]
    rw [pcII, V57, Option.map_some, Option.bind_some, binA_neq, Option.bind_some, ifA_dec, if_neg (fun hn => hn h0), pcall3 (fz_int _ _) (fz_int _ _) (fz_fn0 62), f1, Option.map_some, Option.bind_some, mstA (x := zM) rfl, Option.bind_some]
    simp only [List.set_cons_zero]
    rw [mldA (x := y) rfl, h0]
    rfl
  · refine ⟨zM, AP_ofz _ _ (fz_tupM2 zM (fza_int _ _)) rfl (m := [cM zM]) ?_, rfl, zM_ok 1, .inl ⟨h0, rfl⟩⟩
    rw [T18]
    simp only [new_m, new_r, List.length_nil, List.nil_append]
    rw [pcII, V57, Option.map_some, Option.bind_some, binA_neq, Option.bind_some, ifA_dec, if_pos h0, bldM, Option.bind_some, mstA (x := zM) rfl, Option.bind_some]
    simp only [List.set_cons_zero]
    rw [mldA (x := zM) rfl]
    rfl
end Go.Ab

/- The reference's Make, Zero and Identity, in values. -/
set_option linter.unusedVariables false
set_option linter.unusedSimpArgs false
set_option maxRecDepth 100000
namespace Go.Ab
open Go.Proofs.Try

/-! ### A row of fractions that is written to -/
/-! ### zeros -/
theorem zeroF_ok : ROk 1 zeroF := canF_zero.ok (Bd_zero (by omega)) (by omega)
theorem oneF_ok : ROk 1 oneF := canF_one.ok (Bd_one (by omega)) (by omega)
theorem n_mul60 {a b : Nat} (h2 : a ≤ 60) (h4 : b ≤ 60) : binA .other .mul (.int .i64 a) (.int .i64 b) = some (.int .i64 (a * b : Nat)) := by
  rw [i_mul60 (by omega) (by omega) (by omega) (by omega), Int.natCast_mul]
/-! ### one -/
end Go.Ab

/- What the interpreter does, function by function. -/
set_option maxRecDepth 100000
set_option linter.unusedVariables false
namespace Go.Ab
open Go.Proofs.Try
/-! ### sortilege/sortilegelaw19.MatrixLong -/
/-! ### sortilege/sortilegelaw19.MatrixExpands -/

/-! ### sortilege/sortilegelaw19.MatrixSolves -/

/-! ### sortilege/sortilegelaw19.few -/
def O13_3 (x1 x2 x4 x5 : AV) (m : Mem) : St := ⟨[.any, x1, x2, .any, x4, x5, .any, .any, .any, .any, .any, .any, .any, .any, .any, .any, .any, .any, .any, .any, .any, .any, .any, .any, .any, .any, .any, .any, .any, .any, .any, .any, .any, .any, .any, .any, .any, .any, .any, .any, .any, .any, .any, .any, .any, .any, .any, .any, .any, .any, .any, .any, .any, .any, .any, .any, .any, .any, .any, .any, .any, .any, .any, .any, .any, .any, .any, .any, .any, .any, .any, .any, .any, .any, .any, .any, .any, .any, .any, .any, .any, .any, .any, .any, .any, .any, .any, .any, .any, .any, .any, .any], m⟩
noncomputable def L13_3 (x1 x2 x4 x5 x21 x22 x23 : AV) (m : Mem) (K : Ex → St → Option (AV × Mem)) : Option (AV × Mem) := loopW (execW cfg 13 (AP cfg) (AC cfg) (c1 (c1 (c2 (c1 (c2 (c2 (bodyOf f13)))))))) (cfg.mask 13 (some 3)) ⟨[.any, x1, x2, .any, x4, x5, .any, .any, .any, .any, .any, .any, .any, .any, .any, .any, .any, .any, .any, .any, .any, x21, x22, x23, .any, .any, .any, .any, .any, .any, .any, .any, .any, .any, .any, .any, .any, .any, .any, .any, .any, .any, .any, .any, .any, .any, .any, .any, .any, .any, .any, .any, .any, .any, .any, .any, .any, .any, .any, .any, .any, .any, .any, .any, .any, .any, .any, .any, .any, .any, .any, .any, .any, .any, .any, .any, .any, .any, .any, .any, .any, .any, .any, .any, .any, .any, .any, .any, .any, .any, .any, .any], m⟩ K
def O13_11 (x4 x8 : AV) (m : Mem) : St := ⟨[.any, .any, .any, .any, x4, .any, .any, .any, x8, .any, .any, .any, .any, .any, .any, .any, .any, .any, .any, .any, .any, .any, .any, .any, .any, .any, .any, .any, .any, .any, .any, .any, .any, .any, .any, .any, .any, .any, .any, .any, .any, .any, .any, .any, .any, .any, .any, .any, .any, .any, .any, .any, .any, .any, .any, .any, .any, .any, .any, .any, .any, .any, .any, .any, .any, .any, .any, .any, .any, .any, .any, .any, .any, .any, .any, .any, .any, .any, .any, .any, .any, .any, .any, .any, .any, .any, .any, .any, .any, .any, .any, .any], m⟩
noncomputable def L13_11 (x2 x4 x5 x8 x9 : AV) (m : Mem) (K : Ex → St → Option (AV × Mem)) : Option (AV × Mem) := loopW (execW cfg 13 (AP cfg) (AC cfg) (c1 (c1 (c2 (c1 (c2 (c2 (c2 (c2 (c2 (bodyOf f13))))))))))) (cfg.mask 13 (some 11)) ⟨[.any, .any, x2, .any, x4, x5, .any, .any, x8, x9, .any, .any, .any, .any, .any, .any, .any, .any, .any, .any, .any, .any, .any, .any, .any, .any, .any, .any, .any, .any, .any, .any, .any, .any, .any, .any, .any, .any, .any, .any, .any, .any, .any, .any, .any, .any, .any, .any, .any, .any, .any, .any, .any, .any, .any, .any, .any, .any, .any, .any, .any, .any, .any, .any, .any, .any, .any, .any, .any, .any, .any, .any, .any, .any, .any, .any, .any, .any, .any, .any, .any, .any, .any, .any, .any, .any, .any, .any, .any, .any, .any, .any], m⟩ K
noncomputable abbrev K13_3_0 (K : Ex → St → Option (AV × Mem)) : Ex → St → Option (AV × Mem) := seqK (fun st => execW cfg 13 (AP cfg) (AC cfg) (c2 (c2 (c2 (bodyOf f13)))) st K) K
noncomputable abbrev K13_3_1 (K : Ex → St → Option (AV × Mem)) : Ex → St → Option (AV × Mem) := blockK 0 (K13_3_0 K)
noncomputable abbrev K13_3 (K : Ex → St → Option (AV × Mem)) : Ex → St → Option (AV × Mem) := (K13_3_1 K)
noncomputable abbrev K13_11_0 (K : Ex → St → Option (AV × Mem)) : Ex → St → Option (AV × Mem) := seqK (fun st => execW cfg 13 (AP cfg) (AC cfg) (c2 (c2 (c2 (c2 (c2 (c2 (bodyOf f13))))))) st K) K
noncomputable abbrev K13_11_1 (K : Ex → St → Option (AV × Mem)) : Ex → St → Option (AV × Mem) := blockK 2 (K13_11_0 K)
noncomputable abbrev K13_11 (K : Ex → St → Option (AV × Mem)) : Ex → St → Option (AV × Mem) := (K13_11_1 K)
theorem T13 (a0 a1 : AV) (m : Mem) : AC cfg 13 [a0, a1] m =
  (boxA none (some 3) m a0).bind fun r1 =>
  (fieldAddrA 0 r1.1).bind fun v2 =>
  (loadA none (newAt none r1.2 (.obj true [(.int .i64 0), (.int .i64 0), (.lst none true .full [])])).2 v2).bind fun v3 =>
  (fieldAddrA 1 r1.1).bind fun v4 =>
  (loadA none (newAt none r1.2 (.obj true [(.int .i64 0), (.int .i64 0), (.lst none true .full [])])).2 v4).bind fun v5 =>
  (buildA (.agg [(.int .i64 0), (.int .i64 0), (.lst none true .full [])]) [(0, none, v3), (1, none, v5)]).bind fun v6 =>
  (storeA (some 3) (newAt none (newAt none r1.2 (.obj true [(.int .i64 0), (.int .i64 0), (.lst none true .full [])])).2 (.obj true [(.int .i64 0), (.int .i64 0), (.lst none true .full [])])).2 (.ptr (newAt none (newAt none r1.2 (.obj true [(.int .i64 0), (.int .i64 0), (.lst none true .full [])])).2 .resv).1 0) v6).bind fun m7 =>
  (fieldAddrA 2 r1.1).bind fun v8 =>
  (loadA none m7 v8).bind fun v9 =>
  (fieldAddrA 2 r1.1).bind fun v10 =>
  (loadA none m7 v10).bind fun v11 =>
  (lenA false v11).bind fun v12 =>
  (maxA false v12 (.int .i64 4000)).bind fun v13 =>
  (sliceT (some 3) v9 none (some v13) none).bind fun v14 =>
  (lenA false v14).bind fun v15 =>
  L13_3 a1 r1.1 (.ptr (newAt none r1.2 .resv).1 0) (.ptr (newAt none (newAt none r1.2 (.obj true [(.int .i64 0), (.int .i64 0), (.lst none true .full [])])).2 .resv).1 0) v14 v15 (.int .i64 0) m7 (K13_3 (finK cfg.P f13.results.toList)) :=
(AC_eq cfg 13 [a0, a1] m (fn := f13) (c := bodyOf f13) at13 rfl).trans (by kernel_rfl)
theorem L13_3_eq (x1 x2 x4 x5 x21 x22 x23 : AV) (m : Mem) (K : Ex → St → Option (AV × Mem)) : L13_3 x1 x2 x4 x5 x21 x22 x23 m K =
  (binA .other .lss x23 x22).bind fun v1 =>
  ifA v1 (
  (indexAddrA (some 3) x21 x23).bind fun v2 =>
  (loadA (some 3) m v2).bind fun v3 =>
  (storeA (some 3) (newAt none m (.obj true [(.bool false), (.lst none true .full []), (.lst none true .full [])])).2 (.ptr (newAt none m .resv).1 0) v3).bind fun m4 =>
  (fieldAddrA 2 x5).bind fun v5 =>
  (loadA none (reserve m4 1) v5).bind fun v6 =>
  (fieldAddrA 0 (.ptr (newAt none m .resv).1 0)).bind fun v7 =>
  (loadA none (reserve m4 1) v7).bind fun v8 =>
  (fieldAddrA 1 (.ptr (newAt none m .resv).1 0)).bind fun v9 =>
  (loadA none (reserve m4 1) v9).bind fun v10 =>
  (pcall (AP cfg) (some m4.length) (reserve m4 1) 32 [v10, (.int .i64 3)]).bind fun r11 =>
  (fieldAddrA 2 (.ptr (newAt none m .resv).1 0)).bind fun v12 =>
  (loadA none r11.2 v12).bind fun v13 =>
  (pcall (AP cfg) (some m4.length) r11.2 32 [v13, (.int .i64 3)]).bind fun r14 =>
  (buildA (.agg [(.bool false), (.lst none true .full []), (.lst none true .full [])]) [(0, none, v8), (1, none, r11.1), (2, none, r14.1)]).bind fun v15 =>
  (buildSliceA (some 3) [v15]).bind fun v16 =>
  (appA (some m4.length) false 43 (some 3) 56 r14.2 v6 v16).bind fun r17 =>
  (fieldAddrA 2 x5).bind fun v18 =>
  (storeA none r17.2 v18 r17.1).bind fun m19 =>
  (binA .other .add x23 (.int .i64 1)).bind fun v20 =>
  L13_3 x1 x2 x4 x5 x21 x22 v20 m19 K) (
  K (.exit 0) (O13_3 x1 x2 x4 x5 m)) :=
(loopW_eq (execW_lin _) _ _ _).trans (by kernel_rfl)
theorem L13_11_eq (x2 x4 x5 x8 x9 : AV) (m : Mem) (K : Ex → St → Option (AV × Mem)) : L13_11 x2 x4 x5 x8 x9 m K =
  (fieldAddrA 0 x8).bind fun v1 =>
  (loadA none m v1).bind fun v2 =>
  (binA .other .lss x9 v2).bind fun v3 =>
  ifA v3 (
  (fieldAddrA 2 x8).bind fun v4 =>
  (loadA none (reserve m 1) v4).bind fun v5 =>
  (fieldAddrA 2 x5).bind fun v6 =>
  (loadA none (reserve m 1) v6).bind fun v7 =>
  (fieldAddrA 1 x2).bind fun v8 =>
  (loadA none (reserve m 1) v8).bind fun v9 =>
  (binA .other .mul x9 v9).bind fun v10 =>
  (fieldAddrA 1 x2).bind fun v11 =>
  (loadA none (reserve m 1) v11).bind fun v12 =>
  (binA .other .mul x9 v12).bind fun v13 =>
  (fieldAddrA 1 x8).bind fun v14 =>
  (loadA none (reserve m 1) v14).bind fun v15 =>
  (binA .other .add v13 v15).bind fun v16 =>
  (sliceT (some 3) v7 (some v10) (some v16) none).bind fun v17 =>
  (appA (some m.length) false 43 (some 3) 56 (reserve m 1) v5 v17).bind fun r18 =>
  (fieldAddrA 2 x8).bind fun v19 =>
  (storeA none r18.2 v19 r18.1).bind fun m20 =>
  (binA .other .add x9 (.int .i64 1)).bind fun v21 =>
  L13_11 x2 x4 x5 x8 v21 m20 K) (
  K (.exit 2) (O13_11 x4 x8 m)) :=
(loopW_eq (execW_lin _) _ _ _).trans (by kernel_rfl)
theorem K13_3_x0 (x1 x2 x4 x5 : AV) (m : Mem) : K13_3 (finK cfg.P f13.results.toList) (.exit 0) (O13_3 x1 x2 x4 x5 m) =
  (loadA (some 3) m x5).bind fun v1 =>
  (pcall (AP cfg) none m 21 [v1]).bind fun r2 =>
  (unA .not r2.1).bind fun v3 =>
  ifA v3 (
  (loadA (some 3) r2.2 x5).bind fun v4 =>
  (storeA (some 3) r2.2 x4 v4).bind fun m5 =>
  (loadA (some 3) m5 x4).bind fun v6 =>
  some (v6, m5)) (
  (fieldAddrA 0 x2).bind fun v7 =>
  (loadA none r2.2 v7).bind fun v8 =>
  (binA .other .leq v8 x1).bind fun v9 =>
  ifA v9 (
  (fieldAddrA 1 x2).bind fun v10 =>
  (loadA none r2.2 v10).bind fun v11 =>
  (binA .other .leq v11 x1).bind fun v12 =>
  ifA v12 (
  (loadA (some 3) r2.2 x5).bind fun v13 =>
  (storeA (some 3) r2.2 x4 v13).bind fun m14 =>
  (loadA (some 3) m14 x4).bind fun v15 =>
  some (v15, m14)) (
  (fieldAddrA 0 x2).bind fun v16 =>
  (loadA none r2.2 v16).bind fun v17 =>
  (maxA false v17 x1).bind fun v18 =>
  (fieldAddrA 1 x2).bind fun v19 =>
  (loadA none r2.2 v19).bind fun v20 =>
  (maxA false v20 x1).bind fun v21 =>
  (buildA (.agg [(.int .i64 0), (.int .i64 0), (.lst none true .full [])]) [(0, none, v18), (1, none, v21)]).bind fun v22 =>
  (storeA (some 3) (newAt none r2.2 (.obj true [(.int .i64 0), (.int .i64 0), (.lst none true .full [])])).2 (.ptr (newAt none r2.2 .resv).1 0) v22).bind fun m23 =>
  L13_11 x2 x4 x5 (.ptr (newAt none r2.2 .resv).1 0) (.int .i64 0) m23 (K13_11 (finK cfg.P f13.results.toList)))) (
  (fieldAddrA 0 x2).bind fun v24 =>
  (loadA none r2.2 v24).bind fun v25 =>
  (maxA false v25 x1).bind fun v26 =>
  (fieldAddrA 1 x2).bind fun v27 =>
  (loadA none r2.2 v27).bind fun v28 =>
  (maxA false v28 x1).bind fun v29 =>
  (buildA (.agg [(.int .i64 0), (.int .i64 0), (.lst none true .full [])]) [(0, none, v26), (1, none, v29)]).bind fun v30 =>
  (storeA (some 3) (newAt none r2.2 (.obj true [(.int .i64 0), (.int .i64 0), (.lst none true .full [])])).2 (.ptr (newAt none r2.2 .resv).1 0) v30).bind fun m31 =>
  L13_11 x2 x4 x5 (.ptr (newAt none r2.2 .resv).1 0) (.int .i64 0) m31 (K13_11 (finK cfg.P f13.results.toList)))) := by kernel_rfl
theorem K13_11_x2 (x4 x8 : AV) (m : Mem) : K13_11 (finK cfg.P f13.results.toList) (.exit 2) (O13_11 x4 x8 m) =
  (loadA (some 3) m x8).bind fun v1 =>
  (storeA (some 3) m x4 v1).bind fun m2 =>
  (loadA (some 3) m2 x4).bind fun v3 =>
  some (v3, m2) := by kernel_rfl
/-! ### sortilege/sortilegelaw19.same -/
/-! ### sortilege/sortilegelaw19.alive -/
theorem T26 (m : Mem) : AC cfg 26 [] m =
  (pcall (AP cfg) none m 18 [(.int .i64 2)]).bind fun r1 =>
  (extractA r1.1 0).bind fun v2 =>
  (extractA r1.1 1).bind fun v3 =>
  (storeA (some 3) (newAt none r1.2 (.obj true [(.int .i64 0), (.int .i64 0), (.lst none true .full [])])).2 (.ptr (newAt none r1.2 .resv).1 0) v2).bind fun m4 =>
  (binA .other .eql v3 (.int .i64 0)).bind fun v5 =>
  ifA v5 (
  (fieldAddrA 0 (.ptr (newAt none r1.2 .resv).1 0)).bind fun v6 =>
  (loadA none m4 v6).bind fun v7 =>
  (binA .other .eql v7 (.int .i64 2)).bind fun v8 =>
  ifA v8 (
  (fieldAddrA 2 (.ptr (newAt none r1.2 .resv).1 0)).bind fun v9 =>
  (loadA none m4 v9).bind fun v10 =>
  (lenA false v10).bind fun v11 =>
  (binA .other .eql v11 (.int .i64 4)).bind fun v12 =>
  some (v12, m4)) (
  some ((.bool false), m4))) (
  some ((.bool false), m4)) :=
(AC_eq cfg 26 [] m (fn := f26) (c := bodyOf f26) at26 rfl).trans (by kernel_rfl)
/-! ### sortilege/sortilegelaw19.nat -/
theorem T32 (a0 a1 : AV) (m : Mem) : AC cfg 32 [a0, a1] m =
  (lenA false a0).bind fun v1 =>
  (maxA false v1 a1).bind fun v2 =>
  (sliceT none a0 none (some v2) none).bind fun v3 =>
  some (v3, m) :=
(AC_eq cfg 32 [a0, a1] m (fn := f32) (c := bodyOf f32) at32 rfl).trans (by kernel_rfl)
/-! ### sortilege/sortilegelaw19.square -/
end Go.Ab

/- At, Make, Zero, Identity; the law's own helpers, in values. -/
set_option linter.unusedVariables false
set_option linter.unusedSimpArgs false
set_option maxRecDepth 100000
namespace Go.Ab
open Go.Proofs.Try

/-! ### The reference's Make -/
/-! ### The reference's Zero and Identity -/
/-! ### same, alive -/
theorem V26 : AP cfg 26 [] = some (.bool true) := by
  obtain ⟨y, f1, f2, f3, f4⟩ := V18 2
  have h0 : sizeE 2 2 = 0 := rfl
  rcases f4 with ⟨h, _⟩ | ⟨_, h1, h2, h3⟩
  · exact absurd h0 h
  have hl : y.lv.es.length = 4 := by rw [h3, cellsF_length]; rfl
  have g0 : ([cM y] : Mem)[0]? = some (cM y) := rfl
  have q1 : binA .other .eql (.int .i64 (4 : Nat)) (.int .i64 4) = some (.bool true) := rfl
  refine AP_ofz _ _ (fz_bool _) rfl (m := [cM y]) ?_
  rw [h0] at f1
  rw [T26, pcI, f1, Option.map_some, Option.bind_some, ex0, Option.bind_some, ex1, Option.bind_some]
  simp only [new_m, new_r, List.length_nil, List.nil_append]
  rw [mstA (x := zM) rfl, Option.bind_some]
  simp only [List.set_cons_zero]
  rw [binA_eql, Option.bind_some, ifA_dec, if_pos rfl, fld0, Option.bind_some, mld0 g0, Option.bind_some, h1, binA_eql, Option.bind_some, ifA_dec, if_pos rfl, fld2, Option.bind_some, mld2 g0, Option.bind_some, len_lv, Option.bind_some, hl, q1]
  rfl

/-! ### At (24) -/
/-! ### At (25) -/
end Go.Ab

/- Inputs cut to size, in values. -/
set_option linter.unusedVariables false
set_option linter.unusedSimpArgs false
set_option maxRecDepth 100000
namespace Go.Ab
open Go.Proofs.Try

/-! ### nat -/
def cutN (x : NV) : NV := ⟨x.z, .no, x.ds.take 3⟩
theorem min_int (a b : Nat) : maxA false (.int .i64 a) (.int .i64 b) = some (.int .i64 (min a b : Nat)) := by
  show some (AV.int .i64 (if (b : Int) < (a : Int) then (b : Int) else (a : Int))) = _
  by_cases h : b < a
  · rw [if_pos (by omega), Nat.min_eq_right (by omega)]
  · rw [if_neg (by omega), Nat.min_eq_left (by omega)]
theorem V32 {x : NV} : AP cfg 32 [x.av, .int .i64 3] = some (cutN x).av := by
  refine AP_ofz _ _ (fz_nv (cutN x)) (noV_nv _) (m := []) ?_
  have h1 : maxA false (.int .i64 x.ds.length) (.int .i64 3) = some (.int .i64 (min x.ds.length 3 : Nat)) := min_int _ 3
  have hs := sliceT_to (z := x.z) (o := x.o) (ds := x.ds) (k := .i64) (i := (min x.ds.length 3 : Nat)) (by omega) (by omega)
  rw [← NV.av, Int.toNat_natCast] at hs
  rw [T32, len_nv, Option.bind_some, h1, Option.bind_some, hs, Option.bind_some]
  have ht : x.ds.take (min x.ds.length 3) = x.ds.take 3 := by
    by_cases h : x.ds.length ≤ 3
    · rw [Nat.min_eq_left h, List.take_of_length_le (Nat.le_refl _), List.take_of_length_le h]
    · rw [Nat.min_eq_right (by omega)]
  rw [ht]
  rfl
/-- What a number of the input is. -/
structure XN (x : NV) : Prop where
  dg : Dg x.ds
  nil : x.z = true → x.ds = []
theorem cutN_ok {x : NV} (h : XN x) : NOk (cutN x) ∧ (cutN x).ds.length ≤ 3 := by
  have hl : (x.ds.take 3).length ≤ 3 := by rw [List.length_take]; omega
  refine ⟨⟨h.dg.take 3, ?_, ?_⟩, hl⟩
  · show (x.ds.take 3).length < 2 ^ 40
    omega
  · intro hz
    show x.ds.take 3 = []
    rw [h.nil hz]; rfl
structure XR (r : RV) : Prop where
  num : XN r.num
  den : XN r.den
  fr : r.fr = r
def cutR (r : RV) : RV := ⟨r.neg, cutN r.num, cutN r.den⟩
theorem cutR_fr (r : RV) : (cutR r).fr = cutR r := rfl
theorem cutR_ok {r : RV} (h : XR r) : ROk 3 (cutR r) := ⟨(cutN_ok h.num).1, (cutN_ok h.den).1, (cutN_ok h.num).2, (cutN_ok h.den).2⟩
structure XM (x : MV) : Prop where
  sh : x.lv.sh = some 3 ∨ x.lv.es = []
  z : x.lv.z = true → x.lv.es = []
  es : ∀ r ∈ x.lv.es, XR r

/-! ### few -/
def headL (l : LV) : LV := ⟨l.sh, l.z, .no, l.es.take 4000⟩
theorem index_lv' {l : LV} {k : Nat} {kk : IntKind} (h : l.sh = some 3 ∨ l.es = []) (hk : k < l.es.length) : indexAddrA (some 3) l.av (.int kk k) = some (.vptr (l.es[k].av).cells) := by
  have hs : l.sh = some 3 := h.resolve_right (fun e => by rw [e] at hk; simp at hk)
  simp [LV.av, indexAddrA, hs, hk]
theorem W13_3 {x : MV} (hx : XM x) (x1 : AV) (K : Ex → St → Option (AV × Mem)) : ∀ (j i : Nat) (m : Mem) (l : LV), i + j = (headL x.lv).es.length → m[0]? = some (cM x) → m[1]? = some (cM zM) → m[2]? = some (cM ⟨x.rows, x.cols, l⟩) → RowAt m l → l.es = ((headL x.lv).es.take i).map cutR →
    ∃ m' l', m'[0]? = some (cM x) ∧ m'[1]? = some (cM zM) ∧ m'[2]? = some (cM ⟨x.rows, x.cols, l'⟩) ∧ RowAt m' l' ∧ l'.es = (headL x.lv).es.map cutR ∧
      L13_3 x1 (.ptr 0 0) (.ptr 1 0) (.ptr 2 0) (headL x.lv).av (.int .i64 (headL x.lv).es.length) (.int .i64 i) m K = K (.exit 0) (O13_3 x1 (.ptr 0 0) (.ptr 1 0) (.ptr 2 0) m') := by
  have hlen : (headL x.lv).es.length ≤ 4000 := by
    show (x.lv.es.take 4000).length ≤ 4000
    rw [List.length_take]; omega
  have hsh : (headL x.lv).sh = some 3 ∨ (headL x.lv).es = [] := by
    rcases hx.sh with h | h
    · exact .inl h
    · right; show x.lv.es.take 4000 = []; rw [h]; rfl
  intro j
  induction j with
  | zero =>
    intro i m l hi h0 h1 h2 h3 h4
    refine ⟨m, l, h0, h1, h2, h3, by rw [h4, List.take_of_length_le (by omega)], ?_⟩
    rw [L13_3_eq, n_lss, Option.bind_some, ifA_dec, if_neg (by omega)]
  | succ j ih =>
    intro i m l hi h0 h1 h2 h3 h4
    have hil : i < (headL x.lv).es.length := by omega
    have hmem : (headL x.lv).es[i] ∈ x.lv.es := List.mem_of_mem_take (List.getElem_mem hil)
    have hr := hx.es _ hmem
    have hn1 : (headL x.lv).es[i].num.fr = (headL x.lv).es[i].num := congrArg RV.num hr.fr
    have hn2 : (headL x.lv).es[i].den.fr = (headL x.lv).es[i].den := congrArg RV.den hr.fr
    have kp := Kp.app m [cR (headL x.lv).es[i]]
    have hb := kp.2 2 true _ h2
    have hll : l.es.length < 5000 := by rw [h4]; simp; omega
    obtain ⟨l', m1, m2, p1, p2, p3, p4, p5, p6⟩ := push (r := cutR (headL x.lv).es[i]) hb (h3.app [cR (headL x.lv).es[i]]) hll
    have kq := kp.trans (Kp.app (m ++ [cR (headL x.lv).es[i]]) [some .resv])
    obtain ⟨m', l'', q0, q1, q2, q3, q4, q5⟩ := ih (i + 1) m2 l' (by omega) (p6.2 0 true _ (by omega) (kp.2 0 true _ h0)) (p6.2 1 true _ (by omega) (kp.2 1 true _ h1)) p4 p5 (by
      rw [p2]
      show l.es ++ _ = _
      rw [h4, List.take_succ_eq_append_getElem hil, List.map_append]; rfl)
    refine ⟨m', l'', q0, q1, q2, q3, q4, ?_⟩
    have g2 := kq.2 2 true _ h2
    have gr : ((m ++ [cR (headL x.lv).es[i]]) ++ [some Ent.resv])[m.length]? = some (cR (headL x.lv).es[i]) := by
      rw [List.getElem?_append_left (by simp)]; exact get_last
    have pcNI : ∀ (mm : Mem) (d : Option Nat) (g : Nat) (y : NV) (n : Int), pcall (AP cfg) d mm g [y.av, .int .i64 n] = (AP cfg g [y.fr.av, .int .i64 n]).map fun v => (v, mm) := fun mm d g y n => pcall2 (fz_nv y) (fz_int _ _)
    have hbld := bld012 (headL x.lv).es[i].neg (cutN (headL x.lv).es[i].num) (cutN (headL x.lv).es[i].den)
    rw [nil_av.symm] at hbld
    have hbs := build_row (cutR_fr (headL x.lv).es[i])
    rw [L13_3_eq, n_lss, Option.bind_some, ifA_dec, if_pos hil, index_lv' hsh hil, Option.bind_some, load_row, Option.bind_some, new_z', new_r, st_last, Option.bind_some, fld2, Option.bind_some]
    rw [res1] at p1 ⊢
    rw [mld2 g2, Option.bind_some, fld0, Option.bind_some, rld0 gr, Option.bind_some, fld1, Option.bind_some, rld1 gr, Option.bind_some, pcNI, hn1, V32, Option.map_some, Option.bind_some, fld2, Option.bind_some, rld2 gr, Option.bind_some, pcNI, hn2, V32, Option.map_some, Option.bind_some, hbld, Option.bind_some]
    rw [show RV.av ⟨(headL x.lv).es[i].neg, cutN (headL x.lv).es[i].num, cutN (headL x.lv).es[i].den⟩ = (cutR (headL x.lv).es[i]).av from rfl, hbs, Option.bind_some, p1, Option.bind_some, Option.bind_some, p3, Option.bind_some, i_add1 (by omega), Option.bind_some]
    exact q5
theorem slice_head (l : LV) (hs : l.sh = some 3 ∨ l.es = []) : sliceT (some 3) l.av none (some (.int .i64 (min l.es.length 4000 : Nat))) none = some (headL l).av := by
  have e1 : (l.es.map RV.av).take (min l.es.length 4000) = (l.es.take 4000).map RV.av := by
    rw [← List.map_take]
    congr 1
    by_cases h : l.es.length ≤ 4000
    · rw [Nat.min_eq_left h, List.take_of_length_le (Nat.le_refl _), List.take_of_length_le h]
    · rw [Nat.min_eq_right (by omega)]
  have e2 : l.sh = some 3 ∨ l.es.map RV.av = [] := hs.elim .inl (fun h => .inr (by rw [h]; rfl))
  have e3 : (0 : Int) ≤ (min l.es.length 4000 : Nat) := by omega
  have e4 : ((min l.es.length 4000 : Nat) : Int) ≤ (l.es.map RV.av).length := by rw [List.length_map]; omega
  simp only [sliceT, LV.av, if_pos e2, sliceA, boundA, e3, e4, and_self, if_true, Option.bind_some, Int.toNat_natCast, e1, List.drop_zero, headL]
end Go.Ab

/- Inputs cut to any size, in values. -/
set_option linter.unusedVariables false
set_option linter.unusedSimpArgs false
set_option maxRecDepth 100000
namespace Go.Ab
open Go.Proofs.Try

theorem idx_lt {m : Mem} {n : Nat} {e : Option Ent} (h : m[n]? = some e) : n < m.length := by
  apply Classical.byContradiction
  intro hc
  rw [List.getElem?_eq_none (by omega)] at h
  cases h
theorem app_mats {m : Mem} {l : LV} {k : Nat} {y : LV} (h : RowAt m l) (hk : m[k]? = some (some .resv)) (hy : y.sh = some 3 ∨ y.es = []) (hlen : (l.es.length + y.es.length) * 56 ≤ roomA) :
    ∃ l' m', appA (some k) false 43 (some 3) 56 m l.av y.av = some (l'.av, m') ∧ RowAt m' l' ∧ l'.es = l.es ++ y.es ∧ Kp m m' := by
  obtain ⟨shy, zy, oy, ys⟩ := y
  cases ys with
  | nil => exact ⟨l, m, rfl, h, by simp, Kp.refl m⟩
  | cons r ys =>
    obtain rfl : shy = some 3 := hy.resolve_right (fun e => by cases e)
    have hkl := idx_lt hk
    rcases h with rfl | ⟨h1, h2, h3, nm, h4, h5⟩
    · have hlen' : (ys.length + 1) * 56 ≤ roomA := by simpa [nilL] using hlen
      refine ⟨⟨some 3, false, .tok k 43, r :: ys⟩, m.set k (some (.tok (r :: ys).length 3)), ?_, .inr ⟨rfl, rfl, by simp, k, rfl, by rw [List.getElem?_set_self hkl]⟩, rfl, by simp, ?_⟩
      · simp [LV.av, nilL, appA, hlen', newAt, Sh.size]
      · intro n bx cs hn
        have hne : k ≠ n := fun e => by rw [← e, hk] at hn; cases hn
        rw [List.getElem?_set_ne hne]; exact hn
    · have hnl := idx_lt h5
      refine ⟨⟨some 3, false, .tok nm 43, l.es ++ r :: ys⟩, m.set nm (some (.tok (l.es.length + (r :: ys).length) 3)), ?_, .inr ⟨rfl, rfl, by simp, nm, rfl, by rw [List.getElem?_set_self hnl]; simp⟩, rfl, by simp, ?_⟩
      · obtain ⟨sh, z, o, es⟩ := l
        simp only at h1 h2 h4
        subst h1; subst h2; subst h4
        have hlen' : (es.length + (ys.length + 1)) * 56 ≤ roomA := by simpa using hlen
        simp [LV.av, appA, hlen', mget h5, Sh.size]
      · intro n bx cs hn
        have hne : nm ≠ n := fun e => by rw [← e, h5] at hn; cases hn
        rw [List.getElem?_set_ne hne]; exact hn
theorem pushs {m : Mem} {n : Nat} {y : MV} {ys : LV} (hb : m[n]? = some (cM y)) (hr : RowAt m y.lv) (hy : ys.sh = some 3 ∨ ys.es = []) (hlen : y.lv.es.length + ys.es.length < 9000) :
    ∃ l' m' m'', appA (some m.length) false 43 (some 3) 56 (m ++ [some .resv]) y.lv.av ys.av = some (l'.av, m') ∧ l'.es = y.lv.es ++ ys.es ∧ storeA none m' (.ptr n 2) l'.av = some m'' ∧ m''[n]? = some (cM ⟨y.rows, y.cols, l'⟩) ∧ RowAt m'' l' ∧ Kn n m m'' := by
  obtain ⟨l', m', h1, h2, h3, h4⟩ := app_mats (y := ys) (hr.app [some .resv]) (k := m.length) get_last hy (by simp only [roomA]; omega)
  have hk := (Kp.app m [some .resv]).trans h4
  have hb' := hk.2 n true _ hb
  refine ⟨l', m', _, h1, h3, mst2 hb', by rw [List.getElem?_set_self (idx_lt hb')], h2.set hb' _, ?_⟩
  refine ⟨by rw [List.length_set]; exact hk.1, fun p bx cs hp hh => ?_⟩
  rw [List.getElem?_set_ne (fun e => hp e.symm)]
  exact hk.2 p bx cs hh
theorem slice_lv {l : LV} {a b : Nat} (hs : l.sh = some 3 ∨ l.es = []) (h1 : a ≤ b) (h2 : b ≤ l.es.length) : sliceT (some 3) l.av (some (.int .i64 a)) (some (.int .i64 b)) none = some (LV.av ⟨l.sh, l.z, .no, (l.es.take b).drop a⟩) := by
  have e1 : ((l.es.map RV.av).take b).drop a = ((l.es.take b).drop a).map RV.av := by rw [List.map_drop, List.map_take]
  have e2 : l.sh = some 3 ∨ l.es.map RV.av = [] := hs.elim .inl (fun h => .inr (by rw [h]; rfl))
  have e3 : (0 : Int) ≤ (b : Nat) := by omega
  have e4 : ((b : Nat) : Int) ≤ (l.es.map RV.av).length := by rw [List.length_map]; omega
  have e5 : (0 : Int) ≤ (a : Nat) ∧ ((a : Nat) : Int) ≤ (b : Nat) := by omega
  simp only [sliceT, LV.av, if_pos e2, sliceA, boundA, e3, e4, e5, and_self, if_true, Option.bind_some, Int.toNat_natCast, e1]

/-- The first rows and columns. -/
def cutE (es : List RV) (cols C : Nat) : Nat → List RV
  | 0 => []
  | i + 1 => cutE es cols C i ++ (es.take (i * cols + C)).drop (i * cols)
theorem cutE_mem {es : List RV} {cols C : Nat} {r : RV} : ∀ {i : Nat}, r ∈ cutE es cols C i → r ∈ es
  | 0, h => by cases h
  | i + 1, h => by
    rcases List.mem_append.1 h with h | h
    · exact cutE_mem h
    · exact List.mem_of_mem_take (List.mem_of_mem_drop h)
theorem cutE_length {es : List RV} {cols C : Nat} (hC : C ≤ cols) : ∀ {i : Nat}, i * cols ≤ es.length → (cutE es cols C i).length = i * C
  | 0, h => by simp [cutE]
  | i + 1, h => by
    have e : (i + 1) * cols = i * cols + cols := Nat.succ_mul i cols
    rw [cutE, List.length_append, cutE_length hC (by omega), List.length_drop, List.length_take, Nat.min_eq_left (by omega), Nat.succ_mul]; omega
theorem rowAt_sh {m : Mem} {l : LV} (h : RowAt m l) : l.sh = some 3 ∨ l.es = [] := by
  rcases h with rfl | ⟨h1, _⟩
  · exact .inr rfl
  · exact .inl h1
theorem W13_11 {rows cols : Nat} {o : LV} {x0 : MV} {R C L : Nat} (hR : R ≤ rows) (hr : rows ≤ 60) (hC : C ≤ cols) (hc : cols ≤ 60) (hlen : o.es.length = rows * cols) (ho : o.sh = some 3 ∨ o.es = []) (hL : 3 ≤ L) (hx : x0.cols = cols)
    (K : Ex → St → Option (AV × Mem)) : ∀ (j i : Nat) (m : Mem) (l : LV), i + j = R → m[0]? = some (cM x0) → m[1]? = some (cM zM) → m[2]? = some (cM ⟨x0.rows, x0.cols, o⟩) → m[L]? = some (cM ⟨R, C, l⟩) → RowAt m l → l.es = cutE o.es cols C i →
    ∃ m' l', m'[1]? = some (cM zM) ∧ m'[L]? = some (cM ⟨R, C, l'⟩) ∧ RowAt m' l' ∧ l'.es = cutE o.es cols C R ∧
      L13_11 (.ptr 0 0) (.ptr 1 0) (.ptr 2 0) (.ptr L 0) (.int .i64 i) m K = K (.exit 2) (O13_11 (.ptr 1 0) (.ptr L 0) m') := by
  intro j
  induction j with
  | zero =>
    intro i m l hi h0 h1 h2 h3 h4 h5
    have hiR : i = R := by omega
    subst hiR
    refine ⟨m, l, h1, h3, h4, h5, ?_⟩
    rw [L13_11_eq, fld0, Option.bind_some, mld0 h3, Option.bind_some, n_lss, Option.bind_some, ifA_dec, if_neg (by omega)]
  | succ j ih =>
    intro i m l hi h0 h1 h2 h3 h4 h5
    have hiR : i < R := by omega
    have hb1 : i * cols + cols ≤ rows * cols := by
      rw [← Nat.succ_mul]
      exact Nat.mul_le_mul_right _ (by omega)
    have hb2 : rows * cols ≤ 3600 := Nat.mul_le_mul hr hc
    have hb3 : i * C ≤ i * cols := Nat.mul_le_mul_left _ hC
    have hll : l.es.length = i * C := by rw [h5, cutE_length hC (by omega)]
    have hsl : ((o.es.take (i * cols + C)).drop (i * cols)).length = C := by
      rw [List.length_drop, List.length_take, Nat.min_eq_left (by omega)]; omega
    obtain ⟨l', m1, m2, p1, p2, p3, p4, p5, p6⟩ := pushs (y := ⟨R, C, l⟩) (ys := ⟨o.sh, o.z, .no, (o.es.take (i * cols + C)).drop (i * cols)⟩) h3 h4 (by
      rcases ho with h | h
      · exact .inl h
      · right; show (o.es.take _).drop _ = []; rw [h]; simp) (by show l.es.length + ((o.es.take (i * cols + C)).drop (i * cols)).length < 9000; omega)
    obtain ⟨m', l'', q1, q2, q3, q4, q5⟩ := ih (i + 1) m2 l' (by omega) (p6.2 0 true _ (by omega) h0) (p6.2 1 true _ (by omega) h1) (p6.2 2 true _ (by omega) h2) p4 p5 (by rw [p2]; show l.es ++ _ = _; rw [h5]; rfl)
    refine ⟨m', l'', q1, q2, q3, q4, ?_⟩
    have kp := Kp.app m [some .resv]
    have g0 := kp.2 0 true _ h0
    have g2 := kp.2 2 true _ h2
    have g3 := kp.2 L true _ h3
    have mulc : binA .other .mul (.int .i64 (i : Nat)) (.int .i64 x0.cols) = some (.int .i64 (i * cols : Nat)) := by
      rw [hx, i_mul60 (by omega) (by omega) (by omega) (by omega), ← Int.natCast_mul]
    have addc : binA .other .add (.int .i64 (i * cols : Nat)) (.int .i64 (C : Nat)) = some (.int .i64 (i * cols + C : Nat)) := i_add (by omega)
    rw [L13_11_eq, fld0, Option.bind_some, mld0 h3, Option.bind_some, n_lss, Option.bind_some, ifA_dec, if_pos hiR, fld2, Option.bind_some, res1, mld2 g3, Option.bind_some, fld2, Option.bind_some, mld2 g2, Option.bind_some,
      fld1, Option.bind_some, mld1 g0, Option.bind_some, mulc, Option.bind_some, Option.bind_some, mld1 g0, Option.bind_some, mulc, Option.bind_some, fld1, Option.bind_some, mld1 g3, Option.bind_some, addc, Option.bind_some,
      slice_lv ho (by omega) (by omega), Option.bind_some, p1, Option.bind_some, Option.bind_some, p3, Option.bind_some, i_add1 (by omega), Option.bind_some]
    exact q5
/-- Cut to n rows and columns. -/
theorem V13 {x : MV} {n : Nat} (hn : n ≤ 60) (hx : XM x) (hfx : x.fr = x) : ∃ y : MV, AP cfg 13 [x.av, .int .i64 n] = some y.av ∧ LOk 3 y.lv ∧ y.lv.es.length ≤ 4000 ∧ y.fr = y ∧ (rightM y = true → y.rows = min x.rows n ∧ y.cols = min x.cols n) := by
  obtain ⟨m', l', q0, q1, q2, q3, q4, q5⟩ := W13_3 hx (.int .i64 n) (K13_3 (finK cfg.P f13.results.toList)) (headL x.lv).es.length 0 [cM x, cM zM, cM ⟨x.rows, x.cols, nilL⟩] nilL (by omega) rfl rfl rfl (.inl rfl) rfl
  have hlen : l'.es.length ≤ 4000 := by
    rw [q4, List.length_map]
    show (x.lv.es.take 4000).length ≤ 4000
    rw [List.length_take]; omega
  have hlo : LOk 3 l' := rowAt_lok q3 (by rw [q4]; intro r hr; obtain ⟨r', _, rfl⟩ := List.mem_map.1 hr; exact cutR_fr _) (by rw [q4]; intro r hr; obtain ⟨r', h', rfl⟩ := List.mem_map.1 hr; exact cutR_ok (hx.es r' (List.mem_of_mem_take h')))
  have hl1 : 1 < m'.length := by
    apply Classical.byContradiction
    intro hc
    rw [List.getElem?_eq_none (by omega)] at q1
    cases q1
  have e1 := V21 (x := (MV.mk x.rows x.cols l').fr) hlo.fr' (k := 3) (by omega) (by show l'.es.length < _; omega)
  have hrf : rightM (MV.mk x.rows x.cols l').fr = rightM ⟨x.rows, x.cols, l'⟩ := rfl
  rw [hrf] at e1
  have a1 : ([cM x, cM zM] : Mem)[0]? = some (cM x) := rfl
  have a2 : ([cM x, cM zM, cM zM] : Mem)[2]? = some (cM zM) := rfl
  have a3 : ([cM x, cM zM, cM ⟨x.rows, x.cols, nilL⟩] : Mem)[0]? = some (cM x) := rfl
  have hmin : maxA false (.int .i64 x.lv.es.length) (.int .i64 4000) = some (.int .i64 (min x.lv.es.length 4000 : Nat)) := min_int _ 4000
  have fin : ((loadA (some 3) m' (.ptr 2 0)).bind fun v4 => (storeA (some 3) m' (.ptr 1 0) v4).bind fun m5 => (loadA (some 3) m5 (.ptr 1 0)).bind fun v6 => some (v6, m5)) = some (MV.av ⟨x.rows, x.cols, l'⟩, m'.set 1 (cM ⟨x.rows, x.cols, l'⟩)) := by
    rw [mldA q2, Option.bind_some, mstA q1, Option.bind_some, mldA (by rw [List.getElem?_set_self hl1])]
    rfl
  have pre : AC cfg 13 [x.av, .int .i64 n] [] = K13_3 (finK cfg.P f13.results.toList) (.exit 0) (O13_3 (.int .i64 n) (.ptr 0 0) (.ptr 1 0) (.ptr 2 0) m') := by
    rw [T13]
    simp only [Option.bind_some, box_mv, new_m, new_r, fld0, fld1, fld2, List.length_nil, List.nil_append, List.length_cons, List.cons_append, Nat.zero_add, Nat.reduceAdd]
    rw [mld0 a1, Option.bind_some, mld1 a1, Option.bind_some, bldM01, Option.bind_some, mstA a2, Option.bind_some]
    simp only [List.set_cons_succ, List.set_cons_zero]
    rw [mld2 a3, Option.bind_some, Option.bind_some, len_lv, Option.bind_some, hmin, Option.bind_some, slice_head _ hx.sh, Option.bind_some, len_lv, Option.bind_some]
    refine Eq.trans ?_ q5
    rfl
  have out : ∀ (z : MV) (mm : Mem), K13_3 (finK cfg.P f13.results.toList) (.exit 0) (O13_3 (.int .i64 n) (.ptr 0 0) (.ptr 1 0) (.ptr 2 0) m') = some (z.av, mm) → AP cfg 13 [x.av, .int .i64 n] = some z.fr.av := fun z mm h => AP_ofz _ _ (fz_mv z) (noV_mv _) (pre.trans h)
  have outl := out ⟨x.rows, x.cols, l'⟩ (m'.set 1 (cM ⟨x.rows, x.cols, l'⟩))
  rw [K13_3_x0, mldA q2, Option.bind_some, pcM, e1, Option.map_some, Option.bind_some, not_b, Option.bind_some] at outl
  cases hb : rightM ⟨x.rows, x.cols, l'⟩ with
  | false =>
    rw [hb, Bool.not_false, ifA_true] at outl
    exact ⟨_, outl fin, hlo.fr', hlen, by simp only [MV.fr, rowAt_fr q3], fun h => absurd (hrf.symm.trans (by rw [hrf]; exact h) : rightM ⟨x.rows, x.cols, l'⟩ = true) (by rw [hb]; decide)⟩
  | true =>
    have hsz : sizeB ⟨x.rows, x.cols, l'⟩ = true := by unfold rightM at hb; rw [Bool.and_eq_true] at hb; exact hb.1
    unfold sizeB at hsz
    obtain ⟨z1, z2, z3, z4, z5⟩ := of_decide_eq_true hsz
    have z1 : 0 ≤ x.rows := z1
    have z2 : x.rows ≤ 60 := z2
    have z3 : 0 ≤ x.cols := z3
    have z4 : x.cols ≤ 60 := z4
    have z5 : (l'.es.length : Int) = x.rows * x.cols := z5
    obtain ⟨rr, hrr⟩ := Int.eq_ofNat_of_zero_le z1
    obtain ⟨cc, hcc⟩ := Int.eq_ofNat_of_zero_le z3
    rw [hb, Bool.not_true, ifA_false, fld0, Option.bind_some, mld0 q0, Option.bind_some, binA_leq, Option.bind_some, ifA_dec] at outl
    have hlen2 : l'.es.length = rr * cc := by
      rw [hrr, hcc] at z5
      rw [← Int.natCast_mul] at z5
      exact Int.ofNat_inj.1 z5
    have hL := idx_lt q2
    obtain ⟨m2, l2, w1, w2, w3, w4, w5⟩ := W13_11 (rows := rr) (cols := cc) (o := l') (x0 := x) (R := min rr n) (C := min cc n) (L := m'.length) (by omega) (by omega) (by omega) (by omega) hlen2 (rowAt_sh q3) (by omega) hcc (K13_11 (finK cfg.P f13.results.toList)) (min rr n) 0 (m' ++ [cM ⟨(min rr n : Nat), (min cc n : Nat), nilL⟩]) nilL (by omega)
      (by rw [List.getElem?_append_left (by omega)]; exact q0) (by rw [List.getElem?_append_left (by omega)]; exact q1) (by rw [List.getElem?_append_left (by omega)]; exact q2) get_last (.inl rfl) rfl
    have fin2 : (loadA none m' (.ptr 0 0)).bind (fun v17 => (maxA false v17 (.int .i64 n)).bind fun v18 => (fieldAddrA 1 (.ptr 0 0)).bind fun v19 => (loadA none m' v19).bind fun v20 => (maxA false v20 (.int .i64 n)).bind fun v21 => (buildA (.agg [(.int .i64 0), (.int .i64 0), (.lst none true .full [])]) [(0, none, v18), (1, none, v21)]).bind fun v22 =>
        (storeA (some 3) (newAt none m' (.obj true [(.int .i64 0), (.int .i64 0), (.lst none true .full [])])).2 (.ptr (newAt none m' .resv).1 0) v22).bind fun m23 => L13_11 (.ptr 0 0) (.ptr 1 0) (.ptr 2 0) (.ptr (newAt none m' .resv).1 0) (.int .i64 0) m23 (K13_11 (finK cfg.P f13.results.toList))) = some (MV.av ⟨(min rr n : Nat), (min cc n : Nat), l2⟩, m2.set 1 (cM ⟨(min rr n : Nat), (min cc n : Nat), l2⟩)) := by
      rw [mld0 q0, Option.bind_some, hrr, min_int, Option.bind_some, fld1, Option.bind_some, mld1 q0, Option.bind_some, hcc, min_int, Option.bind_some, bldM01, Option.bind_some, new_m, new_r]
      rw [mstA (x := zM) get_last, Option.bind_some]
      rw [show (m' ++ [cM zM]).set m'.length (cM ⟨(min rr n : Nat), (min cc n : Nat), nilL⟩) = m' ++ [cM ⟨(min rr n : Nat), (min cc n : Nat), nilL⟩] by simp]
      refine w5.trans ?_
      rw [K13_11_x2, mldA w2, Option.bind_some, mstA w1, Option.bind_some, mldA (by rw [List.getElem?_set_self (idx_lt w1)])]
      rfl
    have hlo2 : LOk 3 l2 := rowAt_lok w3 (by rw [w4]; intro r hr; exact hlo.fr r (cutE_mem hr)) (by rw [w4]; intro r hr; exact hlo.ok r (cutE_mem hr))
    have hlen3 : l2.es.length ≤ 4000 := by
      rw [w4, cutE_length (by omega) (by rw [hlen2]; exact Nat.mul_le_mul_right _ (by omega))]
      have : min rr n * min cc n ≤ 60 * 60 := Nat.mul_le_mul (by omega) (by omega)
      omega
    have done2 : ∀ {R : Prop}, (AP cfg 13 [x.av, .int .i64 n] = some (MV.fr ⟨(min rr n : Nat), (min cc n : Nat), l2⟩).av) → ∃ y : MV, AP cfg 13 [x.av, .int .i64 n] = some y.av ∧ LOk 3 y.lv ∧ y.lv.es.length ≤ 4000 ∧ y.fr = y ∧ (rightM y = true → y.rows = min x.rows n ∧ y.cols = min x.cols n) := by
      intro _ h
      refine ⟨_, h, hlo2.fr', hlen3, by simp only [MV.fr, rowAt_fr w3], fun _ => ⟨?_, ?_⟩⟩
      · show ((min rr n : Nat) : Int) = _; rw [hrr]; omega
      · show ((min cc n : Nat) : Int) = _; rw [hcc]; omega
    have outc := out ⟨(min rr n : Nat), (min cc n : Nat), l2⟩ (m2.set 1 (cM ⟨(min rr n : Nat), (min cc n : Nat), l2⟩))
    rw [K13_3_x0, mldA q2, Option.bind_some, pcM, e1, Option.map_some, Option.bind_some, not_b, Option.bind_some, hb, Bool.not_true, ifA_false, fld0, Option.bind_some, mld0 q0, Option.bind_some, binA_leq, Option.bind_some, ifA_dec] at outc
    by_cases d1 : x.rows ≤ n
    · rw [if_pos d1, fld1, Option.bind_some, mld1 q0, Option.bind_some, binA_leq, Option.bind_some, ifA_dec] at outl outc
      by_cases d2 : x.cols ≤ n
      · rw [if_pos d2] at outl
        exact ⟨_, outl fin, hlo.fr', hlen, by simp only [MV.fr, rowAt_fr q3], fun _ => ⟨by show x.rows = _; omega, by show x.cols = _; omega⟩⟩
      · rw [if_neg d2] at outc
        exact done2 (R := True) (outc fin2)
    · rw [if_neg d1] at outc
      exact done2 (R := True) (outc fin2)
end Go.Ab

/- Inputs made square, in values. -/
set_option linter.unusedVariables false
set_option linter.unusedSimpArgs false
set_option maxRecDepth 100000
namespace Go.Ab
open Go.Proofs.Try

theorem size_of_right {x : MV} (h : rightM x = true) : 0 ≤ x.rows ∧ x.rows ≤ 60 ∧ 0 ≤ x.cols ∧ x.cols ≤ 60 ∧ (x.lv.es.length : Int) = x.rows * x.cols := by
  unfold rightM at h
  rw [Bool.and_eq_true] at h
  exact of_decide_eq_true h.1
end Go.Ab

/- Compare and Same of fractions, Same of matrices, in values. -/
set_option linter.unusedVariables false
set_option linter.unusedSimpArgs false
set_option maxRecDepth 100000
namespace Go.Ab
open Go.Proofs.Try

def cmpR (a b : RV) : Int := if signR a < signR b then -1 else if signR a > signR b then 1 else signR a * cmpV (a.num.v * b.den.v) (b.num.v * a.den.v)
theorem signR_vals (r : RV) : signR r = -1 ∨ signR r = 0 ∨ signR r = 1 := by
  unfold signR
  split
  · exact .inr (.inl rfl)
  · split
    · exact .inl rfl
    · exact .inr (.inr rfl)
theorem cmpV_vals (a b : Nat) : cmpV a b = -1 ∨ cmpV a b = 0 ∨ cmpV a b = 1 := by
  unfold cmpV
  split
  · exact .inl rfl
  · split
    · exact .inr (.inr rfl)
    · exact .inr (.inl rfl)
theorem cmpV_zero (a b : Nat) : cmpV a b = 0 ↔ a = b := by
  unfold cmpV
  split
  · constructor
    · intro h; cases h
    · intro h; omega
  · split
    · constructor
      · intro h; cases h
      · intro h; omega
    · constructor
      · intro _; omega
      · intro _; rfl
theorem i_mul1 {a b : Int} (ha : a = -1 ∨ a = 0 ∨ a = 1) (hb : b = -1 ∨ b = 0 ∨ b = 1) : binA .other .mul (.int .i64 a) (.int .i64 b) = some (.int .i64 (a * b)) := by
  rcases ha with rfl | rfl | rfl <;> rcases hb with rfl | rfl | rfl <;> rfl
theorem V113 {a b : RV} {k : Nat} (ha : ROk k a) (hb : ROk k b) (fa : a.fr = a) (fb : b.fr = b) (hk1 : 1 ≤ k) (hk : k < 2 ^ 36) : AP cfg 113 [a.av, b.av] = some (.int .i64 (cmpR a b)) := by
  have fan : a.num.fr = a.num := congrArg RV.num fa
  have fad : a.den.fr = a.den := congrArg RV.den fa
  have fbn : b.num.fr = b.num := congrArg RV.num fb
  have fbd : b.den.fr = b.den := congrArg RV.den fb
  have l1 : (digs (a.num.v * b.den.v)).length < 2 ^ 40 := Nat.lt_of_le_of_lt (ln_mul (Nat.le_trans ha.num.v_len ha.ln) (Nat.le_trans hb.den.v_len hb.ld)) (by omega)
  have l2 : (digs (b.num.v * a.den.v)).length < 2 ^ 40 := Nat.lt_of_le_of_lt (ln_mul (Nat.le_trans hb.num.v_len hb.ln) (Nat.le_trans ha.den.v_len ha.ld)) (by omega)
  have e1 := V107 ha.num hb.den
  have e2 := V107 hb.num ha.den
  have e3 := V109 (x := ⟨false, .no, digs (a.num.v * b.den.v)⟩) (y := ⟨false, .no, digs (b.num.v * a.den.v)⟩) (nok_digs l1) (nok_digs l2)
  have v1 : NV.v ⟨false, .no, digs (a.num.v * b.den.v)⟩ = a.num.v * b.den.v := val_digs _
  have v2 : NV.v ⟨false, .no, digs (b.num.v * a.den.v)⟩ = b.num.v * a.den.v := val_digs _
  rw [v1, v2] at e3
  have q1 : ∀ (d : Option Nat) (mm : Mem), pcall (AP cfg) d mm 105 [a.av] = some (.int .i64 (signR a), mm) := fun d mm => by rw [pcR, fa, V105 ha]; rfl
  have q2 : ∀ (d : Option Nat) (mm : Mem), pcall (AP cfg) d mm 105 [b.av] = some (.int .i64 (signR b), mm) := fun d mm => by rw [pcR, fb, V105 hb]; rfl
  have q3 : ∀ (d : Option Nat) (mm : Mem), pcall (AP cfg) d mm 107 [a.num.av, b.den.av] = some (NV.av ⟨false, .no, digs (a.num.v * b.den.v)⟩, mm) := fun d mm => by rw [pcNN, fan, fbd, e1]; rfl
  have q4 : ∀ (d : Option Nat) (mm : Mem), pcall (AP cfg) d mm 107 [b.num.av, a.den.av] = some (NV.av ⟨false, .no, digs (b.num.v * a.den.v)⟩, mm) := fun d mm => by rw [pcNN, fbn, fad, e2]; rfl
  have q5 : ∀ (d : Option Nat) (mm : Mem), pcall (AP cfg) d mm 109 [NV.av ⟨false, .no, digs (a.num.v * b.den.v)⟩, NV.av ⟨false, .no, digs (b.num.v * a.den.v)⟩] = some (.int .i64 (cmpV (a.num.v * b.den.v) (b.num.v * a.den.v)), mm) := fun d mm => by
    rw [pcNN, show NV.fr ⟨false, .no, digs (a.num.v * b.den.v)⟩ = ⟨false, .no, digs (a.num.v * b.den.v)⟩ from rfl, show NV.fr ⟨false, .no, digs (b.num.v * a.den.v)⟩ = ⟨false, .no, digs (b.num.v * a.den.v)⟩ from rfl, e3]; rfl
  refine AP_ofz _ _ (fz_int _ _) rfl (m := [cR a, cR b]) ?_
  rw [T113, box_rv, Option.bind_some, box_rv, Option.bind_some]
  simp only [List.length_nil, List.nil_append, List.length_cons, List.cons_append, Nat.zero_add]
  rw [rldA (x := a) rfl, Option.bind_some, q1, Option.bind_some, rldA (x := b) rfl, Option.bind_some, q2, Option.bind_some, binA_lss, Option.bind_some, ifA_dec]
  unfold cmpR
  by_cases c1 : signR a < signR b
  · rw [if_pos c1, if_pos c1]
  · rw [if_neg c1, if_neg c1, binA_gtr, Option.bind_some, ifA_dec]
    by_cases c2 : signR a > signR b
    · rw [if_pos c2, if_pos c2]
    · rw [if_neg c2, if_neg c2, fld1, Option.bind_some, rld1 (x := a) rfl, Option.bind_some, fld2, Option.bind_some, rld2 (x := b) rfl, Option.bind_some, q3, Option.bind_some, fld1, Option.bind_some, rld1 (x := b) rfl, Option.bind_some, fld2, Option.bind_some, rld2 (x := a) rfl, Option.bind_some, q4, Option.bind_some, q5, Option.bind_some, i_mul1 (signR_vals a) (cmpV_vals _ _), Option.bind_some]
theorem sgn_nat (neg : Bool) (n : Nat) : sgn neg n = if neg then -(n : Int) else n := by cases neg <;> rfl
theorem cmpR_zero (a b : RV) : cmpR a b = 0 ↔ a.q = b.q := by
  have key : ∀ r : RV, (signR r = 0 ∧ r.q = 0) ∨ (r.num.v ≠ 0 ∧ r.den.v ≠ 0 ∧ r.q ≠ 0 ∧ signR r = if r.neg then -1 else 1) := by
    intro r
    by_cases h : r.num.v = 0 ∨ r.den.v = 0
    · left
      refine ⟨by unfold signR; rw [if_pos h], ?_⟩
      rcases h with h | h
      · rw [RV.q, h, qOf_num0]
      · rw [RV.q, h, qOf_den0]
    · right
      refine ⟨fun e => h (.inl e), fun e => h (.inr e), ?_, by unfold signR; rw [if_neg h]⟩
      intro e
      have hd : r.den.v ≠ 0 := fun e => h (.inr e)
      have : sgn r.neg r.num.v = 0 := by
        have e' : mkRat (sgn r.neg r.num.v) r.den.v = 0 := e
        exact (Rat.mkRat_eq_zero hd).1 e'
      have h2 : (sgn r.neg r.num.v).natAbs = 0 := by rw [this]; rfl
      rw [sgn_abs] at h2
      exact h (.inl h2)
  unfold cmpR
  rcases key a with ⟨a1, a2⟩ | ⟨a1, a2, a3, a4⟩
  · rcases key b with ⟨b1, b2⟩ | ⟨b1, b2, b3, b4⟩
    · rw [a1, b1, a2, b2]; simp
    · rw [a1, a2]
      constructor
      · intro h
        rw [b4] at h
        by_cases hb : b.neg = true <;> simp [hb] at h
      · intro h; exact absurd h.symm b3
  · rcases key b with ⟨b1, b2⟩ | ⟨b1, b2, b3, b4⟩
    · rw [b1, b2]
      constructor
      · intro h
        rw [a4] at h
        by_cases hb : a.neg = true <;> simp [hb] at h
      · intro h; exact absurd h a3
    · have hq : a.q = b.q ↔ sgn a.neg a.num.v * (b.den.v : Int) = sgn b.neg b.num.v * (a.den.v : Int) := Rat.mkRat_eq_iff a2 b2
      rw [hq, a4, b4, sgn_nat, sgn_nat]
      have p1 : 0 < a.num.v * b.den.v := Nat.mul_pos (by omega) (by omega)
      have p2 : 0 < b.num.v * a.den.v := Nat.mul_pos (by omega) (by omega)
      have p1' : (a.num.v : Int) * (b.den.v : Int) = ((a.num.v * b.den.v : Nat) : Int) := (Int.natCast_mul _ _).symm
      have p2' : (b.num.v : Int) * (a.den.v : Int) = ((b.num.v * a.den.v : Nat) : Int) := (Int.natCast_mul _ _).symm
      cases a.neg <;> cases b.neg
      · simp only [Bool.false_eq_true, if_false, p1', p2']
        rw [if_neg (by omega), if_neg (by omega), Int.one_mul, cmpV_zero]
        omega
      · simp only [Bool.false_eq_true, if_false, if_true, Int.neg_mul, p1', p2']
        rw [if_neg (by omega), if_pos (by omega)]
        omega
      · simp only [Bool.false_eq_true, if_false, if_true, Int.neg_mul, p1', p2']
        rw [if_pos (by omega)]
        omega
      · simp only [if_true, Int.neg_mul, p1', p2']
        rw [if_neg (by omega), if_neg (by omega), Int.one_mul, Int.neg_eq_zero, cmpV_zero]
        omega
theorem V80 {a b : RV} {k : Nat} (ha : ROk k a) (hb : ROk k b) (fa : a.fr = a) (fb : b.fr = b) (hk1 : 1 ≤ k) (hk : k < 2 ^ 36) : AP cfg 80 [a.av, b.av] = some (.bool (decide (a.q = b.q))) := by
  have e := V113 ha hb fa fb hk1 hk
  refine AP_ofz (.bool (decide (a.q = b.q))) (.bool (decide (a.q = b.q))) (fun _ => rfl) rfl (m := [cR a, cR b]) ?_
  rw [T80, box_rv, Option.bind_some, box_rv, Option.bind_some]
  simp only [List.length_nil, List.nil_append, List.length_cons, List.cons_append, Nat.zero_add]
  rw [rldA (x := a) rfl, Option.bind_some, rldA (x := b) rfl, Option.bind_some, pcRR, fa, fb, e, Option.map_some, Option.bind_some, binA_eql, Option.bind_some]
  rw [decide_eq_decide.2 (cmpR_zero a b)]
end Go.Ab

/- Cells of matrices by index. -/
set_option linter.unusedVariables false
set_option linter.unusedSimpArgs false
set_option maxRecDepth 100000
namespace Go.Ab
open Go.Proofs.Try

theorem cellsF_get (F : Nat → Nat → RV) (cols : Nat) : ∀ (i p : Nat), p < i * cols → (cellsF F cols i)[p]? = some (F (p / cols) (p % cols))
  | 0, p, h => by simp at h
  | i + 1, p, h => by
    rw [Nat.succ_mul] at h
    unfold cellsF
    by_cases hp : p < i * cols
    · rw [List.getElem?_append_left (by rw [cellsF_length]; exact hp)]
      exact cellsF_get F cols i p hp
    · have hb : p - i * cols < cols := by omega
      have h1 : p = (p - i * cols) + cols * i := by rw [Nat.mul_comm cols i]; omega
      have h2 : p / cols = i := by rw [h1, Nat.add_mul_div_left _ _ (by omega), Nat.div_eq_of_lt hb, Nat.zero_add]
      have h3 : p % cols = p - i * cols := by rw [h1, Nat.add_mul_mod_self_left, Nat.mod_eq_of_lt hb, ← h1]
      rw [List.getElem?_append_right (by rw [cellsF_length]; omega), cellsF_length, h2, h3]
      unfold rowF
      rw [List.getElem?_map, List.getElem?_range hb]
      rfl
theorem map_copyR (es : List RV) : (es.map copyR).map RV.q = es.map RV.q := by
  rw [List.map_map]
  apply List.map_congr_left
  intro r _
  exact copyR_q r
theorem sameM_of {x y : MV} (h1 : x.rows = y.rows) (h2 : x.cols = y.cols) (h3 : x.lv.es.map RV.q = y.lv.es.map RV.q) : sameM x y = true := by
  unfold sameM
  rw [decide_eq_true h1, decide_eq_true h2, decide_eq_true h3]; rfl
theorem sameM_refl (x : MV) : sameM x x = true := sameM_of rfl rfl rfl
end Go.Ab

/- The sum, the multiple and the transpose of matrices, in values. -/
set_option linter.unusedVariables false
set_option linter.unusedSimpArgs false
set_option maxRecDepth 100000
namespace Go.Ab
open Go.Proofs.Try

def qAt (x : MV) (p : Nat) : Rat := (x.lv.es.map RV.q).getD p 0
theorem qAt_get {x : MV} {p : Nat} (h : p < x.lv.es.length) : qAt x p = x.lv.es[p].q := by
  unfold qAt
  rw [List.getD_eq_getElem?_getD, List.getElem?_map, List.getElem?_eq_getElem h]; rfl
theorem sameM_ext {x y : MV} (h1 : x.rows = y.rows) (h2 : x.cols = y.cols) (hl : x.lv.es.length = y.lv.es.length) (h : ∀ p, p < x.lv.es.length → qAt x p = qAt y p) : sameM x y = true := by
  refine sameM_of h1 h2 (List.ext_getElem? fun p => ?_)
  rw [List.getElem?_map, List.getElem?_map]
  by_cases hp : p < x.lv.es.length
  · have := h p hp
    rw [qAt_get hp, qAt_get (by omega)] at this
    rw [List.getElem?_eq_getElem hp, List.getElem?_eq_getElem (by omega), Option.map_some, Option.map_some, this]
  · rw [List.getElem?_eq_none (by omega), List.getElem?_eq_none (by omega)]
/-- What an operation on matrices returns: an error and no matrix, or a matrix by its cells. -/
structure Res (z : MV) (e err : Int) (R C : Nat) (Q : Nat → Rat) (k : Nat) : Prop where
  fr : z.fr = z
  ok : LOk k z.lv
  e : e = err
  bad : err ≠ 0 → z = zM
  rows : err = 0 → z.rows = R
  cols : err = 0 → z.cols = C
  len : err = 0 → z.lv.es.length = R * C
  q : err = 0 → ∀ p, p < R * C → qAt z p = Q p
theorem Res.same {z z' : MV} {e e' err : Int} {R C k k' : Nat} {Q : Nat → Rat} (h : Res z e err R C Q k) (h' : Res z' e' err R C Q k') : e = e' ∧ sameM z z' = true := by
  refine ⟨h.e.trans h'.e.symm, ?_⟩
  by_cases h0 : err = 0
  · exact sameM_ext ((h.rows h0).trans (h'.rows h0).symm) ((h.cols h0).trans (h'.cols h0).symm) ((h.len h0).trans (h'.len h0).symm) (fun p hp => by
      rw [h.len h0] at hp
      rw [h.q h0 p hp, h'.q h0 p hp])
  · rw [h.bad h0, h'.bad h0]
    exact sameM_refl _
theorem Res.bad' {err : Int} {R C k : Nat} {Q : Nat → Rat} (h : err ≠ 0) : Res zM err err R C Q k :=
  ⟨rfl, zM_ok k, rfl, fun _ => rfl, fun h0 => absurd h0 h, fun h0 => absurd h0 h, fun h0 => absurd h0 h, fun h0 => absurd h0 h⟩

/-! ### Boxes handed to a closure -/
def vM (x : MV) : AV := .vptr [.int .i64 x.rows, .int .i64 x.cols, x.lv.av]
theorem frz_ptrM {m : Mem} {n : Nat} {x : MV} (h : m[n]? = some (cM x)) : frz m 8 (.ptr n 0) = some (vM x.fr, []) := by
  have e : frz m 8 (.ptr n 0) = (m.obj? n).bind fun o => if o.1 then (mapF (frz m 7) (o.2.drop 0)).map fun r => (.vptr r.1, r.2) else none := rfl
  rw [e, mobj h]
  simp [mapF, fza_int .i64 x.rows m 6, fza_int .i64 x.cols m 6, fza_lst x.lv.sh x.lv.z x.lv.o (x.lv.es.map RV.av) m 6, MV.fr, LV.fr, LV.av, vM]
theorem pcFill2 {m : Mem} {g : Nat} {a b c d : AV} (k : IntKind) (k' : IntKind) (i j : Int) (ha : frz m 8 a = some (c, [])) (hb : frz m 8 b = some (d, [])) : pcall (AP cfg) none m 58 [.int k i, .int k' j, .fn g [a, b]] = (AP cfg 58 [.int k i, .int k' j, .fn g [c, d]]).map fun v => (v, m) := by
  have e : frz m fuelF (.fn g [a, b]) = some (.fn g [c, d], []) := by
    have e' : frz m fuelF (.fn g [a, b]) = (mapF (frz m 8) [a, b]).map fun r => (.fn g r.1, r.2) := rfl
    rw [e']; simp [mapF, ha, hb]
  simp [pcall, mapF, kill, fz_int k i m, fz_int k' j m, e]
theorem frz_vM {x : MV} (h : x.fr = x) (m : Mem) (k : Nat) : frz m (k + 2) (vM x) = some (vM x, []) := by
  have e : frz m (k + 2) (vM x) = (mapF (frz m (k + 1)) [.int .i64 x.rows, .int .i64 x.cols, x.lv.av]).map fun r => (.vptr r.1, r.2) := rfl
  rw [e]
  have hl : x.lv.fr.av = x.lv.av := by rw [show x.lv.fr = x.lv from congrArg MV.lv h]
  have hl' : AV.lst x.lv.sh x.lv.z x.lv.o.fr (x.lv.es.map RV.av) = x.lv.av := hl
  simp [mapF, fza_int .i64 x.rows m k, fza_int .i64 x.cols m k, LV.av, fza_lst x.lv.sh x.lv.z x.lv.o (x.lv.es.map RV.av) m k, vM]
  exact congrArg (fun y : MV => y.lv.o) h
theorem csz2 {a b : AV} (ha : ∀ m k, frz m (k + 2) a = some (a, [])) (hb : ∀ m k, frz m (k + 2) b = some (b, [])) : ∀ m, mapF (frz m fuelF) [a, b] = some ([a, b], []) := fun m => by
  have e1 : frz m fuelF a = some (a, []) := ha m 7
  have e2 : frz m fuelF b = some (b, []) := hb m 7
  simp [mapF, e1, e2]
/-! ### The closures -/
theorem vMf1 (x : MV) : fieldAddrA 1 (vM x) = some (.vptr [.int .i64 x.cols, x.lv.av]) := rfl
theorem vMf2 (x : MV) : fieldAddrA 2 (vM x) = some (.vptr [x.lv.av]) := rfl
theorem vMl1 (x : MV) (m : Mem) : loadA none m (.vptr [.int .i64 x.cols, x.lv.av]) = some (.int .i64 x.cols) := rfl
theorem vMl2 (x : MV) (m : Mem) : loadA none m (.vptr [x.lv.av]) = some x.lv.av := rfl
theorem at_cell {i j c : Nat} (hi : i ≤ 60) (hc : c ≤ 60) (hj : j ≤ 60) : binA .other .mul (.int .i64 i) (.int .i64 c) = some (.int .i64 (i * c : Nat)) ∧ binA .other .add (.int .i64 (i * c : Nat)) (.int .i64 j) = some (.int .i64 (i * c + j : Nat)) := by
  have : i * c ≤ 60 * 60 := Nat.mul_le_mul hi hc
  refine ⟨?_, i_add (by omega)⟩
  rw [i_mul60 (by omega) (by omega) (by omega) (by omega), ← Int.natCast_mul]
end Go.Ab

/- Add, Scale and Transpose of matrices, in values. -/
set_option linter.unusedVariables false
set_option linter.unusedSimpArgs false
set_option maxRecDepth 100000
namespace Go.Ab
open Go.Proofs.Try

/-- A matrix as an argument. -/
structure IsM (k : Nat) (x : MV) : Prop where
  ok : LOk k x.lv
  fr : x.fr = x
  len : x.lv.es.length ≤ 4000
theorem retM2 {f : Nat} {args : List AV} {z : MV} {e : Int} {mm : Mem} (h : AC cfg f args [] = some (.tup [z.av, .int .i64 e], mm)) (hz : z.fr = z) : AP cfg f args = some (.tup [z.av, .int .i64 e]) :=
  (AP_ofz _ _ (fz_tupM2 z (fza_int _ _)) rfl h).trans (by rw [hz])
theorem qAt_bd {x : MV} {k p : Nat} (h : LOk k x.lv) (hk : 1 ≤ k) : Bd k (qAt x p) := by
  by_cases hp : p < x.lv.es.length
  · rw [qAt_get hp]
    exact (h.ok _ (List.getElem_mem hp)).bd hk
  · unfold qAt
    rw [List.getD_eq_getElem?_getD, List.getElem?_map, List.getElem?_eq_none (by omega)]
    exact Bd_zero hk
theorem choose2 {P : Nat → Nat → RV → Prop} {rows cols : Nat} (h : ∀ i j, i < rows → j < cols → ∃ s, P i j s) : ∃ F : Nat → Nat → RV, ∀ i j, i < rows → j < cols → P i j (F i j) := by
  have h' : ∀ i, ∃ f : Nat → RV, ∀ j, i < rows → j < cols → P i j (f j) := by
    intro i
    have : ∀ j, ∃ s, i < rows → j < cols → P i j s := by
      intro j
      by_cases hc : i < rows ∧ j < cols
      · obtain ⟨s, hs⟩ := h i j hc.1 hc.2
        exact ⟨s, fun _ _ => hs⟩
      · exact ⟨zeroR, fun h1 h2 => absurd ⟨h1, h2⟩ hc⟩
    obtain ⟨f, hf⟩ := Classical.axiomOfChoice this
    exact ⟨f, hf⟩
  obtain ⟨F, hF⟩ := Classical.axiomOfChoice h'
  exact ⟨F, fun i j => hF i j⟩
/-- A matrix filled by a closure whose values are known. -/
theorem fillP {g : Nat} {cs : List AV} {rows cols k : Nat} {Q : Nat → Nat → Rat} {P : RV → Prop} (hi : cfg.inl 58 g = false ∧ cfg.lib g = none) (hcs : ∀ m, mapF (frz m fuelF) cs = some (cs, [])) (hr : rows ≤ 60) (hc : cols ≤ 60)
    (h : ∀ i j, i < rows → j < cols → ∃ s : RV, AP cfg g ([.int .i64 i, .int .i64 j] ++ cs) = some s.av ∧ s.q = Q i j ∧ ROk k s ∧ s.fr = s ∧ P s) :
    ∃ y : MV, AP cfg 58 [.int .i64 rows, .int .i64 cols, .fn g cs] = some y.av ∧ y.rows = rows ∧ y.cols = cols ∧ y.lv.es.length = rows * cols ∧ (∀ p, p < rows * cols → qAt y p = Q (p / cols) (p % cols)) ∧ LOk k y.lv ∧ y.fr = y ∧ ∀ r ∈ y.lv.es, P r := by
  obtain ⟨F, hF⟩ := choose2 h
  obtain ⟨y, f1, f2, f3, f4, f5, f6⟩ := V58 (F := F) ⟨hi.1, hi.2, hcs, fun i j h1 h2 => (hF i j h1 h2).1, fun i j h1 h2 => (hF i j h1 h2).2.2.2.1, fun i j h1 h2 => (hF i j h1 h2).2.2.1⟩ hr hc
  refine ⟨y, f1, f2, f3, by rw [f4, cellsF_length], fun p hp => ?_, f5, f6, fun r hr => ?_⟩
  · have hcp : 0 < cols := by
      rcases Nat.eq_zero_or_pos cols with h0 | h0
      · rw [h0, Nat.mul_zero] at hp; omega
      · exact h0
    have h1 : p / cols < rows := Nat.div_lt_of_lt_mul (by rw [Nat.mul_comm]; exact hp)
    have h2 : p % cols < cols := Nat.mod_lt _ hcp
    unfold qAt
    rw [List.getD_eq_getElem?_getD, List.getElem?_map, f4, cellsF_get _ _ _ _ hp]
    exact (hF _ _ h1 h2).2.1
  · rw [f4] at hr
    obtain ⟨a, b, h1, h2, rfl⟩ := cellsF_mem hr
    exact (hF a b h1 h2).2.2.2.2
theorem div_mod_mul (p c : Nat) : p / c * c + p % c = p := by rw [Nat.mul_comm]; exact Nat.div_add_mod p c

/-! ### Add -/
theorem cell_lt60 {i j r c : Nat} (hi : i < r) (hj : j < c) : i * c + j < r * c := by
  have : (i + 1) * c ≤ r * c := Nat.mul_le_mul_right _ hi
  rw [Nat.succ_mul] at this
  omega
/-! ### Scale -/
/-! ### Transpose -/
end Go.Ab

/- What the interpreter does, function by function. -/
set_option maxRecDepth 100000
set_option linter.unusedVariables false
namespace Go.Ab
open Go.Proofs.Try
/-! ### sortilege/sortilegeref19.Add -/
/-! ### sortilege/sortilegeref19.Scale -/
/-! ### sortilege/sortilegeref19.Transpose -/
/-! ### sortilege/sortilegeref19.Mul -/
/-! ### sortilege/sortilegeref19.Power -/
/-! ### sortilege/sortilegeref19.times -/
end Go.Ab

/- The reference's Add, Scale and Transpose, in values. -/
set_option linter.unusedVariables false
set_option linter.unusedSimpArgs false
set_option maxRecDepth 100000
namespace Go.Ab
open Go.Proofs.Try

/-! ### A row that is written to, and the matrix that bears it -/
/-- What is known of a row that is being written: all fractions are sound, the first have their values. -/
structure Wr (es : List RV) (L k : Nat) (Q : Nat → Rat) (done : Nat → Prop) : Prop where
  len : es.length = L
  fr : ∀ r ∈ es, r.fr = r
  ok : ∀ r ∈ es, ROk k r
  q : ∀ p, p < L → done p → (es.map RV.q).getD p 0 = Q p
theorem Wr.set {es : List RV} {L k : Nat} {Q : Nat → Rat} {done done' : Nat → Prop} (h : Wr es L k Q done) {p : Nat} {r : RV} (hp : p < L) (hq : done' p → r.q = Q p) (hf : r.fr = r) (hr : ROk k r) (hd : ∀ p', p' ≠ p → done' p' → done p') : Wr (es.set p r) L k Q done' where
  len := by rw [List.length_set]; exact h.len
  fr s hs := by
    rcases List.mem_or_eq_of_mem_set hs with hs | rfl
    · exact h.fr s hs
    · exact hf
  ok s hs := by
    rcases List.mem_or_eq_of_mem_set hs with hs | rfl
    · exact h.ok s hs
    · exact hr
  q p' hp' hd' := by
    by_cases e : p = p'
    · subst e
      rw [List.getD_eq_getElem?_getD, List.getElem?_map, List.getElem?_set_self (by rw [h.len]; exact hp)]
      exact hq hd'
    · rw [List.getD_eq_getElem?_getD, List.getElem?_map, List.getElem?_set_ne e, ← List.getElem?_map, ← List.getD_eq_getElem?_getD]
      exact h.q p' hp' (hd p' (fun e' => e e'.symm) hd')
theorem Wr.zero (L k : Nat) (Q : Nat → Rat) (hk : 1 ≤ k) : Wr (List.replicate L zeroF) L k Q (fun _ => False) :=
  ⟨List.length_replicate, fun r hr => by rw [(List.mem_replicate.1 hr).2]; exact zeroF_fr, fun r hr => by rw [(List.mem_replicate.1 hr).2]; exact zeroF_ok.mono hk, fun _ _ h => h.elim⟩
theorem Wr.mono {es : List RV} {L k : Nat} {Q : Nat → Rat} {done done' : Nat → Prop} (h : Wr es L k Q done) (hd : ∀ p, p < L → done' p → done p) : Wr es L k Q done' := ⟨h.len, h.fr, h.ok, fun p hp hd' => h.q p hp (hd p hp hd')⟩
theorem Wr.res {es : List RV} {R C k : Nat} {Q : Nat → Rat} (h : Wr es (R * C) k Q (fun _ => True)) : Res ⟨R, C, ⟨some 3, false, .no, es⟩⟩ 0 0 R C Q k :=
  ⟨rfl, ⟨.inl rfl, (fun h => absurd (show false = true from h) (by decide)), h.fr, h.ok⟩, rfl, fun h => absurd rfl h, fun _ => rfl, fun _ => rfl, fun _ => h.len, fun _ p hp => h.q p hp trivial⟩
theorem Res.nil {R C k : Nat} {Q : Nat → Rat} (h : R * C = 0) : Res ⟨R, C, nilL⟩ 0 0 R C Q k :=
  ⟨rfl, zM_ok k, rfl, fun h => absurd rfl h, fun _ => rfl, fun _ => rfl, fun _ => h.symm, fun _ p hp => by omega⟩

/-! ### Add -/
end Go.Ab

/- The reference's Scale and Transpose, in values. -/
set_option linter.unusedVariables false
set_option linter.unusedSimpArgs false
set_option maxRecDepth 100000
namespace Go.Ab
open Go.Proofs.Try

/-! ### Scale -/
/-! ### Transpose -/
theorem tr_cell {r i j : Nat} (hi : i < r) : (j * r + i) % r = i ∧ (j * r + i) / r = j := by
  have e : j * r + i = i + r * j := by rw [Nat.mul_comm]; omega
  rw [e]
  refine ⟨by rw [Nat.add_mul_mod_self_left, Nat.mod_eq_of_lt hi], by rw [Nat.add_mul_div_left _ _ (by omega), Nat.div_eq_of_lt hi, Nat.zero_add]⟩
end Go.Ab

/- Products of matrices, in values: sums, and the program's side. -/
set_option linter.unusedVariables false
set_option linter.unusedSimpArgs false
set_option maxRecDepth 100000
namespace Go.Ab
open Go.Proofs.Try

/-! ### Sums -/
def sumN (f : Nat → Rat) : Nat → Rat
  | 0 => 0
  | n + 1 => sumN f n + f n
theorem sumN_congr {f g : Nat → Rat} : ∀ {n : Nat}, (∀ l, l < n → f l = g l) → sumN f n = sumN g n
  | 0, _ => rfl
  | n + 1, h => by rw [sumN, sumN, sumN_congr (fun l hl => h l (by omega)), h n (by omega)]
theorem sumN_zero : ∀ n : Nat, sumN (fun _ => 0) n = 0
  | 0 => rfl
  | n + 1 => by rw [sumN, sumN_zero n, Rat.add_zero]
theorem sumN_add (f g : Nat → Rat) : ∀ n : Nat, sumN (fun l => f l + g l) n = sumN f n + sumN g n
  | 0 => by simp only [sumN, Rat.add_zero]
  | n + 1 => by
    rw [sumN, sumN_add f g n, sumN, sumN, Rat.add_assoc, Rat.add_assoc]
    congr 1
    rw [← Rat.add_assoc, ← Rat.add_assoc, Rat.add_comm (sumN g n) (f n)]
theorem sumN_mulL (c : Rat) (f : Nat → Rat) : ∀ n : Nat, sumN (fun l => c * f l) n = c * sumN f n
  | 0 => by simp only [sumN, Rat.mul_zero]
  | n + 1 => by rw [sumN, sumN_mulL c f n, sumN, Rat.mul_add]
theorem sumN_mulR (c : Rat) (f : Nat → Rat) : ∀ n : Nat, sumN (fun l => f l * c) n = sumN f n * c
  | 0 => by simp only [sumN, Rat.zero_mul]
  | n + 1 => by rw [sumN, sumN_mulR c f n, sumN, Rat.add_mul]
theorem sumN_swap (f : Nat → Nat → Rat) (m : Nat) : ∀ n : Nat, sumN (fun i => sumN (f i) m) n = sumN (fun j => sumN (fun i => f i j) n) m
  | 0 => (sumN_zero m).symm
  | n + 1 => by rw [sumN, sumN_swap f m n, ← sumN_add]; rfl
theorem sumN_one {f : Nat → Rat} {p : Nat} : ∀ {n : Nat}, (∀ l, l < n → l ≠ p → f l = 0) → sumN f n = if p < n then f p else 0
  | 0, _ => rfl
  | n + 1, h => by
    rw [sumN, sumN_one (fun l hl => h l (by omega))]
    by_cases c : p < n
    · rw [if_pos c, if_pos (by omega), h n (by omega) (by omega), Rat.add_zero]
    · rw [if_neg c, Rat.zero_add]
      by_cases c2 : p = n
      · rw [if_pos (by omega), c2]
      · rw [if_neg (by omega), h n (by omega) (fun e => c2 e.symm)]

/-! ### The product of a row and a column -/
def dotQ (x y : MV) (c d i j : Nat) (l : Nat) : Rat := sumN (fun l => qAt x (i * c + l) * qAt y (l * d + j)) l
theorem Can.num0 {x : MV} {k p : Nat} (h : LOk k x.lv) (hp : p < x.lv.es.length) (h0 : x.lv.es[p].num.ds.length = 0) : qAt x p = 0 := by
  rw [qAt_get hp, RV.q]
  have : x.lv.es[p].num.v = 0 := by
    unfold NV.v
    rw [List.length_eq_zero_iff.1 h0]; rfl
  rw [this, qOf_num0]
theorem res2' (m : Mem) : reserve m 2 = m ++ [some .resv, some .resv] := rfl
theorem newB0 (m : Mem) (a b : Option Ent) (e : Ent) : newAt (some m.length) (m ++ [a, b]) e = (m.length, m ++ [some e, b]) := by
  simp [newAt]
theorem newB1 (m : Mem) (a b : Option Ent) (e : Ent) : newAt (some (m.length + 1)) (m ++ [a, b]) e = (m.length + 1, m ++ [a, some e]) := by
  simp [newAt]
theorem getB0 (m : Mem) (a b : Option Ent) : (m ++ [a, b])[m.length]? = some a := by simp
theorem getB1 (m : Mem) (a b : Option Ent) : (m ++ [a, b])[m.length + 1]? = some b := by simp
theorem setB0 (m : Mem) (a b e : Option Ent) : (m ++ [a, b]).set m.length e = m ++ [e, b] := by simp
theorem setB1 (m : Mem) (a b e : Option Ent) : (m ++ [a, b]).set (m.length + 1) e = m ++ [a, e] := by simp
theorem zR_obj : some (Ent.obj true [(.bool false), (.lst none true .full []), (.lst none true .full [])]) = cR zR := rfl
theorem gtr0 (x : NV) : binA .other .gtr (.int .i64 x.ds.length) (.int .i64 0) = some (.bool (decide (x.ds.length > 0))) := by
  rw [binA_gtr]; congr 2; exact decide_eq_decide.2 (by omega)
theorem W104 {x y : MV} {k K i j c d r : Nat} (hx : LOk k x.lv) (hy : LOk k y.lv) (hk1 : 1 ≤ k) (hkK : 1 ≤ K) (hK : K + (k + k) < 2 ^ 36) (hxc : x.cols = c) (hyd : y.cols = d) (hi : i < r) (hj : j < d) (hr : r ≤ 60) (hc : c ≤ 60) (hd : d ≤ 60) (hlx : x.lv.es.length = r * c) (hly : y.lv.es.length = c * d)
    (hB : ∀ l, l ≤ c → Bd K (dotQ x y c d i j l)) (Kt : Ex → St → Option (AV × Mem)) : ∀ (n l : Nat) (m : Mem) (s : RV), l + n = c → m[0]? = some (cR zR) → m[1]? = some (cR s) → s.fr = s → ROk K s ∧ rightR s = true → s.q = dotQ x y c d i j l →
    ∃ m' s', m'[0]? = some (cR zR) ∧ m'[1]? = some (cR s') ∧ s'.fr = s' ∧ (ROk K s' ∧ rightR s' = true) ∧ s'.q = dotQ x y c d i j c ∧
      L104_3 (.int .i64 i) (.int .i64 j) (vM x) (vM y) (.ptr 0 0) (.ptr 1 0) (.int .i64 c) (.int .i64 l) m Kt = Kt (.exit 0) (O104_3 (.ptr 0 0) (.ptr 1 0) m') := by
  intro n
  induction n with
  | zero =>
    intro l m s hl h0 h1 h2 h3 h4
    obtain rfl : l = c := by omega
    refine ⟨m, s, h0, h1, h2, h3, h4, ?_⟩
    rw [L104_3_eq, n_lss, Option.bind_some, ifA_dec, if_neg (by omega)]
  | succ n ih =>
    intro l m s hl h0 h1 h2 h3 h4
    have hlc : l < c := by omega
    obtain ⟨a1, a2⟩ := at_cell (i := i) (c := c) (j := l) (by omega) hc (by omega)
    obtain ⟨b1, b2⟩ := at_cell (i := l) (c := d) (j := j) (by omega) hd (by omega)
    have p1 : i * c + l < x.lv.es.length := by rw [hlx]; exact cell_lt60 hi hlc
    have p2 : l * d + j < y.lv.es.length := by rw [hly]; exact cell_lt60 hlc hj
    have f1 := hx.fr _ (List.getElem_mem p1)
    have f2 := hy.fr _ (List.getElem_mem p2)
    have r1 := hx.ok _ (List.getElem_mem p1)
    have r2 := hy.ok _ (List.getElem_mem p2)
    have hm0 := idx_lt h0
    have hm1 := idx_lt h1
    have hstep : dotQ x y c d i j (l + 1) = dotQ x y c d i j l + qAt x (i * c + l) * qAt y (l * d + j) := rfl
    have g0 : ∀ e e' : Option Ent, (m ++ [e, e'])[0]? = some (cR zR) := fun e e' => by rw [List.getElem?_append_left hm0]; exact h0
    have g1 : ∀ e e' : Option Ent, (m ++ [e, e'])[1]? = some (cR s) := fun e e' => by rw [List.getElem?_append_left hm1]; exact h1
    have lv2 : loadA none (m ++ [some .resv, some .resv]) (.vptr [.int .i64 (c : Int), x.lv.av]) = some (.int .i64 (c : Int)) := rfl
    have lw2 : loadA none (m ++ [some .resv, some .resv]) (.vptr [.int .i64 (d : Int), y.lv.av]) = some (.int .i64 (d : Int)) := rfl
    have skip : qAt x (i * c + l) * qAt y (l * d + j) = 0 → ∃ m' s', m'[0]? = some (cR zR) ∧ m'[1]? = some (cR s') ∧ s'.fr = s' ∧ (ROk K s' ∧ rightR s' = true) ∧ s'.q = dotQ x y c d i j c ∧
      L104_3 (.int .i64 i) (.int .i64 j) (vM x) (vM y) (.ptr 0 0) (.ptr 1 0) (.int .i64 c) (.int .i64 (l + 1 : Nat)) (m ++ [cR x.lv.es[i * c + l], cR y.lv.es[l * d + j]]) Kt = Kt (.exit 0) (O104_3 (.ptr 0 0) (.ptr 1 0) m') := by
      intro hz
      exact ih (l + 1) (m ++ [cR x.lv.es[i * c + l], cR y.lv.es[l * d + j]]) s (by omega) (g0 _ _) (g1 _ _) h2 h3 (by rw [hstep, hz, Rat.add_zero]; exact h4)
    have pre : ∀ R : Option (AV × Mem), (ifA (.bool (decide (x.lv.es[i * c + l].num.ds.length > 0)))
        (ifA (.bool (decide (y.lv.es[l * d + j].num.ds.length > 0)))
          ((loadA (some 3) (m ++ [cR x.lv.es[i * c + l], cR y.lv.es[l * d + j]]) (.ptr 1 0)).bind fun v28 =>
            (pcall (AP cfg) (some (m ++ [cR x.lv.es[i * c + l], cR y.lv.es[l * d + j]]).length) (m ++ [cR x.lv.es[i * c + l], cR y.lv.es[l * d + j]]) 78 [x.lv.es[i * c + l].av, y.lv.es[l * d + j].av]).bind fun r31 =>
            (pcall (AP cfg) (some (m ++ [cR x.lv.es[i * c + l], cR y.lv.es[l * d + j]]).length) r31.2 75 [v28, r31.1]).bind fun r32 =>
            (storeA (some 3) r32.2 (.ptr 1 0) r32.1).bind fun m33 =>
            L104_3 (.int .i64 i) (.int .i64 j) (vM x) (vM y) (.ptr 0 0) (.ptr 1 0) (.int .i64 c) (.int .i64 (l + 1 : Nat)) m33 Kt)
          (L104_3 (.int .i64 i) (.int .i64 j) (vM x) (vM y) (.ptr 0 0) (.ptr 1 0) (.int .i64 c) (.int .i64 (l + 1 : Nat)) (m ++ [cR x.lv.es[i * c + l], cR y.lv.es[l * d + j]]) Kt))
        (L104_3 (.int .i64 i) (.int .i64 j) (vM x) (vM y) (.ptr 0 0) (.ptr 1 0) (.int .i64 c) (.int .i64 (l + 1 : Nat)) (m ++ [cR x.lv.es[i * c + l], cR y.lv.es[l * d + j]]) Kt)) = R →
        L104_3 (.int .i64 i) (.int .i64 j) (vM x) (vM y) (.ptr 0 0) (.ptr 1 0) (.int .i64 c) (.int .i64 l) m Kt = R := by
      intro R hR
      rw [L104_3_eq, n_lss, Option.bind_some, ifA_dec, if_pos hlc, vMf2, Option.bind_some, vMl2, Option.bind_some, vMf1, Option.bind_some, hxc, res2', lv2, Option.bind_some, a1, Option.bind_some, a2, Option.bind_some, index_lv hx p1, Option.bind_some, load_row, Option.bind_some,
        vMf2, Option.bind_some, vMl2, Option.bind_some, vMf1, Option.bind_some, hyd, lw2, Option.bind_some, b1, Option.bind_some, b2, Option.bind_some, index_lv hy p2, Option.bind_some, load_row, Option.bind_some,
        newB0, newB0, newB1, newB1, zR_obj, rstA (x := zR) (getB0 _ _ _), Option.bind_some, setB0, rstA (x := zR) (getB1 _ _ _), Option.bind_some, setB1]
      rw [show namesV (.vptr [y.lv.av]) (.ptr m.length 0) = true from rfl, ifB, show namesV (.vptr [.int .i64 (d : Int), y.lv.av]) (.ptr m.length 0) = true from rfl, ifB, show namesV (.vptr y.lv.es[l * d + j].av.cells) (.ptr m.length 0) = true from rfl, ifB]
      rw [fld1, Option.bind_some, rld1 (getB0 _ _ _), Option.bind_some, len_nv, Option.bind_some, gtr0, Option.bind_some, fld1, Option.bind_some, rld1 (getB1 _ _ _), Option.bind_some, len_nv, Option.bind_some, gtr0, Option.bind_some, rldA (getB0 _ _ _), rldA (getB1 _ _ _), i_add1 (by omega)]
      exact hR
    by_cases z1 : x.lv.es[i * c + l].num.ds.length > 0
    · by_cases z2 : y.lv.es[l * d + j].num.ds.length > 0
      · obtain ⟨t, t1, t2, t3⟩ := V78 r1 r2 hk1 (by omega)
        have bt : Bd (k + k) (x.lv.es[i * c + l].q * y.lv.es[l * d + j].q) := Bd_mul (r1.bd hk1) (r2.bd hk1) hk1
        obtain ⟨u, u1, u2, u3⟩ := V75 (k := K + (k + k)) (h3.1.mono (by omega)) ((t2.ok bt (by omega)).mono (by omega)) (by omega) (by omega)
        have hq : s.q + t.q = dotQ x y c d i j (l + 1) := by rw [hstep, h4, t2.q, qAt_get p1, qAt_get p2]
        rw [hq] at u2
        obtain ⟨m', s', w⟩ := ih (l + 1) ((m ++ [cR x.lv.es[i * c + l], cR y.lv.es[l * d + j]]).set 1 (cR u)) u (by omega) (by rw [List.getElem?_set_ne (by omega)]; exact g0 _ _) (by rw [List.getElem?_set_self (Nat.lt_of_lt_of_le hm1 (by simp))]) u3 ⟨u2.ok (hB (l + 1) (by omega)) (by omega), can_rightR u2⟩ u2.q
        refine ⟨m', s', w.1, w.2.1, w.2.2.1, w.2.2.2.1, w.2.2.2.2.1, pre _ ?_⟩
        rw [ifA_dec, if_pos z1, ifA_dec, if_pos z2, rldA (g1 _ _), Option.bind_some, pcRR, f1, f2, t1, Option.map_some, Option.bind_some, pcRR, h2, t3, u1, Option.map_some, Option.bind_some, rstA (g1 _ _), Option.bind_some]
        exact w.2.2.2.2.2
      · obtain ⟨m', s', w⟩ := skip (by rw [Can.num0 hy p2 (by omega), Rat.mul_zero])
        refine ⟨m', s', w.1, w.2.1, w.2.2.1, w.2.2.2.1, w.2.2.2.2.1, pre _ ?_⟩
        rw [ifA_dec, if_pos z1, ifA_dec, if_neg z2]
        exact w.2.2.2.2.2
    · obtain ⟨m', s', w⟩ := skip (by rw [Can.num0 hx p1 (by omega), Rat.zero_mul])
      refine ⟨m', s', w.1, w.2.1, w.2.2.1, w.2.2.2.1, w.2.2.2.2.1, pre _ ?_⟩
      rw [ifA_dec, if_neg z1]
      exact w.2.2.2.2.2
theorem V104 {x y : MV} {k K i j c d r : Nat} (hx : LOk k x.lv) (hy : LOk k y.lv) (hk1 : 1 ≤ k) (hkK : 1 ≤ K) (hK : K + (k + k) < 2 ^ 36) (hxc : x.cols = c) (hyd : y.cols = d) (hi : i < r) (hj : j < d) (hr : r ≤ 60) (hc : c ≤ 60) (hd : d ≤ 60) (hlx : x.lv.es.length = r * c) (hly : y.lv.es.length = c * d)
    (hB : ∀ l, l ≤ c → Bd K (dotQ x y c d i j l)) : ∃ s : RV, AP cfg 104 [.int .i64 i, .int .i64 j, vM x, vM y] = some s.av ∧ s.q = dotQ x y c d i j c ∧ ROk K s ∧ s.fr = s ∧ rightR s = true := by
  obtain ⟨m', s, q0, q1, q2, q3, q4, q5⟩ := W104 hx hy hk1 hkK hK hxc hyd hi hj hr hc hd hlx hly hB (K104_3 (finK cfg.P f104.results.toList)) c 0 [cR zR, cR zeroR] zeroR (by omega) rfl rfl rfl ⟨zeroR_ok.mono (by omega), can_rightR can_zero⟩ can_zero.q
  refine ⟨s, (AP_ofz _ _ (fz_rv s) (noV_rv _) (m := m'.set 0 (cR s)) ?_).trans (by rw [q2]), q4, q3.1, q2, q3.2⟩
  rw [T104]
  simp only [new_z', new_r, List.length_nil, List.nil_append]
  rw [pc0, V60, Option.map_some, Option.bind_some]
  simp only [new_z', new_r, List.length_cons, List.length_nil, List.cons_append, List.nil_append, Nat.zero_add, Nat.reduceAdd]
  rw [rstA (x := zR) rfl, Option.bind_some]
  simp only [List.set_cons_zero, List.set_cons_succ]
  rw [vMf1, Option.bind_some, vMl1, Option.bind_some, hxc]
  refine Eq.trans ?_ (q5.trans ?_)
  · rfl
  rw [K104_3_x0, rldA q1, Option.bind_some, rstA q0, Option.bind_some, rldA (by rw [List.getElem?_set_self (idx_lt q0)])]
  rfl
/-- The product's cell. -/
def mulQ (x y : MV) (c d p : Nat) : Rat := dotQ x y c d (p / d) (p % d) c
theorem V73 {x y : MV} {k K r c d : Nat} (hx : IsM k x) (hy : IsM k y) (hk1 : 1 ≤ k) (hkK : 1 ≤ K) (hK : K + (k + k) < 2 ^ 36) (hxr : x.rows = r) (hxc : x.cols = c) (hyd : y.cols = d) (hr : r ≤ 60) (hc : c ≤ 60) (hd : d ≤ 60) (hlx : x.lv.es.length = r * c) (hly : y.lv.es.length = c * d)
    (hB : ∀ i j l, i < r → j < d → l ≤ c → Bd K (dotQ x y c d i j l)) : ∃ z : MV, AP cfg 73 [x.av, y.av] = some z.av ∧ Res z 0 0 r d (mulQ x y c d) K ∧ ∀ t ∈ z.lv.es, rightR t = true := by
  obtain ⟨z, f1, f2, f3, f4, f5, f6, f7, f8⟩ := fillP (P := fun s => rightR s = true) (g := 104) (cs := [vM x, vM y]) (rows := r) (cols := d) (k := K) (Q := fun i j => dotQ x y c d i j c) ⟨rfl, rfl⟩ (csz2 (frz_vM hx.fr) (frz_vM hy.fr)) hr hd
    (fun i j hi hj => V104 hx.ok hy.ok hk1 hkK hK hxc hyd hi hj hr hc hd hlx hly (fun l hl => hB i j l hi hj hl))
  refine ⟨z, (AP_ofz _ _ (fz_mv z) (noV_mv _) (m := [cM x, cM y, cM z]) ?_).trans (by rw [f7]), ⟨f7, f6, rfl, fun h => absurd rfl h, fun _ => f2, fun _ => f3, fun _ => f4, fun _ p hp => f5 p hp⟩, f8⟩
  rw [T73, box_mv, Option.bind_some, box_mv, Option.bind_some]
  simp only [new_m, new_r, List.length_nil, List.nil_append, List.length_cons, List.cons_append, Nat.zero_add, Nat.reduceAdd]
  rw [fld0, Option.bind_some, mld0 (x := x) rfl, Option.bind_some, fld1, Option.bind_some, mld1 (x := y) rfl, Option.bind_some, hxr, hyd, pcFill2 _ _ _ _ (frz_ptrM (x := x) rfl) (frz_ptrM (x := y) rfl), hx.fr, hy.fr, f1, Option.map_some, Option.bind_some, mstA (x := zM) rfl, Option.bind_some]
  simp only [List.set_cons_zero, List.set_cons_succ]
  rw [mldA (x := z) rfl]
  rfl
end Go.Ab

/- Products of matrices, in values: the reference's side. -/
set_option linter.unusedVariables false
set_option linter.unusedSimpArgs false
set_option maxRecDepth 100000
namespace Go.Ab
open Go.Proofs.Try

theorem Wr.congr {es : List RV} {L k : Nat} {Q Q' : Nat → Rat} (h : Wr es L k Q (fun _ => True)) (hq : ∀ p, p < L → Q' p = Q p) : Wr es L k Q' (fun _ => True) := ⟨h.len, h.fr, h.ok, fun p hp _ => by rw [h.q p hp trivial, hq p hp]⟩
theorem Wr.get {es : List RV} {L k : Nat} {Q : Nat → Rat} (h : Wr es L k Q (fun _ => True)) {p : Nat} (hp : p < es.length) : es[p].q = Q p := by
  have := h.q p (by rw [← h.len]; exact hp) trivial
  rw [List.getD_eq_getElem?_getD, List.getElem?_map, List.getElem?_eq_getElem hp] at this
  exact this
theorem row_col {i j d : Nat} (hj : j < d) : (i * d + j) / d = i ∧ (i * d + j) % d = j := by
  obtain ⟨a, b⟩ := tr_cell (r := d) (i := j) (j := i) hj
  exact ⟨b, a⟩

section
variable {x y : MV} {k K r c d : Nat}
end

/-! ### Mul -/
def mulE (x y : MV) : Int := if rightM x = true ∧ rightM y = true then if x.cols = y.rows then 0 else 30 else 1
/-- A bound for the sums of products. -/
theorem dot_bd {x y : MV} {k c d i j : Nat} (hx : LOk k x.lv) (hy : LOk k y.lv) (hk1 : 1 ≤ k) : ∀ l : Nat, Bd (1 + l * (k + k + 1)) (dotQ x y c d i j l)
  | 0 => Bd_zero (by omega)
  | l + 1 => by
    have h := Bd_add (dot_bd (c := c) (d := d) (i := i) (j := j) hx hy hk1 l) (Bd_mul (qAt_bd (p := i * c + l) hx hk1) (qAt_bd (p := l * d + j) hy hk1) hk1) (by omega)
    have e : 1 + (l + 1) * (k + k + 1) = 1 + l * (k + k + 1) + (k + k) + 1 := by rw [Nat.succ_mul]; omega
    rw [e]
    exact h
theorem right_len {x : MV} (h : rightM x = true) : ∃ r c : Nat, x.rows = r ∧ x.cols = c ∧ r ≤ 60 ∧ c ≤ 60 ∧ x.lv.es.length = r * c := by
  obtain ⟨z1, z2, z3, z4, z5⟩ := size_of_right h
  obtain ⟨r, hr⟩ := Int.eq_ofNat_of_zero_le z1
  obtain ⟨c, hc⟩ := Int.eq_ofNat_of_zero_le z3
  refine ⟨r, c, hr, hc, by omega, by omega, ?_⟩
  rw [hr, hc, ← Int.natCast_mul] at z5
  exact Int.ofNat_inj.1 z5
theorem right_of {z : MV} {r c : Nat} (h1 : z.rows = r) (h2 : z.cols = c) (h3 : r ≤ 60) (h4 : c ≤ 60) (h5 : z.lv.es.length = r * c) (h6 : ∀ t ∈ z.lv.es, rightR t = true) : rightM z = true := by
  unfold rightM sizeB
  rw [Bool.and_eq_true]
  refine ⟨decide_eq_true ⟨by omega, by omega, by omega, by omega, ?_⟩, List.all_eq_true.2 h6⟩
  rw [h1, h2, h5, Int.natCast_mul]
theorem V41g {x y : MV} {k K : Nat} (hx : IsM k x) (hy : IsM k y) (hk1 : 1 ≤ k) (hkK : 1 ≤ K) (hK : K + (k + k) < 2 ^ 36) (hB : mulE x y = 0 → ∀ i j l, i < x.rows.toNat → j < y.cols.toNat → l ≤ x.cols.toNat → Bd K (dotQ x y x.cols.toNat y.cols.toNat i j l)) :
    ∃ z e, AP cfg 41 [x.av, y.av] = some (.tup [z.av, .int .i64 e]) ∧ Res z e (mulE x y) x.rows.toNat y.cols.toNat (mulQ x y x.cols.toNat y.cols.toNat) K ∧ (mulE x y = 0 → rightM z = true) := by
  have e20 := V20 hx.ok (by omega) (by have := hx.len; omega)
  have e20' := V20 hy.ok (by omega) (by have := hy.len; omega)
  have gx : ∀ e : Mem, (cM x :: e)[0]? = some (cM x) := fun _ => rfl
  have gy : ∀ e : Mem, (cM x :: cM y :: e)[1]? = some (cM y) := fun _ => rfl
  have start : AC cfg 41 [x.av, y.av] [] = AC cfg 41 [x.av, y.av] [] := rfl
  conv at start => rhs; rw [T41, box_mv, Option.bind_some, box_mv, Option.bind_some]
  simp only [new_m, new_r, List.length_nil, List.nil_append, List.length_cons, List.cons_append, Nat.zero_add, Nat.reduceAdd] at start
  rw [mldA (gx _), Option.bind_some, pcM, hx.fr, e20, Option.map_some, Option.bind_some, not_b, Option.bind_some] at start
  revert hB
  unfold mulE
  intro hB
  cases hbx : rightM x with
  | false =>
    rw [hbx, Bool.not_false, ifA_true, bldM, Option.bind_some, mstA (x := zM) rfl, Option.bind_some] at start
    simp only [List.set_cons_zero, List.set_cons_succ] at start
    rw [mldA (x := zM) rfl, Option.bind_some] at start
    rw [if_neg (fun h => by cases h.1)]
    exact ⟨zM, 1, retM2 start rfl, Res.bad' (by decide), fun h => absurd h (by decide)⟩
  | true =>
    rw [hbx, Bool.not_true, ifA_false, mldA (gy _), Option.bind_some, pcM, hy.fr, e20', Option.map_some, Option.bind_some, not_b, Option.bind_some] at start
    cases hby : rightM y with
    | false =>
      rw [hby, Bool.not_false, ifA_true, bldM, Option.bind_some, mstA (x := zM) rfl, Option.bind_some] at start
      simp only [List.set_cons_zero, List.set_cons_succ] at start
      rw [mldA (x := zM) rfl, Option.bind_some] at start
      rw [if_neg (fun h => by cases h.2)]
      exact ⟨zM, 1, retM2 start rfl, Res.bad' (by decide), fun h => absurd h (by decide)⟩
    | true =>
      rw [hby, Bool.not_true, ifA_false, fld1, Option.bind_some, mld1 (gx _), Option.bind_some, fld0, Option.bind_some, mld0 (gy _), Option.bind_some, binA_neq, Option.bind_some, ifA_dec] at start
      rw [if_pos ⟨rfl, rfl⟩]
      by_cases c1 : x.cols = y.rows
      · obtain ⟨r, c, hr, hc, r6, c6, hlx⟩ := right_len hbx
        obtain ⟨c', d, hc', hd, _, d6, hly⟩ := right_len hby
        obtain rfl : c = c' := by rw [c1, hc'] at hc; omega
        have hB := hB (by rw [hbx, hby, if_pos ⟨rfl, rfl⟩, if_pos c1])
        rw [hr, hc, hd] at hB
        obtain ⟨z, f1, f2, f3⟩ := V73 hx hy hk1 hkK hK hr hc hd r6 c6 d6 hlx hly hB
        rw [if_neg (fun h => h c1), mldA (gx _), Option.bind_some, mldA (gy _), Option.bind_some, pcall2 (fz_mv x) (fz_mv y), hx.fr, hy.fr, f1, Option.map_some, Option.bind_some, mstA (x := zM) rfl, Option.bind_some] at start
        simp only [List.set_cons_zero, List.set_cons_succ] at start
        rw [mldA (x := z) rfl, Option.bind_some] at start
        rw [if_pos c1, hr, hc, hd]
        exact ⟨z, 0, retM2 start f2.fr, f2, fun _ => right_of (f2.rows rfl) (f2.cols rfl) r6 d6 (f2.len rfl) f3⟩
      · rw [if_pos c1, bldM, Option.bind_some, mstA (x := zM) rfl, Option.bind_some] at start
        simp only [List.set_cons_zero, List.set_cons_succ] at start
        rw [mldA (x := zM) rfl, Option.bind_some] at start
        rw [if_neg c1]
        exact ⟨zM, 30, retM2 start rfl, Res.bad' (by decide), fun h => absurd h (by decide)⟩
theorem V41 {x y : MV} {k K : Nat} (hx : IsM k x) (hy : IsM k y) (hk1 : 1 ≤ k) (hkK : 1 + 60 * (k + k + 1) ≤ K) (hK : K < 2 ^ 35) :
    ∃ z e, AP cfg 41 [x.av, y.av] = some (.tup [z.av, .int .i64 e]) ∧ Res z e (mulE x y) x.rows.toNat y.cols.toNat (mulQ x y x.cols.toNat y.cols.toNat) K ∧ (mulE x y = 0 → rightM z = true) :=
  V41g hx hy hk1 (by omega) (by omega) (fun h0 i j l _ _ hl => (dot_bd hx.ok hy.ok hk1 l).mono (by
    have hxr : rightM x = true := by
      unfold mulE at h0
      by_cases c : rightM x = true ∧ rightM y = true
      · exact c.1
      · rw [if_neg c] at h0; cases h0
    obtain ⟨_, _, _, z4, _⟩ := size_of_right hxr
    have : l * (k + k + 1) ≤ 60 * (k + k + 1) := Nat.mul_le_mul_right _ (by omega)
    omega))
end Go.Ab

/- The sum of a row of fractions. -/
set_option linter.unusedVariables false
set_option linter.unusedSimpArgs false
set_option maxRecDepth 100000
namespace Go.Ab
open Go.Proofs.Try

/-- The t-th fraction; what the first ones come to. -/
def rQ (es : List RV) (t : Nat) : Rat := (es.map RV.q).getD t 0
def sumQ (es : List RV) (n : Nat) : Rat := sumN (rQ es) n
theorem rQ_get {es : List RV} {t : Nat} (h : t < es.length) : rQ es t = es[t].q := by
  unfold rQ
  rw [List.getD_eq_getElem?_getD, List.getElem?_map, List.getElem?_eq_getElem h]; rfl
theorem sumQ_bd {es : List RV} {k : Nat} (h : ∀ r ∈ es, ROk k r) (hk1 : 1 ≤ k) : ∀ n, n ≤ es.length → Bd (1 + n * (k + 1)) (sumQ es n)
  | 0, _ => Bd_zero (by omega)
  | n + 1, hn => by
    have h1 := Bd_add (sumQ_bd h hk1 n (by omega)) ((h _ (List.getElem_mem (show n < es.length by omega))).bd hk1) (by omega)
    have e : sumQ es (n + 1) = sumQ es n + es[n].q := by
      rw [← rQ_get (show n < es.length by omega)]; rfl
    rw [e]
    refine h1.mono ?_
    rw [Nat.succ_mul]; omega
section
variable {l : LV} {k : Nat}
theorem W83 (h : LOk k l) (hk1 : 1 ≤ k) (hlen : l.es.length ≤ 60) (hk : k ≤ 2 ^ 30) (K : Ex → St → Option (AV × Mem)) : ∀ (n i : Nat) (m : Mem) (s : RV), i + n = l.es.length → m[0]? = some (cR zR) → m[1]? = some (cR s) → s.fr = s → Can s (sumQ l.es i) →
    ∃ m' s', m'[0]? = some (cR zR) ∧ m'[1]? = some (cR s') ∧ s'.fr = s' ∧ Can s' (sumQ l.es l.es.length) ∧
      L83_3 (.ptr 0 0) (.ptr 1 0) l.av (.int .i64 l.es.length) (.int .i64 i) m K = K (.exit 0) (O83_3 (.ptr 0 0) (.ptr 1 0) m') := by
  intro n
  induction n with
  | zero =>
    intro i m s hi h0 h1 h2 h3
    obtain rfl : i = l.es.length := by omega
    refine ⟨m, s, h0, h1, h2, h3, ?_⟩
    rw [L83_3_eq, n_lss, Option.bind_some, ifA_dec, if_neg (by omega)]
  | succ n ih =>
    intro i m s hi h0 h1 h2 h3
    have hil : i < l.es.length := by omega
    have f1 := h.fr _ (List.getElem_mem hil)
    have r1 := h.ok _ (List.getElem_mem hil)
    have hm0 := idx_lt h0
    have hm1 := idx_lt h1
    have hb := sumQ_bd h.ok hk1 i (by omega)
    have hb2 : 1 + i * (k + 1) ≤ 1 + 60 * (2 ^ 30 + 1) := Nat.add_le_add_left (Nat.mul_le_mul (by omega) (by omega)) _
    have os := h3.ok hb (by omega)
    obtain ⟨u, u1, u2, u3⟩ := V75 (k := 1 + i * (k + 1) + k) (os.mono (by omega)) (r1.mono (by omega)) (by omega) (by omega)
    have hq : s.q + l.es[i].q = sumQ l.es (i + 1) := by
      rw [h3.q, ← rQ_get hil]; rfl
    rw [hq] at u2
    have g1 : (m ++ [cR l.es[i]])[1]? = some (cR s) := by rw [List.getElem?_append_left hm1]; exact h1
    have gN : (m ++ [cR l.es[i]])[m.length]? = some (cR l.es[i]) := by simp
    obtain ⟨m', s', w⟩ := ih (i + 1) ((m ++ [cR l.es[i]]).set 1 (cR u)) u (by omega) (by rw [List.getElem?_set_ne (by omega), List.getElem?_append_left hm0]; exact h0) (by rw [List.getElem?_set_self (by simp; omega)]) u3 u2
    refine ⟨m', s', w.1, w.2.1, w.2.2.1, w.2.2.2.1, ?_⟩
    rw [L83_3_eq, n_lss, Option.bind_some, ifA_dec, if_pos hil, index_lv h hil, Option.bind_some, load_row, Option.bind_some, new_z', new_r]
    simp only
    rw [rstA (x := zR) (by simp), Option.bind_some]
    have e1 : (m ++ [cR zR]).set m.length (cR l.es[i]) = m ++ [cR l.es[i]] := by simp
    rw [e1, rldA g1, Option.bind_some, rldA gN, Option.bind_some, pcRR, h2, f1, u1, Option.map_some, Option.bind_some, rstA g1, Option.bind_some, i_add1 (by omega), Option.bind_some]
    exact w.2.2.2.2
theorem V83 (h : LOk k l) (hk1 : 1 ≤ k) (hlen : l.es.length ≤ 60) (hk : k ≤ 2 ^ 30) : ∃ s : RV, AP cfg 83 [l.av] = some s.av ∧ Can s (sumQ l.es l.es.length) ∧ s.fr = s := by
  obtain ⟨m', s, q0, q1, q2, q3, q4⟩ := W83 h hk1 hlen hk (K83_3 (finK cfg.P f83.results.toList)) l.es.length 0 [cR zR, cR zeroR] zeroR (by omega) rfl rfl rfl can_zero
  refine ⟨s, (AP_ofz _ _ (fz_rv s) (noV_rv _) (m := m'.set 0 (cR s)) ?_).trans (by rw [q2]), q3, q2⟩
  rw [T83]
  simp only [new_z', new_r, List.length_nil, List.nil_append]
  rw [pc0, V60, Option.map_some, Option.bind_some]
  simp only [new_z', new_r, List.length_cons, List.length_nil, List.cons_append, List.nil_append, Nat.zero_add, Nat.reduceAdd]
  rw [rstA (x := zR) rfl, Option.bind_some]
  simp only [List.set_cons_zero, List.set_cons_succ]
  rw [len_lv, Option.bind_some]
  refine Eq.trans ?_ (q4.trans ?_)
  · rfl
  rw [K83_3_x0, rldA q1, Option.bind_some, rstA q0, Option.bind_some, rldA (by rw [List.getElem?_set_self (idx_lt q0)]), Option.bind_some]
theorem W87 (h : LOk k l) (hk1 : 1 ≤ k) (hlen : l.es.length ≤ 60) (hk : k ≤ 2 ^ 30) (K : Ex → St → Option (AV × Mem)) : ∀ (n i : Nat) (m : Mem) (s : RV), i + n = l.es.length → m[0]? = some (cR zR) → m[1]? = some (cR s) → s.fr = s → Can s (sumQ l.es i) →
    ∃ m' s', m'[0]? = some (cR zR) ∧ m'[1]? = some (cR s') ∧ s'.fr = s' ∧ Can s' (sumQ l.es l.es.length) ∧
      L87_3 l.av (.ptr 0 0) (.ptr 1 0) (.int .i64 i) m K = K (.exit 0) (O87_3 (.ptr 0 0) (.ptr 1 0) m') := by
  intro n
  induction n with
  | zero =>
    intro i m s hi h0 h1 h2 h3
    obtain rfl : i = l.es.length := by omega
    refine ⟨m, s, h0, h1, h2, h3, ?_⟩
    rw [L87_3_eq, len_lv, Option.bind_some, n_lss, Option.bind_some, ifA_dec, if_neg (by omega)]
  | succ n ih =>
    intro i m s hi h0 h1 h2 h3
    have hil : i < l.es.length := by omega
    have f1 := h.fr _ (List.getElem_mem hil)
    have r1 := h.ok _ (List.getElem_mem hil)
    have hm0 := idx_lt h0
    have hm1 := idx_lt h1
    have hb := sumQ_bd h.ok hk1 i (by omega)
    have hb2 : 1 + i * (k + 1) ≤ 1 + 60 * (2 ^ 30 + 1) := Nat.add_le_add_left (Nat.mul_le_mul (by omega) (by omega)) _
    have os := h3.ok hb (by omega)
    obtain ⟨u, u1, u2, u3⟩ := V76 (k := 1 + i * (k + 1) + k) (os.mono (by omega)) (r1.mono (by omega)) (by omega) (by omega)
    have hq : s.q + l.es[i].q = sumQ l.es (i + 1) := by
      rw [h3.q, ← rQ_get hil]; rfl
    rw [hq] at u2
    obtain ⟨m', s', w⟩ := ih (i + 1) (m.set 1 (cR u)) u (by omega) (by rw [List.getElem?_set_ne (by omega)]; exact h0) (by rw [List.getElem?_set_self hm1]) u3 u2
    refine ⟨m', s', w.1, w.2.1, w.2.2.1, w.2.2.2.1, ?_⟩
    rw [L87_3_eq, len_lv, Option.bind_some, n_lss, Option.bind_some, ifA_dec, if_pos hil, rldA h1, Option.bind_some, index_lv h hil, Option.bind_some, load_row, Option.bind_some, pcRR, h2, f1, u1, Option.map_some, Option.bind_some, rstA h1, Option.bind_some, i_add1 (by omega), Option.bind_some]
    exact w.2.2.2.2
theorem V87 (h : LOk k l) (hk1 : 1 ≤ k) (hlen : l.es.length ≤ 60) (hk : k ≤ 2 ^ 30) : ∃ s : RV, AP cfg 87 [l.av] = some s.av ∧ Can s (sumQ l.es l.es.length) ∧ s.fr = s := by
  obtain ⟨m', s, q0, q1, q2, q3, q4⟩ := W87 h hk1 hlen hk (K87_3 (finK cfg.P f87.results.toList)) l.es.length 0 [cR zR, cR zeroF] zeroF (by omega) rfl rfl zeroF_fr canF_zero
  refine ⟨s, (AP_ofz _ _ (fz_rv s) (noV_rv _) (m := m'.set 0 (cR s)) ?_).trans (by rw [q2]), q3, q2⟩
  rw [T87]
  simp only [new_z', new_r, List.length_nil, List.nil_append]
  rw [pc0, V31, Option.map_some, Option.bind_some]
  simp only [new_z', new_r, List.length_cons, List.length_nil, List.cons_append, List.nil_append, Nat.zero_add, Nat.reduceAdd]
  rw [rstA (x := zR) rfl, Option.bind_some]
  simp only [List.set_cons_zero, List.set_cons_succ]
  refine Eq.trans ?_ (q4.trans ?_)
  · rfl
  rw [K87_3_x0, rldA q1, Option.bind_some, rstA q0, Option.bind_some, rldA (by rw [List.getElem?_set_self (idx_lt q0)]), Option.bind_some]
end
end Go.Ab

/- The reference: rows of a matrix; Stochastic. -/
set_option linter.unusedVariables false
set_option linter.unusedSimpArgs false
set_option maxRecDepth 100000
namespace Go.Ab
open Go.Proofs.Try

def cutL (es : List RV) (c i : Nat) : List RV := (es.take ((i + 1) * c)).drop (i * c)
theorem cutL_length {es : List RV} {r c i : Nat} (h : es.length = r * c) (hi : i < r) : (cutL es c i).length = c := by
  have h1 : (i + 1) * c ≤ r * c := Nat.mul_le_mul (by omega) (Nat.le_refl _)
  have h2 : (i + 1) * c = i * c + c := Nat.succ_mul i c
  simp only [cutL, List.length_drop, List.length_take]
  omega
theorem cutL_mem {es : List RV} {c i : Nat} {r : RV} (h : r ∈ cutL es c i) : r ∈ es := List.mem_of_mem_take (List.mem_of_mem_drop h)
def rwV (es : List RV) (c i : Nat) (o : Own) : LV := ⟨some 3, false, o, cutL es c i⟩
theorem rwV_ok {es : List RV} {c i k : Nat} {o : Own} {sh : Sh} {z : Bool} {o' : Own} (h : LOk k ⟨sh, z, o', es⟩) : LOk k (rwV es c i o) :=
  ⟨.inl rfl, (fun h => by cases h), fun r hr => h.fr r (cutL_mem hr), fun r hr => h.ok r (cutL_mem hr)⟩
abbrev nilA' : AV := .lst none true .full []
def rowsC (es : List RV) (c n : Nat) : List AV := (List.range n).map fun t => (rwV es c t (if c = 0 then .full else .tok (2 + t) 43)).av
theorem rowsC_length (es : List RV) (c n : Nat) : (rowsC es c n).length = n := by simp [rowsC]
theorem rowsC_succ (es : List RV) (c n : Nat) : rowsC es c (n + 1) = rowsC es c n ++ [(rwV es c n (if c = 0 then .full else .tok (2 + n) 43)).av] := by simp [rowsC, List.range_succ]
theorem putAt_mid {A B : List AV} {x v : AV} {n : Nat} (h : A.length = n) : putAt (A ++ x :: B) n [v] = A ++ v :: B := by
  subst h
  simp [putAt]
theorem slice_mid {sh sh' : Sh} {z : Bool} {o : Own} {es : List AV} {lo hi : Nat} (hs : sh' = sh ∨ es = []) (h1 : lo ≤ hi) (h2 : hi ≤ es.length) : sliceT sh (.lst sh' z o es) (some (.int .i64 lo)) (some (.int .i64 hi)) none = some (.lst sh' z .no ((es.take hi).drop lo)) := by
  have e1 : (0 : Int) ≤ (hi : Nat) ∧ ((hi : Nat) : Int) ≤ es.length := by omega
  have e2 : (0 : Int) ≤ (lo : Nat) ∧ ((lo : Nat) : Int) ≤ (hi : Nat) := by omega
  simp only [sliceT, sliceA, boundA, if_pos hs, if_pos e1, Option.bind_some, Int.toNat_natCast, if_pos e2]
theorem W85 {x : MV} {k r c : Nat} (hx : LOk k x.lv) (hxr : x.rows = r) (hxc : x.cols = c) (hr : r ≤ 60) (hc : c ≤ 60) (hl : x.lv.es.length = r * c) (K : Ex → St → Option (AV × Mem)) : ∀ (n i : Nat) (m : Mem), i + n = r → m[0]? = some (cM x) → m[1]? = some (some (.obj false (rowsC x.lv.es c i ++ List.replicate n nilA'))) → m.length = 2 + (if c = 0 then 0 else i) →
    ∃ m', m'[1]? = some (some (.obj false (rowsC x.lv.es c r))) ∧ L85_3 (.ptr 0 0) (.arr 1 0 r none) (.int .i64 r) (.int .i64 i) m K = K (.exit 0) (O85_3 (.arr 1 0 r none) m') := by
  intro n
  induction n with
  | zero =>
    intro i m hi h0 h1 h2
    obtain rfl : i = r := by omega
    refine ⟨m, by simpa using h1, ?_⟩
    rw [L85_3_eq, n_lss, Option.bind_some, ifA_dec, if_neg (by omega)]
  | succ n ih =>
    intro i m hi h0 h1 h2
    have hir : i < r := by omega
    have h3 : (i + 1) * c ≤ r * c := Nat.mul_le_mul (by omega) (Nat.le_refl _)
    have h4 : i * c ≤ (i + 1) * c := Nat.mul_le_mul (by omega) (Nat.le_refl _)
    have hsl : sliceT (some 3) x.lv.av (some (.int .i64 (i * c : Nat))) (some (.int .i64 ((i + 1) * c : Nat))) none = some (.lst x.lv.sh x.lv.z .no ((cutL x.lv.es c i).map RV.av)) := by
      have := slice_mid (sh := some 3) (sh' := x.lv.sh) (z := x.lv.z) (o := x.lv.o) (es := x.lv.es.map RV.av) (lo := i * c) (hi := (i + 1) * c) (hx.sh.imp id (fun h => by rw [h]; rfl)) h4 (by rw [List.length_map, hl]; exact h3)
      rw [← List.map_take, ← List.map_drop] at this
      exact this
    have hlen : (cutL x.lv.es c i).length = c := cutL_length hl hir
    have happ : ∃ m1, appA none false 43 (some 3) 56 m (.lst (some 3) false .full []) (.lst x.lv.sh x.lv.z .no ((cutL x.lv.es c i).map RV.av)) = some ((rwV x.lv.es c i (if c = 0 then .full else .tok (2 + i) 43)).av, m1) ∧ m1[0]? = some (cM x) ∧ m1[1]? = m[1]? ∧ m1.length = 2 + (if c = 0 then 0 else i + 1) := by
      have hm0 := idx_lt h0
      have hm1 := idx_lt h1
      by_cases hc0 : c = 0
      · refine ⟨m, ?_, h0, rfl, by rw [h2, if_pos hc0, if_pos hc0]⟩
        have hn : cutL x.lv.es c i = [] := List.eq_nil_of_length_eq_zero (by omega)
        rw [hn, rwV, hn, if_pos hc0]
        rfl
      · refine ⟨m ++ [some (.tok c 3)], ?_, by rw [List.getElem?_append_left hm0]; exact h0, by rw [List.getElem?_append_left hm1], by rw [List.length_append, h2, if_neg hc0, if_neg hc0]; rfl⟩
        rw [if_neg hc0] at h2
        have hsh : x.lv.sh = some 3 := hx.sh.resolve_right (fun e => by
          rw [e] at hl
          have : 0 < r * c := Nat.mul_pos (by omega) (by omega)
          simp at hl; omega)
        cases hcut : (cutL x.lv.es c i) with
        | nil => rw [hcut] at hlen; simp at hlen; omega
        | cons y ys =>
          have hl2 : c * 56 ≤ roomA := by simp only [roomA]; omega
          have hl3 : ys.length + 1 = c := by rw [hcut] at hlen; simpa using hlen
          rw [rwV, hcut, if_neg hc0, List.map_cons]
          simp only [appA, hsh, if_true, true_or, Bool.false_eq_true, if_false, newAt, List.nil_append, h2, List.length_nil, List.length_cons, List.length_map, Nat.zero_add, hl3, if_pos hl2]
          rfl
    obtain ⟨m1, a1, a2, a3, a4⟩ := happ
    rw [h1] at a3
    have hm1 := idx_lt a3
    have hst : storeA none m1 (.ptr 1 (0 + i * 1)) (rwV x.lv.es c i (if c = 0 then .full else .tok (2 + i) 43)).av = some (m1.set 1 (some (.obj false (rowsC x.lv.es c (i + 1) ++ List.replicate n nilA')))) := by
      have hle : 0 + i * 1 + 1 ≤ (rowsC x.lv.es c i ++ List.replicate (n + 1) nilA').length := by simp [rowsC_length]
      have hput : putAt (rowsC x.lv.es c i ++ List.replicate (n + 1) nilA') (0 + i * 1) [(rwV x.lv.es c i (if c = 0 then .full else .tok (2 + i) 43)).av] = rowsC x.lv.es c (i + 1) ++ List.replicate n nilA' := by
        rw [List.replicate_succ, putAt_mid (by rw [rowsC_length]; omega), rowsC_succ, List.append_assoc]; rfl
      simp only [storeA, mobj a3, Option.bind_some]
      rw [if_pos (show 0 + i * 1 + Sh.size none ≤ (rowsC x.lv.es c i ++ List.replicate (n + 1) nilA').length from hle), if_pos (show shOk none (rwV x.lv.es c i (if c = 0 then .full else .tok (2 + i) 43)).av = true from rfl)]
      rw [show (rwV x.lv.es c i (if c = 0 then .full else .tok (2 + i) 43)).av.cells = [(rwV x.lv.es c i (if c = 0 then .full else .tok (2 + i) 43)).av] from rfl, hput]
    obtain ⟨m', w1, w2⟩ := ih (i + 1) (m1.set 1 (some (.obj false (rowsC x.lv.es c (i + 1) ++ List.replicate n nilA')))) (by omega) (by rw [List.getElem?_set_ne (by omega)]; exact a2) (by rw [List.getElem?_set_self hm1]) (by rw [List.length_set]; exact a4)
    refine ⟨m', w1, ?_⟩
    have hidx : indexAddrA none (.arr 1 0 r none) (.int .i64 i) = some (.ptr 1 (0 + i * 1)) := by
      have e : (0 : Int) ≤ i ∧ (i : Int) < r := by omega
      simp only [indexAddrA, if_true, if_pos e, Int.toNat_natCast]; rfl
    rw [L85_3_eq, n_lss, Option.bind_some, ifA_dec, if_pos hir]
    rw [show buildSliceA (some 3) [] = some (.lst (some 3) false .full []) from rfl, Option.bind_some]
    rw [fld2, Option.bind_some, mld2 h0, Option.bind_some, fld1, Option.bind_some, mld1 h0, Option.bind_some, hxc, n_mul60 (by omega) hc, Option.bind_some, i_add1 (by omega), Option.bind_some, Option.bind_some, mld1 h0, Option.bind_some, hxc, n_mul60 (by omega) hc, Option.bind_some, hsl, Option.bind_some, a1, Option.bind_some, hidx, Option.bind_some, hst, Option.bind_some, Option.bind_some]
    exact w2
end Go.Ab

/- The reference's Stochastic in values. -/
set_option linter.unusedVariables false
set_option linter.unusedSimpArgs false
set_option maxRecDepth 100000
namespace Go.Ab
open Go.Proofs.Try

def rwF (es : List RV) (c i : Nat) : LV := rwV es c i (if c = 0 then .full else .no)
def rowsF (es : List RV) (c n : Nat) : List AV := (List.range n).map fun t => (rwF es c t).av
theorem mapF_of {α : Type} {f : AV → Option (AV × List Nat)} {g g' : α → AV} : ∀ (l : List α), (∀ t ∈ l, f (g t) = some (g' t, [])) → mapF f (l.map g) = some (l.map g', [])
  | [], _ => rfl
  | a :: l, h => by
    simp only [List.map_cons, mapF, h a List.mem_cons_self, Option.bind_some, mapF_of l (fun t ht => h t (List.mem_cons_of_mem _ ht)), Option.map_some, List.append_nil]
theorem plL_of : ∀ (l : List AV), (∀ x ∈ l, pl x = true) → plL l = true
  | [], _ => rfl
  | a :: l, h => by simp only [plL, h a List.mem_cons_self, plL_of l (fun t ht => h t (List.mem_cons_of_mem _ ht)), Bool.and_self]
theorem V85 {x : MV} {k r c : Nat} (hx : LOk k x.lv) (hxr : x.rows = r) (hxc : x.cols = c) (hr : r ≤ 60) (hc : c ≤ 60) (hl : x.lv.es.length = r * c) : AP cfg 85 [x.av] = some (.lst none false .no (rowsF x.lv.es c r)) := by
  obtain ⟨m', w1, w2⟩ := W85 hx hxr hxc hr hc hl (K85_3 (finK cfg.P f85.results.toList)) r 0 [cM x, some (.obj false (rowsC x.lv.es c 0 ++ List.replicate r nilA'))] (by omega) rfl rfl (by simp)
  have hAC : AC cfg 85 [x.av] [] = some (.arr 1 0 r none, m') := by
    rw [T85, box_mv, Option.bind_some]
    simp only [List.length_nil, List.nil_append]
    rw [fld0, Option.bind_some, mld0 (x := x) rfl, Option.bind_some, hxr]
    have hmk : makeA none 22 none (.lst none true .full []) 24 [cM x] (.int .i64 r) (.int .i64 r) = some (.arr 1 0 r none, [cM x, some (.obj false (List.replicate r nilA'))]) := by
      have e : (0 : Int) ≤ r ∧ (r : Int) ≤ r ∧ (r : Int) * (24 : Nat) ≤ 281474976710656 ∧ (r : Int) ≤ 9223372036854775807 := by omega
      simp only [makeA, if_pos e, if_true, Int.toNat_natCast, zeros, newAt]
      rfl
    rw [hmk, Option.bind_some]
    rw [show lenA false (.arr 1 0 r none) = some (.int .i64 r) from rfl, Option.bind_some]
    exact w2.trans (K85_3_x0 _ _)
  have hfz : frz m' fuelF (.arr 1 0 r none) = some (.lst none false .no (rowsF x.lv.es c r), [1]) := by
    have e1 : frz m' fuelF (.arr 1 0 r none) = (m'.obj? 1).bind fun o =>
      if !o.1 && decide (0 + r * 1 ≤ o.2.length) then (mapF (frz m' 8) ((o.2.drop 0).take (r * 1))).bind fun q =>
        if q.1.all atomOk && plL q.1 then some (.lst none false .no (grp none r q.1), 1 :: q.2) else none
      else none := rfl
    have e2 : mapF (frz m' 8) (rowsC x.lv.es c r) = some (rowsF x.lv.es c r, []) := by
      refine mapF_of _ fun t _ => ?_
      by_cases hc0 : c = 0
      · simp only [rwF, hc0, if_true]; rfl
      · simp only [rwF, hc0, if_false]; rfl
    have e3 : (rowsF x.lv.es c r).all atomOk = true := by
      rw [List.all_eq_true]
      intro y hy
      obtain ⟨t, _, rfl⟩ := List.mem_map.1 hy
      rfl
    have e4 : plL (rowsF x.lv.es c r) = true := by
      refine plL_of _ fun y hy => ?_
      obtain ⟨t, _, rfl⟩ := List.mem_map.1 hy
      by_cases hc0 : c = 0
      · simp only [rwF, hc0, if_true]; rfl
      · simp only [rwF, hc0, if_false]; rfl
    rw [e1, mobj w1, Option.bind_some]
    simp only [Bool.not_false, Bool.true_and, Nat.mul_one, Nat.zero_add, rowsC_length, Nat.le_refl, decide_true, if_true, List.drop_zero, List.take_of_length_le (Nat.le_of_eq (rowsC_length x.lv.es c r)), e2, Option.bind_some, e3, e4, Bool.and_self, grp]
    rw [List.take_of_length_le (by simp [rowsF])]
  unfold AP acallP
  rw [hAC]
  simp only [Option.bind_some]
  rw [hfz]
  rfl
/-! ### Rows that are stochastic -/
def negB (es : List RV) : Bool := es.any fun r => decide (r.q < 0)
def rowB (es : List RV) : Bool := !negB es && decide (sumQ es es.length = 1)
def stoB (x : MV) : Bool := rightM x && (decide (x.rows = x.cols) && (List.range x.rows.toNat).all fun i => rowB (cutL x.lv.es x.cols.toNat i))
theorem rat_neg (q : Rat) : (q < 0) ↔ q.num < 0 := by
  constructor
  · intro h
    apply Classical.byContradiction
    intro hn
    exact absurd h (Rat.not_lt.2 (Rat.num_nonneg.1 (by omega)))
  · intro h
    apply Classical.byContradiction
    intro hn
    have := Rat.num_nonneg.2 (Rat.not_lt.1 hn)
    omega
theorem sg_neg (q : Rat) : decide (sgQ q < 0) = decide (q < 0) := by
  by_cases h0 : q = 0
  · subst h0; rfl
  · by_cases h1 : q.num < 0
    · rw [decide_eq_true ((rat_neg q).2 h1)]; simp [sgQ, h0, h1]
    · rw [decide_eq_false (fun hh => h1 ((rat_neg q).1 hh))]; simp [sgQ, h0, h1]
theorem negB_drop {es : List RV} {i : Nat} (h : i < es.length) : negB (es.drop i) = (decide (es[i].q < 0) || negB (es.drop (i + 1))) := by
  rw [List.drop_eq_getElem_cons h]; rfl
theorem W46_7 {l : LV} {k : Nat} (hl : LOk k l) (hk : k < 2 ^ 38) (hlen : l.es.length ≤ 4000) (x4 x18 x19 x20 : AV) (K : Ex → St → Option (AV × Mem)) : ∀ (n i : Nat) (m : Mem), i + n = l.es.length →
    ∃ m', L46_7 x4 x18 x19 x20 l.av (.int .i64 l.es.length) (.int .i64 i) m K = if negB (l.es.drop i) = true then K .ret (R46_7 (.bool false) m') else K (.exit 2) (O46_7 x4 x18 x19 x20 m') := by
  intro n
  induction n with
  | zero =>
    intro i m hi
    obtain rfl : i = l.es.length := by omega
    refine ⟨m, ?_⟩
    rw [L46_7_eq, n_lss, Option.bind_some, ifA_dec, if_neg (by omega), List.drop_length]
    rfl
  | succ n ih =>
    intro i m hi
    have hil : i < l.es.length := by omega
    have f1 := hl.fr _ (List.getElem_mem hil)
    have r1 := hl.ok _ (List.getElem_mem hil)
    obtain ⟨m', w⟩ := ih (i + 1) (m ++ [cR l.es[i]]) (by omega)
    have pre : L46_7 x4 x18 x19 x20 l.av (.int .i64 l.es.length) (.int .i64 i) m K = ifA (.bool (decide (l.es[i].q < 0))) (K .ret (R46_7 (.bool false) (m ++ [cR l.es[i]]))) (L46_7 x4 x18 x19 x20 l.av (.int .i64 l.es.length) (.int .i64 (i + 1 : Nat)) (m ++ [cR l.es[i]]) K) := by
      have e1 : (m ++ [cR zR]).set m.length (cR l.es[i]) = m ++ [cR l.es[i]] := by simp
      rw [L46_7_eq, n_lss, Option.bind_some, ifA_dec, if_pos hil, index_lv hl hil, Option.bind_some, load_row, Option.bind_some, new_z', new_r]
      simp only
      rw [rstA (x := zR) (by simp), Option.bind_some, e1, rldA (x := l.es[i]) (by simp), Option.bind_some, pcR, f1, V86 r1 hk, Option.map_some, Option.bind_some, binA_lss, sg_neg, Option.bind_some, i_add1 (by omega), Option.bind_some]
    rw [pre, ifA_dec, negB_drop hil]
    by_cases hq : l.es[i].q < 0
    · refine ⟨m ++ [cR l.es[i]], ?_⟩
      rw [if_pos hq, decide_eq_true hq, Bool.true_or, if_pos rfl]
    · refine ⟨m', ?_⟩
      rw [if_neg hq, decide_eq_false hq, Bool.false_or]
      exact w
theorem W46_4 {x : MV} {k r c : Nat} (hx : LOk k x.lv) (hk1 : 1 ≤ k) (hk : k ≤ 2 ^ 30) (hr : r ≤ 60) (hc : c ≤ 60) (hl : x.lv.es.length = r * c) (K : Ex → St → Option (AV × Mem)) : ∀ (n i : Nat) (m : Mem), i + n = r →
    ∃ m', L46_4 (.lst none false .no (rowsF x.lv.es c r)) (.int .i64 r) (.int .i64 i) m K = if (((List.range r).drop i).all fun i => rowB (cutL x.lv.es c i)) = true then K (.exit 0) (O46_4 m') else K .ret (R46_4 (.bool false) m') := by
  intro n
  induction n with
  | zero =>
    intro i m hi
    obtain rfl : i = r := by omega
    refine ⟨m, ?_⟩
    rw [L46_4_eq, n_lss, Option.bind_some, ifA_dec, if_neg (by omega), if_pos (by rw [List.drop_of_length_le (by simp)]; rfl)]
  | succ n ih =>
    intro i m hi
    have hir : i < r := by omega
    have hok : LOk k (rwF x.lv.es c i) := rwV_ok (sh := x.lv.sh) (z := x.lv.z) (o' := x.lv.o) hx
    have hlen : (rwF x.lv.es c i).es.length = c := cutL_length hl hir
    have hdrop : (List.range r).drop i = i :: (List.range r).drop (i + 1) := by
      rw [List.drop_eq_getElem_cons (by simpa using hir)]; simp
    have hidx : indexAddrA none (.lst none false .no (rowsF x.lv.es c r)) (.int .i64 i) = some (.vptr (rwF x.lv.es c i).av.cells) := by
      have : (rowsF x.lv.es c r)[i]? = some (rwF x.lv.es c i).av := by simp [rowsF, hir]
      simp only [indexAddrA, if_true, Int.toNat_natCast, this, Option.map_some, if_pos (show (0 : Int) ≤ i by omega)]
    obtain ⟨m1, w1⟩ := W46_7 hok (by omega) (by omega) (rwF x.lv.es c i).av (.lst none false .no (rowsF x.lv.es c r)) (.int .i64 r) (.int .i64 i) (K46_7 K) c 0 m (by omega)
    obtain ⟨s, s1, s2, s3⟩ := V87 hok hk1 (by omega) hk
    have hsb := s2.ok (sumQ_bd hok.ok hk1 _ (Nat.le_refl _)) (by
      have : 1 + (rwF x.lv.es c i).es.length * (k + 1) ≤ 1 + 60 * (2 ^ 30 + 1) := Nat.add_le_add_left (Nat.mul_le_mul (by omega) (by omega)) _
      omega)
    have hkk : 1 + (rwF x.lv.es c i).es.length * (k + 1) ≤ 1 + 60 * (2 ^ 30 + 1) := Nat.add_le_add_left (Nat.mul_le_mul (by omega) (by omega)) _
    have e23 := V23 hsb (oneF_ok.mono (by omega)) (by omega) (by omega)
    rw [s2.q, canF_one.q] at e23
    obtain ⟨m', w2⟩ := ih (i + 1) m1 (by omega)
    have fr1 : (rwF x.lv.es c i).fr = rwF x.lv.es c i := by
      unfold rwF LV.fr rwV
      by_cases hc0 : c = 0
      · simp only [hc0, if_true]; rfl
      · simp only [hc0, if_false]; rfl
    have pre : L46_4 (.lst none false .no (rowsF x.lv.es c r)) (.int .i64 r) (.int .i64 i) m K = if negB (cutL x.lv.es c i) = true then K .ret (R46_4 (.bool false) m1) else ifA (.bool (!decide (sumQ (cutL x.lv.es c i) (cutL x.lv.es c i).length = 1))) (K .ret (R46_4 (.bool false) m1)) (L46_4 (.lst none false .no (rowsF x.lv.es c r)) (.int .i64 r) (.int .i64 (i + 1 : Nat)) m1 K) := by
      rw [L46_4_eq, n_lss, Option.bind_some, ifA_dec, if_pos hir, hidx, Option.bind_some]
      rw [show loadA none m (.vptr (rwF x.lv.es c i).av.cells) = some (rwF x.lv.es c i).av from rfl, Option.bind_some, len_lv, Option.bind_some]
      refine w1.trans ?_
      rw [List.drop_zero]
      rw [show (rwF x.lv.es c i).es = cutL x.lv.es c i from rfl]
      · rw [K46_7_ret, K46_7_x2, pcall1 (fz_lv _), fr1, s1, Option.map_some, Option.bind_some, pc0, V28, Option.map_some, Option.bind_some, pcRR, s3, oneF_fr, e23, Option.map_some, Option.bind_some]
        rw [show unA .not (.bool (decide (sumQ (rwF x.lv.es c i).es (rwF x.lv.es c i).es.length = 1))) = some (.bool (!decide (sumQ (rwF x.lv.es c i).es (rwF x.lv.es c i).es.length = 1))) from rfl, Option.bind_some, i_add1 (by omega), Option.bind_some]
        rfl
    rw [pre, hdrop, List.all_cons]
    unfold rowB
    cases hn : negB (cutL x.lv.es c i) with
    | true => exact ⟨m1, by simp⟩
    | false =>
      by_cases hs : sumQ (cutL x.lv.es c i) (cutL x.lv.es c i).length = 1
      · refine ⟨m', ?_⟩
        rw [decide_eq_true hs]
        simp only [Bool.false_eq_true, if_false, Bool.not_true, ifA_false, Bool.not_false, Bool.true_and]
        exact w2
      · refine ⟨m1, ?_⟩
        rw [decide_eq_false hs]
        simp [ifA_true]
theorem V46 {x : MV} {k : Nat} (hx : IsM k x) (hk1 : 1 ≤ k) (hk : k ≤ 2 ^ 30) : AP cfg 46 [x.av] = some (.bool (stoB x)) := by
  have key : ∃ m', AC cfg 46 [x.av] [] = some (.bool (stoB x), m') := by
    rw [T46, box_mv]
    simp only [Option.bind_some, List.length_nil, List.nil_append]
    rw [mldA (x := x) rfl, Option.bind_some, pcM, hx.fr, V21 hx.ok (by omega) (by have := hx.len; omega), Option.map_some, Option.bind_some]
    unfold stoB
    cases hb : rightM x with
    | false =>
      rw [show unA .not (.bool false) = some (.bool true) from rfl, Option.bind_some, ifA_true]
      exact ⟨_, rfl⟩
    | true =>
      have hsz : sizeB x = true := by
        unfold rightM at hb
        exact (Bool.and_eq_true _ _ ▸ hb).1
      have hsz' := of_decide_eq_true hsz
      obtain ⟨r1, r2, r3, r4, r5⟩ := hsz'
      obtain ⟨r, hxr⟩ := Int.eq_ofNat_of_zero_le r1
      obtain ⟨c, hxc⟩ := Int.eq_ofNat_of_zero_le r3
      have hxr' : x.rows = (r : Int) := hxr
      have hxc' : x.cols = (c : Int) := hxc
      rw [show unA .not (.bool true) = some (.bool false) from rfl, Option.bind_some, ifA_false, fld0, Option.bind_some, mld0 (x := x) rfl, Option.bind_some, fld1, Option.bind_some, mld1 (x := x) rfl, Option.bind_some, binA_neq, Option.bind_some]
      by_cases hrc : x.rows = x.cols
      · have e : decide (x.rows ≠ x.cols) = false := by simp [hrc]
        rw [e, ifA_false, decide_eq_true hrc]
        have hrn : r = c := by omega
        subst hrn
        have hl : x.lv.es.length = r * r := by
          have : (x.lv.es.length : Int) = ((r * r : Nat) : Int) := by rw [r5, hxr', hxc']; simp
          exact Int.ofNat.inj this
        rw [mldA (x := x) rfl, Option.bind_some, pcM, hx.fr, V85 hx.ok hxr' hxc' (by omega) (by omega) hl, Option.map_some, Option.bind_some]
        rw [show lenA false (.lst none false .no (rowsF x.lv.es r r)) = some (.int .i64 r) by simp [lenA, rowsF], Option.bind_some]
        obtain ⟨m', w⟩ := W46_4 hx.ok hk1 hk (r := r) (c := r) (by omega) (by omega) hl (K46_4 (finK cfg.P f46.results.toList)) r 0 [cM x] (by omega)
        rw [List.drop_zero] at w
        rw [hxr', hxc']
        refine ⟨m', w.trans ?_⟩
        simp only [Int.toNat_natCast, Bool.true_and]
        cases ha : (List.range r).all fun i => rowB (cutL x.lv.es r i) with
        | true => rw [if_pos rfl, K46_4_x0]
        | false => rw [if_neg (by simp), K46_4_ret]
      · have e : decide (x.rows ≠ x.cols) = true := by simp [hrc]
        rw [e, ifA_true, decide_eq_false hrc]
        exact ⟨_, rfl⟩
  obtain ⟨m', h⟩ := key
  exact AP_ofz _ _ (fz_bool _) rfl h
end Go.Ab

/- Small steps of the laws. -/
set_option linter.unusedVariables false
set_option linter.unusedSimpArgs false
set_option maxRecDepth 100000
namespace Go.Ab
open Go.Proofs.Try

theorem ext0' (a b : AV) : extractA (.tup [a, b]) 0 = some a := rfl
theorem ext1' (a b : AV) : extractA (.tup [a, b]) 1 = some b := rfl
theorem mv_frfr' (x : MV) : x.fr.fr = x.fr := by
  obtain ⟨a, b, ⟨c, d, o, es⟩⟩ := x
  cases o <;> rfl
theorem pcNI {m : Mem} {d : Option Nat} {g : Nat} (x : NV) (n : Int) : pcall (AP cfg) d m g [x.av, .int .i64 n] = (AP cfg g [x.fr.av, .int .i64 n]).map fun v => (v, m) := pcall2 (fz_nv x) (fz_int _ n)
/-- An error has no size to speak of: the bounds may be taken as small. -/
theorem Res.small {z : MV} {e err : Int} {R C k : Nat} {Q : Nat → Rat} (h : Res z e err R C Q k) (hb : err = 0 → R ≤ 60 ∧ C ≤ 60) : ∃ R' C', R' ≤ 60 ∧ C' ≤ 60 ∧ (err = 0 → R' = R ∧ C' = C) := by
  by_cases h0 : err = 0
  · exact ⟨R, C, (hb h0).1, (hb h0).2, fun _ => ⟨rfl, rfl⟩⟩
  · exact ⟨0, 0, by omega, by omega, fun h => absurd h h0⟩
end Go.Ab

/- Powers of matrices: plain sums, and how great their fractions can be. -/
set_option linter.unusedVariables false
set_option linter.unusedSimpArgs false
set_option maxRecDepth 100000
namespace Go.Ab
open Go.Proofs.Try

/-! ### Matrices as functions -/
abbrev MF := Nat → Nat → Rat
def mulF (n : Nat) (A B : MF) : MF := fun i j => sumN (fun l => A i l * B l j) n
def idF : MF := fun i j => if i = j then 1 else 0
def powF (n : Nat) (A : MF) : Nat → MF
  | 0 => idF
  | e + 1 => mulF n (powF n A e) A
theorem mulF_assoc (n : Nat) (A B C : MF) (i j : Nat) : mulF n A (mulF n B C) i j = mulF n (mulF n A B) C i j := by
  unfold mulF
  have h1 : ∀ l, l < n → A i l * sumN (fun m => B l m * C m j) n = sumN (fun m => A i l * (B l m * C m j)) n := fun l _ => (sumN_mulL _ _ n).symm
  have h2 : ∀ m, m < n → sumN (fun l => A i l * B l m) n * C m j = sumN (fun l => A i l * B l m * C m j) n := fun m _ => (sumN_mulR _ _ n).symm
  rw [sumN_congr h1, sumN_congr h2, sumN_swap]
  refine sumN_congr fun m _ => sumN_congr fun l _ => ?_
  rw [Rat.mul_assoc]
theorem mulF_id (n : Nat) (A : MF) {i j : Nat} (hj : j < n) : mulF n A idF i j = A i j := by
  unfold mulF
  rw [sumN_one (p := j) (fun l _ hl => by unfold idF; rw [if_neg hl, Rat.mul_zero]), if_pos hj]
  unfold idF
  rw [if_pos rfl, Rat.mul_one]
theorem id_mulF (n : Nat) (A : MF) {i j : Nat} (hi : i < n) : mulF n idF A i j = A i j := by
  unfold mulF
  rw [sumN_one (p := i) (fun l _ hl => by unfold idF; rw [if_neg (fun e => hl e.symm), Rat.zero_mul]), if_pos hi]
  unfold idF
  rw [if_pos rfl, Rat.one_mul]
theorem mulF_congr {n : Nat} {A A' B B' : MF} (hA : ∀ i j, i < n → j < n → A i j = A' i j) (hB : ∀ i j, i < n → j < n → B i j = B' i j) {i j : Nat} (hi : i < n) (hj : j < n) : mulF n A B i j = mulF n A' B' i j := by
  unfold mulF
  exact sumN_congr fun l hl => by rw [hA i l hi hl, hB l j hl hj]
theorem pow_add (n : Nat) (A : MF) (a : Nat) : ∀ (b : Nat) {i j : Nat}, i < n → j < n → mulF n (powF n A a) (powF n A b) i j = powF n A (a + b) i j
  | 0, i, j, hi, hj => by
    rw [Nat.add_zero, powF, mulF_id n _ hj]
  | b + 1, i, j, hi, hj => by
    show mulF n (powF n A a) (mulF n (powF n A b) A) i j = mulF n (powF n A (a + b)) A i j
    rw [mulF_assoc]
    exact mulF_congr (fun i j hi hj => pow_add n A a b hi hj) (fun _ _ _ _ => rfl) hi hj
theorem pow_one (n : Nat) (A : MF) {i j : Nat} (hi : i < n) : powF n A 1 i j = A i j := id_mulF n A hi

/-! ### Fractions over one denominator -/
def Ud (D M : Nat) (q : Rat) : Prop := ∃ z : Int, z.natAbs ≤ M ∧ q = mkRat z D
theorem Ud.mono {D M M' : Nat} {q : Rat} (h : Ud D M q) (hM : M ≤ M') : Ud D M' q := by
  obtain ⟨z, h1, h2⟩ := h
  exact ⟨z, Nat.le_trans h1 hM, h2⟩
theorem Ud.zero (D M : Nat) : Ud D M 0 := ⟨0, Nat.zero_le _, (Rat.zero_mkRat D).symm⟩
theorem Ud.add {D M M' : Nat} {p q : Rat} (hD : D ≠ 0) (hp : Ud D M p) (hq : Ud D M' q) : Ud D (M + M') (p + q) := by
  obtain ⟨z, h1, rfl⟩ := hp
  obtain ⟨w, h3, rfl⟩ := hq
  refine ⟨z + w, by omega, ?_⟩
  rw [Rat.mkRat_add_mkRat _ _ hD hD, ← Int.add_mul, Rat.mkRat_mul_right hD]
theorem Ud.mul {D D' M M' : Nat} {p q : Rat} (hp : Ud D M p) (hq : Ud D' M' q) : Ud (D * D') (M * M') (p * q) := by
  obtain ⟨z, h1, rfl⟩ := hp
  obtain ⟨w, h3, rfl⟩ := hq
  refine ⟨z * w, by rw [Int.natAbs_mul]; exact Nat.mul_le_mul h1 h3, ?_⟩
  rw [Rat.mkRat_mul_mkRat]
theorem Ud.sum {D M : Nat} {f : Nat → Rat} (hD : D ≠ 0) : ∀ {n : Nat}, (∀ l, l < n → Ud D M (f l)) → Ud D (n * M) (sumN f n)
  | 0, _ => Ud.zero _ _
  | n + 1, h => by
    rw [sumN, Nat.succ_mul]
    exact (Ud.sum hD (fun l hl => h l (by omega))).add hD (h n (by omega))
theorem Ud.bd {D M k : Nat} {q : Rat} (h : Ud D M q) (hk : 1 ≤ k) (h1 : (digs D).length ≤ k) (h2 : (digs M).length ≤ k) : Bd k q := by
  obtain ⟨z, h3, rfl⟩ := h
  have e : mkRat z D = qOf (decide (z < 0)) z.natAbs D := by
    unfold qOf
    congr 1
    rw [sgn_nat]
    by_cases hz : z < 0
    · rw [decide_eq_true hz, if_pos rfl]; omega
    · rw [decide_eq_false hz, if_neg (by decide)]; omega
  rw [e]
  exact Bd_qOf (Nat.le_trans (digs_mono h3) h2) h1 hk
theorem pow_ud {n D M : Nat} {A : MF} (hD : D ≠ 0) (hA : ∀ i j, i < n → j < n → Ud D M (A i j)) : ∀ (e : Nat) {i j : Nat}, i < n → j < n → Ud (D ^ e) ((n * M) ^ e) (powF n A e i j)
  | 0, i, j, hi, hj => by
    rw [Nat.pow_zero, Nat.pow_zero]
    show Ud 1 1 (if i = j then 1 else 0)
    by_cases h : i = j
    · rw [if_pos h]; exact ⟨1, Nat.le_refl _, rfl⟩
    · rw [if_neg h]; exact Ud.zero _ _
  | e + 1, i, j, hi, hj => by
    have h := Ud.sum (f := fun l => powF n A e i l * A l j) (M := (n * M) ^ e * M) (Nat.mul_ne_zero (Nat.ne_of_gt (Nat.pow_pos (Nat.pos_of_ne_zero hD))) hD) (n := n) (fun l hl => (pow_ud hD hA e hi hl).mul (hA l j hl hj))
    rw [Nat.pow_succ, Nat.pow_succ, show (n * M) ^ e * (n * M) = n * ((n * M) ^ e * M) by rw [Nat.mul_comm n M, ← Nat.mul_assoc, Nat.mul_comm]]
    exact h
/-- All that a power needs: the sums on the way are short. -/
def PowB (K n : Nat) (A : MF) (N : Nat) : Prop := ∀ a b i j l, a + b ≤ N → i < n → j < n → l ≤ n → Bd K (sumN (fun l => powF n A a i l * powF n A b l j) l)
theorem pow_bd {n D M K N : Nat} {A : MF} (hD : D ≠ 0) (hn : 1 ≤ n) (hM : 1 ≤ M) (hA : ∀ i j, i < n → j < n → Ud D M (A i j)) (hk : 1 ≤ K) (h1 : (digs (D ^ N)).length ≤ K) (h2 : (digs (n * (n * M) ^ N)).length ≤ K) : PowB K n A N := by
  intro a b i j l hab hi hj hl
  have hp : 0 < D ^ a * D ^ b := Nat.mul_pos (Nat.pow_pos (Nat.pos_of_ne_zero hD)) (Nat.pow_pos (Nat.pos_of_ne_zero hD))
  have h := Ud.sum (f := fun l => powF n A a i l * powF n A b l j) (M := (n * M) ^ a * (n * M) ^ b) (Nat.ne_of_gt hp) (n := l) (fun l' hl' => (pow_ud hD hA a hi (by omega)).mul (pow_ud hD hA b (by omega) hj))
  refine h.bd hk ?_ ?_
  · rw [← Nat.pow_add]
    exact Nat.le_trans (digs_mono (Nat.pow_le_pow_right (Nat.pos_of_ne_zero hD) hab)) h1
  · rw [← Nat.pow_add]
    exact Nat.le_trans (digs_mono (Nat.mul_le_mul hl (Nat.pow_le_pow_right (Nat.mul_pos hn hM) hab))) h2
theorem PowB.mono {K n N N' : Nat} {A : MF} (h : PowB K n A N) (hN : N' ≤ N) : PowB K n A N' := fun a b i j l hab => h a b i j l (by omega)
theorem PowB.one {K n N : Nat} {A : MF} (h : PowB K n A N) {e i j : Nat} (he : e ≤ N) (hi : i < n) (hj : j < n) : Bd K (powF n A e i j) := by
  have := h e 0 i j n (by omega) hi hj (Nat.le_refl _)
  have e2 : sumN (fun l => powF n A e i l * powF n A 0 l j) n = powF n A e i j := mulF_id n (powF n A e) hj
  rw [e2] at this
  exact this
end Go.Ab

/- Powers of matrices, in values. -/
set_option linter.unusedVariables false
set_option linter.unusedSimpArgs false
set_option maxRecDepth 100000
namespace Go.Ab
open Go.Proofs.Try

theorem i_and1 {n : Nat} (h : n ≤ 200) : binA .other .and (.int .i64 n) (.int .i64 1) = some (.int .i64 (n % 2 : Nat)) := by
  have e : binA .other .and (.int .i64 n) (.int .i64 1) = some (.int .i64 (IntKind.wrap .i64 ((BitVec.ofInt 64 n &&& BitVec.ofInt 64 1).toNat : Nat))) := rfl
  have e2 : (BitVec.ofInt 64 (n : Int) &&& BitVec.ofInt 64 1).toNat = n % 2 := by
    rw [BitVec.toNat_and, BitVec.toNat_ofInt, BitVec.toNat_ofInt]
    have h1 : (((n : Nat) : Int) % ((2 ^ 64 : Nat) : Int)).toNat = n := by omega
    have h2 : ((1 : Int) % ((2 ^ 64 : Nat) : Int)).toNat = 1 := by omega
    rw [h1, h2, Nat.and_one_is_mod]
  rw [e, e2, wrap_i64 (by omega) (by omega)]
theorem i_shr1 {n : Nat} : binA .other .shr (.int .i64 n) (.int .u64 1) = some (.int .i64 (n / 2 : Nat)) := by
  rw [binA_shr _ _ _ _ _ (by omega)]
  have e : ((n : Nat) : Int).fdiv (2 ^ (min (Int.toNat 1) IntKind.i64.bits)) = ((n / 2 : Nat) : Int) := by
    show ((n : Nat) : Int).fdiv 2 = _
    rw [Int.fdiv_eq_ediv_of_nonneg _ (by decide)]
    omega
  rw [e]
theorem i_gtr {a b : Nat} : binA .other .gtr (.int .i64 a) (.int .i64 b) = some (.bool (decide (a > b))) := by
  rw [binA_gtr]; congr 2; exact decide_eq_decide.2 (by omega)
theorem i_gtr0 {a : Nat} : binA .other .gtr (.int .i64 a) (.int .i64 0) = some (.bool (decide (a > 0))) := i_gtr (b := 0)
theorem i_gtr1 {a : Nat} : binA .other .gtr (.int .i64 a) (.int .i64 1) = some (.bool (decide (a > 1))) := i_gtr (b := 1)

def ent (x : MV) (n : Nat) : MF := fun i j => qAt x (i * n + j)
/-- The matrix is a power. -/
structure PM (K n : Nat) (A : MF) (e : Nat) (z : MV) : Prop where
  fr : z.fr = z
  ok : LOk K z.lv
  rows : z.rows = n
  cols : z.cols = n
  len : z.lv.es.length = n * n
  q : ∀ i j, i < n → j < n → ent z n i j = powF n A e i j
theorem PM.isM {K n e : Nat} {A : MF} {z : MV} (h : PM K n A e z) (hn : n ≤ 60) : IsM K z := ⟨h.ok, h.fr, by rw [h.len]; have := Nat.mul_le_mul hn hn; omega⟩
theorem dot_ent (x y : MV) (n i j l : Nat) : dotQ x y n n i j l = sumN (fun l => ent x n i l * ent y n l j) l := rfl
theorem PM.dot_bd {K n a b N : Nat} {A : MF} {x y : MV} (hx : PM K n A a x) (hy : PM K n A b y) (hP : PowB K n A N) (hab : a + b ≤ N) : ∀ i j l, i < n → j < n → l ≤ n → Bd K (dotQ x y n n i j l) := by
  intro i j l hi hj hl
  rw [dot_ent, sumN_congr (fun l' hl' => by rw [hx.q i l' hi (by omega), hy.q l' j (by omega) hj])]
  exact hP a b i j l hab hi hj hl
theorem PM.res {K n a b : Nat} {A : MF} {x y z : MV} (hx : PM K n A a x) (hy : PM K n A b y) (h : Res z 0 0 n n (mulQ x y n n) K) : PM K n A (a + b) z where
  fr := h.fr
  ok := h.ok
  rows := h.rows rfl
  cols := h.cols rfl
  len := h.len rfl
  q i j hi hj := by
    obtain ⟨e1, e2⟩ := row_col (i := i) hj
    show qAt z (i * n + j) = _
    rw [h.q rfl _ (cell_lt60 hi hj), mulQ, e1, e2, dot_ent, sumN_congr (fun l' hl' => by rw [hx.q i l' hi hl', hy.q l' j hl' hj])]
    exact pow_add n A a b hi hj
/-- .. and valid. -/
def PR (K n : Nat) (A : MF) (e : Nat) (z : MV) : Prop := PM K n A e z ∧ ∀ t ∈ z.lv.es, rightR t = true
theorem PR.mul73 {K n a b N : Nat} {A : MF} {x y : MV} (hx : PR K n A a x) (hy : PR K n A b y) (hP : PowB K n A N) (hab : a + b ≤ N) (hn : n ≤ 60) (hK1 : 1 ≤ K) (hK : K < 2 ^ 34) : ∃ z, AP cfg 73 [x.av, y.av] = some z.av ∧ PR K n A (a + b) z := by
  obtain ⟨z, z1, z2, z3⟩ := V73 (K := K) (hx.1.isM hn) (hy.1.isM hn) hK1 hK1 (by omega) hx.1.rows hx.1.cols hy.1.cols hn hn hn hx.1.len hy.1.len (hx.1.dot_bd hy.1 hP hab)
  exact ⟨z, z1, hx.1.res hy.1 z2, z3⟩
theorem W30 {x0 : MV} {K n N : Nat} {A : MF} (hP : PowB K n A N) (hN : N ≤ 200) (hn : n ≤ 60) (hK1 : 1 ≤ K) (hK : K < 2 ^ 34) (Kt : Ex → St → Option (AV × Mem)) : ∀ (f r a b : Nat) (out sq : MV), r ≤ f → PR K n A a out → PR K n A b sq → a + b * r ≤ N → r ≤ N →
    ∃ out' sq', PR K n A (a + b * r) out' ∧ L30_10 (.int .i64 r) (.ptr 1 0) (.ptr 2 0) (.ptr 3 0) [cM x0, cM zM, cM out, cM sq] Kt = Kt (.exit 1) (O30_10 (.ptr 1 0) (.ptr 2 0) [cM x0, cM zM, cM out', cM sq']) := by
  intro f
  induction f with
  | zero =>
    intro r a b out sq hr ho hs hab hrN
    obtain rfl : r = 0 := by omega
    refine ⟨out, sq, ho, ?_⟩
    rw [L30_10_eq, i_gtr0, Option.bind_some, ifA_dec, if_neg (by omega)]
  | succ f ih =>
    intro r a b out sq hr ho hs hab hrN
    by_cases h0 : r > 0
    · have hmod : r % 2 < 2 := Nat.mod_lt _ (by omega)
      have hdm := Nat.div_add_mod r 2
      by_cases ho1 : r % 2 = 1
      · have hb : b ≤ b * r := Nat.le_mul_of_pos_right _ h0
        obtain ⟨o, o1, o2⟩ := ho.mul73 hs hP (by omega) hn hK1 hK
        by_cases hr1 : r > 1
        · have hb2 : b * 2 ≤ b * r := Nat.mul_le_mul_left _ hr1
          obtain ⟨s, s1, s2⟩ := hs.mul73 hs hP (by omega) hn hK1 hK
          have he : a + b + (b + b) * (r / 2) = a + b * r := by
            have : b * r = b * (2 * (r / 2) + 1) := by rw [← ho1, hdm]
            rw [this, Nat.mul_add, Nat.mul_one, Nat.add_mul, ← Nat.mul_assoc, Nat.mul_comm b 2, Nat.mul_assoc, Nat.two_mul]
            omega
          obtain ⟨out', sq', w1, w2⟩ := ih (r / 2) (a + b) (b + b) o s (by omega) o2 s2 (by omega) (by omega)
          rw [he] at w1
          refine ⟨out', sq', w1, ?_⟩
          rw [L30_10_eq, i_gtr0, Option.bind_some, ifA_dec, if_pos h0, i_and1 (by omega), Option.bind_some, n_eql1, Option.bind_some, ifA_dec, if_pos ho1, mldA (x := out) rfl, Option.bind_some, mldA (x := sq) rfl, Option.bind_some, pcall2 (fz_mv out) (fz_mv sq), ho.1.fr, hs.1.fr, o1, Option.map_some, Option.bind_some, mstA (x := out) rfl, Option.bind_some]
          simp only [List.set_cons_zero, List.set_cons_succ]
          rw [i_gtr1, Option.bind_some, ifA_dec, if_pos hr1, mldA (x := sq) rfl, Option.bind_some, Option.bind_some, pcall2 (fz_mv sq) (fz_mv sq), hs.1.fr, s1, Option.map_some, Option.bind_some, mstA (x := sq) rfl, Option.bind_some]
          simp only [List.set_cons_zero, List.set_cons_succ]
          rw [i_shr1, Option.bind_some]
          exact w2
        · obtain rfl : r = 1 := by omega
          obtain ⟨out', sq', w1, w2⟩ := ih 0 (a + b) b o sq (by omega) o2 hs (by omega) (by omega)
          refine ⟨out', sq', by rw [Nat.mul_one]; exact w1, ?_⟩
          rw [L30_10_eq, i_gtr0, Option.bind_some, ifA_dec, if_pos h0, i_and1 (by omega), Option.bind_some, n_eql1, Option.bind_some, ifA_dec, if_pos ho1, mldA (x := out) rfl, Option.bind_some, mldA (x := sq) rfl, Option.bind_some, pcall2 (fz_mv out) (fz_mv sq), ho.1.fr, hs.1.fr, o1, Option.map_some, Option.bind_some, mstA (x := out) rfl, Option.bind_some]
          simp only [List.set_cons_zero, List.set_cons_succ]
          rw [i_gtr1, Option.bind_some, ifA_dec, if_neg hr1, i_shr1, Option.bind_some]
          exact w2
      · have hr1 : r > 1 := by omega
        have hb2 : b * 2 ≤ b * r := Nat.mul_le_mul_left _ hr1
        obtain ⟨s, s1, s2⟩ := hs.mul73 hs hP (by omega) hn hK1 hK
        have he : a + (b + b) * (r / 2) = a + b * r := by
          have : b * r = b * (2 * (r / 2)) := by rw [show 2 * (r / 2) = r by omega]
          rw [this, Nat.add_mul, ← Nat.mul_assoc, Nat.mul_comm b 2, Nat.mul_assoc, Nat.two_mul]
        obtain ⟨out', sq', w1, w2⟩ := ih (r / 2) a (b + b) out s (by omega) ho s2 (by omega) (by omega)
        rw [he] at w1
        refine ⟨out', sq', w1, ?_⟩
        rw [L30_10_eq, i_gtr0, Option.bind_some, ifA_dec, if_pos h0, i_and1 (by omega), Option.bind_some, n_eql1, Option.bind_some, ifA_dec, if_neg ho1, i_gtr1, Option.bind_some, ifA_dec, if_pos hr1, mldA (x := sq) rfl, Option.bind_some, Option.bind_some, pcall2 (fz_mv sq) (fz_mv sq), hs.1.fr, s1, Option.map_some, Option.bind_some, mstA (x := sq) rfl, Option.bind_some]
        simp only [List.set_cons_zero, List.set_cons_succ]
        rw [i_shr1, Option.bind_some]
        exact w2
    · obtain rfl : r = 0 := by omega
      refine ⟨out, sq, ho, ?_⟩
      rw [L30_10_eq, i_gtr0, Option.bind_some, ifA_dec, if_neg (by omega)]
end Go.Ab

/- Power, in values: both sides. -/
set_option linter.unusedVariables false
set_option linter.unusedSimpArgs false
set_option maxRecDepth 100000
namespace Go.Ab
open Go.Proofs.Try

def powE (x : MV) (n : Int) : Int := if rightM x = true then if x.rows = x.cols then if n < 0 then 1 else if n > 200 then 2 else 0 else 30 else 1
def powQ (x : MV) (s N p : Nat) : Rat := powF s (ent x s) N (p / s) (p % s)
theorem PM.toRes {K n N : Nat} {x z : MV} (h : PM K n (ent x n) N z) : Res z 0 0 n n (powQ x n N) K :=
  ⟨h.fr, h.ok, rfl, fun h => absurd rfl h, fun _ => h.rows, fun _ => h.cols, fun _ => h.len, fun _ p hp => by
    have h0 : 0 < n := by
      rcases Nat.eq_zero_or_pos n with h0 | h0
      · rw [h0, Nat.mul_zero] at hp; omega
      · exact h0
    have h1 : p / n < n := Nat.div_lt_of_lt_mul hp
    have h2 : p % n < n := Nat.mod_lt _ h0
    have := h.q (p / n) (p % n) h1 h2
    unfold ent at this
    rw [div_mod_mul] at this
    exact this⟩
theorem PM.copy {K n : Nat} {x y : MV} (hx : IsM K x) (hr : x.rows = n) (hc : x.cols = n) (hl : x.lv.es.length = n * n) (h1 : y.rows = x.rows) (h2 : y.cols = x.cols) (h3 : y.lv.es = x.lv.es.map copyR) (h4 : LOk K y.lv) (h5 : y.fr = y) : PM K n (ent x n) 1 y :=
  ⟨h5, h4, h1.trans hr, h2.trans hc, by rw [h3, List.length_map, hl], fun i j hi hj => by
    rw [pow_one n _ hi]
    unfold ent qAt
    rw [h3, map_copyR]⟩
theorem ent_unit {n : Nat} {y : MV} (h : y.lv.es = cellsF unitR n n) {i j : Nat} (hi : i < n) (hj : j < n) : ent y n i j = idF i j := by
  obtain ⟨e1, e2⟩ := row_col (i := i) hj
  unfold ent qAt
  rw [List.getD_eq_getElem?_getD, List.getElem?_map, h, cellsF_get _ _ _ _ (cell_lt60 hi hj), e1, e2]
  show (unitR i j).q = _
  unfold unitR idF
  by_cases c : i = j
  · rw [if_pos c, if_pos c, can_one.q]
  · rw [if_neg c, if_neg c, can_zero.q]
theorem right_cells {x : MV} (h : rightM x = true) : ∀ u ∈ x.lv.es, rightR u = true := by
  unfold rightM at h
  rw [Bool.and_eq_true] at h
  exact List.all_eq_true.1 h.2
theorem V30 {x : MV} {k K : Nat} {n : Int} (hx : IsM k x) (hk1 : 1 ≤ k) (hkK : k ≤ K) (hK : K < 2 ^ 34) (hP : powE x n = 0 → PowB K x.rows.toNat (ent x x.rows.toNat) n.toNat) :
    ∃ z e, AP cfg 30 [x.av, .int .i64 n] = some (.tup [z.av, .int .i64 e]) ∧ Res z e (powE x n) x.rows.toNat x.rows.toNat (powQ x x.rows.toNat n.toNat) K ∧ (powE x n = 0 → rightM z = true) := by
  have e20 := V20 hx.ok (by omega) (by have := hx.len; omega)
  have gx : ∀ e : Mem, (cM x :: e)[0]? = some (cM x) := fun _ => rfl
  have start : AC cfg 30 [x.av, .int .i64 n] [] = AC cfg 30 [x.av, .int .i64 n] [] := rfl
  conv at start => rhs; rw [T30, box_mv, Option.bind_some]
  simp only [new_m, new_r, List.length_nil, List.nil_append, List.length_cons, List.cons_append, Nat.zero_add, Nat.reduceAdd] at start
  rw [mldA (gx _), Option.bind_some, pcM, hx.fr, e20, Option.map_some, Option.bind_some, not_b, Option.bind_some] at start
  revert hP
  unfold powE
  intro hP
  cases hbx : rightM x with
  | false =>
    rw [hbx, Bool.not_false, ifA_true, bldM, Option.bind_some, mstA (x := zM) rfl, Option.bind_some] at start
    simp only [List.set_cons_zero, List.set_cons_succ] at start
    rw [mldA (x := zM) rfl, Option.bind_some] at start
    rw [if_neg (by decide)]
    exact ⟨zM, 1, retM2 start rfl, Res.bad' (by decide), fun h => absurd h (by decide)⟩
  | true =>
    rw [hbx, if_pos rfl] at hP
    rw [hbx, Bool.not_true, ifA_false, fld0, Option.bind_some, mld0 (gx _), Option.bind_some, fld1, Option.bind_some, mld1 (gx _), Option.bind_some, binA_neq, Option.bind_some, ifA_dec] at start
    rw [if_pos rfl]
    by_cases c1 : x.rows = x.cols
    · rw [if_neg (fun h => h c1), binA_lss, Option.bind_some, ifA_dec] at start
      rw [if_pos c1] at hP
      rw [if_pos c1]
      by_cases c2 : n < 0
      · rw [if_pos c2, bldM, Option.bind_some, mstA (x := zM) rfl, Option.bind_some] at start
        simp only [List.set_cons_zero, List.set_cons_succ] at start
        rw [mldA (x := zM) rfl, Option.bind_some] at start
        rw [if_pos c2]
        exact ⟨zM, 1, retM2 start rfl, Res.bad' (by decide), fun h => absurd h (by decide)⟩
      · rw [if_neg c2, binA_gtr, Option.bind_some, ifA_dec] at start
        rw [if_neg c2] at hP
        rw [if_neg c2]
        by_cases c3 : n > 200
        · rw [if_pos c3, bldM, Option.bind_some, mstA (x := zM) rfl, Option.bind_some] at start
          simp only [List.set_cons_zero, List.set_cons_succ] at start
          rw [mldA (x := zM) rfl, Option.bind_some] at start
          rw [if_pos c3]
          exact ⟨zM, 2, retM2 start rfl, Res.bad' (by decide), fun h => absurd h (by decide)⟩
        · rw [if_neg c3] at start hP
          rw [if_neg c3]
          have hP := hP rfl
          obtain ⟨r, c, hr, hc, r6, c6, hlx⟩ := right_len hbx
          obtain rfl : r = c := by rw [c1, hc] at hr; omega
          obtain ⟨N, rfl⟩ := Int.eq_ofNat_of_zero_le (show 0 ≤ n by omega)
          have hrn : x.rows.toNat = r := by rw [hr]; rfl
          have hNn : ((N : Nat) : Int).toNat = N := rfl
          rw [hrn, hNn] at hP
          rw [hrn, hNn]
          obtain ⟨o, o1, o2, o3, o4, o5, o6⟩ := V58 (fill62 r r) r6 r6
          obtain ⟨s, s1, s2, s3, s4, s5, s6⟩ := V56 hx.ok (by have := hx.len; omega)
          have po : PR K r (ent x r) 0 o := ⟨⟨o6, o5.mono (by omega), o2, o3, by rw [o4, cellsF_length], fun i j hi hj => ent_unit o4 hi hj⟩, fun t ht => by
            rw [o4] at ht
            obtain ⟨a, b, _, _, rfl⟩ := cellsF_mem ht
            unfold unitR
            split
            · exact can_rightR can_one
            · exact can_rightR can_zero⟩
          have ps : PR K r (ent x r) 1 s := ⟨PM.copy ⟨hx.ok.mono hkK, hx.fr, hx.len⟩ hr hc hlx s2 s3 s4 (s5.mono hkK) s6, fun t ht => by
            rw [s4] at ht
            obtain ⟨u, hu, rfl⟩ := List.mem_map.1 ht
            rw [copyR_right]
            exact right_cells hbx u hu⟩
          obtain ⟨out', sq', w1, w2⟩ := W30 (x0 := x) hP (by omega) r6 (by omega) hK (K30_10 (finK cfg.P f30.results.toList)) N N 0 1 o s (Nat.le_refl _) po ps (by omega) (Nat.le_refl _)
          rw [Nat.one_mul, Nat.zero_add] at w1
          dsimp only at start
          rw [Option.bind_some, show reserve [cM x, cM zM] 2 = [cM x, cM zM, some .resv, some .resv] from rfl, mld0 (gx _), Option.bind_some, Option.bind_some, mld0 (gx _), Option.bind_some, hr, pcall3 (fz_int _ _) (fz_int _ _) (fz_fn0 62), o1, Option.map_some, Option.bind_some, mldA (gx _), Option.bind_some, pcM, hx.fr, s1, Option.map_some, Option.bind_some] at start
          have n1 : ∀ (a b e e' : Option Ent) (en : Ent), newAt (some 2) [a, b, e, e'] en = (2, [a, b, some en, e']) := fun _ _ _ _ _ => rfl
          have n2 : ∀ (a b e e' : Option Ent) (en : Ent), newAt (some 3) [a, b, e, e'] en = (3, [a, b, e, some en]) := fun _ _ _ _ _ => rfl
          have ze : some (Ent.obj true [.int .i64 0, .int .i64 0, .lst none true .full []]) = cM zM := rfl
          simp only [List.length_nil, List.length_cons, Nat.zero_add, Nat.reduceAdd, n1, n2, ze] at start
          rw [mstA (x := zM) rfl, Option.bind_some] at start
          simp only [List.set_cons_zero, List.set_cons_succ] at start
          rw [mstA (x := zM) rfl, Option.bind_some] at start
          simp only [List.set_cons_zero, List.set_cons_succ] at start
          have start := start.trans w2
          rw [K30_10_x1, mldA (x := out') rfl, Option.bind_some, mstA (x := zM) rfl, Option.bind_some] at start
          simp only [List.set_cons_zero, List.set_cons_succ] at start
          rw [mldA (x := out') rfl, Option.bind_some] at start
          exact ⟨out', 0, retM2 start w1.1.fr, w1.1.toRes, fun _ => right_of w1.1.rows w1.1.cols r6 r6 w1.1.len w1.2⟩
    · rw [if_pos c1, bldM, Option.bind_some, mstA (x := zM) rfl, Option.bind_some] at start
      simp only [List.set_cons_zero, List.set_cons_succ] at start
      rw [mldA (x := zM) rfl, Option.bind_some] at start
      rw [if_neg c1]
      exact ⟨zM, 30, retM2 start rfl, Res.bad' (by decide), fun h => absurd h (by decide)⟩
end Go.Ab
