/- The reference's sums, products and comparisons of fractions, in values. -/
import Derived.Test.YtlapgjmmlbnehaaJP3
import Derived.Test.YtlapgjmmlbnehaaJP1
set_option linter.unusedVariables false
set_option linter.unusedSimpArgs false
set_option maxRecDepth 100000
namespace Go.Ab
open Go.Proofs.Try

def sgQ (q : Rat) : Int := if q = 0 then 0 else if q.num < 0 then -1 else 1
theorem sgQ_zero (q : Rat) : sgQ q = 0 ↔ q = 0 := by
  unfold sgQ
  constructor
  · intro h
    split at h
    · assumption
    · split at h <;> omega
  · intro h; rw [if_pos h]
theorem Can.len0 {r : RV} {q : Rat} (h : Can r q) : r.num.ds.length = 0 ↔ q = 0 := by
  rw [h.num, digs_len0, Int.natAbs_eq_zero, Rat.num_eq_zero]
theorem V86 {r : RV} {k : Nat} (h : ROk k r) (hk : k < 2 ^ 38) : AP cfg 86 [r.av] = some (.int .i64 (sgQ r.q)) := by
  obtain ⟨s, e1, e2, e3⟩ := V71 h.fr hk
  rw [RV.fr_q] at e2
  refine AP_ofz _ _ (fz_int _ _) rfl (m := [cR s]) ?_
  rw [T86]
  simp only [Nat.reduceAdd, Option.bind_some, Option.map_some, box_rv, new_z, new_r, new_zs, new_rs, fld0, fld1, fld2, res1, res2, ld0neg, ld0num, ld0den, ld0all, st0all, st0neg, ld1neg, ld1num, ld1den, ld1all, st1all, st1neg, ld2neg, ld2num, ld2den, ld2all, st2all, st2neg, ld3neg, ld3num, ld3den, ld3all, st3all, st3neg, ld4neg, ld4num, ld4den, ld4all, st4all, st4neg, ex0, ex1, ex2, bld0, bld2, bld12, bld012, nil_av, not_b, bl_neq, bl_eql, List.length_cons, List.length_nil, List.length_append, List.nil_append, List.cons_append, List.append_nil, Nat.zero_add, List.set_cons_zero, List.set_cons_succ, List.set_nil, pcN, pcI, pcNN, pcBNN, pcR, pcRR, pc0, e1, len_nv, n_eql0, ifA_dec]
  unfold sgQ
  by_cases h0 : r.q = 0
  · rw [if_pos (e2.len0.2 h0), if_pos h0]
  · rw [if_neg (fun hh => h0 (e2.len0.1 hh)), if_neg h0, e2.neg, ifA_dec]
    split <;> rfl
theorem V118 {r : RV} {k : Nat} (h : ROk k r) (hk : k < 2 ^ 38) : ∃ s : RV, AP cfg 118 [r.av] = some s.av ∧ Can s (-r.q) ∧ s.fr = s := by
  obtain ⟨s, e1, e2, e3⟩ := V71 h.fr hk
  rw [RV.fr_q] at e2
  have hlen : ∀ b : Bool, decide (s.num.ds.length > 0) = decide (r.q ≠ 0) := by
    intro b
    refine decide_eq_decide.2 ?_
    have := e2.len0
    constructor
    · intro h1 h2
      have := this.2 h2
      omega
    · intro h1
      have : s.num.ds.length ≠ 0 := fun e => h1 (this.1 e)
      omega
  have hs1 : s.num.fr = s.num := congrArg RV.num e3
  have hs2 : s.den.fr = s.den := congrArg RV.den e3
  have hc : ∀ b : Bool, b = decide ((-r.q).num < 0) → Can ⟨b, s.num, s.den⟩ (-r.q) := by
    intro b hb
    refine ⟨hb, ?_, ?_, e2.numz, e2.denz⟩
    · rw [Rat.neg_num, Int.natAbs_neg]; exact e2.num
    · rw [Rat.neg_den]; exact e2.den
  cases hn : s.neg with
  | true =>
    have hq : r.q.num < 0 := by have := e2.neg; rw [hn] at this; exact of_decide_eq_true this.symm
    refine ⟨⟨false, s.num, s.den⟩, (AP_ofz _ _ (fz_rv ⟨false, s.num, s.den⟩) (noV_rv _) (m := [cR ⟨false, s.num, s.den⟩, cR ⟨false, s.num, s.den⟩]) ?_).trans (by simp only [RV.fr, hs1, hs2]), hc false ?_, by simp only [RV.fr, hs1, hs2]⟩
    · rw [T118]
      simp only [Nat.reduceAdd, Option.bind_some, Option.map_some, box_rv, new_z, new_r, new_zs, new_rs, fld0, fld1, fld2, res1, res2, ld0neg, ld0num, ld0den, ld0all, st0all, st0neg, ld1neg, ld1num, ld1den, ld1all, st1all, st1neg, ld2neg, ld2num, ld2den, ld2all, st2all, st2neg, ld3neg, ld3num, ld3den, ld3all, st3all, st3neg, ld4neg, ld4num, ld4den, ld4all, st4all, st4neg, ex0, ex1, ex2, bld0, bld2, bld12, bld012, nil_av, not_b, bl_neq, bl_eql, List.length_cons, List.length_nil, List.length_append, List.nil_append, List.cons_append, List.append_nil, Nat.zero_add, List.set_cons_zero, List.set_cons_succ, List.set_nil, pcN, pcI, pcNN, pcBNN, pcR, pcRR, pc0, e1, hn, Bool.not_true, ifA_false]
    · rw [Rat.neg_num]; exact (decide_eq_false (by omega)).symm
  | false =>
    have hq : ¬ r.q.num < 0 := by have := e2.neg; rw [hn] at this; exact of_decide_eq_false this.symm
    refine ⟨⟨decide (r.q ≠ 0), s.num, s.den⟩, (AP_ofz _ _ (fz_rv ⟨decide (r.q ≠ 0), s.num, s.den⟩) (noV_rv _) (m := [cR ⟨decide (r.q ≠ 0), s.num, s.den⟩, cR ⟨decide (r.q ≠ 0), s.num, s.den⟩]) ?_).trans (by simp only [RV.fr, hs1, hs2]), hc _ ?_, by simp only [RV.fr, hs1, hs2]⟩
    · rw [T118]
      simp only [Nat.reduceAdd, Option.bind_some, Option.map_some, box_rv, new_z, new_r, new_zs, new_rs, fld0, fld1, fld2, res1, res2, ld0neg, ld0num, ld0den, ld0all, st0all, st0neg, ld1neg, ld1num, ld1den, ld1all, st1all, st1neg, ld2neg, ld2num, ld2den, ld2all, st2all, st2neg, ld3neg, ld3num, ld3den, ld3all, st3all, st3neg, ld4neg, ld4num, ld4den, ld4all, st4all, st4neg, ex0, ex1, ex2, bld0, bld2, bld12, bld012, nil_av, not_b, bl_neq, bl_eql, List.length_cons, List.length_nil, List.length_append, List.nil_append, List.cons_append, List.append_nil, Nat.zero_add, List.set_cons_zero, List.set_cons_succ, List.set_nil, pcN, pcI, pcNN, pcBNN, pcR, pcRR, pc0, e1, hn, Bool.not_false, ifA_true, len_nv, n_gtr0, hlen true]
    · rw [Rat.neg_num]
      refine decide_eq_decide.2 ?_
      have h0 : r.q = 0 ↔ r.q.num = 0 := Rat.num_eq_zero.symm
      constructor
      · intro h1
        have : r.q.num ≠ 0 := fun e => h1 (h0.2 e)
        omega
      · intro h1 h2
        have := h0.1 h2
        omega
theorem V76 {a b : RV} {k : Nat} (ha : ROk k a) (hb : ROk k b) (hk1 : 1 ≤ k) (hk : k < 2 ^ 36) : ∃ s : RV, AP cfg 76 [a.av, b.av] = some s.av ∧ Can s (a.q + b.q) ∧ s.fr = s := by
  obtain ⟨s, e1, e2, e3⟩ := V71 ha.fr (by omega)
  obtain ⟨t, f1, f2, f3⟩ := V71 hb.fr (by omega)
  rw [RV.fr_q] at e2 f2
  have os := e2.ok (ha.bd hk1) (by omega)
  have ot := f2.ok (hb.bd hk1) (by omega)
  have hs1 : s.num.fr = s.num := congrArg RV.num e3
  have hs2 : s.den.fr = s.den := congrArg RV.den e3
  have ht1 : t.num.fr = t.num := congrArg RV.num f3
  have ht2 : t.den.fr = t.den := congrArg RV.den f3
  have lx := ln_mul (Nat.le_trans os.num.v_len os.ln) (Nat.le_trans ot.den.v_len ot.ld)
  have ly := ln_mul (Nat.le_trans ot.num.v_len ot.ln) (Nat.le_trans os.den.v_len os.ld)
  have ld := ln_mul (Nat.le_trans os.den.v_len os.ld) (Nat.le_trans ot.den.v_len ot.ld)
  have lxy := ln_add lx ly
  have g1 := V72 os.num ot.den
  have g2 := V72 ot.num os.den
  have g3 := V72 os.den ot.den
  have ox : NOk (refN (s.num.v * t.den.v)) := refN_ok (by omega)
  have oy : NOk (refN (t.num.v * s.den.v)) := refN_ok (by omega)
  have od : NOk (refN (s.den.v * t.den.v)) := refN_ok (by omega)
  have g4 := V111 ox oy (refN_fr _) (refN_fr _)
  have g5 := V98 ox oy
  have g6 := V112 ox oy (refN_fr _) (refN_fr _)
  have g7 := V112 oy ox (refN_fr _) (refN_fr _)
  rw [refN_v, refN_v] at g4 g5
  unfold subR at g6 g7
  rw [refN_v, refN_v] at g6 g7
  have hd0 : s.den.v * t.den.v ≠ 0 := Nat.mul_ne_zero e2.den0 f2.den0
  have hsum : a.q + b.q = mkRat (sgn s.neg (s.num.v * t.den.v) + sgn t.neg (t.num.v * s.den.v)) (s.den.v * t.den.v) := by
    rw [← e2.q, ← f2.q]
    exact qOf_add e2.den0 f2.den0
  have fin : ∀ (neg : Bool) (n : Nat), (digs n).length < 2 ^ 38 → mkRat (sgn s.neg (s.num.v * t.den.v) + sgn t.neg (t.num.v * s.den.v)) (s.den.v * t.den.v) = qOf neg n (s.den.v * t.den.v) → ∃ r : RV, AP cfg 69 [.bool neg, (refN n).av, (refN (s.den.v * t.den.v)).av] = some (.tup [r.av, .int .i64 0]) ∧ Can r (a.q + b.q) ∧ r.fr = r := by
    intro neg n hn he
    rcases V69 neg (refN_ok (n := n) (by omega)) od (by rw [refN_v]; exact hn) (by rw [refN_v]; omega) with ⟨h0, _⟩ | ⟨_, r, h1, h2, h3⟩
    · rw [refN_v] at h0; exact absurd h0 hd0
    · rw [refN_v, refN_v, ← he, ← hsum] at h2
      exact ⟨r, h1, h2, h3⟩
  by_cases hn : s.neg = t.neg
  · obtain ⟨r, h1, h2, h3⟩ := fin s.neg (s.num.v * t.den.v + t.num.v * s.den.v) (by omega) (by rw [← hn, sgn_same]; rfl)
    refine ⟨r, (AP_ofz _ _ (fz_rv r) (noV_rv _) (m := [cR s, cR t, cR r, cR r]) ?_).trans (by rw [h3]), h2, h3⟩
    rw [T76]
    simp only [Nat.reduceAdd, Option.bind_some, Option.map_some, box_rv, new_z, new_r, new_zs, new_rs, fld0, fld1, fld2, res1, res2, ld0neg, ld0num, ld0den, ld0all, st0all, st0neg, ld1neg, ld1num, ld1den, ld1all, st1all, st1neg, ld2neg, ld2num, ld2den, ld2all, st2all, st2neg, ld3neg, ld3num, ld3den, ld3all, st3all, st3neg, ld4neg, ld4num, ld4den, ld4all, st4all, st4neg, ex0, ex1, ex2, bld0, bld2, bld12, bld012, nil_av, not_b, bl_neq, bl_eql, List.length_cons, List.length_nil, List.length_append, List.nil_append, List.cons_append, List.append_nil, Nat.zero_add, List.set_cons_zero, List.set_cons_succ, List.set_nil, pcN, pcI, pcNN, pcBNN, pcR, pcRR, pc0, e1, f1, hs1, hs2, ht1, ht2, g1, g2, g3, refN_fr, g4, hn, bne_self_eq_false, ifA_false]
    rw [hn] at h1
    simp only [Nat.reduceAdd, Option.bind_some, Option.map_some, box_rv, new_z, new_r, new_zs, new_rs, fld0, fld1, fld2, res1, res2, ld0neg, ld0num, ld0den, ld0all, st0all, st0neg, ld1neg, ld1num, ld1den, ld1all, st1all, st1neg, ld2neg, ld2num, ld2den, ld2all, st2all, st2neg, ld3neg, ld3num, ld3den, ld3all, st3all, st3neg, ld4neg, ld4num, ld4den, ld4all, st4all, st4neg, ex0, ex1, ex2, bld0, bld2, bld12, bld012, nil_av, not_b, bl_neq, bl_eql, List.length_cons, List.length_nil, List.length_append, List.nil_append, List.cons_append, List.append_nil, Nat.zero_add, List.set_cons_zero, List.set_cons_succ, List.set_nil, pcN, pcI, pcNN, pcBNN, pcR, pcRR, pc0, h1]
  · have hne : (s.neg != t.neg) = true := by simpa using hn
    by_cases hlt : s.num.v * t.den.v < t.num.v * s.den.v
    · obtain ⟨r, h1, h2, h3⟩ := fin t.neg (t.num.v * s.den.v - s.num.v * t.den.v) (Nat.lt_of_le_of_lt (digs_mono (Nat.sub_le _ _)) (by omega)) (by rw [sgn_lt hn hlt]; rfl)
      refine ⟨r, (AP_ofz _ _ (fz_rv r) (noV_rv _) (m := [cR s, cR t, cR r, cR r]) ?_).trans (by rw [h3]), h2, h3⟩
      have hc : ¬ cmpV (s.num.v * t.den.v) (t.num.v * s.den.v) ≥ 0 := by unfold cmpV; rw [if_pos hlt]; omega
      rw [if_neg (by omega)] at g7
      rw [T76]
      simp only [Nat.reduceAdd, Option.bind_some, Option.map_some, box_rv, new_z, new_r, new_zs, new_rs, fld0, fld1, fld2, res1, res2, ld0neg, ld0num, ld0den, ld0all, st0all, st0neg, ld1neg, ld1num, ld1den, ld1all, st1all, st1neg, ld2neg, ld2num, ld2den, ld2all, st2all, st2neg, ld3neg, ld3num, ld3den, ld3all, st3all, st3neg, ld4neg, ld4num, ld4den, ld4all, st4all, st4neg, ex0, ex1, ex2, bld0, bld2, bld12, bld012, nil_av, not_b, bl_neq, bl_eql, List.length_cons, List.length_nil, List.length_append, List.nil_append, List.cons_append, List.append_nil, Nat.zero_add, List.set_cons_zero, List.set_cons_succ, List.set_nil, pcN, pcI, pcNN, pcBNN, pcR, pcRR, pc0, e1, f1, hs1, hs2, ht1, ht2, g1, g2, g3, refN_fr, g4, hne, ifA_true, g5, binA_geq, ifA_dec]
      rw [if_neg hc]
      simp only [Nat.reduceAdd, Option.bind_some, Option.map_some, box_rv, new_z, new_r, new_zs, new_rs, fld0, fld1, fld2, res1, res2, ld0neg, ld0num, ld0den, ld0all, st0all, st0neg, ld1neg, ld1num, ld1den, ld1all, st1all, st1neg, ld2neg, ld2num, ld2den, ld2all, st2all, st2neg, ld3neg, ld3num, ld3den, ld3all, st3all, st3neg, ld4neg, ld4num, ld4den, ld4all, st4all, st4neg, ex0, ex1, ex2, bld0, bld2, bld12, bld012, nil_av, not_b, bl_neq, bl_eql, List.length_cons, List.length_nil, List.length_append, List.nil_append, List.cons_append, List.append_nil, Nat.zero_add, List.set_cons_zero, List.set_cons_succ, List.set_nil, pcN, pcI, pcNN, pcBNN, pcR, pcRR, pc0, refN_fr, g7, h1]
    · obtain ⟨r, h1, h2, h3⟩ := fin s.neg (s.num.v * t.den.v - t.num.v * s.den.v) (Nat.lt_of_le_of_lt (digs_mono (Nat.sub_le _ _)) (by omega)) (by rw [sgn_gt hn hlt]; rfl)
      refine ⟨r, (AP_ofz _ _ (fz_rv r) (noV_rv _) (m := [cR s, cR t, cR r, cR r]) ?_).trans (by rw [h3]), h2, h3⟩
      have hc : cmpV (s.num.v * t.den.v) (t.num.v * s.den.v) ≥ 0 := by unfold cmpV; rw [if_neg hlt]; split <;> omega
      rw [if_neg hlt] at g6
      rw [T76]
      simp only [Nat.reduceAdd, Option.bind_some, Option.map_some, box_rv, new_z, new_r, new_zs, new_rs, fld0, fld1, fld2, res1, res2, ld0neg, ld0num, ld0den, ld0all, st0all, st0neg, ld1neg, ld1num, ld1den, ld1all, st1all, st1neg, ld2neg, ld2num, ld2den, ld2all, st2all, st2neg, ld3neg, ld3num, ld3den, ld3all, st3all, st3neg, ld4neg, ld4num, ld4den, ld4all, st4all, st4neg, ex0, ex1, ex2, bld0, bld2, bld12, bld012, nil_av, not_b, bl_neq, bl_eql, List.length_cons, List.length_nil, List.length_append, List.nil_append, List.cons_append, List.append_nil, Nat.zero_add, List.set_cons_zero, List.set_cons_succ, List.set_nil, pcN, pcI, pcNN, pcBNN, pcR, pcRR, pc0, e1, f1, hs1, hs2, ht1, ht2, g1, g2, g3, refN_fr, g4, hne, ifA_true, g5, binA_geq, ifA_dec]
      rw [if_pos hc]
      simp only [Nat.reduceAdd, Option.bind_some, Option.map_some, box_rv, new_z, new_r, new_zs, new_rs, fld0, fld1, fld2, res1, res2, ld0neg, ld0num, ld0den, ld0all, st0all, st0neg, ld1neg, ld1num, ld1den, ld1all, st1all, st1neg, ld2neg, ld2num, ld2den, ld2all, st2all, st2neg, ld3neg, ld3num, ld3den, ld3all, st3all, st3neg, ld4neg, ld4num, ld4den, ld4all, st4all, st4neg, ex0, ex1, ex2, bld0, bld2, bld12, bld012, nil_av, not_b, bl_neq, bl_eql, List.length_cons, List.length_nil, List.length_append, List.nil_append, List.cons_append, List.append_nil, Nat.zero_add, List.set_cons_zero, List.set_cons_succ, List.set_nil, pcN, pcI, pcNN, pcBNN, pcR, pcRR, pc0, refN_fr, g6, h1]
theorem V100 {a b : RV} {k : Nat} (ha : ROk k a) (hb : ROk k b) (hk1 : 1 ≤ k) (hk : k < 2 ^ 36) : ∃ s : RV, AP cfg 100 [a.av, b.av] = some s.av ∧ Can s (a.q - b.q) ∧ s.fr = s := by
  obtain ⟨t, f1, f2, f3⟩ := V118 hb.fr (by omega)
  rw [RV.fr_q] at f2
  have bt : Bd k (-b.q) := by
    have := hb.bd hk1
    refine ⟨?_, ?_⟩
    · rw [Rat.neg_num, Int.natAbs_neg]; exact this.1
    · rw [Rat.neg_den]; exact this.2
  have ot := f2.ok bt (by omega)
  obtain ⟨s, e1, e2, e3⟩ := V76 ha.fr ot hk1 hk
  rw [f2.q, RV.fr_q, ← Rat.sub_eq_add_neg] at e2
  refine ⟨s, (AP_ofz _ _ (fz_rv s) (noV_rv _) (m := [cR a, cR b, cR s]) ?_).trans (by rw [e3]), e2, e3⟩
  rw [T100]
  simp only [Nat.reduceAdd, Option.bind_some, Option.map_some, box_rv, new_z, new_r, new_zs, new_rs, fld0, fld1, fld2, res1, res2, ld0neg, ld0num, ld0den, ld0all, st0all, st0neg, ld1neg, ld1num, ld1den, ld1all, st1all, st1neg, ld2neg, ld2num, ld2den, ld2all, st2all, st2neg, ld3neg, ld3num, ld3den, ld3all, st3all, st3neg, ld4neg, ld4num, ld4den, ld4all, st4all, st4neg, ex0, ex1, ex2, bld0, bld2, bld12, bld012, nil_av, not_b, bl_neq, bl_eql, List.length_cons, List.length_nil, List.length_append, List.nil_append, List.cons_append, List.append_nil, Nat.zero_add, List.set_cons_zero, List.set_cons_succ, List.set_nil, pcN, pcI, pcNN, pcBNN, pcR, pcRR, pc0, f1, f3, e1]
theorem V66 {a b : RV} {k : Nat} (ha : ROk k a) (hb : ROk k b) (hk1 : 1 ≤ k) (hk : k < 2 ^ 36) : AP cfg 66 [a.av, b.av] = some (.int .i64 (sgQ (a.q - b.q))) := by
  obtain ⟨s, e1, e2, e3⟩ := V100 ha.fr hb.fr hk1 hk
  rw [RV.fr_q, RV.fr_q] at e2
  have bs := Bd_add (ha.bd hk1) (q := -b.q) (l := k) (by
    have := hb.bd hk1
    refine ⟨?_, ?_⟩
    · rw [Rat.neg_num, Int.natAbs_neg]; exact this.1
    · rw [Rat.neg_den]; exact this.2) hk1
  rw [← Rat.sub_eq_add_neg] at bs
  have os := e2.ok bs (by omega)
  have e4 := V86 os (by omega)
  rw [e2.q] at e4
  refine AP_ofz _ _ (fz_int _ _) rfl (m := [cR a, cR b]) ?_
  rw [T66]
  simp only [Nat.reduceAdd, Option.bind_some, Option.map_some, box_rv, new_z, new_r, new_zs, new_rs, fld0, fld1, fld2, res1, res2, ld0neg, ld0num, ld0den, ld0all, st0all, st0neg, ld1neg, ld1num, ld1den, ld1all, st1all, st1neg, ld2neg, ld2num, ld2den, ld2all, st2all, st2neg, ld3neg, ld3num, ld3den, ld3all, st3all, st3neg, ld4neg, ld4num, ld4den, ld4all, st4all, st4neg, ex0, ex1, ex2, bld0, bld2, bld12, bld012, nil_av, not_b, bl_neq, bl_eql, List.length_cons, List.length_nil, List.length_append, List.nil_append, List.cons_append, List.append_nil, Nat.zero_add, List.set_cons_zero, List.set_cons_succ, List.set_nil, pcN, pcI, pcNN, pcBNN, pcR, pcRR, pc0, e1, e3, e4]
theorem V23 {a b : RV} {k : Nat} (ha : ROk k a) (hb : ROk k b) (hk1 : 1 ≤ k) (hk : k < 2 ^ 36) : AP cfg 23 [a.av, b.av] = some (.bool (decide (a.q = b.q))) := by
  have e1 := V66 ha.fr hb.fr hk1 hk
  rw [RV.fr_q, RV.fr_q] at e1
  refine AP_ofz _ _ (fz_bool _) rfl (m := [cR a, cR b]) ?_
  rw [T23]
  simp only [Nat.reduceAdd, Option.bind_some, Option.map_some, box_rv, new_z, new_r, new_zs, new_rs, fld0, fld1, fld2, res1, res2, ld0neg, ld0num, ld0den, ld0all, st0all, st0neg, ld1neg, ld1num, ld1den, ld1all, st1all, st1neg, ld2neg, ld2num, ld2den, ld2all, st2all, st2neg, ld3neg, ld3num, ld3den, ld3all, st3all, st3neg, ld4neg, ld4num, ld4den, ld4all, st4all, st4neg, ex0, ex1, ex2, bld0, bld2, bld12, bld012, nil_av, not_b, bl_neq, bl_eql, List.length_cons, List.length_nil, List.length_append, List.nil_append, List.cons_append, List.append_nil, Nat.zero_add, List.set_cons_zero, List.set_cons_succ, List.set_nil, pcN, pcI, pcNN, pcBNN, pcR, pcRR, pc0, e1, binA_eql]
  congr 3
  refine decide_eq_decide.2 ?_
  rw [sgQ_zero]
  constructor
  · intro h
    have := Rat.sub_add_cancel (a := a.q) (b := b.q)
    rw [h, Rat.zero_add] at this
    exact this.symm
  · intro h; rw [h, Rat.sub_self]
end Go.Ab

/- Lowest terms in the reference; sums and products of ratio, in values. -/
set_option linter.unusedVariables false
set_option linter.unusedSimpArgs false
set_option maxRecDepth 100000
namespace Go.Ab
open Go.Proofs.Try

theorem V65 {r : RV} {k : Nat} (h : ROk k r) (hk : k < 2 ^ 38) : AP cfg 65 [r.av] = some (.bool (rightR r)) := by
  have ln := Nat.le_trans h.num.v_len h.ln
  have ld := Nat.le_trans h.den.v_len h.ld
  have e1 := V97 h.num.fr
  have e2 := V97 h.den.fr
  have e3 := V99 h.num.fr h.den.fr (by show (digs r.num.v).length < _; omega) (by show (digs r.den.v).length < _; omega)
  have v1 : r.num.fr.v = r.num.v := rfl
  have v2 : r.den.fr.v = r.den.v := rfl
  rw [v1, v2] at e3
  have lg : (digs (Nat.gcd r.num.v r.den.v)).length < 2 ^ 40 := digs_gcd_len (by omega) (by omega)
  have o1 : NOk (refN 1) := refN_ok ln1'
  have e5 := V98 (refN_ok lg) o1
  have e6 := V98 h.den.fr o1
  rw [refN_v, refN_v] at e5
  rw [refN_v, v2] at e6
  have d1 : r.num.fr.ds = r.num.ds := rfl
  have d2 : r.den.fr.ds = r.den.ds := rfl
  rw [d1] at e1
  rw [d2] at e2
  have cm : ∀ n : Nat, (binA .other .eql (.int .i64 (cmpV n 1)) (.int .i64 0)) = some (.bool (decide (n = 1))) := by
    intro n
    rw [binA_eql]
    congr 2
    refine decide_eq_decide.2 ?_
    unfold cmpV
    constructor <;> intro h <;> (repeat' split at *) <;> omega
  refine AP_ofz _ _ (fz_bool _) rfl (m := [cR r]) ?_
  rw [T65]
  simp only [Nat.reduceAdd, Option.bind_some, Option.map_some, box_rv, new_z, new_r, new_zs, new_rs, fld0, fld1, fld2, res1, res2, ld0neg, ld0num, ld0den, ld0all, st0all, st0neg, ld1neg, ld1num, ld1den, ld1all, st1all, st1neg, ld2neg, ld2num, ld2den, ld2all, st2all, st2neg, ld3neg, ld3num, ld3den, ld3all, st3all, st3neg, ld4neg, ld4num, ld4den, ld4all, st4all, st4neg, ex0, ex1, ex2, bld0, bld2, bld12, bld012, nil_av, not_b, bl_neq, bl_eql, List.length_cons, List.length_nil, List.length_append, List.nil_append, List.cons_append, List.append_nil, Nat.zero_add, List.set_cons_zero, List.set_cons_succ, List.set_nil, pcN, pcI, pcNN, pcBNN, pcR, pcRR, pc0, e1]
  unfold rightR
  cases h1 : canB r.num.ds with
  | false => rfl
  | true =>
    simp only [Nat.reduceAdd, Option.bind_some, Option.map_some, box_rv, new_z, new_r, new_zs, new_rs, fld0, fld1, fld2, res1, res2, ld0neg, ld0num, ld0den, ld0all, st0all, st0neg, ld1neg, ld1num, ld1den, ld1all, st1all, st1neg, ld2neg, ld2num, ld2den, ld2all, st2all, st2neg, ld3neg, ld3num, ld3den, ld3all, st3all, st3neg, ld4neg, ld4num, ld4den, ld4all, st4all, st4neg, ex0, ex1, ex2, bld0, bld2, bld12, bld012, nil_av, not_b, bl_neq, bl_eql, List.length_cons, List.length_nil, List.length_append, List.nil_append, List.cons_append, List.append_nil, Nat.zero_add, List.set_cons_zero, List.set_cons_succ, List.set_nil, pcN, pcI, pcNN, pcBNN, pcR, pcRR, pc0, Bool.not_true, ifA_false, e2, Bool.true_and]
    cases h2 : canB r.den.ds with
    | false => rfl
    | true =>
      simp only [Nat.reduceAdd, Option.bind_some, Option.map_some, box_rv, new_z, new_r, new_zs, new_rs, fld0, fld1, fld2, res1, res2, ld0neg, ld0num, ld0den, ld0all, st0all, st0neg, ld1neg, ld1num, ld1den, ld1all, st1all, st1neg, ld2neg, ld2num, ld2den, ld2all, st2all, st2neg, ld3neg, ld3num, ld3den, ld3all, st3all, st3neg, ld4neg, ld4num, ld4den, ld4all, st4all, st4neg, ex0, ex1, ex2, bld0, bld2, bld12, bld012, nil_av, not_b, bl_neq, bl_eql, List.length_cons, List.length_nil, List.length_append, List.nil_append, List.cons_append, List.append_nil, Nat.zero_add, List.set_cons_zero, List.set_cons_succ, List.set_nil, pcN, pcI, pcNN, pcBNN, pcR, pcRR, pc0, Bool.not_true, ifA_false, len_nv, n_eql0, Bool.true_and, canB_len h2]
      rw [ifA_dec]
      by_cases h3 : r.den.v = 0
      · rw [if_pos h3]; simp [h3]
      · rw [if_neg h3]
        simp only [Nat.reduceAdd, Option.bind_some, Option.map_some, box_rv, new_z, new_r, new_zs, new_rs, fld0, fld1, fld2, res1, res2, ld0neg, ld0num, ld0den, ld0all, st0all, st0neg, ld1neg, ld1num, ld1den, ld1all, st1all, st1neg, ld2neg, ld2num, ld2den, ld2all, st2all, st2neg, ld3neg, ld3num, ld3den, ld3all, st3all, st3neg, ld4neg, ld4num, ld4den, ld4all, st4all, st4neg, ex0, ex1, ex2, bld0, bld2, bld12, bld012, nil_av, not_b, bl_neq, bl_eql, List.length_cons, List.length_nil, List.length_append, List.nil_append, List.cons_append, List.append_nil, Nat.zero_add, List.set_cons_zero, List.set_cons_succ, List.set_nil, pcN, pcI, pcNN, pcBNN, pcR, pcRR, pc0, len_nv, n_eql0, canB_len h1]
        rw [ifA_dec]
        by_cases h4 : r.num.v = 0
        · rw [if_pos h4]
          cases hn : r.neg with
          | true => simp only [Nat.reduceAdd, Option.bind_some, Option.map_some, box_rv, new_z, new_r, new_zs, new_rs, fld0, fld1, fld2, res1, res2, ld0neg, ld0num, ld0den, ld0all, st0all, st0neg, ld1neg, ld1num, ld1den, ld1all, st1all, st1neg, ld2neg, ld2num, ld2den, ld2all, st2all, st2neg, ld3neg, ld3num, ld3den, ld3all, st3all, st3neg, ld4neg, ld4num, ld4den, ld4all, st4all, st4neg, ex0, ex1, ex2, bld0, bld2, bld12, bld012, nil_av, not_b, bl_neq, bl_eql, List.length_cons, List.length_nil, List.length_append, List.nil_append, List.cons_append, List.append_nil, Nat.zero_add, List.set_cons_zero, List.set_cons_succ, List.set_nil, pcN, pcI, pcNN, pcBNN, pcR, pcRR, pc0, Bool.not_true, ifA_false]; simp [h4]
          | false =>
            simp only [Nat.reduceAdd, Option.bind_some, Option.map_some, box_rv, new_z, new_r, new_zs, new_rs, fld0, fld1, fld2, res1, res2, ld0neg, ld0num, ld0den, ld0all, st0all, st0neg, ld1neg, ld1num, ld1den, ld1all, st1all, st1neg, ld2neg, ld2num, ld2den, ld2all, st2all, st2neg, ld3neg, ld3num, ld3den, ld3all, st3all, st3neg, ld4neg, ld4num, ld4den, ld4all, st4all, st4neg, ex0, ex1, ex2, bld0, bld2, bld12, bld012, nil_av, not_b, bl_neq, bl_eql, List.length_cons, List.length_nil, List.length_append, List.nil_append, List.cons_append, List.append_nil, Nat.zero_add, List.set_cons_zero, List.set_cons_succ, List.set_nil, pcN, pcI, pcNN, pcBNN, pcR, pcRR, pc0, Bool.not_false, ifA_true, V70one, refN_fr, e6, cm]
            simp [h3, h4]
        · rw [if_neg h4]
          simp only [Nat.reduceAdd, Option.bind_some, Option.map_some, box_rv, new_z, new_r, new_zs, new_rs, fld0, fld1, fld2, res1, res2, ld0neg, ld0num, ld0den, ld0all, st0all, st0neg, ld1neg, ld1num, ld1den, ld1all, st1all, st1neg, ld2neg, ld2num, ld2den, ld2all, st2all, st2neg, ld3neg, ld3num, ld3den, ld3all, st3all, st3neg, ld4neg, ld4num, ld4den, ld4all, st4all, st4neg, ex0, ex1, ex2, bld0, bld2, bld12, bld012, nil_av, not_b, bl_neq, bl_eql, List.length_cons, List.length_nil, List.length_append, List.nil_append, List.cons_append, List.append_nil, Nat.zero_add, List.set_cons_zero, List.set_cons_succ, List.set_nil, pcN, pcI, pcNN, pcBNN, pcR, pcRR, pc0, V70one, e3, refN_fr, e5, cm]
          simp [h3, h4]
theorem V29 {a b : RV} {k : Nat} (ha : ROk k a) (hb : ROk k b) (hk1 : 1 ≤ k) (hk : k < 2 ^ 36) : ∃ s : RV, AP cfg 29 [a.av, b.av] = some s.av ∧ Can s (a.q * b.q) ∧ s.fr = s := by
  obtain ⟨s, e1, e2, e3⟩ := V71 ha.fr (by omega)
  obtain ⟨t, f1, f2, f3⟩ := V71 hb.fr (by omega)
  rw [RV.fr_q] at e2 f2
  have os := e2.ok (ha.bd hk1) (by omega)
  have ot := f2.ok (hb.bd hk1) (by omega)
  have hs1 : s.num.fr = s.num := congrArg RV.num e3
  have hs2 : s.den.fr = s.den := congrArg RV.den e3
  have ht1 : t.num.fr = t.num := congrArg RV.num f3
  have ht2 : t.den.fr = t.den := congrArg RV.den f3
  have ln := ln_mul (Nat.le_trans os.num.v_len os.ln) (Nat.le_trans ot.num.v_len ot.ln)
  have ld := ln_mul (Nat.le_trans os.den.v_len os.ld) (Nat.le_trans ot.den.v_len ot.ld)
  have g1 := V72 os.num ot.num
  have g3 := V72 os.den ot.den
  have on : NOk (refN (s.num.v * t.num.v)) := refN_ok (by omega)
  have od : NOk (refN (s.den.v * t.den.v)) := refN_ok (by omega)
  have hd0 : s.den.v * t.den.v ≠ 0 := Nat.mul_ne_zero e2.den0 f2.den0
  have hq : qOf (s.neg != t.neg) (s.num.v * t.num.v) (s.den.v * t.den.v) = a.q * b.q := by rw [← qOf_mul, ← e2.q, ← f2.q]; rfl
  rcases V69 (s.neg != t.neg) on od (by rw [refN_v]; omega) (by rw [refN_v]; omega) with ⟨h0, _⟩ | ⟨_, r, h1, h2, h3⟩
  · rw [refN_v] at h0; exact absurd h0 hd0
  · rw [refN_v, refN_v, hq] at h2
    refine ⟨r, (AP_ofz _ _ (fz_rv r) (noV_rv _) (m := [cR s, cR t, cR r, cR r]) ?_).trans (by rw [h3]), h2, h3⟩
    rw [T29]
    simp only [Nat.reduceAdd, Option.bind_some, Option.map_some, box_rv, new_z, new_r, new_zs, new_rs, fld0, fld1, fld2, res1, res2, ld0neg, ld0num, ld0den, ld0all, st0all, st0neg, ld1neg, ld1num, ld1den, ld1all, st1all, st1neg, ld2neg, ld2num, ld2den, ld2all, st2all, st2neg, ld3neg, ld3num, ld3den, ld3all, st3all, st3neg, ld4neg, ld4num, ld4den, ld4all, st4all, st4neg, ex0, ex1, ex2, bld0, bld2, bld12, bld012, nil_av, not_b, bl_neq, bl_eql, List.length_cons, List.length_nil, List.length_append, List.nil_append, List.cons_append, List.append_nil, Nat.zero_add, List.set_cons_zero, List.set_cons_succ, List.set_nil, pcN, pcI, pcNN, pcBNN, pcR, pcRR, pc0, e1, f1, hs1, hs2, ht1, ht2, g1, g3, refN_fr, h1]

/-! ### The program's -/
theorem V78 {a b : RV} {k : Nat} (ha : ROk k a) (hb : ROk k b) (hk1 : 1 ≤ k) (hk : k < 2 ^ 36) : ∃ s : RV, AP cfg 78 [a.av, b.av] = some s.av ∧ Can s (a.q * b.q) ∧ s.fr = s := by
  have g1 := V107 ha.num.fr hb.num.fr
  have g2 := V107 ha.den.fr hb.den.fr
  have v1 : a.num.fr.v = a.num.v := rfl
  have v2 : a.den.fr.v = a.den.v := rfl
  have v3 : b.num.fr.v = b.num.v := rfl
  have v4 : b.den.fr.v = b.den.v := rfl
  rw [v1, v3] at g1
  rw [v2, v4] at g2
  have ln := ln_mul (Nat.le_trans ha.num.v_len ha.ln) (Nat.le_trans hb.num.v_len hb.ln)
  have ld := ln_mul (Nat.le_trans ha.den.v_len ha.ld) (Nat.le_trans hb.den.v_len hb.ld)
  have on : NOk ⟨false, .no, digs (a.num.v * b.num.v)⟩ := nok_digs (by omega)
  have od : NOk ⟨false, .no, digs (a.den.v * b.den.v)⟩ := nok_digs (by omega)
  have nf : ∀ n : Nat, (NV.mk false .no (digs n)).fr = ⟨false, .no, digs n⟩ := fun _ => rfl
  have nv : ∀ n : Nat, (NV.mk false .no (digs n)).v = n := fun n => val_digs n
  obtain ⟨r, h1, h2, h3⟩ := V106 (a.neg != b.neg) on od
  rw [nv, nv, ← qOf_mul] at h2
  refine ⟨r, (AP_ofz _ _ (fz_rv r) (noV_rv _) (m := [cR a, cR b, cR r]) ?_).trans (by rw [h3]), h2, h3⟩
  rw [T78]
  simp only [Nat.reduceAdd, Option.bind_some, Option.map_some, box_rv, new_z, new_r, new_zs, new_rs, fld0, fld1, fld2, res1, res2, ld0neg, ld0num, ld0den, ld0all, st0all, st0neg, ld1neg, ld1num, ld1den, ld1all, st1all, st1neg, ld2neg, ld2num, ld2den, ld2all, st2all, st2neg, ld3neg, ld3num, ld3den, ld3all, st3all, st3neg, ld4neg, ld4num, ld4den, ld4all, st4all, st4neg, ex0, ex1, ex2, bld0, bld2, bld12, bld012, nil_av, not_b, bl_neq, bl_eql, List.length_cons, List.length_nil, List.length_append, List.nil_append, List.cons_append, List.append_nil, Nat.zero_add, List.set_cons_zero, List.set_cons_succ, List.set_nil, pcN, pcI, pcNN, pcBNN, pcR, pcRR, pc0, g1, g2, nf, h1]
theorem signR_zero {r : RV} : signR r = 0 ↔ r.q = 0 := by
  unfold signR
  by_cases h : r.num.v = 0 ∨ r.den.v = 0
  · rw [if_pos h]
    refine ⟨fun _ => ?_, fun _ => rfl⟩
    rcases h with h | h
    · rw [RV.q, h, qOf_num0]
    · rw [RV.q, h, qOf_den0]
  · rw [if_neg h]
    constructor
    · intro h'; split at h' <;> omega
    · intro h'
      have hd : r.den.v ≠ 0 := fun e => h (.inr e)
      exact absurd (.inl ((qOf_eq0 hd).1 h')) h
theorem V75 {a b : RV} {k : Nat} (ha : ROk k a) (hb : ROk k b) (hk1 : 1 ≤ k) (hk : k < 2 ^ 36) : ∃ s : RV, AP cfg 75 [a.av, b.av] = some s.av ∧ Can s (a.q + b.q) ∧ s.fr = s := by
  have e1 := V105 ha.fr
  have e2 := V105 hb.fr
  have s1 : signR a.fr = signR a := rfl
  have s2 : signR b.fr = signR b := rfl
  rw [s1] at e1
  rw [s2] at e2
  have v1 : a.num.fr.v = a.num.v := rfl
  have v2 : a.den.fr.v = a.den.v := rfl
  have v3 : b.num.fr.v = b.num.v := rfl
  have v4 : b.den.fr.v = b.den.v := rfl
  by_cases ha0 : signR a = 0
  · obtain ⟨r, h1, h2, h3⟩ := V106 b.neg hb.num.fr hb.den.fr
    rw [v3, v4] at h2
    refine ⟨r, (AP_ofz _ _ (fz_rv r) (noV_rv _) (m := [cR a, cR b, cR r]) ?_).trans (by rw [h3]), ?_, h3⟩
    · rw [T75]
      simp only [Nat.reduceAdd, Option.bind_some, Option.map_some, box_rv, new_z, new_r, new_zs, new_rs, fld0, fld1, fld2, res1, res2, ld0neg, ld0num, ld0den, ld0all, st0all, st0neg, ld1neg, ld1num, ld1den, ld1all, st1all, st1neg, ld2neg, ld2num, ld2den, ld2all, st2all, st2neg, ld3neg, ld3num, ld3den, ld3all, st3all, st3neg, ld4neg, ld4num, ld4den, ld4all, st4all, st4neg, ex0, ex1, ex2, bld0, bld2, bld12, bld012, nil_av, not_b, bl_neq, bl_eql, List.length_cons, List.length_nil, List.length_append, List.nil_append, List.cons_append, List.append_nil, Nat.zero_add, List.set_cons_zero, List.set_cons_succ, List.set_nil, pcN, pcI, pcNN, pcBNN, pcR, pcRR, pc0, e1, binA_eql, ifA_dec]
      rw [if_pos ha0]
      simp only [Nat.reduceAdd, Option.bind_some, Option.map_some, box_rv, new_z, new_r, new_zs, new_rs, fld0, fld1, fld2, res1, res2, ld0neg, ld0num, ld0den, ld0all, st0all, st0neg, ld1neg, ld1num, ld1den, ld1all, st1all, st1neg, ld2neg, ld2num, ld2den, ld2all, st2all, st2neg, ld3neg, ld3num, ld3den, ld3all, st3all, st3neg, ld4neg, ld4num, ld4den, ld4all, st4all, st4neg, ex0, ex1, ex2, bld0, bld2, bld12, bld012, nil_av, not_b, bl_neq, bl_eql, List.length_cons, List.length_nil, List.length_append, List.nil_append, List.cons_append, List.append_nil, Nat.zero_add, List.set_cons_zero, List.set_cons_succ, List.set_nil, pcN, pcI, pcNN, pcBNN, pcR, pcRR, pc0, h1]
    · rw [signR_zero.1 ha0, Rat.zero_add]; exact h2
  · by_cases hb0 : signR b = 0
    · obtain ⟨r, h1, h2, h3⟩ := V106 a.neg ha.num.fr ha.den.fr
      rw [v1, v2] at h2
      refine ⟨r, (AP_ofz _ _ (fz_rv r) (noV_rv _) (m := [cR a, cR b, cR r]) ?_).trans (by rw [h3]), ?_, h3⟩
      · rw [T75]
        simp only [Nat.reduceAdd, Option.bind_some, Option.map_some, box_rv, new_z, new_r, new_zs, new_rs, fld0, fld1, fld2, res1, res2, ld0neg, ld0num, ld0den, ld0all, st0all, st0neg, ld1neg, ld1num, ld1den, ld1all, st1all, st1neg, ld2neg, ld2num, ld2den, ld2all, st2all, st2neg, ld3neg, ld3num, ld3den, ld3all, st3all, st3neg, ld4neg, ld4num, ld4den, ld4all, st4all, st4neg, ex0, ex1, ex2, bld0, bld2, bld12, bld012, nil_av, not_b, bl_neq, bl_eql, List.length_cons, List.length_nil, List.length_append, List.nil_append, List.cons_append, List.append_nil, Nat.zero_add, List.set_cons_zero, List.set_cons_succ, List.set_nil, pcN, pcI, pcNN, pcBNN, pcR, pcRR, pc0, e1, binA_eql, ifA_dec]
        rw [if_neg ha0]
        simp only [Nat.reduceAdd, Option.bind_some, Option.map_some, box_rv, new_z, new_r, new_zs, new_rs, fld0, fld1, fld2, res1, res2, ld0neg, ld0num, ld0den, ld0all, st0all, st0neg, ld1neg, ld1num, ld1den, ld1all, st1all, st1neg, ld2neg, ld2num, ld2den, ld2all, st2all, st2neg, ld3neg, ld3num, ld3den, ld3all, st3all, st3neg, ld4neg, ld4num, ld4den, ld4all, st4all, st4neg, ex0, ex1, ex2, bld0, bld2, bld12, bld012, nil_av, not_b, bl_neq, bl_eql, List.length_cons, List.length_nil, List.length_append, List.nil_append, List.cons_append, List.append_nil, Nat.zero_add, List.set_cons_zero, List.set_cons_succ, List.set_nil, pcN, pcI, pcNN, pcBNN, pcR, pcRR, pc0, e2, binA_eql, ifA_dec]
        rw [if_pos hb0]
        simp only [Nat.reduceAdd, Option.bind_some, Option.map_some, box_rv, new_z, new_r, new_zs, new_rs, fld0, fld1, fld2, res1, res2, ld0neg, ld0num, ld0den, ld0all, st0all, st0neg, ld1neg, ld1num, ld1den, ld1all, st1all, st1neg, ld2neg, ld2num, ld2den, ld2all, st2all, st2neg, ld3neg, ld3num, ld3den, ld3all, st3all, st3neg, ld4neg, ld4num, ld4den, ld4all, st4all, st4neg, ex0, ex1, ex2, bld0, bld2, bld12, bld012, nil_av, not_b, bl_neq, bl_eql, List.length_cons, List.length_nil, List.length_append, List.nil_append, List.cons_append, List.append_nil, Nat.zero_add, List.set_cons_zero, List.set_cons_succ, List.set_nil, pcN, pcI, pcNN, pcBNN, pcR, pcRR, pc0, h1]
      · rw [signR_zero.1 hb0, Rat.add_zero]; exact h2
    · have da : a.den.v ≠ 0 := fun e => ha0 (by unfold signR; rw [if_pos (.inr e)])
      have db : b.den.v ≠ 0 := fun e => hb0 (by unfold signR; rw [if_pos (.inr e)])
      have g1 := V107 ha.num.fr hb.den.fr
      have g2 := V107 hb.num.fr ha.den.fr
      have g3 := V107 ha.den.fr hb.den.fr
      rw [v1, v4] at g1
      rw [v3, v2] at g2
      rw [v2, v4] at g3
      have lx := ln_mul (Nat.le_trans ha.num.v_len ha.ln) (Nat.le_trans hb.den.v_len hb.ld)
      have ly := ln_mul (Nat.le_trans hb.num.v_len hb.ln) (Nat.le_trans ha.den.v_len ha.ld)
      have ld := ln_mul (Nat.le_trans ha.den.v_len ha.ld) (Nat.le_trans hb.den.v_len hb.ld)
      have lxy := ln_add lx ly
      have ox : NOk ⟨false, .no, digs (a.num.v * b.den.v)⟩ := nok_digs (by omega)
      have oy : NOk ⟨false, .no, digs (b.num.v * a.den.v)⟩ := nok_digs (by omega)
      have od : NOk ⟨false, .no, digs (a.den.v * b.den.v)⟩ := nok_digs (by omega)
      have nf : ∀ n : Nat, (NV.mk false .no (digs n)).fr = ⟨false, .no, digs n⟩ := fun _ => rfl
      have nv : ∀ n : Nat, (NV.mk false .no (digs n)).v = n := fun n => val_digs n
      have g4 := V108 ox oy
      have g5 := V109 ox oy
      have g6 := V110 ox oy
      have g7 := V110 oy ox
      rw [nv, nv] at g4 g5
      unfold subV at g6 g7
      rw [nv, nv] at g6 g7
      have hsum : a.q + b.q = mkRat (sgn a.neg (a.num.v * b.den.v) + sgn b.neg (b.num.v * a.den.v)) (a.den.v * b.den.v) := qOf_add da db
      have fin : ∀ (neg : Bool) (n : Nat), (digs n).length < 2 ^ 38 → mkRat (sgn a.neg (a.num.v * b.den.v) + sgn b.neg (b.num.v * a.den.v)) (a.den.v * b.den.v) = qOf neg n (a.den.v * b.den.v) → ∃ r : RV, AP cfg 106 [.bool neg, (NV.mk false .no (digs n)).av, (NV.mk false .no (digs (a.den.v * b.den.v))).av] = some r.av ∧ Can r (a.q + b.q) ∧ r.fr = r := by
        intro neg n hn he
        obtain ⟨r, h1, h2, h3⟩ := V106 neg (x := ⟨false, .no, digs n⟩) (nok_digs (by omega)) od
        rw [nv, nv, ← he, ← hsum] at h2
        exact ⟨r, h1, h2, h3⟩
      by_cases hn : a.neg = b.neg
      · obtain ⟨r, h1, h2, h3⟩ := fin a.neg (a.num.v * b.den.v + b.num.v * a.den.v) (by omega) (by rw [← hn, sgn_same]; rfl)
        refine ⟨r, (AP_ofz _ _ (fz_rv r) (noV_rv _) (m := [cR a, cR b, cR r]) ?_).trans (by rw [h3]), h2, h3⟩
        rw [T75]
        simp only [Nat.reduceAdd, Option.bind_some, Option.map_some, box_rv, new_z, new_r, new_zs, new_rs, fld0, fld1, fld2, res1, res2, ld0neg, ld0num, ld0den, ld0all, st0all, st0neg, ld1neg, ld1num, ld1den, ld1all, st1all, st1neg, ld2neg, ld2num, ld2den, ld2all, st2all, st2neg, ld3neg, ld3num, ld3den, ld3all, st3all, st3neg, ld4neg, ld4num, ld4den, ld4all, st4all, st4neg, ex0, ex1, ex2, bld0, bld2, bld12, bld012, nil_av, not_b, bl_neq, bl_eql, List.length_cons, List.length_nil, List.length_append, List.nil_append, List.cons_append, List.append_nil, Nat.zero_add, List.set_cons_zero, List.set_cons_succ, List.set_nil, pcN, pcI, pcNN, pcBNN, pcR, pcRR, pc0, e1, binA_eql, ifA_dec]
        rw [if_neg ha0]
        simp only [Nat.reduceAdd, Option.bind_some, Option.map_some, box_rv, new_z, new_r, new_zs, new_rs, fld0, fld1, fld2, res1, res2, ld0neg, ld0num, ld0den, ld0all, st0all, st0neg, ld1neg, ld1num, ld1den, ld1all, st1all, st1neg, ld2neg, ld2num, ld2den, ld2all, st2all, st2neg, ld3neg, ld3num, ld3den, ld3all, st3all, st3neg, ld4neg, ld4num, ld4den, ld4all, st4all, st4neg, ex0, ex1, ex2, bld0, bld2, bld12, bld012, nil_av, not_b, bl_neq, bl_eql, List.length_cons, List.length_nil, List.length_append, List.nil_append, List.cons_append, List.append_nil, Nat.zero_add, List.set_cons_zero, List.set_cons_succ, List.set_nil, pcN, pcI, pcNN, pcBNN, pcR, pcRR, pc0, e2, binA_eql, ifA_dec]
        rw [if_neg hb0]
        rw [hn] at h1
        simp only [Nat.reduceAdd, Option.bind_some, Option.map_some, box_rv, new_z, new_r, new_zs, new_rs, fld0, fld1, fld2, res1, res2, ld0neg, ld0num, ld0den, ld0all, st0all, st0neg, ld1neg, ld1num, ld1den, ld1all, st1all, st1neg, ld2neg, ld2num, ld2den, ld2all, st2all, st2neg, ld3neg, ld3num, ld3den, ld3all, st3all, st3neg, ld4neg, ld4num, ld4den, ld4all, st4all, st4neg, ex0, ex1, ex2, bld0, bld2, bld12, bld012, nil_av, not_b, bl_neq, bl_eql, List.length_cons, List.length_nil, List.length_append, List.nil_append, List.cons_append, List.append_nil, Nat.zero_add, List.set_cons_zero, List.set_cons_succ, List.set_nil, pcN, pcI, pcNN, pcBNN, pcR, pcRR, pc0, g1, g2, g3, nf, hn, BEq.rfl, ifA_true, g4, h1]
      · have hne : (a.neg == b.neg) = false := by simpa using hn
        by_cases hlt : a.num.v * b.den.v < b.num.v * a.den.v
        · obtain ⟨r, h1, h2, h3⟩ := fin b.neg (b.num.v * a.den.v - a.num.v * b.den.v) (Nat.lt_of_le_of_lt (digs_mono (Nat.sub_le _ _)) (by omega)) (by rw [sgn_lt hn hlt]; rfl)
          refine ⟨r, (AP_ofz _ _ (fz_rv r) (noV_rv _) (m := [cR b, cR b, cR r]) ?_).trans (by rw [h3]), h2, h3⟩
          have hc : cmpV (a.num.v * b.den.v) (b.num.v * a.den.v) < 0 := by unfold cmpV; rw [if_pos hlt]; omega
          rw [if_neg (by omega)] at g7
          rw [T75]
          simp only [Nat.reduceAdd, Option.bind_some, Option.map_some, box_rv, new_z, new_r, new_zs, new_rs, fld0, fld1, fld2, res1, res2, ld0neg, ld0num, ld0den, ld0all, st0all, st0neg, ld1neg, ld1num, ld1den, ld1all, st1all, st1neg, ld2neg, ld2num, ld2den, ld2all, st2all, st2neg, ld3neg, ld3num, ld3den, ld3all, st3all, st3neg, ld4neg, ld4num, ld4den, ld4all, st4all, st4neg, ex0, ex1, ex2, bld0, bld2, bld12, bld012, nil_av, not_b, bl_neq, bl_eql, List.length_cons, List.length_nil, List.length_append, List.nil_append, List.cons_append, List.append_nil, Nat.zero_add, List.set_cons_zero, List.set_cons_succ, List.set_nil, pcN, pcI, pcNN, pcBNN, pcR, pcRR, pc0, e1, binA_eql, ifA_dec]
          rw [if_neg ha0]
          simp only [Nat.reduceAdd, Option.bind_some, Option.map_some, box_rv, new_z, new_r, new_zs, new_rs, fld0, fld1, fld2, res1, res2, ld0neg, ld0num, ld0den, ld0all, st0all, st0neg, ld1neg, ld1num, ld1den, ld1all, st1all, st1neg, ld2neg, ld2num, ld2den, ld2all, st2all, st2neg, ld3neg, ld3num, ld3den, ld3all, st3all, st3neg, ld4neg, ld4num, ld4den, ld4all, st4all, st4neg, ex0, ex1, ex2, bld0, bld2, bld12, bld012, nil_av, not_b, bl_neq, bl_eql, List.length_cons, List.length_nil, List.length_append, List.nil_append, List.cons_append, List.append_nil, Nat.zero_add, List.set_cons_zero, List.set_cons_succ, List.set_nil, pcN, pcI, pcNN, pcBNN, pcR, pcRR, pc0, e2, binA_eql, ifA_dec]
          rw [if_neg hb0]
          simp only [Nat.reduceAdd, Option.bind_some, Option.map_some, box_rv, new_z, new_r, new_zs, new_rs, fld0, fld1, fld2, res1, res2, ld0neg, ld0num, ld0den, ld0all, st0all, st0neg, ld1neg, ld1num, ld1den, ld1all, st1all, st1neg, ld2neg, ld2num, ld2den, ld2all, st2all, st2neg, ld3neg, ld3num, ld3den, ld3all, st3all, st3neg, ld4neg, ld4num, ld4den, ld4all, st4all, st4neg, ex0, ex1, ex2, bld0, bld2, bld12, bld012, nil_av, not_b, bl_neq, bl_eql, List.length_cons, List.length_nil, List.length_append, List.nil_append, List.cons_append, List.append_nil, Nat.zero_add, List.set_cons_zero, List.set_cons_succ, List.set_nil, pcN, pcI, pcNN, pcBNN, pcR, pcRR, pc0, g1, g2, g3, nf, hne, ifA_false, g5, binA_lss, ifA_dec]
          rw [if_pos hc]
          simp only [Nat.reduceAdd, Option.bind_some, Option.map_some, box_rv, new_z, new_r, new_zs, new_rs, fld0, fld1, fld2, res1, res2, ld0neg, ld0num, ld0den, ld0all, st0all, st0neg, ld1neg, ld1num, ld1den, ld1all, st1all, st1neg, ld2neg, ld2num, ld2den, ld2all, st2all, st2neg, ld3neg, ld3num, ld3den, ld3all, st3all, st3neg, ld4neg, ld4num, ld4den, ld4all, st4all, st4neg, ex0, ex1, ex2, bld0, bld2, bld12, bld012, nil_av, not_b, bl_neq, bl_eql, List.length_cons, List.length_nil, List.length_append, List.nil_append, List.cons_append, List.append_nil, Nat.zero_add, List.set_cons_zero, List.set_cons_succ, List.set_nil, pcN, pcI, pcNN, pcBNN, pcR, pcRR, pc0, nf, g7, h1]
        · obtain ⟨r, h1, h2, h3⟩ := fin a.neg (a.num.v * b.den.v - b.num.v * a.den.v) (Nat.lt_of_le_of_lt (digs_mono (Nat.sub_le _ _)) (by omega)) (by rw [sgn_gt hn hlt]; rfl)
          refine ⟨r, (AP_ofz _ _ (fz_rv r) (noV_rv _) (m := [cR a, cR b, cR r]) ?_).trans (by rw [h3]), h2, h3⟩
          have hc : ¬ cmpV (a.num.v * b.den.v) (b.num.v * a.den.v) < 0 := by unfold cmpV; rw [if_neg hlt]; split <;> omega
          rw [if_neg hlt] at g6
          rw [T75]
          simp only [Nat.reduceAdd, Option.bind_some, Option.map_some, box_rv, new_z, new_r, new_zs, new_rs, fld0, fld1, fld2, res1, res2, ld0neg, ld0num, ld0den, ld0all, st0all, st0neg, ld1neg, ld1num, ld1den, ld1all, st1all, st1neg, ld2neg, ld2num, ld2den, ld2all, st2all, st2neg, ld3neg, ld3num, ld3den, ld3all, st3all, st3neg, ld4neg, ld4num, ld4den, ld4all, st4all, st4neg, ex0, ex1, ex2, bld0, bld2, bld12, bld012, nil_av, not_b, bl_neq, bl_eql, List.length_cons, List.length_nil, List.length_append, List.nil_append, List.cons_append, List.append_nil, Nat.zero_add, List.set_cons_zero, List.set_cons_succ, List.set_nil, pcN, pcI, pcNN, pcBNN, pcR, pcRR, pc0, e1, binA_eql, ifA_dec]
          rw [if_neg ha0]
          simp only [Nat.reduceAdd, Option.bind_some, Option.map_some, box_rv, new_z, new_r, new_zs, new_rs, fld0, fld1, fld2, res1, res2, ld0neg, ld0num, ld0den, ld0all, st0all, st0neg, ld1neg, ld1num, ld1den, ld1all, st1all, st1neg, ld2neg, ld2num, ld2den, ld2all, st2all, st2neg, ld3neg, ld3num, ld3den, ld3all, st3all, st3neg, ld4neg, ld4num, ld4den, ld4all, st4all, st4neg, ex0, ex1, ex2, bld0, bld2, bld12, bld012, nil_av, not_b, bl_neq, bl_eql, List.length_cons, List.length_nil, List.length_append, List.nil_append, List.cons_append, List.append_nil, Nat.zero_add, List.set_cons_zero, List.set_cons_succ, List.set_nil, pcN, pcI, pcNN, pcBNN, pcR, pcRR, pc0, e2, binA_eql, ifA_dec]
          rw [if_neg hb0]
          simp only [Nat.reduceAdd, Option.bind_some, Option.map_some, box_rv, new_z, new_r, new_zs, new_rs, fld0, fld1, fld2, res1, res2, ld0neg, ld0num, ld0den, ld0all, st0all, st0neg, ld1neg, ld1num, ld1den, ld1all, st1all, st1neg, ld2neg, ld2num, ld2den, ld2all, st2all, st2neg, ld3neg, ld3num, ld3den, ld3all, st3all, st3neg, ld4neg, ld4num, ld4den, ld4all, st4all, st4neg, ex0, ex1, ex2, bld0, bld2, bld12, bld012, nil_av, not_b, bl_neq, bl_eql, List.length_cons, List.length_nil, List.length_append, List.nil_append, List.cons_append, List.append_nil, Nat.zero_add, List.set_cons_zero, List.set_cons_succ, List.set_nil, pcN, pcI, pcNN, pcBNN, pcR, pcRR, pc0, g1, g2, g3, nf, hne, ifA_false, g5, binA_lss, ifA_dec]
          rw [if_neg hc]
          simp only [Nat.reduceAdd, Option.bind_some, Option.map_some, box_rv, new_z, new_r, new_zs, new_rs, fld0, fld1, fld2, res1, res2, ld0neg, ld0num, ld0den, ld0all, st0all, st0neg, ld1neg, ld1num, ld1den, ld1all, st1all, st1neg, ld2neg, ld2num, ld2den, ld2all, st2all, st2neg, ld3neg, ld3num, ld3den, ld3all, st3all, st3neg, ld4neg, ld4num, ld4den, ld4all, st4all, st4neg, ex0, ex1, ex2, bld0, bld2, bld12, bld012, nil_av, not_b, bl_neq, bl_eql, List.length_cons, List.length_nil, List.length_append, List.nil_append, List.cons_append, List.append_nil, Nat.zero_add, List.set_cons_zero, List.set_cons_succ, List.set_nil, pcN, pcI, pcNN, pcBNN, pcR, pcRR, pc0, nf, g6, h1]
end Go.Ab

/- What the interpreter does, function by function. -/
set_option maxRecDepth 100000
set_option linter.unusedVariables false
namespace Go.Ab
open Go.Proofs.Try
/-! ### sortilege/matrix.Make -/
/-! ### sortilege/matrix.Zero -/
/-! ### sortilege/matrix.Identity -/
theorem T18 (a0 : AV) (m : Mem) : AC cfg 18 [a0] m =
  (pcall (AP cfg) none (newAt none m (.obj true [(.int .i64 0), (.int .i64 0), (.lst none true .full [])])).2 57 [a0, a0]).bind fun r1 =>
  (binA .other .neq r1.1 (.int .i64 0)).bind fun v2 =>
  ifA v2 (
  (buildA (.agg [(.int .i64 0), (.int .i64 0), (.lst none true .full [])]) []).bind fun v3 =>
  (storeA (some 3) r1.2 (.ptr (newAt none m .resv).1 0) v3).bind fun m4 =>
  (loadA (some 3) m4 (.ptr (newAt none m .resv).1 0)).bind fun v5 =>
  some ((.tup [v5, r1.1]), m4)) (
  (pcall (AP cfg) none r1.2 58 [a0, a0, (.fn 62 [])]).bind fun r6 =>
  (storeA (some 3) r6.2 (.ptr (newAt none m .resv).1 0) r6.1).bind fun m7 =>
  (loadA (some 3) m7 (.ptr (newAt none m .resv).1 0)).bind fun v8 =>
  some ((.tup [v8, (.int .i64 0)]), m7)) :=
(AC_eq cfg 18 [a0] m (fn := f18) (c := bodyOf f18) at18 rfl).trans (by kernel_rfl)
/-! ### sortilege/matrix.Right -/
def O20_4 (m : Mem) : St := ⟨[.any, .any, .any, .any, .any, .any, .any, .any, .any, .any, .any, .any, .any, .any, .any, .any, .any, .any, .any, .any, .any, .any, .any, .any, .any, .any, .any, .any, .any, .any, .any, .any, .any, .any, .any, .any, .any, .any, .any, .any, .any, .any, .any, .any, .any], m⟩
def R20_4 (x2 : AV) (m : Mem) : St := ⟨[.any, .any, x2, .any, .any, .any, .any, .any, .any, .any, .any, .any, .any, .any, .any, .any, .any, .any, .any, .any, .any, .any, .any, .any, .any, .any, .any, .any, .any, .any, .any, .any, .any, .any, .any, .any, .any, .any, .any, .any, .any, .any, .any, .any, .any], m⟩
noncomputable def L20_4 (x35 x36 x37 : AV) (m : Mem) (K : Ex → St → Option (AV × Mem)) : Option (AV × Mem) := loopW (execW cfg 20 (AP cfg) (AC cfg) (c1 (c1 (c2 (c1 (c2 (c2 (bodyOf f20)))))))) (cfg.mask 20 (some 4)) ⟨[.any, .any, .any, .any, .any, .any, .any, .any, .any, .any, .any, .any, .any, .any, .any, .any, .any, .any, .any, .any, .any, .any, .any, .any, .any, .any, .any, .any, .any, .any, .any, .any, .any, .any, .any, x35, x36, x37, .any, .any, .any, .any, .any, .any, .any], m⟩ K
noncomputable abbrev K20_4_0 (K : Ex → St → Option (AV × Mem)) : Ex → St → Option (AV × Mem) := seqK (fun st => execW cfg 20 (AP cfg) (AC cfg) (c2 (c2 (c2 (bodyOf f20)))) st K) K
noncomputable abbrev K20_4_1 (K : Ex → St → Option (AV × Mem)) : Ex → St → Option (AV × Mem) := blockK 0 (K20_4_0 K)
noncomputable abbrev K20_4 (K : Ex → St → Option (AV × Mem)) : Ex → St → Option (AV × Mem) := (K20_4_1 K)
theorem T20 (a0 : AV) (m : Mem) : AC cfg 20 [a0] m =
  (boxA none (some 3) m a0).bind fun r1 =>
  (fieldAddrA 0 r1.1).bind fun v2 =>
  (loadA none r1.2 v2).bind fun v3 =>
  (binA .other .lss v3 (.int .i64 0)).bind fun v4 =>
  ifA v4 (
  some ((.bool false), r1.2)) (
  (fieldAddrA 0 r1.1).bind fun v5 =>
  (loadA none r1.2 v5).bind fun v6 =>
  (binA .other .gtr v6 (.int .i64 60)).bind fun v7 =>
  ifA v7 (
  some ((.bool false), r1.2)) (
  (fieldAddrA 1 r1.1).bind fun v8 =>
  (loadA none r1.2 v8).bind fun v9 =>
  (binA .other .lss v9 (.int .i64 0)).bind fun v10 =>
  ifA v10 (
  some ((.bool false), r1.2)) (
  (fieldAddrA 1 r1.1).bind fun v11 =>
  (loadA none r1.2 v11).bind fun v12 =>
  (binA .other .gtr v12 (.int .i64 60)).bind fun v13 =>
  ifA v13 (
  some ((.bool false), r1.2)) (
  (fieldAddrA 2 r1.1).bind fun v14 =>
  (loadA none r1.2 v14).bind fun v15 =>
  (lenA false v15).bind fun v16 =>
  (fieldAddrA 0 r1.1).bind fun v17 =>
  (loadA none r1.2 v17).bind fun v18 =>
  (fieldAddrA 1 r1.1).bind fun v19 =>
  (loadA none r1.2 v19).bind fun v20 =>
  (binA .other .mul v18 v20).bind fun v21 =>
  (binA .other .neq v16 v21).bind fun v22 =>
  ifA v22 (
  some ((.bool false), r1.2)) (
  (fieldAddrA 2 r1.1).bind fun v23 =>
  (loadA none r1.2 v23).bind fun v24 =>
  (lenA false v24).bind fun v25 =>
  L20_4 v24 v25 (.int .i64 0) r1.2 (K20_4 (finK cfg.P f20.results.toList))))))) :=
(AC_eq cfg 20 [a0] m (fn := f20) (c := bodyOf f20) at20 rfl).trans (by kernel_rfl)
theorem L20_4_eq (x35 x36 x37 : AV) (m : Mem) (K : Ex → St → Option (AV × Mem)) : L20_4 x35 x36 x37 m K =
  (binA .other .lss x37 x36).bind fun v1 =>
  ifA v1 (
  (indexAddrA (some 3) x35 x37).bind fun v2 =>
  (loadA (some 3) m v2).bind fun v3 =>
  (storeA (some 3) (newAt none m (.obj true [(.bool false), (.lst none true .full []), (.lst none true .full [])])).2 (.ptr (newAt none m .resv).1 0) v3).bind fun m4 =>
  (loadA (some 3) m4 (.ptr (newAt none m .resv).1 0)).bind fun v5 =>
  (pcall (AP cfg) none m4 64 [v5]).bind fun r6 =>
  (unA .not r6.1).bind fun v7 =>
  ifA v7 (
  K .ret (R20_4 (.bool false) r6.2)) (
  (binA .other .add x37 (.int .i64 1)).bind fun v8 =>
  L20_4 x35 x36 v8 r6.2 K)) (
  K (.exit 0) (O20_4 m)) :=
(loopW_eq (execW_lin _) _ _ _).trans (by kernel_rfl)
theorem K20_4_x0 (m : Mem) : K20_4 (finK cfg.P f20.results.toList) (.exit 0) (O20_4  m) =
  some ((.bool true), m) := by kernel_rfl
theorem K20_4_ret (x2 : AV) (m : Mem) : K20_4 (finK cfg.P f20.results.toList) .ret (R20_4 x2 m) =
  some (x2, m) := by kernel_rfl
/-! ### sortilege/matrix.At -/
/-! ### sortilege/matrix.Power -/
/-! ### sortilege/matrix.Solve -/
/-! ### sortilege/matrix.Inverse -/
/-! ### sortilege/matrix.clone -/
def O56_3 (x2 x3 : AV) (m : Mem) : St := ⟨[.any, .any, x2, x3, .any, .any, .any, .any, .any, .any, .any, .any, .any, .any, .any, .any, .any, .any, .any, .any, .any, .any, .any, .any, .any, .any, .any], m⟩
noncomputable def L56_3 (x2 x3 x12 x13 x14 : AV) (m : Mem) (K : Ex → St → Option (AV × Mem)) : Option (AV × Mem) := loopW (execW cfg 56 (AP cfg) (AC cfg) (c1 (c1 (c2 (c1 (c2 (c2 (bodyOf f56)))))))) (cfg.mask 56 (some 3)) ⟨[.any, .any, x2, x3, .any, .any, .any, .any, .any, .any, .any, .any, x12, x13, x14, .any, .any, .any, .any, .any, .any, .any, .any, .any, .any, .any, .any], m⟩ K
noncomputable abbrev K56_3_0 (K : Ex → St → Option (AV × Mem)) : Ex → St → Option (AV × Mem) := seqK (fun st => execW cfg 56 (AP cfg) (AC cfg) (c2 (c2 (c2 (bodyOf f56)))) st K) K
noncomputable abbrev K56_3_1 (K : Ex → St → Option (AV × Mem)) : Ex → St → Option (AV × Mem) := blockK 0 (K56_3_0 K)
noncomputable abbrev K56_3 (K : Ex → St → Option (AV × Mem)) : Ex → St → Option (AV × Mem) := (K56_3_1 K)
theorem T56 (a0 : AV) (m : Mem) : AC cfg 56 [a0] m =
  (boxA none (some 3) m a0).bind fun r1 =>
  (fieldAddrA 0 r1.1).bind fun v2 =>
  (loadA none (newAt none r1.2 (.obj true [(.int .i64 0), (.int .i64 0), (.lst none true .full [])])).2 v2).bind fun v3 =>
  (fieldAddrA 1 r1.1).bind fun v4 =>
  (loadA none (newAt none r1.2 (.obj true [(.int .i64 0), (.int .i64 0), (.lst none true .full [])])).2 v4).bind fun v5 =>
  (buildA (.agg [(.int .i64 0), (.int .i64 0), (.lst none true .full [])]) [(0, none, v3), (1, none, v5)]).bind fun v6 =>
  (storeA (some 3) (newAt none (newAt none r1.2 (.obj true [(.int .i64 0), (.int .i64 0), (.lst none true .full [])])).2 (.obj true [(.int .i64 0), (.int .i64 0), (.lst none true .full [])])).2 (.ptr (newAt none (newAt none r1.2 (.obj true [(.int .i64 0), (.int .i64 0), (.lst none true .full [])])).2 .resv).1 0) v6).bind fun m7 =>
  (fieldAddrA 2 r1.1).bind fun v8 =>
  (loadA none m7 v8).bind fun v9 =>
  (lenA false v9).bind fun v10 =>
  L56_3 (.ptr (newAt none r1.2 .resv).1 0) (.ptr (newAt none (newAt none r1.2 (.obj true [(.int .i64 0), (.int .i64 0), (.lst none true .full [])])).2 .resv).1 0) v9 v10 (.int .i64 0) m7 (K56_3 (finK cfg.P f56.results.toList)) :=
(AC_eq cfg 56 [a0] m (fn := f56) (c := bodyOf f56) at56 rfl).trans (by kernel_rfl)
theorem L56_3_eq (x2 x3 x12 x13 x14 : AV) (m : Mem) (K : Ex → St → Option (AV × Mem)) : L56_3 x2 x3 x12 x13 x14 m K =
  (binA .other .lss x14 x13).bind fun v1 =>
  ifA v1 (
  (indexAddrA (some 3) x12 x14).bind fun v2 =>
  (loadA (some 3) m v2).bind fun v3 =>
  (storeA (some 3) (newAt none m (.obj true [(.bool false), (.lst none true .full []), (.lst none true .full [])])).2 (.ptr (newAt none m .resv).1 0) v3).bind fun m4 =>
  (fieldAddrA 2 x3).bind fun v5 =>
  (loadA none (reserve m4 1) v5).bind fun v6 =>
  (loadA (some 3) (reserve m4 1) (.ptr (newAt none m .resv).1 0)).bind fun v7 =>
  (pcall (AP cfg) (some m4.length) (reserve m4 1) 67 [v7]).bind fun r8 =>
  (buildSliceA (some 3) [r8.1]).bind fun v9 =>
  (appA (some m4.length) false 43 (some 3) 56 r8.2 v6 v9).bind fun r10 =>
  (fieldAddrA 2 x3).bind fun v11 =>
  (storeA none r10.2 v11 r10.1).bind fun m12 =>
  (binA .other .add x14 (.int .i64 1)).bind fun v13 =>
  L56_3 x2 x3 x12 x13 v13 m12 K) (
  K (.exit 0) (O56_3 x2 x3 m)) :=
(loopW_eq (execW_lin _) _ _ _).trans (by kernel_rfl)
theorem K56_3_x0 (x2 x3 : AV) (m : Mem) : K56_3 (finK cfg.P f56.results.toList) (.exit 0) (O56_3 x2 x3 m) =
  (loadA (some 3) m x3).bind fun v1 =>
  (storeA (some 3) m x2 v1).bind fun m2 =>
  (loadA (some 3) m2 x2).bind fun v3 =>
  some (v3, m2) := by kernel_rfl
/-! ### sortilege/matrix.sized -/
theorem T57 (a0 a1 : AV) (m : Mem) : AC cfg 57 [a0, a1] m =
  (binA .other .lss a0 (.int .i64 0)).bind fun v1 =>
  ifA v1 (
  some ((.int .i64 1), m)) (
  (binA .other .lss a1 (.int .i64 0)).bind fun v2 =>
  ifA v2 (
  some ((.int .i64 1), m)) (
  (binA .other .gtr a0 (.int .i64 60)).bind fun v3 =>
  ifA v3 (
  some ((.int .i64 2), m)) (
  (binA .other .gtr a1 (.int .i64 60)).bind fun v4 =>
  ifA v4 (
  some ((.int .i64 2), m)) (
  some ((.int .i64 0), m))))) :=
(AC_eq cfg 57 [a0, a1] m (fn := f57) (c := bodyOf f57) at57 rfl).trans (by kernel_rfl)
/-! ### sortilege/matrix.filled -/
def O58_3 (x6 x7 : AV) (m : Mem) : St := ⟨[.any, .any, .any, .any, .any, .any, x6, x7, .any, .any, .any, .any, .any, .any, .any, .any, .any, .any, .any, .any, .any, .any, .any, .any, .any, .any, .any, .any, .any, .any, .any, .any, .any], m⟩
noncomputable def L58_3 (x1 x2 x6 x7 x13 x14 : AV) (m : Mem) (K : Ex → St → Option (AV × Mem)) : Option (AV × Mem) := loopW (execW cfg 58 (AP cfg) (AC cfg) (c1 (c1 (c2 (c1 (c2 (c2 (bodyOf f58)))))))) (cfg.mask 58 (some 3)) ⟨[.any, x1, x2, .any, .any, .any, x6, x7, .any, .any, .any, .any, .any, x13, x14, .any, .any, .any, .any, .any, .any, .any, .any, .any, .any, .any, .any, .any, .any, .any, .any, .any, .any], m⟩ K
def O58_6 (x1 x2 x6 x7 x13 x14 : AV) (m : Mem) : St := ⟨[.any, x1, x2, .any, .any, .any, x6, x7, .any, .any, .any, .any, .any, x13, x14, .any, .any, .any, .any, .any, .any, .any, .any, .any, .any, .any, .any, .any, .any, .any, .any, .any, .any], m⟩
noncomputable def L58_6 (x1 x2 x6 x7 x8 x13 x14 x17 x18 : AV) (m : Mem) (K : Ex → St → Option (AV × Mem)) : Option (AV × Mem) := loopW (execW cfg 58 (AP cfg) (AC cfg) (c1 (c1 (c2 (c2 (c1 (c1 (c2 (c2 (c1 (c1 (c2 (c1 (c2 (c2 (bodyOf f58)))))))))))))))) (cfg.mask 58 (some 6)) ⟨[.any, x1, x2, .any, .any, .any, x6, x7, x8, .any, .any, .any, .any, x13, x14, .any, .any, x17, x18, .any, .any, .any, .any, .any, .any, .any, .any, .any, .any, .any, .any, .any, .any], m⟩ K
noncomputable abbrev K58_3_0 (K : Ex → St → Option (AV × Mem)) : Ex → St → Option (AV × Mem) := seqK (fun st => execW cfg 58 (AP cfg) (AC cfg) (c2 (c2 (c2 (bodyOf f58)))) st K) K
noncomputable abbrev K58_3_1 (K : Ex → St → Option (AV × Mem)) : Ex → St → Option (AV × Mem) := blockK 0 (K58_3_0 K)
noncomputable abbrev K58_3 (K : Ex → St → Option (AV × Mem)) : Ex → St → Option (AV × Mem) := (K58_3_1 K)
noncomputable abbrev K58_6_0 (K : Ex → St → Option (AV × Mem)) : Ex → St → Option (AV × Mem) := seqK (fun st => execW cfg 58 (AP cfg) (AC cfg) (c2 (c2 (c2 (c1 (c1 (c2 (c1 (c2 (c2 (bodyOf f58)))))))))) st (roundG (fun st => loopW (execW cfg 58 (AP cfg) (AC cfg) (c1 (c1 (c2 (c1 (c2 (c2 (bodyOf f58)))))))) (cfg.mask 58 (some 3)) st K) (cfg.mask 58 (some 3)) K)) (roundG (fun st => loopW (execW cfg 58 (AP cfg) (AC cfg) (c1 (c1 (c2 (c1 (c2 (c2 (bodyOf f58)))))))) (cfg.mask 58 (some 3)) st K) (cfg.mask 58 (some 3)) K)
noncomputable abbrev K58_6_1 (K : Ex → St → Option (AV × Mem)) : Ex → St → Option (AV × Mem) := blockK 1 (K58_6_0 K)
noncomputable abbrev K58_6_2 (K : Ex → St → Option (AV × Mem)) : Ex → St → Option (AV × Mem) := blockK 2 (K58_6_1 K)
noncomputable abbrev K58_6 (K : Ex → St → Option (AV × Mem)) : Ex → St → Option (AV × Mem) := (K58_6_2 K)
theorem T58 (a0 a1 a2 : AV) (m : Mem) : AC cfg 58 [a0, a1, a2] m =
  (buildA (.agg [(.int .i64 0), (.int .i64 0), (.lst none true .full [])]) [(0, none, a0), (1, none, a1)]).bind fun v1 =>
  (storeA (some 3) (newAt none (newAt none m (.obj true [(.int .i64 0), (.int .i64 0), (.lst none true .full [])])).2 (.obj true [(.int .i64 0), (.int .i64 0), (.lst none true .full [])])).2 (.ptr (newAt none (newAt none m (.obj true [(.int .i64 0), (.int .i64 0), (.lst none true .full [])])).2 .resv).1 0) v1).bind fun m2 =>
  L58_3 a1 a2 (.ptr (newAt none m .resv).1 0) (.ptr (newAt none (newAt none m (.obj true [(.int .i64 0), (.int .i64 0), (.lst none true .full [])])).2 .resv).1 0) a0 (.int .i64 0) m2 (K58_3 (finK cfg.P f58.results.toList)) :=
(AC_eq cfg 58 [a0, a1, a2] m (fn := f58) (c := bodyOf f58) at58 rfl).trans (by kernel_rfl)
theorem L58_3_eq (x1 x2 x6 x7 x13 x14 : AV) (m : Mem) (K : Ex → St → Option (AV × Mem)) : L58_3 x1 x2 x6 x7 x13 x14 m K =
  (binA .other .lss x14 x13).bind fun v1 =>
  ifA v1 (
  L58_6 x1 x2 x6 x7 x14 x13 x14 x1 (.int .i64 0) m (K58_6 K)) (
  K (.exit 0) (O58_3 x6 x7 m)) :=
(loopW_eq (execW_lin _) _ _ _).trans (by kernel_rfl)
theorem L58_6_eq (x1 x2 x6 x7 x8 x13 x14 x17 x18 : AV) (m : Mem) (K : Ex → St → Option (AV × Mem)) : L58_6 x1 x2 x6 x7 x8 x13 x14 x17 x18 m K =
  (binA .other .lss x18 x17).bind fun v1 =>
  ifA v1 (
  (fieldAddrA 2 x7).bind fun v2 =>
  (loadA none (reserve m 1) v2).bind fun v3 =>
  (fnOf x2).bind fun g4 =>
  callK cfg 58 (AP cfg) (AC cfg) (some m.length) g4.1 ([x8, x18] ++ g4.2) (reserve m 1) fun v5 m6 =>
  (buildSliceA (some 3) [v5]).bind fun v7 =>
  (appA (some m.length) false 43 (some 3) 56 m6 v3 v7).bind fun r8 =>
  (fieldAddrA 2 x7).bind fun v9 =>
  (storeA none r8.2 v9 r8.1).bind fun m10 =>
  (binA .other .add x18 (.int .i64 1)).bind fun v11 =>
  L58_6 x1 x2 x6 x7 x8 x13 x14 x17 v11 m10 K) (
  K (.exit 2) (O58_6 x1 x2 x6 x7 x13 x14 m)) :=
(loopW_eq (execW_lin _) _ _ _).trans (by kernel_rfl)
theorem K58_3_x0 (x6 x7 : AV) (m : Mem) : K58_3 (finK cfg.P f58.results.toList) (.exit 0) (O58_3 x6 x7 m) =
  (loadA (some 3) m x7).bind fun v1 =>
  (storeA (some 3) m x6 v1).bind fun m2 =>
  (loadA (some 3) m2 x6).bind fun v3 =>
  some (v3, m2) := by kernel_rfl
theorem K58_6_x2 (x1 x2 x6 x7 x13 x14 : AV) (m : Mem) (K : Ex → St → Option (AV × Mem)) : K58_6 K (.exit 2) (O58_6 x1 x2 x6 x7 x13 x14 m) =
  (binA .other .add x14 (.int .i64 1)).bind fun v1 =>
  L58_3 x1 x2 x6 x7 x13 v1 m K := by kernel_rfl
/-! ### sortilege/matrix.unit -/
theorem T62 (a0 a1 : AV) (m : Mem) : AC cfg 62 [a0, a1] m =
  (binA .other .eql a0 a1).bind fun v1 =>
  ifA v1 (
  (pcall (AP cfg) none (newAt none m (.obj true [(.bool false), (.lst none true .full []), (.lst none true .full [])])).2 84 []).bind fun r2 =>
  (storeA (some 3) r2.2 (.ptr (newAt none m .resv).1 0) r2.1).bind fun m3 =>
  (loadA (some 3) m3 (.ptr (newAt none m .resv).1 0)).bind fun v4 =>
  some (v4, m3)) (
  (pcall (AP cfg) none (newAt none m (.obj true [(.bool false), (.lst none true .full []), (.lst none true .full [])])).2 60 []).bind fun r5 =>
  (storeA (some 3) r5.2 (.ptr (newAt none m .resv).1 0) r5.1).bind fun m6 =>
  (loadA (some 3) m6 (.ptr (newAt none m .resv).1 0)).bind fun v7 =>
  some (v7, m6)) :=
(AC_eq cfg 62 [a0, a1] m (fn := f62) (c := bodyOf f62) at62 rfl).trans (by kernel_rfl)
/-! ### sortilege/matrix.copied -/
theorem T67 (a0 : AV) (m : Mem) : AC cfg 67 [a0] m =
  (boxA none (some 3) m a0).bind fun r1 =>
  (fieldAddrA 0 r1.1).bind fun v2 =>
  (loadA none (reserve (newAt none r1.2 (.obj true [(.bool false), (.lst none true .full []), (.lst none true .full [])])).2 2) v2).bind fun v3 =>
  (fieldAddrA 1 r1.1).bind fun v4 =>
  (loadA none (reserve (newAt none r1.2 (.obj true [(.bool false), (.lst none true .full []), (.lst none true .full [])])).2 2) v4).bind fun v5 =>
  (fieldAddrA 2 r1.1).bind fun v6 =>
  (loadA none (reserve (newAt none r1.2 (.obj true [(.bool false), (.lst none true .full []), (.lst none true .full [])])).2 2) v6).bind fun v7 =>
  (appA (some (newAt none r1.2 (.obj true [(.bool false), (.lst none true .full []), (.lst none true .full [])])).2.length) false 116 none 4 (reserve (newAt none r1.2 (.obj true [(.bool false), (.lst none true .full []), (.lst none true .full [])])).2 2) (.lst none true .full []) v5).bind fun r8 =>
  (appA (some ((newAt none r1.2 (.obj true [(.bool false), (.lst none true .full []), (.lst none true .full [])])).2.length + 1)) false 116 none 4 r8.2 (.lst none true .full []) v7).bind fun r9 =>
  (buildA (.agg [(.bool false), (.lst none true .full []), (.lst none true .full [])]) [(0, none, v3), (1, none, r8.1), (2, none, r9.1)]).bind fun v10 =>
  (storeA (some 3) r9.2 (.ptr (newAt none r1.2 .resv).1 0) v10).bind fun m11 =>
  (loadA (some 3) m11 (.ptr (newAt none r1.2 .resv).1 0)).bind fun v12 =>
  some (v12, m11) :=
(AC_eq cfg 67 [a0] m (fn := f67) (c := bodyOf f67) at67 rfl).trans (by kernel_rfl)
/-! ### sortilege/matrix.times -/
theorem T73 (a0 a1 : AV) (m : Mem) : AC cfg 73 [a0, a1] m =
  (boxA none (some 3) m a0).bind fun r1 =>
  (boxA none (some 3) r1.2 a1).bind fun r2 =>
  (fieldAddrA 0 r1.1).bind fun v3 =>
  (loadA none (newAt none r2.2 (.obj true [(.int .i64 0), (.int .i64 0), (.lst none true .full [])])).2 v3).bind fun v4 =>
  (fieldAddrA 1 r2.1).bind fun v5 =>
  (loadA none (newAt none r2.2 (.obj true [(.int .i64 0), (.int .i64 0), (.lst none true .full [])])).2 v5).bind fun v6 =>
  (pcall (AP cfg) none (newAt none r2.2 (.obj true [(.int .i64 0), (.int .i64 0), (.lst none true .full [])])).2 58 [v4, v6, (.fn 104 [r1.1, r2.1])]).bind fun r7 =>
  (storeA (some 3) r7.2 (.ptr (newAt none r2.2 .resv).1 0) r7.1).bind fun m8 =>
  (loadA (some 3) m8 (.ptr (newAt none r2.2 .resv).1 0)).bind fun v9 =>
  some (v9, m8) :=
(AC_eq cfg 73 [a0, a1] m (fn := f73) (c := bodyOf f73) at73 rfl).trans (by kernel_rfl)
/-! ### sortilege/matrix.rows -/
theorem T82 (a0 : AV) (m : Mem) : AC cfg 82 [a0] m =
  (boxA none (some 3) m a0).bind fun r1 =>
  some ((.fn 114 [r1.1]), r1.2) :=
(AC_eq cfg 82 [a0] m (fn := f82) (c := bodyOf f82) at82 rfl).trans (by kernel_rfl)
/-! ### sortilege/matrix.steps -/
def O88_3 (x6 x7 : AV) (m : Mem) : St := ⟨[.any, .any, .any, .any, .any, .any, x6, x7, .any, .any, .any, .any, .any, .any, .any, .any, .any, .any, .any, .any, .any, .any, .any, .any, .any, .any, .any, .any, .any, .any, .any, .any, .any, .any, .any, .any, .any, .any, .any, .any, .any, .any, .any, .any, .any, .any, .any, .any, .any, .any, .any, .any, .any, .any], m⟩
noncomputable def L88_3 (x1 x2 x6 x7 x8 : AV) (m : Mem) (K : Ex → St → Option (AV × Mem)) : Option (AV × Mem) := loopW (execW cfg 88 (AP cfg) (AC cfg) (c1 (c1 (c2 (c1 (c2 (c2 (bodyOf f88)))))))) (cfg.mask 88 (some 3)) ⟨[.any, x1, x2, .any, .any, .any, x6, x7, x8, .any, .any, .any, .any, .any, .any, .any, .any, .any, .any, .any, .any, .any, .any, .any, .any, .any, .any, .any, .any, .any, .any, .any, .any, .any, .any, .any, .any, .any, .any, .any, .any, .any, .any, .any, .any, .any, .any, .any, .any, .any, .any, .any, .any, .any], m⟩ K
def O88_11 (x1 x2 x6 x7 x8 : AV) (m : Mem) : St := ⟨[.any, x1, x2, .any, .any, .any, x6, x7, x8, .any, .any, .any, .any, .any, .any, .any, .any, .any, .any, .any, .any, .any, .any, .any, .any, .any, .any, .any, .any, .any, .any, .any, .any, .any, .any, .any, .any, .any, .any, .any, .any, .any, .any, .any, .any, .any, .any, .any, .any, .any, .any, .any, .any, .any], m⟩
noncomputable def L88_11 (x1 x2 x6 x7 x8 x10 : AV) (m : Mem) (K : Ex → St → Option (AV × Mem)) : Option (AV × Mem) := loopW (execW cfg 88 (AP cfg) (AC cfg) (c1 (c1 (c2 (c1 (c2 (c2 (c2 (c1 (c1 (c2 (c1 (c1 (c2 (c1 (c2 (c2 (bodyOf f88)))))))))))))))))) (cfg.mask 88 (some 11)) ⟨[.any, x1, x2, .any, .any, .any, x6, x7, x8, .any, x10, .any, .any, .any, .any, .any, .any, .any, .any, .any, .any, .any, .any, .any, .any, .any, .any, .any, .any, .any, .any, .any, .any, .any, .any, .any, .any, .any, .any, .any, .any, .any, .any, .any, .any, .any, .any, .any, .any, .any, .any, .any, .any, .any], m⟩ K
noncomputable abbrev K88_3_0 (K : Ex → St → Option (AV × Mem)) : Ex → St → Option (AV × Mem) := seqK (fun st => execW cfg 88 (AP cfg) (AC cfg) (c2 (c2 (c2 (bodyOf f88)))) st K) K
noncomputable abbrev K88_3_1 (K : Ex → St → Option (AV × Mem)) : Ex → St → Option (AV × Mem) := blockK 0 (K88_3_0 K)
noncomputable abbrev K88_3 (K : Ex → St → Option (AV × Mem)) : Ex → St → Option (AV × Mem) := (K88_3_1 K)
noncomputable abbrev K88_11_0 (K : Ex → St → Option (AV × Mem)) : Ex → St → Option (AV × Mem) := seqK (fun st => execW cfg 88 (AP cfg) (AC cfg) (c2 (c2 (c1 (c1 (c2 (c1 (c2 (c2 (bodyOf f88))))))))) st (roundG (fun st => loopW (execW cfg 88 (AP cfg) (AC cfg) (c1 (c1 (c2 (c1 (c2 (c2 (bodyOf f88)))))))) (cfg.mask 88 (some 3)) st K) (cfg.mask 88 (some 3)) K)) (roundG (fun st => loopW (execW cfg 88 (AP cfg) (AC cfg) (c1 (c1 (c2 (c1 (c2 (c2 (bodyOf f88)))))))) (cfg.mask 88 (some 3)) st K) (cfg.mask 88 (some 3)) K)
noncomputable abbrev K88_11_1 (K : Ex → St → Option (AV × Mem)) : Ex → St → Option (AV × Mem) := blockK 1 (K88_11_0 K)
noncomputable abbrev K88_11_2 (K : Ex → St → Option (AV × Mem)) : Ex → St → Option (AV × Mem) := seqK (fun st => execW cfg 88 (AP cfg) (AC cfg) (c2 (c2 (c2 (c2 (c1 (c1 (c2 (c1 (c1 (c2 (c1 (c2 (c2 (bodyOf f88)))))))))))))) st (K88_11_1 K)) (K88_11_1 K)
noncomputable abbrev K88_11_3 (K : Ex → St → Option (AV × Mem)) : Ex → St → Option (AV × Mem) := blockK 2 (K88_11_2 K)
noncomputable abbrev K88_11 (K : Ex → St → Option (AV × Mem)) : Ex → St → Option (AV × Mem) := (K88_11_3 K)
theorem T88 (a0 a1 : AV) (m : Mem) : AC cfg 88 [a0, a1] m =
  (boxA none (some 3) m a0).bind fun r1 =>
  L88_3 a1 r1.1 (.int .i64 0) (.bool false) (.int .i64 0) r1.2 (K88_3 (finK cfg.P f88.results.toList)) :=
(AC_eq cfg 88 [a0, a1] m (fn := f88) (c := bodyOf f88) at88 rfl).trans (by kernel_rfl)
theorem L88_3_eq (x1 x2 x6 x7 x8 : AV) (m : Mem) (K : Ex → St → Option (AV × Mem)) : L88_3 x1 x2 x6 x7 x8 m K =
  (binA .other .lss x8 x1).bind fun v1 =>
  ifA v1 (
  (fieldAddrA 0 x2).bind fun v2 =>
  (loadA none m v2).bind fun v3 =>
  (binA .other .lss x6 v3).bind fun v4 =>
  ifA v4 (
  (loadA (some 3) m x2).bind fun v5 =>
  (AC cfg 115 [v5, x6, x8] m).bind fun r6 =>
  (binA .other .lss r6.1 (.int .i64 0)).bind fun v7 =>
  ifA v7 (
  (binA .other .add x8 (.int .i64 1)).bind fun v8 =>
  L88_3 x1 x2 x6 x7 v8 r6.2 K) (
  (binA .other .neq r6.1 x6).bind fun v9 =>
  ifA v9 (
  (loadA (some 3) r6.2 x2).bind fun v10 =>
  (AC cfg 116 [v10, r6.1, x6] r6.2).bind fun r11 =>
  (unA .not x7).bind fun v12 =>
  (binA .other .add x6 (.int .i64 1)).bind fun v13 =>
  L88_11 x1 x2 x6 v12 x8 v13 r11.2 (K88_11 K)) (
  (binA .other .add x6 (.int .i64 1)).bind fun v14 =>
  L88_11 x1 x2 x6 x7 x8 v14 r6.2 (K88_11 K)))) (
  K (.exit 0) (O88_3 x6 x7 m))) (
  K (.exit 0) (O88_3 x6 x7 m)) :=
(loopW_eq (execW_lin _) _ _ _).trans (by kernel_rfl)
theorem L88_11_eq (x1 x2 x6 x7 x8 x10 : AV) (m : Mem) (K : Ex → St → Option (AV × Mem)) : L88_11 x1 x2 x6 x7 x8 x10 m K =
  (fieldAddrA 0 x2).bind fun v1 =>
  (loadA none m v1).bind fun v2 =>
  (binA .other .lss x10 v2).bind fun v3 =>
  ifA v3 (
  (loadA (some 3) m x2).bind fun v4 =>
  (AC cfg 117 [v4, x6, x10, x8] m).bind fun r5 =>
  (binA .other .add x10 (.int .i64 1)).bind fun v6 =>
  L88_11 x1 x2 x6 x7 x8 v6 r5.2 K) (
  K (.exit 2) (O88_11 x1 x2 x6 x7 x8 m)) :=
(loopW_eq (execW_lin _) _ _ _).trans (by kernel_rfl)
theorem K88_3_x0 (x6 x7 : AV) (m : Mem) : K88_3 (finK cfg.P f88.results.toList) (.exit 0) (O88_3 x6 x7 m) =
  some ((.tup [x6, x7]), m) := by kernel_rfl
theorem K88_11_x2 (x1 x2 x6 x7 x8 : AV) (m : Mem) (K : Ex → St → Option (AV × Mem)) : K88_11 K (.exit 2) (O88_11 x1 x2 x6 x7 x8 m) =
  (binA .other .add x6 (.int .i64 1)).bind fun v1 =>
  (binA .other .add x8 (.int .i64 1)).bind fun v2 =>
  L88_3 x1 x2 v1 x7 v2 m K := by kernel_rfl
/-! ### sortilege/matrix.solved -/
/-! ### sortilege/matrix.times$1 -/
def O104_3 (x6 x7 : AV) (m : Mem) : St := ⟨[.any, .any, .any, .any, .any, .any, x6, x7, .any, .any, .any, .any, .any, .any, .any, .any, .any, .any, .any, .any, .any, .any, .any, .any, .any, .any, .any, .any, .any, .any, .any, .any, .any, .any, .any, .any, .any, .any, .any, .any, .any, .any, .any, .any, .any, .any, .any, .any, .any, .any, .any, .any, .any, .any], m⟩
noncomputable def L104_3 (x0 x1 x2 x3 x6 x7 x13 x14 : AV) (m : Mem) (K : Ex → St → Option (AV × Mem)) : Option (AV × Mem) := loopW (execW cfg 104 (AP cfg) (AC cfg) (c1 (c1 (c2 (c1 (c2 (c2 (bodyOf f104)))))))) (cfg.mask 104 (some 3)) ⟨[x0, x1, x2, x3, .any, .any, x6, x7, .any, .any, .any, .any, .any, x13, x14, .any, .any, .any, .any, .any, .any, .any, .any, .any, .any, .any, .any, .any, .any, .any, .any, .any, .any, .any, .any, .any, .any, .any, .any, .any, .any, .any, .any, .any, .any, .any, .any, .any, .any, .any, .any, .any, .any, .any], m⟩ K
noncomputable abbrev K104_3_0 (K : Ex → St → Option (AV × Mem)) : Ex → St → Option (AV × Mem) := seqK (fun st => execW cfg 104 (AP cfg) (AC cfg) (c2 (c2 (c2 (bodyOf f104)))) st K) K
noncomputable abbrev K104_3_1 (K : Ex → St → Option (AV × Mem)) : Ex → St → Option (AV × Mem) := blockK 0 (K104_3_0 K)
noncomputable abbrev K104_3 (K : Ex → St → Option (AV × Mem)) : Ex → St → Option (AV × Mem) := (K104_3_1 K)
theorem T104 (a0 a1 a2 a3 : AV) (m : Mem) : AC cfg 104 [a0, a1, a2, a3] m =
  (pcall (AP cfg) none (newAt none m (.obj true [(.bool false), (.lst none true .full []), (.lst none true .full [])])).2 60 []).bind fun r1 =>
  (storeA (some 3) (newAt none r1.2 (.obj true [(.bool false), (.lst none true .full []), (.lst none true .full [])])).2 (.ptr (newAt none r1.2 .resv).1 0) r1.1).bind fun m2 =>
  (fieldAddrA 1 a2).bind fun v3 =>
  (loadA none m2 v3).bind fun v4 =>
  L104_3 a0 a1 a2 a3 (.ptr (newAt none m .resv).1 0) (.ptr (newAt none r1.2 .resv).1 0) v4 (.int .i64 0) m2 (K104_3 (finK cfg.P f104.results.toList)) :=
(AC_eq cfg 104 [a0, a1, a2, a3] m (fn := f104) (c := bodyOf f104) at104 rfl).trans (by kernel_rfl)
theorem L104_3_eq (x0 x1 x2 x3 x6 x7 x13 x14 : AV) (m : Mem) (K : Ex → St → Option (AV × Mem)) : L104_3 x0 x1 x2 x3 x6 x7 x13 x14 m K =
  (binA .other .lss x14 x13).bind fun v1 =>
  ifA v1 (
  (fieldAddrA 2 x2).bind fun v2 =>
  (loadA none (reserve m 2) v2).bind fun v3 =>
  (fieldAddrA 1 x2).bind fun v4 =>
  (loadA none (reserve m 2) v4).bind fun v5 =>
  (binA .other .mul x0 v5).bind fun v6 =>
  (binA .other .add v6 x14).bind fun v7 =>
  (indexAddrA (some 3) v3 v7).bind fun v8 =>
  (loadA (some 3) (reserve m 2) v8).bind fun v9 =>
  (fieldAddrA 2 x3).bind fun v10 =>
  (loadA none (reserve m 2) v10).bind fun v11 =>
  (fieldAddrA 1 x3).bind fun v12 =>
  (loadA none (reserve m 2) v12).bind fun v13 =>
  (binA .other .mul x14 v13).bind fun v14 =>
  (binA .other .add v14 x1).bind fun v15 =>
  (indexAddrA (some 3) v11 v15).bind fun v16 =>
  (loadA (some 3) (reserve m 2) v16).bind fun v17 =>
  (storeA (some 3) (newAt (some (m.length + 1)) (newAt (some m.length) (reserve m 2) (.obj true [(.bool false), (.lst none true .full []), (.lst none true .full [])])).2 (.obj true [(.bool false), (.lst none true .full []), (.lst none true .full [])])).2 (.ptr (newAt (some m.length) (reserve m 2) .resv).1 0) v9).bind fun m18 =>
  (storeA (some 3) m18 (.ptr (newAt (some (m.length + 1)) (newAt (some m.length) (reserve m 2) (.obj true [(.bool false), (.lst none true .full []), (.lst none true .full [])])).2 .resv).1 0) v17).bind fun m19 =>
  ifB (namesV v10 (.ptr (newAt (some m.length) (reserve m 2) .resv).1 0)) (
  ifB (namesV v12 (.ptr (newAt (some m.length) (reserve m 2) .resv).1 0)) (
  ifB (namesV v16 (.ptr (newAt (some m.length) (reserve m 2) .resv).1 0)) (
  (fieldAddrA 1 (.ptr (newAt (some m.length) (reserve m 2) .resv).1 0)).bind fun v20 =>
  (loadA none m19 v20).bind fun v21 =>
  (lenA false v21).bind fun v22 =>
  (binA .other .gtr v22 (.int .i64 0)).bind fun v23 =>
  ifA v23 (
  (fieldAddrA 1 (.ptr (newAt (some (m.length + 1)) (newAt (some m.length) (reserve m 2) (.obj true [(.bool false), (.lst none true .full []), (.lst none true .full [])])).2 .resv).1 0)).bind fun v24 =>
  (loadA none m19 v24).bind fun v25 =>
  (lenA false v25).bind fun v26 =>
  (binA .other .gtr v26 (.int .i64 0)).bind fun v27 =>
  ifA v27 (
  (loadA (some 3) m19 x7).bind fun v28 =>
  (loadA (some 3) m19 (.ptr (newAt (some m.length) (reserve m 2) .resv).1 0)).bind fun v29 =>
  (loadA (some 3) m19 (.ptr (newAt (some (m.length + 1)) (newAt (some m.length) (reserve m 2) (.obj true [(.bool false), (.lst none true .full []), (.lst none true .full [])])).2 .resv).1 0)).bind fun v30 =>
  (pcall (AP cfg) (some m19.length) m19 78 [v29, v30]).bind fun r31 =>
  (pcall (AP cfg) (some m19.length) r31.2 75 [v28, r31.1]).bind fun r32 =>
  (storeA (some 3) r32.2 x7 r32.1).bind fun m33 =>
  (binA .other .add x14 (.int .i64 1)).bind fun v34 =>
  L104_3 x0 x1 x2 x3 x6 x7 x13 v34 m33 K) (
  (binA .other .add x14 (.int .i64 1)).bind fun v35 =>
  L104_3 x0 x1 x2 x3 x6 x7 x13 v35 m19 K)) (
  (binA .other .add x14 (.int .i64 1)).bind fun v36 =>
  L104_3 x0 x1 x2 x3 x6 x7 x13 v36 m19 K))))) (
  K (.exit 0) (O104_3 x6 x7 m)) :=
(loopW_eq (execW_lin _) _ _ _).trans (by kernel_rfl)
theorem K104_3_x0 (x6 x7 : AV) (m : Mem) : K104_3 (finK cfg.P f104.results.toList) (.exit 0) (O104_3 x6 x7 m) =
  (loadA (some 3) m x7).bind fun v1 =>
  (storeA (some 3) m x6 v1).bind fun m2 =>
  (loadA (some 3) m2 x6).bind fun v3 =>
  some (v3, m2) := by kernel_rfl
/-! ### sortilege/matrix.pivot -/
def O115_3 (x7 : AV) (m : Mem) : St := ⟨[.any, .any, .any, .any, .any, .any, .any, x7, .any, .any, .any, .any, .any, .any, .any, .any, .any, .any, .any, .any, .any, .any, .any, .any, .any, .any, .any, .any, .any, .any, .any, .any, .any, .any, .any, .any, .any, .any, .any, .any, .any, .any, .any, .any, .any, .any, .any, .any, .any, .any, .any, .any, .any], m⟩
noncomputable def L115_3 (x2 x3 x7 x8 : AV) (m : Mem) (K : Ex → St → Option (AV × Mem)) : Option (AV × Mem) := loopW (execW cfg 115 (AP cfg) (AC cfg) (c1 (c1 (c2 (c1 (c2 (c2 (bodyOf f115)))))))) (cfg.mask 115 (some 3)) ⟨[.any, .any, x2, x3, .any, .any, .any, x7, x8, .any, .any, .any, .any, .any, .any, .any, .any, .any, .any, .any, .any, .any, .any, .any, .any, .any, .any, .any, .any, .any, .any, .any, .any, .any, .any, .any, .any, .any, .any, .any, .any, .any, .any, .any, .any, .any, .any, .any, .any, .any, .any, .any, .any], m⟩ K
noncomputable abbrev K115_3_0 (K : Ex → St → Option (AV × Mem)) : Ex → St → Option (AV × Mem) := seqK (fun st => execW cfg 115 (AP cfg) (AC cfg) (c2 (c2 (c2 (bodyOf f115)))) st K) K
noncomputable abbrev K115_3_1 (K : Ex → St → Option (AV × Mem)) : Ex → St → Option (AV × Mem) := blockK 0 (K115_3_0 K)
noncomputable abbrev K115_3 (K : Ex → St → Option (AV × Mem)) : Ex → St → Option (AV × Mem) := (K115_3_1 K)
theorem T115 (a0 a1 a2 : AV) (m : Mem) : AC cfg 115 [a0, a1, a2] m =
  (boxA none (some 3) m a0).bind fun r1 =>
  L115_3 a2 r1.1 (.int .i64 (-1)) a1 r1.2 (K115_3 (finK cfg.P f115.results.toList)) :=
(AC_eq cfg 115 [a0, a1, a2] m (fn := f115) (c := bodyOf f115) at115 rfl).trans (by kernel_rfl)
theorem L115_3_eq (x2 x3 x7 x8 : AV) (m : Mem) (K : Ex → St → Option (AV × Mem)) : L115_3 x2 x3 x7 x8 m K =
  (fieldAddrA 0 x3).bind fun v1 =>
  (loadA none m v1).bind fun v2 =>
  (binA .other .lss x8 v2).bind fun v3 =>
  ifA v3 (
  (fieldAddrA 2 x3).bind fun v4 =>
  (loadA none m v4).bind fun v5 =>
  (fieldAddrA 1 x3).bind fun v6 =>
  (loadA none m v6).bind fun v7 =>
  (binA .other .mul x8 v7).bind fun v8 =>
  (binA .other .add v8 x2).bind fun v9 =>
  (indexAddrA (some 3) v5 v9).bind fun v10 =>
  (loadA (some 3) m v10).bind fun v11 =>
  (storeA (some 3) (newAt none m (.obj true [(.bool false), (.lst none true .full []), (.lst none true .full [])])).2 (.ptr (newAt none m .resv).1 0) v11).bind fun m12 =>
  (fieldAddrA 1 (.ptr (newAt none m .resv).1 0)).bind fun v13 =>
  (loadA none m12 v13).bind fun v14 =>
  (lenA false v14).bind fun v15 =>
  (binA .other .gtr v15 (.int .i64 0)).bind fun v16 =>
  ifA v16 (
  (binA .other .lss x7 (.int .i64 0)).bind fun v17 =>
  ifA v17 (
  (binA .other .add x8 (.int .i64 1)).bind fun v18 =>
  L115_3 x2 x3 x8 v18 m12 K) (
  (loadA (some 3) m12 (.ptr (newAt none m .resv).1 0)).bind fun v19 =>
  (pcall (AP cfg) (some m12.length) m12 134 [v19]).bind fun r20 =>
  (fieldAddrA 2 x3).bind fun v21 =>
  (loadA none r20.2 v21).bind fun v22 =>
  (fieldAddrA 1 x3).bind fun v23 =>
  (loadA none r20.2 v23).bind fun v24 =>
  (binA .other .mul x7 v24).bind fun v25 =>
  (binA .other .add v25 x2).bind fun v26 =>
  (indexAddrA (some 3) v22 v26).bind fun v27 =>
  (loadA (some 3) r20.2 v27).bind fun v28 =>
  (pcall (AP cfg) (some m12.length) r20.2 134 [v28]).bind fun r29 =>
  (binA .other .lss r20.1 r29.1).bind fun v30 =>
  ifA v30 (
  (binA .other .add x8 (.int .i64 1)).bind fun v31 =>
  L115_3 x2 x3 x8 v31 r29.2 K) (
  (binA .other .add x8 (.int .i64 1)).bind fun v32 =>
  L115_3 x2 x3 x7 v32 r29.2 K))) (
  (binA .other .add x8 (.int .i64 1)).bind fun v33 =>
  L115_3 x2 x3 x7 v33 m12 K)) (
  K (.exit 0) (O115_3 x7 m)) :=
(loopW_eq (execW_lin _) _ _ _).trans (by kernel_rfl)
theorem K115_3_x0 (x7 : AV) (m : Mem) : K115_3 (finK cfg.P f115.results.toList) (.exit 0) (O115_3 x7 m) =
  some (x7, m) := by kernel_rfl
/-! ### sortilege/matrix.swap -/
def O116_2 (m : Mem) : St := ⟨[.any, .any, .any, .any, .any, .any, .any, .any, .any, .any, .any, .any, .any, .any, .any, .any, .any, .any, .any, .any, .any, .any, .any, .any, .any, .any, .any, .any, .any, .any, .any, .any, .any, .any, .any, .any, .any, .any, .any, .any, .any, .any, .any, .any, .any, .any, .any, .any, .any, .any, .any], m⟩
noncomputable def L116_2 (x1 x2 x3 x8 x9 : AV) (m : Mem) (K : Ex → St → Option (AV × Mem)) : Option (AV × Mem) := loopW (execW cfg 116 (AP cfg) (AC cfg) (c1 (c1 (c2 (c2 (bodyOf f116)))))) (cfg.mask 116 (some 2)) ⟨[.any, x1, x2, x3, .any, .any, .any, .any, x8, x9, .any, .any, .any, .any, .any, .any, .any, .any, .any, .any, .any, .any, .any, .any, .any, .any, .any, .any, .any, .any, .any, .any, .any, .any, .any, .any, .any, .any, .any, .any, .any, .any, .any, .any, .any, .any, .any, .any, .any, .any, .any], m⟩ K
noncomputable abbrev K116_2_0 (K : Ex → St → Option (AV × Mem)) : Ex → St → Option (AV × Mem) := blockK 0 K
noncomputable abbrev K116_2 (K : Ex → St → Option (AV × Mem)) : Ex → St → Option (AV × Mem) := (K116_2_0 K)
theorem T116 (a0 a1 a2 : AV) (m : Mem) : AC cfg 116 [a0, a1, a2] m =
  (boxA none (some 3) m a0).bind fun r1 =>
  (fieldAddrA 1 r1.1).bind fun v2 =>
  (loadA none r1.2 v2).bind fun v3 =>
  L116_2 a1 a2 r1.1 v3 (.int .i64 0) r1.2 (K116_2 (finK cfg.P f116.results.toList)) :=
(AC_eq cfg 116 [a0, a1, a2] m (fn := f116) (c := bodyOf f116) at116 rfl).trans (by kernel_rfl)
theorem L116_2_eq (x1 x2 x3 x8 x9 : AV) (m : Mem) (K : Ex → St → Option (AV × Mem)) : L116_2 x1 x2 x3 x8 x9 m K =
  (binA .other .lss x9 x8).bind fun v1 =>
  ifA v1 (
  (fieldAddrA 2 x3).bind fun v2 =>
  (loadA none m v2).bind fun v3 =>
  (fieldAddrA 1 x3).bind fun v4 =>
  (loadA none m v4).bind fun v5 =>
  (binA .other .mul x1 v5).bind fun v6 =>
  (binA .other .add v6 x9).bind fun v7 =>
  (fieldAddrA 2 x3).bind fun v8 =>
  (loadA none m v8).bind fun v9 =>
  (fieldAddrA 1 x3).bind fun v10 =>
  (loadA none m v10).bind fun v11 =>
  (binA .other .mul x2 v11).bind fun v12 =>
  (binA .other .add v12 x9).bind fun v13 =>
  (fieldAddrA 2 x3).bind fun v14 =>
  (loadA none m v14).bind fun v15 =>
  (fieldAddrA 1 x3).bind fun v16 =>
  (loadA none m v16).bind fun v17 =>
  (binA .other .mul x2 v17).bind fun v18 =>
  (binA .other .add v18 x9).bind fun v19 =>
  (indexAddrA (some 3) v15 v19).bind fun v20 =>
  (loadA (some 3) m v20).bind fun v21 =>
  (fieldAddrA 2 x3).bind fun v22 =>
  (loadA none m v22).bind fun v23 =>
  (fieldAddrA 1 x3).bind fun v24 =>
  (loadA none m v24).bind fun v25 =>
  (binA .other .mul x1 v25).bind fun v26 =>
  (binA .other .add v26 x9).bind fun v27 =>
  (indexAddrA (some 3) v23 v27).bind fun v28 =>
  (loadA (some 3) m v28).bind fun v29 =>
  (indexAddrA (some 3) v3 v7).bind fun v30 =>
  (storeA (some 3) m v30 v21).bind fun m31 =>
  (indexAddrA (some 3) v9 v13).bind fun v32 =>
  (storeA (some 3) m31 v32 v29).bind fun m33 =>
  ifB (namesV v8 v30) (
  ifB (namesV v10 v30) (
  (binA .other .add x9 (.int .i64 1)).bind fun v34 =>
  L116_2 x1 x2 x3 x8 v34 m33 K))) (
  K (.exit 0) (O116_2 m)) :=
(loopW_eq (execW_lin _) _ _ _).trans (by kernel_rfl)
theorem K116_2_x0 (m : Mem) : K116_2 (finK cfg.P f116.results.toList) (.exit 0) (O116_2  m) =
  some ((.tup []), m) := by kernel_rfl
/-! ### sortilege/matrix.clear -/
def O117_4 (m : Mem) : St := ⟨[.any, .any, .any, .any, .any, .any, .any, .any, .any, .any, .any, .any, .any, .any, .any, .any, .any, .any, .any, .any, .any, .any, .any, .any, .any, .any, .any, .any, .any, .any, .any, .any, .any, .any, .any, .any, .any, .any, .any, .any, .any, .any, .any, .any, .any, .any, .any, .any, .any, .any, .any, .any, .any, .any, .any, .any, .any, .any, .any, .any, .any, .any, .any, .any, .any, .any, .any, .any, .any, .any, .any, .any, .any, .any, .any, .any, .any, .any, .any, .any, .any, .any, .any], m⟩
noncomputable def L117_4 (x1 x2 x4 x8 x41 x42 : AV) (m : Mem) (K : Ex → St → Option (AV × Mem)) : Option (AV × Mem) := loopW (execW cfg 117 (AP cfg) (AC cfg) (c1 (c1 (c2 (c2 (c2 (c2 (bodyOf f117)))))))) (cfg.mask 117 (some 4)) ⟨[.any, x1, x2, .any, x4, .any, .any, .any, x8, .any, .any, .any, .any, .any, .any, .any, .any, .any, .any, .any, .any, .any, .any, .any, .any, .any, .any, .any, .any, .any, .any, .any, .any, .any, .any, .any, .any, .any, .any, .any, .any, x41, x42, .any, .any, .any, .any, .any, .any, .any, .any, .any, .any, .any, .any, .any, .any, .any, .any, .any, .any, .any, .any, .any, .any, .any, .any, .any, .any, .any, .any, .any, .any, .any, .any, .any, .any, .any, .any, .any, .any, .any, .any], m⟩ K
noncomputable abbrev K117_4_0 (K : Ex → St → Option (AV × Mem)) : Ex → St → Option (AV × Mem) := blockK 0 K
noncomputable abbrev K117_4 (K : Ex → St → Option (AV × Mem)) : Ex → St → Option (AV × Mem) := (K117_4_0 K)
theorem T117 (a0 a1 a2 a3 : AV) (m : Mem) : AC cfg 117 [a0, a1, a2, a3] m =
  (boxA none (some 3) m a0).bind fun r1 =>
  (fieldAddrA 2 r1.1).bind fun v2 =>
  (loadA none (reserve r1.2 1) v2).bind fun v3 =>
  (fieldAddrA 1 r1.1).bind fun v4 =>
  (loadA none (reserve r1.2 1) v4).bind fun v5 =>
  (binA .other .mul a2 v5).bind fun v6 =>
  (binA .other .add v6 a3).bind fun v7 =>
  (indexAddrA (some 3) v3 v7).bind fun v8 =>
  (loadA (some 3) (reserve r1.2 1) v8).bind fun v9 =>
  (fieldAddrA 2 r1.1).bind fun v10 =>
  (loadA none (reserve r1.2 1) v10).bind fun v11 =>
  (fieldAddrA 1 r1.1).bind fun v12 =>
  (loadA none (reserve r1.2 1) v12).bind fun v13 =>
  (binA .other .mul a1 v13).bind fun v14 =>
  (binA .other .add v14 a3).bind fun v15 =>
  (indexAddrA (some 3) v11 v15).bind fun v16 =>
  (loadA (some 3) (reserve r1.2 1) v16).bind fun v17 =>
  (pcall (AP cfg) (some r1.2.length) (reserve r1.2 1) 122 [v9, v17]).bind fun r18 =>
  (extractA r18.1 0).bind fun v19 =>
  (extractA r18.1 1).bind fun v20 =>
  (storeA (some 3) (newAt (some r1.2.length) r18.2 (.obj true [(.bool false), (.lst none true .full []), (.lst none true .full [])])).2 (.ptr (newAt (some r1.2.length) r18.2 .resv).1 0) v19).bind fun m21 =>
  (fieldAddrA 1 (.ptr (newAt (some r1.2.length) r18.2 .resv).1 0)).bind fun v22 =>
  (loadA none m21 v22).bind fun v23 =>
  (lenA false v23).bind fun v24 =>
  (binA .other .eql v24 (.int .i64 0)).bind fun v25 =>
  ifA v25 (
  some ((.tup []), m21)) (
  (fieldAddrA 1 r1.1).bind fun v26 =>
  (loadA none m21 v26).bind fun v27 =>
  L117_4 a1 a2 r1.1 (.ptr (newAt (some r1.2.length) r18.2 .resv).1 0) v27 (.int .i64 0) m21 (K117_4 (finK cfg.P f117.results.toList))) :=
(AC_eq cfg 117 [a0, a1, a2, a3] m (fn := f117) (c := bodyOf f117) at117 rfl).trans (by kernel_rfl)
theorem L117_4_eq (x1 x2 x4 x8 x41 x42 : AV) (m : Mem) (K : Ex → St → Option (AV × Mem)) : L117_4 x1 x2 x4 x8 x41 x42 m K =
  (binA .other .lss x42 x41).bind fun v1 =>
  ifA v1 (
  (fieldAddrA 2 x4).bind fun v2 =>
  (loadA none m v2).bind fun v3 =>
  (fieldAddrA 1 x4).bind fun v4 =>
  (loadA none m v4).bind fun v5 =>
  (binA .other .mul x1 v5).bind fun v6 =>
  (binA .other .add v6 x42).bind fun v7 =>
  (indexAddrA (some 3) v3 v7).bind fun v8 =>
  (loadA (some 3) m v8).bind fun v9 =>
  (storeA (some 3) (newAt none m (.obj true [(.bool false), (.lst none true .full []), (.lst none true .full [])])).2 (.ptr (newAt none m .resv).1 0) v9).bind fun m10 =>
  (fieldAddrA 1 (.ptr (newAt none m .resv).1 0)).bind fun v11 =>
  (loadA none m10 v11).bind fun v12 =>
  (lenA false v12).bind fun v13 =>
  (binA .other .gtr v13 (.int .i64 0)).bind fun v14 =>
  ifA v14 (
  (fieldAddrA 2 x4).bind fun v15 =>
  (loadA none m10 v15).bind fun v16 =>
  (fieldAddrA 1 x4).bind fun v17 =>
  (loadA none m10 v17).bind fun v18 =>
  (binA .other .mul x2 v18).bind fun v19 =>
  (binA .other .add v19 x42).bind fun v20 =>
  (fieldAddrA 2 x4).bind fun v21 =>
  (loadA none m10 v21).bind fun v22 =>
  (fieldAddrA 1 x4).bind fun v23 =>
  (loadA none m10 v23).bind fun v24 =>
  (binA .other .mul x2 v24).bind fun v25 =>
  (binA .other .add v25 x42).bind fun v26 =>
  (indexAddrA (some 3) v22 v26).bind fun v27 =>
  (loadA (some 3) m10 v27).bind fun v28 =>
  (loadA (some 3) m10 x8).bind fun v29 =>
  (loadA (some 3) m10 (.ptr (newAt none m .resv).1 0)).bind fun v30 =>
  (pcall (AP cfg) (some m10.length) m10 78 [v29, v30]).bind fun r31 =>
  (pcall (AP cfg) (some m10.length) r31.2 135 [v28, r31.1]).bind fun r32 =>
  (indexAddrA (some 3) v16 v20).bind fun v33 =>
  (storeA (some 3) r32.2 v33 r32.1).bind fun m34 =>
  (binA .other .add x42 (.int .i64 1)).bind fun v35 =>
  L117_4 x1 x2 x4 x8 x41 v35 m34 K) (
  (binA .other .add x42 (.int .i64 1)).bind fun v36 =>
  L117_4 x1 x2 x4 x8 x41 v36 m10 K)) (
  K (.exit 0) (O117_4 m)) :=
(loopW_eq (execW_lin _) _ _ _).trans (by kernel_rfl)
theorem K117_4_x0 (m : Mem) : K117_4 (finK cfg.P f117.results.toList) (.exit 0) (O117_4  m) =
  some ((.tup []), m) := by kernel_rfl
/-! ### sortilege/matrix.weight -/
theorem T134 (a0 : AV) (m : Mem) : AC cfg 134 [a0] m =
  (boxA none (some 3) m a0).bind fun r1 =>
  (fieldAddrA 1 r1.1).bind fun v2 =>
  (loadA none r1.2 v2).bind fun v3 =>
  (pcall (AP cfg) (some r1.2.length) r1.2 139 [v3]).bind fun r4 =>
  (fieldAddrA 2 r1.1).bind fun v5 =>
  (loadA none r4.2 v5).bind fun v6 =>
  (pcall (AP cfg) (some r1.2.length) r4.2 139 [v6]).bind fun r7 =>
  (binA .other .add r4.1 r7.1).bind fun v8 =>
  some (v8, r7.2) :=
(AC_eq cfg 134 [a0] m (fn := f134) (c := bodyOf f134) at134 rfl).trans (by kernel_rfl)
end Go.Ab

/- What the interpreter does, function by function. -/
set_option maxRecDepth 100000
set_option linter.unusedVariables false
namespace Go.Ab
open Go.Proofs.Try
/-! ### sortilege/sortilegeref19.Make -/
/-! ### sortilege/sortilegeref19.Zero -/
/-! ### sortilege/sortilegeref19.Identity -/
/-! ### sortilege/sortilegeref19.Right -/
def O21_4 (m : Mem) : St := ⟨[.any, .any, .any, .any, .any, .any, .any, .any, .any, .any, .any, .any, .any, .any, .any, .any, .any, .any, .any, .any, .any, .any, .any, .any, .any, .any, .any, .any, .any, .any, .any, .any, .any, .any, .any, .any, .any, .any, .any, .any, .any, .any, .any, .any, .any], m⟩
def R21_4 (x2 : AV) (m : Mem) : St := ⟨[.any, .any, x2, .any, .any, .any, .any, .any, .any, .any, .any, .any, .any, .any, .any, .any, .any, .any, .any, .any, .any, .any, .any, .any, .any, .any, .any, .any, .any, .any, .any, .any, .any, .any, .any, .any, .any, .any, .any, .any, .any, .any, .any, .any, .any], m⟩
noncomputable def L21_4 (x35 x36 x37 : AV) (m : Mem) (K : Ex → St → Option (AV × Mem)) : Option (AV × Mem) := loopW (execW cfg 21 (AP cfg) (AC cfg) (c1 (c1 (c2 (c1 (c2 (c2 (bodyOf f21)))))))) (cfg.mask 21 (some 4)) ⟨[.any, .any, .any, .any, .any, .any, .any, .any, .any, .any, .any, .any, .any, .any, .any, .any, .any, .any, .any, .any, .any, .any, .any, .any, .any, .any, .any, .any, .any, .any, .any, .any, .any, .any, .any, x35, x36, x37, .any, .any, .any, .any, .any, .any, .any], m⟩ K
noncomputable abbrev K21_4_0 (K : Ex → St → Option (AV × Mem)) : Ex → St → Option (AV × Mem) := seqK (fun st => execW cfg 21 (AP cfg) (AC cfg) (c2 (c2 (c2 (bodyOf f21)))) st K) K
noncomputable abbrev K21_4_1 (K : Ex → St → Option (AV × Mem)) : Ex → St → Option (AV × Mem) := blockK 0 (K21_4_0 K)
noncomputable abbrev K21_4 (K : Ex → St → Option (AV × Mem)) : Ex → St → Option (AV × Mem) := (K21_4_1 K)
theorem T21 (a0 : AV) (m : Mem) : AC cfg 21 [a0] m =
  (boxA none (some 3) m a0).bind fun r1 =>
  (fieldAddrA 0 r1.1).bind fun v2 =>
  (loadA none r1.2 v2).bind fun v3 =>
  (binA .other .lss v3 (.int .i64 0)).bind fun v4 =>
  ifA v4 (
  some ((.bool false), r1.2)) (
  (fieldAddrA 0 r1.1).bind fun v5 =>
  (loadA none r1.2 v5).bind fun v6 =>
  (binA .other .gtr v6 (.int .i64 60)).bind fun v7 =>
  ifA v7 (
  some ((.bool false), r1.2)) (
  (fieldAddrA 1 r1.1).bind fun v8 =>
  (loadA none r1.2 v8).bind fun v9 =>
  (binA .other .lss v9 (.int .i64 0)).bind fun v10 =>
  ifA v10 (
  some ((.bool false), r1.2)) (
  (fieldAddrA 1 r1.1).bind fun v11 =>
  (loadA none r1.2 v11).bind fun v12 =>
  (binA .other .gtr v12 (.int .i64 60)).bind fun v13 =>
  ifA v13 (
  some ((.bool false), r1.2)) (
  (fieldAddrA 2 r1.1).bind fun v14 =>
  (loadA none r1.2 v14).bind fun v15 =>
  (lenA false v15).bind fun v16 =>
  (fieldAddrA 0 r1.1).bind fun v17 =>
  (loadA none r1.2 v17).bind fun v18 =>
  (fieldAddrA 1 r1.1).bind fun v19 =>
  (loadA none r1.2 v19).bind fun v20 =>
  (binA .other .mul v18 v20).bind fun v21 =>
  (binA .other .neq v16 v21).bind fun v22 =>
  ifA v22 (
  some ((.bool false), r1.2)) (
  (fieldAddrA 2 r1.1).bind fun v23 =>
  (loadA none r1.2 v23).bind fun v24 =>
  (lenA false v24).bind fun v25 =>
  L21_4 v24 v25 (.int .i64 0) r1.2 (K21_4 (finK cfg.P f21.results.toList))))))) :=
(AC_eq cfg 21 [a0] m (fn := f21) (c := bodyOf f21) at21 rfl).trans (by kernel_rfl)
theorem L21_4_eq (x35 x36 x37 : AV) (m : Mem) (K : Ex → St → Option (AV × Mem)) : L21_4 x35 x36 x37 m K =
  (binA .other .lss x37 x36).bind fun v1 =>
  ifA v1 (
  (indexAddrA (some 3) x35 x37).bind fun v2 =>
  (loadA (some 3) m v2).bind fun v3 =>
  (storeA (some 3) (newAt none m (.obj true [(.bool false), (.lst none true .full []), (.lst none true .full [])])).2 (.ptr (newAt none m .resv).1 0) v3).bind fun m4 =>
  (loadA (some 3) m4 (.ptr (newAt none m .resv).1 0)).bind fun v5 =>
  (pcall (AP cfg) none m4 65 [v5]).bind fun r6 =>
  (unA .not r6.1).bind fun v7 =>
  ifA v7 (
  K .ret (R21_4 (.bool false) r6.2)) (
  (binA .other .add x37 (.int .i64 1)).bind fun v8 =>
  L21_4 x35 x36 v8 r6.2 K)) (
  K (.exit 0) (O21_4 m)) :=
(loopW_eq (execW_lin _) _ _ _).trans (by kernel_rfl)
theorem K21_4_x0 (m : Mem) : K21_4 (finK cfg.P f21.results.toList) (.exit 0) (O21_4  m) =
  some ((.bool true), m) := by kernel_rfl
theorem K21_4_ret (x2 : AV) (m : Mem) : K21_4 (finK cfg.P f21.results.toList) .ret (R21_4 x2 m) =
  some (x2, m) := by kernel_rfl
/-! ### sortilege/sortilegeref19.At -/
/-! ### sortilege/sortilegeref19.Same -/
/-! ### sortilege/sortilegeref19.Expanded -/
/-! ### sortilege/sortilegeref19.Det -/
/-! ### sortilege/sortilegeref19.Rank -/
/-! ### sortilege/sortilegeref19.Solve -/
/-! ### sortilege/sortilegeref19.Inverse -/
/-! ### sortilege/sortilegeref19.zeros -/
/-! ### sortilege/sortilegeref19.one -/
/-! ### sortilege/sortilegeref19.rows -/
/-! ### sortilege/sortilegeref19.expanded -/
/-! ### sortilege/sortilegeref19.cleared -/
end Go.Ab

/- Right, At and Same of both matrix packages, in values. -/
set_option linter.unusedVariables false
set_option linter.unusedSimpArgs false
set_option maxRecDepth 100000
namespace Go.Ab
open Go.Proofs.Try

theorem st_last {m : Mem} {x r : RV} : storeA (some 3) (m ++ [cR x]) (.ptr m.length 0) r.av = some (m ++ [cR r]) := by
  rw [rstA (get_last : (m ++ [cR x])[m.length]? = some (cR x)), List.set_append_right _ _ (Nat.le_refl _), Nat.sub_self, List.set_cons_zero]
theorem ld_last {m : Mem} {r : RV} : loadA (some 3) (m ++ [cR r]) (.ptr m.length 0) = some r.av := rldA get_last
theorem new_z' (m : Mem) : newAt none m (.obj true [.bool false, .lst none true .full [], .lst none true .full []]) = (m.length, m ++ [cR zR]) := rfl
def sizeB (x : MV) : Bool := decide (0 ≤ x.rows ∧ x.rows ≤ 60 ∧ 0 ≤ x.cols ∧ x.cols ≤ 60 ∧ (x.lv.es.length : Int) = x.rows * x.cols)
def rightM (x : MV) : Bool := sizeB x && x.lv.es.all rightR
theorem mul60 {a b : Int} (h1 : 0 ≤ a) (h2 : a ≤ 60) (h3 : 0 ≤ b) (h4 : b ≤ 60) : 0 ≤ a * b ∧ a * b ≤ 3600 := by
  obtain ⟨x, rfl⟩ := Int.eq_ofNat_of_zero_le h1
  obtain ⟨y, rfl⟩ := Int.eq_ofNat_of_zero_le h3
  have : x * y ≤ 60 * 60 := Nat.mul_le_mul (by omega) (by omega)
  rw [← Int.natCast_mul]
  omega
theorem i_mul60 {a b : Int} (h1 : 0 ≤ a) (h2 : a ≤ 60) (h3 : 0 ≤ b) (h4 : b ≤ 60) : binA .other .mul (.int .i64 a) (.int .i64 b) = some (.int .i64 (a * b)) := by
  obtain ⟨k1, k2⟩ := mul60 h1 h2 h3 h4
  rw [binA_mul, wrap_i64 (by omega) (by omega)]

/-! ### Right (20) -/
theorem W20 (l : LV) (k : Nat) (hl : LOk k l) (hk : k < 2 ^ 38) (hlen : l.es.length < 2 ^ 40) (K : Ex → St → Option (AV × Mem)) : ∀ (j i : Nat) (m : Mem), i + j = l.es.length →
    ∃ m', L20_4 l.av (.int .i64 l.es.length) (.int .i64 i) m K = if (l.es.drop i).all rightR = true then K (.exit 0) (O20_4 m') else K .ret (R20_4 (.bool false) m') := by
  intro j
  induction j with
  | zero =>
    intro i m hi
    refine ⟨m, ?_⟩
    rw [L20_4_eq, n_lss, Option.bind_some, ifA_dec, if_neg (by omega), List.drop_of_length_le (by omega)]
    rfl
  | succ j ih =>
    intro i m hi
    have hil : i < l.es.length := by omega
    have hr := hl.ok l.es[i] (List.getElem_mem hil)
    have hf := hl.fr l.es[i] (List.getElem_mem hil)
    obtain ⟨m', ih⟩ := ih (i + 1) (m ++ [cR l.es[i]]) (by omega)
    have e1 := V64 hr
    have hd : l.es.drop i = l.es[i] :: l.es.drop (i + 1) := List.drop_eq_getElem_cons hil
    rw [hd, List.all_cons]
    rw [L20_4_eq, n_lss, Option.bind_some, ifA_dec, if_pos hil, index_lv hl hil, Option.bind_some, load_row, Option.bind_some, new_z', new_r, st_last, Option.bind_some, ld_last, Option.bind_some, pcR, hf, e1, Option.map_some, Option.bind_some, not_b, Option.bind_some]
    cases hb : rightR l.es[i] with
    | false => exact ⟨_, rfl⟩
    | true =>
      refine ⟨m', ?_⟩
      rw [Bool.not_true, ifA_false, i_add1 (by omega), Option.bind_some, ih, Bool.true_and]
theorem V20 {x : MV} {k : Nat} (h : LOk k x.lv) (hk : k < 2 ^ 38) (hlen : x.lv.es.length < 2 ^ 40) : AP cfg 20 [x.av] = some (.bool (rightM x)) := by
  have g : ([cM x] : Mem)[0]? = some (cM x) := rfl
  have key : ∃ m', AC cfg 20 [x.av] [] = some (.bool (rightM x), m') := by
    rw [T20, box_mv]
    simp only [Option.bind_some, fld0, fld1, fld2, List.length_nil, List.nil_append]
    rw [mld0 g, Option.bind_some, binA_lss, Option.bind_some, ifA_dec]
    unfold rightM sizeB
    by_cases c1 : x.rows < 0
    · rw [if_pos c1, decide_eq_false (by omega)]; exact ⟨_, rfl⟩
    rw [if_neg c1, Option.bind_some, binA_gtr, Option.bind_some, ifA_dec]
    by_cases c2 : x.rows > 60
    · rw [if_pos c2, decide_eq_false (by omega)]; exact ⟨_, rfl⟩
    rw [if_neg c2, mld1 g, Option.bind_some, binA_lss, Option.bind_some, ifA_dec]
    by_cases c3 : x.cols < 0
    · rw [if_pos c3, decide_eq_false (by omega)]; exact ⟨_, rfl⟩
    rw [if_neg c3, Option.bind_some, binA_gtr, Option.bind_some, ifA_dec]
    by_cases c4 : x.cols > 60
    · rw [if_pos c4, decide_eq_false (by omega)]; exact ⟨_, rfl⟩
    rw [if_neg c4, mld2 g, Option.bind_some, len_lv, Option.bind_some, Option.bind_some, Option.bind_some, i_mul60 (by omega) (by omega) (by omega) (by omega), Option.bind_some, binA_neq, Option.bind_some, ifA_dec]
    by_cases c5 : (x.lv.es.length : Int) = x.rows * x.cols
    · obtain ⟨m', hw⟩ := W20 x.lv k h hk hlen (K20_4 (finK cfg.P f20.results.toList)) x.lv.es.length 0 [cM x] (by omega)
      rw [if_neg (fun hn => hn c5), Option.bind_some, len_lv, Option.bind_some]
      refine ⟨m', hw.trans ?_⟩
      rw [decide_eq_true ⟨by omega, by omega, by omega, by omega, c5⟩, Bool.true_and, List.drop_zero, K20_4_x0, K20_4_ret]
      cases x.lv.es.all rightR <;> rfl
    · rw [if_pos c5, decide_eq_false (fun hn => c5 hn.2.2.2.2)]; exact ⟨_, rfl⟩
  obtain ⟨m', hm⟩ := key
  exact AP_ofz _ _ (fz_bool _) rfl hm

/-! ### Right (21) -/
theorem W21 (l : LV) (k : Nat) (hl : LOk k l) (hk : k < 2 ^ 38) (hlen : l.es.length < 2 ^ 40) (K : Ex → St → Option (AV × Mem)) : ∀ (j i : Nat) (m : Mem), i + j = l.es.length →
    ∃ m', L21_4 l.av (.int .i64 l.es.length) (.int .i64 i) m K = if (l.es.drop i).all rightR = true then K (.exit 0) (O21_4 m') else K .ret (R21_4 (.bool false) m') := by
  intro j
  induction j with
  | zero =>
    intro i m hi
    refine ⟨m, ?_⟩
    rw [L21_4_eq, n_lss, Option.bind_some, ifA_dec, if_neg (by omega), List.drop_of_length_le (by omega)]
    rfl
  | succ j ih =>
    intro i m hi
    have hil : i < l.es.length := by omega
    have hr := hl.ok l.es[i] (List.getElem_mem hil)
    have hf := hl.fr l.es[i] (List.getElem_mem hil)
    obtain ⟨m', ih⟩ := ih (i + 1) (m ++ [cR l.es[i]]) (by omega)
    have e1 := V65 hr hk
    have hd : l.es.drop i = l.es[i] :: l.es.drop (i + 1) := List.drop_eq_getElem_cons hil
    rw [hd, List.all_cons]
    rw [L21_4_eq, n_lss, Option.bind_some, ifA_dec, if_pos hil, index_lv hl hil, Option.bind_some, load_row, Option.bind_some, new_z', new_r, st_last, Option.bind_some, ld_last, Option.bind_some, pcR, hf, e1, Option.map_some, Option.bind_some, not_b, Option.bind_some]
    cases hb : rightR l.es[i] with
    | false => exact ⟨_, rfl⟩
    | true =>
      refine ⟨m', ?_⟩
      rw [Bool.not_true, ifA_false, i_add1 (by omega), Option.bind_some, ih, Bool.true_and]
theorem V21 {x : MV} {k : Nat} (h : LOk k x.lv) (hk : k < 2 ^ 38) (hlen : x.lv.es.length < 2 ^ 40) : AP cfg 21 [x.av] = some (.bool (rightM x)) := by
  have g : ([cM x] : Mem)[0]? = some (cM x) := rfl
  have key : ∃ m', AC cfg 21 [x.av] [] = some (.bool (rightM x), m') := by
    rw [T21, box_mv]
    simp only [Option.bind_some, fld0, fld1, fld2, List.length_nil, List.nil_append]
    rw [mld0 g, Option.bind_some, binA_lss, Option.bind_some, ifA_dec]
    unfold rightM sizeB
    by_cases c1 : x.rows < 0
    · rw [if_pos c1, decide_eq_false (by omega)]; exact ⟨_, rfl⟩
    rw [if_neg c1, Option.bind_some, binA_gtr, Option.bind_some, ifA_dec]
    by_cases c2 : x.rows > 60
    · rw [if_pos c2, decide_eq_false (by omega)]; exact ⟨_, rfl⟩
    rw [if_neg c2, mld1 g, Option.bind_some, binA_lss, Option.bind_some, ifA_dec]
    by_cases c3 : x.cols < 0
    · rw [if_pos c3, decide_eq_false (by omega)]; exact ⟨_, rfl⟩
    rw [if_neg c3, Option.bind_some, binA_gtr, Option.bind_some, ifA_dec]
    by_cases c4 : x.cols > 60
    · rw [if_pos c4, decide_eq_false (by omega)]; exact ⟨_, rfl⟩
    rw [if_neg c4, mld2 g, Option.bind_some, len_lv, Option.bind_some, Option.bind_some, Option.bind_some, i_mul60 (by omega) (by omega) (by omega) (by omega), Option.bind_some, binA_neq, Option.bind_some, ifA_dec]
    by_cases c5 : (x.lv.es.length : Int) = x.rows * x.cols
    · obtain ⟨m', hw⟩ := W21 x.lv k h hk hlen (K21_4 (finK cfg.P f21.results.toList)) x.lv.es.length 0 [cM x] (by omega)
      rw [if_neg (fun hn => hn c5), Option.bind_some, len_lv, Option.bind_some]
      refine ⟨m', hw.trans ?_⟩
      rw [decide_eq_true ⟨by omega, by omega, by omega, by omega, c5⟩, Bool.true_and, List.drop_zero, K21_4_x0, K21_4_ret]
      cases x.lv.es.all rightR <;> rfl
    · rw [if_pos c5, decide_eq_false (fun hn => c5 hn.2.2.2.2)]; exact ⟨_, rfl⟩
  obtain ⟨m', hm⟩ := key
  exact AP_ofz _ _ (fz_bool _) rfl hm

/-! ### Same (40) -/
def sameM (x y : MV) : Bool := decide (x.rows = y.rows) && (decide (x.cols = y.cols) && decide (x.lv.es.map RV.q = y.lv.es.map RV.q))
end Go.Ab

/- Copies and built matrices of both matrix packages, in values. -/
set_option linter.unusedVariables false
set_option linter.unusedSimpArgs false
set_option maxRecDepth 100000
namespace Go.Ab
open Go.Proofs.Try

/-! ### A fraction that shares nothing -/
def copyR (r : RV) : RV := ⟨r.neg, rowN r.num.ds, rowN r.den.ds⟩
theorem copyR_fr (r : RV) : (copyR r).fr = copyR r := by simp only [copyR, RV.fr, rowN_fr]
theorem copyR_q (r : RV) : (copyR r).q = r.q := by simp only [copyR, RV.q, rowN_v]; rfl
theorem copyR_right (r : RV) : rightR (copyR r) = rightR r := by simp only [copyR, rightR, rowN_ds, rowN_v]; rfl
theorem copyR_ok {r : RV} {k : Nat} (h : ROk k r) : ROk k (copyR r) := ⟨rowN_ok h.num.dg h.num.len, rowN_ok h.den.dg h.den.len, by simp only [copyR, rowN_ds]; exact h.ln, by simp only [copyR, rowN_ds]; exact h.ld⟩
def tkV (k : Nat) (ds : List Nat) : NV := if ds = [] then nilV else ⟨false, .tok k 116, ds⟩
theorem tkV_fr (k : Nat) (ds : List Nat) : (tkV k ds).fr = rowN ds := by unfold tkV rowN; split <;> rfl
theorem app_nilk {m : Mem} {k : Nat} {x : NV} (hk : m[k]? = some (some .resv)) (h : x.ds.length * 4 ≤ roomA) : ∃ m', appA (some k) false 116 none 4 m (.lst none true .full []) x.av = some ((tkV k x.ds).av, m') ∧ (∀ j, j ≠ k → m'[j]? = m[j]?) ∧ m'.length = m.length := by
  obtain ⟨z, o, ds⟩ := x
  cases ds with
  | nil => exact ⟨m, rfl, fun _ _ => rfl, rfl⟩
  | cons d ds =>
    have h2 : (ds.length + 1) * 4 ≤ roomA := by simpa using h
    refine ⟨m.set k (some (.tok (ds.length + 1) 1)), ?_, fun j hj => List.getElem?_set_ne (fun e => hj e.symm), by simp⟩
    simp only [tkV, NV.av, appA, List.map_cons, List.length_cons, List.length_nil, List.length_map, Nat.zero_add, h2, if_true, newAt, Sh.size, List.nil_append, reduceCtorEq, if_false, Bool.false_eq_true, or_true]
theorem V67 {r : RV} {k : Nat} (h : ROk k r) : AP cfg 67 [r.av] = some (copyR r).av := by
  have hn := h.num.len
  have hd := h.den.len
  obtain ⟨m1, a1, a2, a3⟩ := app_nilk (m := [cR r, cR zR, some .resv, some .resv]) (k := 2) (x := r.num) rfl (by simp only [roomA]; omega)
  obtain ⟨m2, b1, b2, b3⟩ := app_nilk (m := m1) (k := 3) (x := r.den) (by rw [a2 3 (by omega)]; rfl) (by simp only [roomA]; omega)
  have g1 : m2[1]? = some (cR zR) := by rw [b2 1 (by omega), a2 1 (by omega)]; rfl
  have hfr : (RV.mk r.neg (tkV 2 r.num.ds) (tkV 3 r.den.ds)).fr = copyR r := by simp only [RV.fr, tkV_fr, copyR]
  have hl : 1 < m2.length := by rw [b3, a3]; simp
  refine (AP_ofz _ _ (fz_rv ⟨r.neg, tkV 2 r.num.ds, tkV 3 r.den.ds⟩) (noV_rv _) (m := m2.set 1 (cR ⟨r.neg, tkV 2 r.num.ds, tkV 3 r.den.ds⟩)) ?_).trans (by rw [hfr])
  rw [T67]
  simp only [Option.bind_some, box_rv, new_z', new_r, fld0, fld1, fld2, res2, List.length_nil, List.nil_append, List.length_cons, List.cons_append, Nat.zero_add, ld0neg, ld0num, ld0den, Nat.reduceAdd]
  rw [a1]
  simp only [Option.bind_some]
  rw [b1]
  simp only [Option.bind_some, nil_av, bld012]
  rw [rstA g1, Option.bind_some, rldA (by rw [List.getElem?_set_self hl])]
  rfl

/-! ### A row grows -/
/-- All boxes but one stay. -/
def Kn (n : Nat) (m m' : Mem) : Prop := m.length ≤ m'.length ∧ ∀ (p : Nat) (bx : Bool) (cs : List AV), p ≠ n → m[p]? = some (some (Ent.obj bx cs)) → m'[p]? = some (some (Ent.obj bx cs))
theorem Kn.trans {n : Nat} {a b c : Mem} (h : Kn n a b) (k : Kn n b c) : Kn n a c := ⟨Nat.le_trans h.1 k.1, fun p bx cs hp hh => k.2 p bx cs hp (h.2 p bx cs hp hh)⟩
theorem Kp.kn {a b : Mem} (h : Kp a b) (n : Nat) : Kn n a b := ⟨h.1, fun p bx cs _ hh => h.2 p bx cs hh⟩
theorem push {m : Mem} {n : Nat} {y : MV} {r : RV} (hb : m[n]? = some (cM y)) (hr : RowAt m y.lv) (hlen : y.lv.es.length < 5000) :
    ∃ l' m' m'', appA (some m.length) false 43 (some 3) 56 (reserve m 1) y.lv.av (.lst (some 3) false .full [r.av]) = some (l'.av, m') ∧ l'.es = y.lv.es ++ [r] ∧ storeA none m' (.ptr n 2) l'.av = some m'' ∧ m''[n]? = some (cM ⟨y.rows, y.cols, l'⟩) ∧ RowAt m'' l' ∧ Kn n m m'' := by
  rw [res1]
  obtain ⟨l', m', h1, h2, h3, h4⟩ := app_mat (r := r) (hr.app [some .resv]) (k := m.length) get_last (by simp only [roomA]; omega)
  have hk := (Kp.app m [some .resv]).trans h4
  have hb' := hk.2 n true _ hb
  have hnl : n < m'.length := by
    apply Classical.byContradiction
    intro hc
    rw [List.getElem?_eq_none (by omega)] at hb'
    cases hb'
  refine ⟨l', m', _, h1, h3, mst2 hb', by rw [List.getElem?_set_self hnl], h2.set hb' _, ?_⟩
  refine ⟨by rw [List.length_set]; exact hk.1, fun p bx cs hp hh => ?_⟩
  rw [List.getElem?_set_ne (fun e => hp e.symm)]
  exact hk.2 p bx cs hh
theorem RowAt.mono {m m' : Mem} {l : LV} (h : RowAt m l) {r : RV} (e : m' = m ++ [cR r]) : RowAt m' l := e ▸ h.app _
theorem rowAt_lok {m : Mem} {l : LV} {k : Nat} (h : RowAt m l) (hf : ∀ r ∈ l.es, r.fr = r) (ho : ∀ r ∈ l.es, ROk k r) : LOk k l := by
  rcases h with rfl | ⟨h1, h2, h3, _⟩
  · exact ⟨.inr rfl, fun _ => rfl, hf, ho⟩
  · exact ⟨.inl h1, fun hz => absurd (h2.symm.trans hz) (by decide), hf, ho⟩
/-- What a function hands out that has built a row. -/
theorem rowAt_fr {m : Mem} {l : LV} (h : RowAt m l) : l.fr.fr = l.fr := by
  rcases h with rfl | ⟨h1, h2, h3, nm, h4, _⟩
  · rfl
  · obtain ⟨sh, z, o, es⟩ := l
    simp only at h4
    subst h4
    rfl
theorem bldM01 (a b : Int) : buildA (.agg [.int .i64 0, .int .i64 0, .lst none true .full []]) [(0, none, .int .i64 a), (1, none, .int .i64 b)] = some (MV.av ⟨a, b, nilL⟩) := rfl
theorem bldM : buildA (.agg [.int .i64 0, .int .i64 0, .lst none true .full []]) [] = some zM.av := rfl

/-! ### clone -/
theorem W56 {x : MV} {k : Nat} (hx : LOk k x.lv) (hlen : x.lv.es.length < 4500) (K : Ex → St → Option (AV × Mem)) : ∀ (j i : Nat) (m : Mem) (l : LV), i + j = x.lv.es.length → m[1]? = some (cM zM) → m[2]? = some (cM ⟨x.rows, x.cols, l⟩) → RowAt m l → l.es = (x.lv.es.take i).map copyR →
    ∃ m' l', m'[1]? = some (cM zM) ∧ m'[2]? = some (cM ⟨x.rows, x.cols, l'⟩) ∧ RowAt m' l' ∧ l'.es = x.lv.es.map copyR ∧ L56_3 (.ptr 1 0) (.ptr 2 0) x.lv.av (.int .i64 x.lv.es.length) (.int .i64 i) m K = K (.exit 0) (O56_3 (.ptr 1 0) (.ptr 2 0) m') := by
  intro j
  induction j with
  | zero =>
    intro i m l hi h1 h2 h3 h4
    refine ⟨m, l, h1, h2, h3, by rw [h4, List.take_of_length_le (by omega)], ?_⟩
    rw [L56_3_eq, n_lss, Option.bind_some, ifA_dec, if_neg (by omega)]
  | succ j ih =>
    intro i m l hi h1 h2 h3 h4
    have hil : i < x.lv.es.length := by omega
    have hr := hx.ok x.lv.es[i] (List.getElem_mem hil)
    have hf := hx.fr x.lv.es[i] (List.getElem_mem hil)
    have kp := Kp.app m [cR x.lv.es[i]]
    have hb := kp.2 2 true _ h2
    have hll : l.es.length < 5000 := by rw [h4]; simp; omega
    obtain ⟨l', m1, m2, p1, p2, p3, p4, p5, p6⟩ := push (r := copyR x.lv.es[i]) hb (h3.app [cR x.lv.es[i]]) hll
    have kq := kp.trans (Kp.app (m ++ [cR x.lv.es[i]]) [some .resv])
    obtain ⟨m', l'', q1, q2, q3, q4, q5⟩ := ih (i + 1) m2 l' (by omega) (p6.2 1 true _ (by omega) (kp.2 1 true _ h1)) p4 p5 (by
      rw [p2]
      show l.es ++ _ = _
      rw [h4, List.take_succ_eq_append_getElem hil, List.map_append]; rfl)
    refine ⟨m', l'', q1, q2, q3, q4, ?_⟩
    have g2 := kq.2 2 true _ h2
    have gr : ((m ++ [cR x.lv.es[i]]) ++ [some Ent.resv])[m.length]? = some (cR x.lv.es[i]) := by
      rw [List.getElem?_append_left (by simp)]; exact get_last
    rw [L56_3_eq, n_lss, Option.bind_some, ifA_dec, if_pos hil, index_lv hx hil, Option.bind_some, load_row, Option.bind_some, new_z', new_r, st_last, Option.bind_some, fld2, Option.bind_some]
    rw [res1] at p1 ⊢
    rw [mld2 g2, Option.bind_some, rldA gr, Option.bind_some, pcR, hf, V67 hr, Option.map_some, Option.bind_some, build_row (copyR_fr _), Option.bind_some, p1, Option.bind_some, Option.bind_some, p3, Option.bind_some, i_add1 (by omega), Option.bind_some]
    exact q5
/-! ### Make -/
end Go.Ab

/- What the interpreter does, function by function. -/
set_option maxRecDepth 100000
set_option linter.unusedVariables false
namespace Go.Ab
open Go.Proofs.Try
/-! ### sortilege/matrix.Add -/
/-! ### sortilege/matrix.Scale -/
/-! ### sortilege/matrix.Transpose -/
theorem T37 (a0 : AV) (m : Mem) : AC cfg 37 [a0] m =
  (boxA none (some 3) m a0).bind fun r1 =>
  (loadA (some 3) (newAt none r1.2 (.obj true [(.int .i64 0), (.int .i64 0), (.lst none true .full [])])).2 r1.1).bind fun v2 =>
  (pcall (AP cfg) none (newAt none r1.2 (.obj true [(.int .i64 0), (.int .i64 0), (.lst none true .full [])])).2 20 [v2]).bind fun r3 =>
  (unA .not r3.1).bind fun v4 =>
  ifA v4 (
  (buildA (.agg [(.int .i64 0), (.int .i64 0), (.lst none true .full [])]) []).bind fun v5 =>
  (storeA (some 3) r3.2 (.ptr (newAt none r1.2 .resv).1 0) v5).bind fun m6 =>
  (loadA (some 3) m6 (.ptr (newAt none r1.2 .resv).1 0)).bind fun v7 =>
  some ((.tup [v7, (.int .i64 1)]), m6)) (
  (fieldAddrA 1 r1.1).bind fun v8 =>
  (loadA none r3.2 v8).bind fun v9 =>
  (fieldAddrA 0 r1.1).bind fun v10 =>
  (loadA none r3.2 v10).bind fun v11 =>
  (pcall (AP cfg) none r3.2 58 [v9, v11, (.fn 79 [r1.1])]).bind fun r12 =>
  (storeA (some 3) r12.2 (.ptr (newAt none r1.2 .resv).1 0) r12.1).bind fun m13 =>
  (loadA (some 3) m13 (.ptr (newAt none r1.2 .resv).1 0)).bind fun v14 =>
  some ((.tup [v14, (.int .i64 0)]), m13)) :=
(AC_eq cfg 37 [a0] m (fn := f37) (c := bodyOf f37) at37 rfl).trans (by kernel_rfl)
/-! ### sortilege/matrix.Same -/
/-! ### sortilege/matrix.Mul -/
theorem T41 (a0 a1 : AV) (m : Mem) : AC cfg 41 [a0, a1] m =
  (boxA none (some 3) m a0).bind fun r1 =>
  (boxA none (some 3) r1.2 a1).bind fun r2 =>
  (loadA (some 3) (newAt none r2.2 (.obj true [(.int .i64 0), (.int .i64 0), (.lst none true .full [])])).2 r1.1).bind fun v3 =>
  (pcall (AP cfg) none (newAt none r2.2 (.obj true [(.int .i64 0), (.int .i64 0), (.lst none true .full [])])).2 20 [v3]).bind fun r4 =>
  (unA .not r4.1).bind fun v5 =>
  ifA v5 (
  (buildA (.agg [(.int .i64 0), (.int .i64 0), (.lst none true .full [])]) []).bind fun v6 =>
  (storeA (some 3) r4.2 (.ptr (newAt none r2.2 .resv).1 0) v6).bind fun m7 =>
  (loadA (some 3) m7 (.ptr (newAt none r2.2 .resv).1 0)).bind fun v8 =>
  some ((.tup [v8, (.int .i64 1)]), m7)) (
  (loadA (some 3) r4.2 r2.1).bind fun v9 =>
  (pcall (AP cfg) none r4.2 20 [v9]).bind fun r10 =>
  (unA .not r10.1).bind fun v11 =>
  ifA v11 (
  (buildA (.agg [(.int .i64 0), (.int .i64 0), (.lst none true .full [])]) []).bind fun v12 =>
  (storeA (some 3) r10.2 (.ptr (newAt none r2.2 .resv).1 0) v12).bind fun m13 =>
  (loadA (some 3) m13 (.ptr (newAt none r2.2 .resv).1 0)).bind fun v14 =>
  some ((.tup [v14, (.int .i64 1)]), m13)) (
  (fieldAddrA 1 r1.1).bind fun v15 =>
  (loadA none r10.2 v15).bind fun v16 =>
  (fieldAddrA 0 r2.1).bind fun v17 =>
  (loadA none r10.2 v17).bind fun v18 =>
  (binA .other .neq v16 v18).bind fun v19 =>
  ifA v19 (
  (buildA (.agg [(.int .i64 0), (.int .i64 0), (.lst none true .full [])]) []).bind fun v20 =>
  (storeA (some 3) r10.2 (.ptr (newAt none r2.2 .resv).1 0) v20).bind fun m21 =>
  (loadA (some 3) m21 (.ptr (newAt none r2.2 .resv).1 0)).bind fun v22 =>
  some ((.tup [v22, (.int .i64 30)]), m21)) (
  (loadA (some 3) r10.2 r1.1).bind fun v23 =>
  (loadA (some 3) r10.2 r2.1).bind fun v24 =>
  (pcall (AP cfg) none r10.2 73 [v23, v24]).bind fun r25 =>
  (storeA (some 3) r25.2 (.ptr (newAt none r2.2 .resv).1 0) r25.1).bind fun m26 =>
  (loadA (some 3) m26 (.ptr (newAt none r2.2 .resv).1 0)).bind fun v27 =>
  some ((.tup [v27, (.int .i64 0)]), m26)))) :=
(AC_eq cfg 41 [a0, a1] m (fn := f41) (c := bodyOf f41) at41 rfl).trans (by kernel_rfl)
/-! ### sortilege/matrix.Zero$1 -/
/-! ### sortilege/matrix.Add$1 -/
/-! ### sortilege/matrix.Scale$1 -/
/-! ### sortilege/matrix.Transpose$1 -/
theorem T79 (a0 a1 a2 : AV) (m : Mem) : AC cfg 79 [a0, a1, a2] m =
  (fieldAddrA 2 a2).bind fun v1 =>
  (loadA none (newAt none m (.obj true [(.bool false), (.lst none true .full []), (.lst none true .full [])])).2 v1).bind fun v2 =>
  (fieldAddrA 1 a2).bind fun v3 =>
  (loadA none (newAt none m (.obj true [(.bool false), (.lst none true .full []), (.lst none true .full [])])).2 v3).bind fun v4 =>
  (binA .other .mul a1 v4).bind fun v5 =>
  (binA .other .add v5 a0).bind fun v6 =>
  (indexAddrA (some 3) v2 v6).bind fun v7 =>
  (loadA (some 3) (newAt none m (.obj true [(.bool false), (.lst none true .full []), (.lst none true .full [])])).2 v7).bind fun v8 =>
  (pcall (AP cfg) none (newAt none m (.obj true [(.bool false), (.lst none true .full []), (.lst none true .full [])])).2 67 [v8]).bind fun r9 =>
  (storeA (some 3) r9.2 (.ptr (newAt none m .resv).1 0) r9.1).bind fun m10 =>
  (loadA (some 3) m10 (.ptr (newAt none m .resv).1 0)).bind fun v11 =>
  some (v11, m10) :=
(AC_eq cfg 79 [a0, a1, a2] m (fn := f79) (c := bodyOf f79) at79 rfl).trans (by kernel_rfl)
end Go.Ab

/- Matrices whose cells a function tells. -/
set_option linter.unusedVariables false
set_option linter.unusedSimpArgs false
set_option maxRecDepth 100000
namespace Go.Ab
open Go.Proofs.Try

theorem pcM {m : Mem} {d : Option Nat} {g : Nat} (x : MV) : pcall (AP cfg) d m g [x.av] = (AP cfg g [x.fr.av]).map fun v => (v, m) := pcall1 (fz_mv x)
theorem pcII {m : Mem} {d : Option Nat} {g : Nat} (k k' : IntKind) (a b : Int) : pcall (AP cfg) d m g [.int k a, .int k' b] = (AP cfg g [.int k a, .int k' b]).map fun v => (v, m) := pcall2 (fz_int k a) (fz_int k' b)

/-! ### sized -/
def sizeE (a b : Int) : Int := if a < 0 ∨ b < 0 then 1 else if a > 60 ∨ b > 60 then 2 else 0
theorem V57 (a b : Int) : AP cfg 57 [.int .i64 a, .int .i64 b] = some (.int .i64 (sizeE a b)) := by
  refine AP_ofz _ _ (fz_int _ _) rfl (m := []) ?_
  rw [T57, binA_lss, Option.bind_some, ifA_dec]
  unfold sizeE
  by_cases c1 : a < 0
  · rw [if_pos c1, if_pos (.inl c1)]
  · rw [if_neg c1, binA_lss, Option.bind_some, ifA_dec]
    by_cases c2 : b < 0
    · rw [if_pos c2, if_pos (.inr c2)]
    · rw [if_neg c2, if_neg (fun h => h.elim c1 c2), binA_gtr, Option.bind_some, ifA_dec]
      by_cases c3 : a > 60
      · rw [if_pos c3, if_pos (.inl c3)]
      · rw [if_neg c3, binA_gtr, Option.bind_some, ifA_dec]
        by_cases c4 : b > 60
        · rw [if_pos c4, if_pos (.inr c4)]
        · rw [if_neg c4, if_neg (fun h => h.elim c3 c4)]

/-! ### filled -/
def rowF (F : Nat → Nat → RV) (cols i : Nat) : List RV := (List.range cols).map (F i)
def cellsF (F : Nat → Nat → RV) (cols : Nat) : Nat → List RV
  | 0 => []
  | i + 1 => cellsF F cols i ++ rowF F cols i
theorem cellsF_length (F : Nat → Nat → RV) (cols : Nat) : ∀ i, (cellsF F cols i).length = i * cols
  | 0 => by simp [cellsF]
  | i + 1 => by simp [cellsF, rowF, cellsF_length F cols i, Nat.succ_mul]
theorem cellsF_mem {F : Nat → Nat → RV} {cols : Nat} {r : RV} : ∀ {i : Nat}, r ∈ cellsF F cols i → ∃ a b, a < i ∧ b < cols ∧ r = F a b
  | 0, h => by simp [cellsF] at h
  | i + 1, h => by
    simp only [cellsF, List.mem_append] at h
    rcases h with h | h
    · obtain ⟨a, b, h1, h2, h3⟩ := cellsF_mem h
      exact ⟨a, b, by omega, h2, h3⟩
    · simp only [rowF, List.mem_map, List.mem_range] at h
      obtain ⟨b, hb, rfl⟩ := h
      exact ⟨i, b, by omega, hb, rfl⟩
theorem callK_p {fid g : Nat} {vs : List AV} {m : Mem} {d : Option Nat} {K : AV → Mem → Option (AV × Mem)} (hi : cfg.inl fid g = false) (hl : cfg.lib g = none) : callK cfg fid (AP cfg) (AC cfg) d g vs m K = (pcall (AP cfg) d m g vs).bind fun r => K r.1 r.2 := by
  unfold callK
  rw [hl]
  simp only []
  rw [hi]
structure FillOk (g : Nat) (cs : List AV) (F : Nat → Nat → RV) (rows cols k : Nat) : Prop where
  inl : cfg.inl 58 g = false
  lib : cfg.lib g = none
  csz : ∀ m, mapF (frz m fuelF) cs = some (cs, [])
  call : ∀ i j : Nat, i < rows → j < cols → AP cfg g ([.int .i64 i, .int .i64 j] ++ cs) = some (F i j).av
  fr : ∀ i j : Nat, i < rows → j < cols → (F i j).fr = F i j
  ok : ∀ i j : Nat, i < rows → j < cols → ROk k (F i j)
theorem pc_fill {g : Nat} {cs : List AV} {F : Nat → Nat → RV} {rows cols k : Nat} (h : FillOk g cs F rows cols k) {i j : Nat} (hi : i < rows) (hj : j < cols) {m : Mem} {d : Option Nat} : pcall (AP cfg) d m g ([.int .i64 i, .int .i64 j] ++ cs) = some ((F i j).av, m) := by
  have e : mapF (frz m fuelF) ([.int .i64 i, .int .i64 j] ++ cs) = some ([.int .i64 i, .int .i64 j] ++ cs, []) := by
    have h1 := h.csz m
    have f1 : ∀ n : Int, frz m fuelF (.int .i64 n) = some (.int .i64 n, []) := fun _ => rfl
    simp [mapF, h1, f1]
  unfold pcall
  rw [e]
  have hc := h.call i j hi hj
  simp only [List.cons_append, List.nil_append] at hc
  simp [hc, kill]
theorem W58_6 {g : Nat} {cs : List AV} {F : Nat → Nat → RV} {rows cols k : Nat} (h : FillOk g cs F rows cols k) (hr : rows ≤ 60) (hc : cols ≤ 60) (K : Ex → St → Option (AV × Mem)) {i : Nat} (hi : i < rows) (x13 x14 : AV) : ∀ (j c : Nat) (m : Mem) (l : LV), c + j = cols → m[0]? = some (cM zM) → m[1]? = some (cM ⟨rows, cols, l⟩) → RowAt m l → l.es = cellsF F cols i ++ (List.range c).map (F i) →
    ∃ m' l', m'[0]? = some (cM zM) ∧ m'[1]? = some (cM ⟨rows, cols, l'⟩) ∧ RowAt m' l' ∧ l'.es = cellsF F cols (i + 1) ∧ L58_6 (.int .i64 cols) (.fn g cs) (.ptr 0 0) (.ptr 1 0) (.int .i64 i) x13 x14 (.int .i64 cols) (.int .i64 c) m K = K (.exit 2) (O58_6 (.int .i64 cols) (.fn g cs) (.ptr 0 0) (.ptr 1 0) x13 x14 m') := by
  intro j
  induction j with
  | zero =>
    intro c m l hcj h1 h2 h3 h4
    have : c = cols := by omega
    subst this
    refine ⟨m, l, h1, h2, h3, h4, ?_⟩
    rw [L58_6_eq, n_lss, Option.bind_some, ifA_dec, if_neg (by omega)]
  | succ j ih =>
    intro c m l hcj h1 h2 h3 h4
    have hcl : c < cols := by omega
    have hle : i * cols ≤ 60 * 60 := Nat.mul_le_mul (by omega) hc
    have hll : l.es.length < 5000 := by rw [h4, List.length_append, cellsF_length, List.length_map, List.length_range]; omega
    obtain ⟨l', m1, m2, p1, p2, p3, p4, p5, p6⟩ := push (r := F i c) h2 h3 hll
    obtain ⟨m', l'', q1, q2, q3, q4, q5⟩ := ih (c + 1) m2 l' (by omega) (p6.2 0 true _ (by omega) h1) p4 p5 (by
      rw [p2]
      show l.es ++ _ = _
      rw [h4, List.range_succ, List.map_append, List.append_assoc]; rfl)
    refine ⟨m', l'', q1, q2, q3, q4, ?_⟩
    have g2 := (Kp.app m [some .resv]).2 1 true _ h2
    rw [L58_6_eq, n_lss, Option.bind_some, ifA_dec, if_pos hcl, fld2, Option.bind_some]
    have hfn : fnOf (.fn g cs) = some (g, cs) := rfl
    have p1' := p1
    rw [res1] at p1' ⊢
    rw [mld2 g2, Option.bind_some, hfn, Option.bind_some, callK_p h.inl h.lib, pc_fill h hi hcl, Option.bind_some, build_row (h.fr i c hi hcl), Option.bind_some, p1', Option.bind_some, Option.bind_some, p3, Option.bind_some, i_add1 (by omega), Option.bind_some]
    exact q5
theorem W58_3 {g : Nat} {cs : List AV} {F : Nat → Nat → RV} {rows cols k : Nat} (h : FillOk g cs F rows cols k) (hr : rows ≤ 60) (hc : cols ≤ 60) (K : Ex → St → Option (AV × Mem)) : ∀ (j i : Nat) (m : Mem) (l : LV), i + j = rows → m[0]? = some (cM zM) → m[1]? = some (cM ⟨rows, cols, l⟩) → RowAt m l → l.es = cellsF F cols i →
    ∃ m' l', m'[0]? = some (cM zM) ∧ m'[1]? = some (cM ⟨rows, cols, l'⟩) ∧ RowAt m' l' ∧ l'.es = cellsF F cols rows ∧ L58_3 (.int .i64 cols) (.fn g cs) (.ptr 0 0) (.ptr 1 0) (.int .i64 rows) (.int .i64 i) m K = K (.exit 0) (O58_3 (.ptr 0 0) (.ptr 1 0) m') := by
  intro j
  induction j with
  | zero =>
    intro i m l hij h1 h2 h3 h4
    have : i = rows := by omega
    subst this
    refine ⟨m, l, h1, h2, h3, h4, ?_⟩
    rw [L58_3_eq, n_lss, Option.bind_some, ifA_dec, if_neg (by omega)]
  | succ j ih =>
    intro i m l hij h1 h2 h3 h4
    have hil : i < rows := by omega
    obtain ⟨m1, l1, a1, a2, a3, a4, a5⟩ := W58_6 h hr hc (K58_6 K) hil (.int .i64 rows) (.int .i64 i) cols 0 m l (by omega) h1 h2 h3 (by rw [h4]; simp)
    obtain ⟨m', l', q1, q2, q3, q4, q5⟩ := ih (i + 1) m1 l1 (by omega) a1 a2 a3 a4
    refine ⟨m', l', q1, q2, q3, q4, ?_⟩
    rw [L58_3_eq, n_lss, Option.bind_some, ifA_dec, if_pos hil]
    refine Eq.trans ?_ (a5.trans ?_)
    · rfl
    rw [K58_6_x2, i_add1 (by omega), Option.bind_some]
    exact q5
theorem V58 {g : Nat} {cs : List AV} {F : Nat → Nat → RV} {rows cols k : Nat} (h : FillOk g cs F rows cols k) (hr : rows ≤ 60) (hc : cols ≤ 60) : ∃ y : MV, AP cfg 58 [.int .i64 rows, .int .i64 cols, .fn g cs] = some y.av ∧ y.rows = rows ∧ y.cols = cols ∧ y.lv.es = cellsF F cols rows ∧ LOk k y.lv ∧ y.fr = y := by
  obtain ⟨m', l', q1, q2, q3, q4, q5⟩ := W58_3 h hr hc (K58_3 (finK cfg.P f58.results.toList)) rows 0 [cM zM, cM ⟨rows, cols, nilL⟩] nilL (by omega) rfl rfl (.inl rfl) rfl
  have hl1 : 0 < m'.length := by
    apply Classical.byContradiction
    intro hcc
    rw [List.getElem?_eq_none (by omega)] at q1
    cases q1
  have hlo : LOk k l' := rowAt_lok q3 (by rw [q4]; intro r hr; obtain ⟨a, b, h1, h2, rfl⟩ := cellsF_mem hr; exact h.fr a b h1 h2) (by rw [q4]; intro r hr; obtain ⟨a, b, h1, h2, rfl⟩ := cellsF_mem hr; exact h.ok a b h1 h2)
  refine ⟨⟨rows, cols, l'.fr⟩, AP_ofz _ _ (fz_mv ⟨rows, cols, l'⟩) (noV_mv _) (m := m'.set 0 (cM ⟨rows, cols, l'⟩)) ?_, rfl, rfl, q4, hlo.fr', by simp only [MV.fr, rowAt_fr q3]⟩
  have e2 : ([cM zM, cM zM] : Mem)[1]? = some (cM zM) := rfl
  rw [T58, bldM01, Option.bind_some]
  simp only [new_m, new_r, List.length_nil, List.nil_append, List.length_cons, List.cons_append, Nat.zero_add]
  rw [mstA e2, Option.bind_some]
  simp only [List.set_cons_succ, List.set_cons_zero]
  refine q5.trans ?_
  rw [K58_3_x0, mldA q2, Option.bind_some, mstA q1, Option.bind_some, mldA (by rw [List.getElem?_set_self hl1])]
  rfl

/-! ### Zero, Identity -/
def unitR (a b : Nat) : RV := if a = b then oneR else zeroR
theorem unitR_fr (a b : Nat) : (unitR a b).fr = unitR a b := by unfold unitR; split <;> rfl
theorem V62 (a b : Nat) : AP cfg 62 [.int .i64 a, .int .i64 b] = some (unitR a b).av := by
  unfold unitR
  by_cases h : a = b
  · rw [if_pos h]
    refine AP_ofz _ _ (fz_rv oneR) (noV_rv _) (m := [cR oneR]) ?_
    rw [T62, n_eql, Option.bind_some, ifA_dec, if_pos h]
    simp only [new_z', new_r, List.length_nil, List.nil_append]
    rw [pc0, V84, Option.map_some, Option.bind_some, rstA (x := zR) rfl, Option.bind_some]
    simp only [List.set_cons_zero]
    rw [rldA (x := oneR) rfl]
    rfl
  · rw [if_neg h]
    refine AP_ofz _ _ (fz_rv zeroR) (noV_rv _) (m := [cR zeroR]) ?_
    rw [T62, n_eql, Option.bind_some, ifA_dec, if_neg h]
    simp only [new_z', new_r, List.length_nil, List.nil_append]
    rw [pc0, V60, Option.map_some, Option.bind_some, rstA (x := zR) rfl, Option.bind_some]
    simp only [List.set_cons_zero]
    rw [rldA (x := zeroR) rfl]
    rfl
theorem zeroR_ok : ROk 1 zeroR := can_zero.ok (Bd_zero (by omega)) (by omega)
theorem oneR_ok : ROk 1 oneR := can_one.ok (Bd_one (by omega)) (by omega)
theorem fill62 (rows cols : Nat) : FillOk 62 [] unitR rows cols 1 := ⟨rfl, rfl, fun _ => rfl, fun i j _ _ => V62 i j, fun i j _ _ => unitR_fr i j, fun i j _ _ => by unfold unitR; split <;> first | exact oneR_ok | exact zeroR_ok⟩
theorem fz_fn0 (g : Nat) : Fz (.fn g []) (.fn g []) := fun _ => rfl
theorem zM_ok (k : Nat) : LOk k zM.lv := ⟨.inr rfl, fun _ => rfl, by simp [zM, nilL], by simp [zM, nilL]⟩
theorem V18 (a : Int) : ∃ y : MV, AP cfg 18 [.int .i64 a] = some (.tup [y.av, .int .i64 (sizeE a a)]) ∧ y.fr = y ∧ LOk 1 y.lv ∧
    ((sizeE a a ≠ 0 ∧ y = zM) ∨ (sizeE a a = 0 ∧ y.rows = a ∧ y.cols = a ∧ y.lv.es = cellsF unitR a.toNat a.toNat)) := by
  by_cases h0 : sizeE a a = 0
  · have hb : 0 ≤ a ∧ a ≤ 60 := by unfold sizeE at h0; (repeat' split at h0) <;> omega
    obtain ⟨x, rfl⟩ := Int.eq_ofNat_of_zero_le hb.1
    obtain ⟨y, f1, f2, f3, f4, f5, f6⟩ := V58 (fill62 x x) (by omega) (by omega)
    refine ⟨y, (AP_ofz _ _ (fz_tupM2 y (fza_int _ _)) rfl (m := [cM y]) ?_).trans (by rw [f6]), f6, f5, .inr ⟨h0, f2, f3, f4⟩⟩
    rw [T18]
    simp only [new_m, new_r, List.length_nil, List.nil_append]
    rw [pcII, V57, Option.map_some, Option.bind_some, binA_neq, Option.bind_some, ifA_dec, if_neg (fun hn => hn h0), pcall3 (fz_int _ _) (fz_int _ _) (fz_fn0 62), f1, Option.map_some, Option.bind_some, mstA (x := zM) rfl, Option.bind_some]
    simp only [List.set_cons_zero]
    rw [mldA (x := y) rfl, h0]
    rfl
  · refine ⟨zM, AP_ofz _ _ (fz_tupM2 zM (fza_int _ _)) rfl (m := [cM zM]) ?_, rfl, zM_ok 1, .inl ⟨h0, rfl⟩⟩
    rw [T18]
    simp only [new_m, new_r, List.length_nil, List.nil_append]
    rw [pcII, V57, Option.map_some, Option.bind_some, binA_neq, Option.bind_some, ifA_dec, if_pos h0, bldM, Option.bind_some, mstA (x := zM) rfl, Option.bind_some]
    simp only [List.set_cons_zero]
    rw [mldA (x := zM) rfl]
    rfl
end Go.Ab

/- The reference's Make, Zero and Identity, in values. -/
set_option linter.unusedVariables false
set_option linter.unusedSimpArgs false
set_option maxRecDepth 100000
namespace Go.Ab
open Go.Proofs.Try

/-! ### A row of fractions that is written to -/
def flatR (es : List RV) : List AV := es.flatMap fun r => [.bool r.neg, r.num.av, r.den.av]
theorem flatR_eq (es : List RV) : (es.map RV.av).flatMap AV.cells = flatR es := by
  induction es with
  | nil => rfl
  | cons r es ih => rw [List.map_cons, List.flatMap_cons, ih]; rfl
theorem flatR_length (es : List RV) : (flatR es).length = es.length * 3 := by
  induction es with
  | nil => rfl
  | cons r es ih =>
    show (_ :: _ :: _ :: flatR es).length = _
    rw [List.length_cons, List.length_cons, List.length_cons, ih, List.length_cons]; omega
theorem putAt_flat (r : RV) : ∀ (es : List RV) (i : Nat), i < es.length → putAt (flatR es) (i * 3) r.av.cells = flatR (es.set i r)
  | [], i, h => by simp at h
  | e :: es, 0, h => rfl
  | e :: es, i + 1, h => by
    have ih := putAt_flat r es i (by simpa using h)
    have e1 : (i + 1) * 3 = i * 3 + 1 + 1 + 1 := by omega
    show putAt (_ :: _ :: _ :: flatR es) ((i + 1) * 3) r.av.cells = _ :: _ :: _ :: flatR (es.set i r)
    rw [← ih, e1]
    unfold putAt
    have e2 : i * 3 + 1 + 1 + 1 + r.av.cells.length = i * 3 + r.av.cells.length + 1 + 1 + 1 := by omega
    rw [e2]
    simp only [List.take_succ_cons, List.drop_succ_cons, List.cons_append]
theorem grp_flat : ∀ es : List RV, grp (some 3) es.length (flatR es) = es.map RV.av
  | [] => rfl
  | r :: es => by
    have ih := grp_flat es
    show (groupBy 3 (es.length + 1) (_ :: _ :: _ :: flatR es)).map AV.agg = _
    rw [groupBy]
    show AV.agg [.bool r.neg, r.num.av, r.den.av] :: (groupBy 3 es.length (flatR es)).map AV.agg = _
    rw [show (groupBy 3 es.length (flatR es)).map AV.agg = es.map RV.av from ih]
    rfl
theorem mapF_flat (m : Mem) (k : Nat) : ∀ es : List RV, (∀ r ∈ es, r.fr = r) → mapF (frz m (k + 1)) (flatR es) = some (flatR es, [])
  | [], _ => rfl
  | r :: es, h => by
    have ih := mapF_flat m k es (fun r hr => h r (by simp [hr]))
    have hf := h r (by simp)
    have h1 : r.num.fr = r.num := congrArg RV.num hf
    have h2 : r.den.fr = r.den := congrArg RV.den hf
    show mapF (frz m (k + 1)) (_ :: _ :: _ :: flatR es) = _
    simp only [mapF, fza_bool r.neg m k, fza_nv r.num m k, fza_nv r.den m k, h1, h2, ih, Option.bind_some, Option.map_some, List.nil_append]
    rfl
theorem flat_ok : ∀ es : List RV, (∀ r ∈ es, r.fr = r) → ((flatR es).all atomOk && plL (flatR es)) = true
  | [], _ => rfl
  | r :: es, h => by
    have ih := flat_ok es (fun r hr => h r (by simp [hr]))
    have hf := h r (by simp)
    obtain ⟨n, ⟨z1, o1, d1⟩, ⟨z2, o2, d2⟩⟩ := r
    simp only [RV.fr, NV.fr, RV.mk.injEq, NV.mk.injEq, true_and, and_true] at hf
    simp only [Bool.and_eq_true] at ih
    show ((atomOk _ && (atomOk _ && (atomOk _ && (flatR es).all atomOk))) && (pl _ && (pl _ && (pl _ && plL (flatR es))))) = true
    rw [ih.1, ih.2]
    cases o1 <;> cases o2 <;> first | rfl | (simp [Own.fr] at hf)
theorem flat_rowC : ∀ es : List RV, (∀ r ∈ es, r.fr = r) → (flatR es).all rowC = true
  | [], _ => rfl
  | r :: es, h => by
    have ih := flat_rowC es (fun r hr => h r (by simp [hr]))
    have hf := h r (by simp)
    have hd : ∀ ds : List Nat, (ds.map dg).all isIntA = true := by intro ds; simp [List.all_map, dg, isIntA]
    obtain ⟨n, ⟨z1, o1, d1⟩, ⟨z2, o2, d2⟩⟩ := r
    simp only [RV.fr, NV.fr, RV.mk.injEq, NV.mk.injEq, true_and, and_true] at hf
    show (_ :: _ :: _ :: flatR es).all rowC = true
    rw [List.all_cons, List.all_cons, List.all_cons, ih]
    cases o1 <;> cases o2 <;> simp [Own.fr] at hf <;> simp [rowC, NV.av, hd]
theorem frz_arrR {m : Mem} {nm k : Nat} {es : List RV} (hm : m[nm]? = some (some (.obj false (flatR es)))) (hf : ∀ r ∈ es, r.fr = r) : frz m (k + 2) (.arr nm 0 es.length (some 3)) = some (.lst (some 3) false .no (es.map RV.av), [nm]) := by
  show (m.obj? nm).bind _ = _
  rw [mobj hm]
  have hl := flatR_length es
  simp only [Option.bind_some, Sh.size, Nat.zero_add, hl, Nat.le_refl, decide_true, Bool.not_false, Bool.and_self, if_true, List.drop_zero, List.take_of_length_le (Nat.le_of_eq hl)]
  rw [mapF_flat m k es hf]
  simp only [Option.bind_some, flat_ok es hf, if_true, grp_flat]

/-! ### zeros -/
theorem zeroF_ok : ROk 1 zeroF := canF_zero.ok (Bd_zero (by omega)) (by omega)
theorem bldMz (m : Mem) {n : Nat} {x : MV} (h : m[n]? = some (cM x)) (v : AV) (a b : Int) (hv : atomOk v = true) : storeA (some 3) m (.ptr n 0) (.agg [.int .i64 a, .int .i64 b, v]) = some (m.set n (some (.obj true [.int .i64 a, .int .i64 b, v]))) := by
  have h2 : shOk (some 3) (.agg [.int .i64 a, .int .i64 b, v]) = true := by
    show (true && (true && (true && (atomOk v && true)))) = true
    rw [hv]; rfl
  simp only [storeA, mobj h, Option.bind_some, h2, if_true]
  rfl

/-! ### one -/
end Go.Ab

/- What the interpreter does, function by function. -/
set_option maxRecDepth 100000
set_option linter.unusedVariables false
namespace Go.Ab
open Go.Proofs.Try
/-! ### sortilege/sortilegelaw19.MatrixLong -/
/-! ### sortilege/sortilegelaw19.MatrixExpands -/

/-! ### sortilege/sortilegelaw19.MatrixSolves -/

/-! ### sortilege/sortilegelaw19.few -/
def O13_3 (x1 x2 x4 x5 : AV) (m : Mem) : St := ⟨[.any, x1, x2, .any, x4, x5, .any, .any, .any, .any, .any, .any, .any, .any, .any, .any, .any, .any, .any, .any, .any, .any, .any, .any, .any, .any, .any, .any, .any, .any, .any, .any, .any, .any, .any, .any, .any, .any, .any, .any, .any, .any, .any, .any, .any, .any, .any, .any, .any, .any, .any, .any, .any, .any, .any, .any, .any, .any, .any, .any, .any, .any, .any, .any, .any, .any, .any, .any, .any, .any, .any, .any, .any, .any, .any, .any, .any, .any, .any, .any, .any, .any, .any, .any, .any, .any, .any, .any, .any, .any, .any, .any], m⟩
noncomputable def L13_3 (x1 x2 x4 x5 x21 x22 x23 : AV) (m : Mem) (K : Ex → St → Option (AV × Mem)) : Option (AV × Mem) := loopW (execW cfg 13 (AP cfg) (AC cfg) (c1 (c1 (c2 (c1 (c2 (c2 (bodyOf f13)))))))) (cfg.mask 13 (some 3)) ⟨[.any, x1, x2, .any, x4, x5, .any, .any, .any, .any, .any, .any, .any, .any, .any, .any, .any, .any, .any, .any, .any, x21, x22, x23, .any, .any, .any, .any, .any, .any, .any, .any, .any, .any, .any, .any, .any, .any, .any, .any, .any, .any, .any, .any, .any, .any, .any, .any, .any, .any, .any, .any, .any, .any, .any, .any, .any, .any, .any, .any, .any, .any, .any, .any, .any, .any, .any, .any, .any, .any, .any, .any, .any, .any, .any, .any, .any, .any, .any, .any, .any, .any, .any, .any, .any, .any, .any, .any, .any, .any, .any, .any], m⟩ K
def O13_11 (x4 x8 : AV) (m : Mem) : St := ⟨[.any, .any, .any, .any, x4, .any, .any, .any, x8, .any, .any, .any, .any, .any, .any, .any, .any, .any, .any, .any, .any, .any, .any, .any, .any, .any, .any, .any, .any, .any, .any, .any, .any, .any, .any, .any, .any, .any, .any, .any, .any, .any, .any, .any, .any, .any, .any, .any, .any, .any, .any, .any, .any, .any, .any, .any, .any, .any, .any, .any, .any, .any, .any, .any, .any, .any, .any, .any, .any, .any, .any, .any, .any, .any, .any, .any, .any, .any, .any, .any, .any, .any, .any, .any, .any, .any, .any, .any, .any, .any, .any, .any], m⟩
noncomputable def L13_11 (x2 x4 x5 x8 x9 : AV) (m : Mem) (K : Ex → St → Option (AV × Mem)) : Option (AV × Mem) := loopW (execW cfg 13 (AP cfg) (AC cfg) (c1 (c1 (c2 (c1 (c2 (c2 (c2 (c2 (c2 (bodyOf f13))))))))))) (cfg.mask 13 (some 11)) ⟨[.any, .any, x2, .any, x4, x5, .any, .any, x8, x9, .any, .any, .any, .any, .any, .any, .any, .any, .any, .any, .any, .any, .any, .any, .any, .any, .any, .any, .any, .any, .any, .any, .any, .any, .any, .any, .any, .any, .any, .any, .any, .any, .any, .any, .any, .any, .any, .any, .any, .any, .any, .any, .any, .any, .any, .any, .any, .any, .any, .any, .any, .any, .any, .any, .any, .any, .any, .any, .any, .any, .any, .any, .any, .any, .any, .any, .any, .any, .any, .any, .any, .any, .any, .any, .any, .any, .any, .any, .any, .any, .any, .any], m⟩ K
noncomputable abbrev K13_3_0 (K : Ex → St → Option (AV × Mem)) : Ex → St → Option (AV × Mem) := seqK (fun st => execW cfg 13 (AP cfg) (AC cfg) (c2 (c2 (c2 (bodyOf f13)))) st K) K
noncomputable abbrev K13_3_1 (K : Ex → St → Option (AV × Mem)) : Ex → St → Option (AV × Mem) := blockK 0 (K13_3_0 K)
noncomputable abbrev K13_3 (K : Ex → St → Option (AV × Mem)) : Ex → St → Option (AV × Mem) := (K13_3_1 K)
noncomputable abbrev K13_11_0 (K : Ex → St → Option (AV × Mem)) : Ex → St → Option (AV × Mem) := seqK (fun st => execW cfg 13 (AP cfg) (AC cfg) (c2 (c2 (c2 (c2 (c2 (c2 (bodyOf f13))))))) st K) K
noncomputable abbrev K13_11_1 (K : Ex → St → Option (AV × Mem)) : Ex → St → Option (AV × Mem) := blockK 2 (K13_11_0 K)
noncomputable abbrev K13_11 (K : Ex → St → Option (AV × Mem)) : Ex → St → Option (AV × Mem) := (K13_11_1 K)
theorem T13 (a0 a1 : AV) (m : Mem) : AC cfg 13 [a0, a1] m =
  (boxA none (some 3) m a0).bind fun r1 =>
  (fieldAddrA 0 r1.1).bind fun v2 =>
  (loadA none (newAt none r1.2 (.obj true [(.int .i64 0), (.int .i64 0), (.lst none true .full [])])).2 v2).bind fun v3 =>
  (fieldAddrA 1 r1.1).bind fun v4 =>
  (loadA none (newAt none r1.2 (.obj true [(.int .i64 0), (.int .i64 0), (.lst none true .full [])])).2 v4).bind fun v5 =>
  (buildA (.agg [(.int .i64 0), (.int .i64 0), (.lst none true .full [])]) [(0, none, v3), (1, none, v5)]).bind fun v6 =>
  (storeA (some 3) (newAt none (newAt none r1.2 (.obj true [(.int .i64 0), (.int .i64 0), (.lst none true .full [])])).2 (.obj true [(.int .i64 0), (.int .i64 0), (.lst none true .full [])])).2 (.ptr (newAt none (newAt none r1.2 (.obj true [(.int .i64 0), (.int .i64 0), (.lst none true .full [])])).2 .resv).1 0) v6).bind fun m7 =>
  (fieldAddrA 2 r1.1).bind fun v8 =>
  (loadA none m7 v8).bind fun v9 =>
  (fieldAddrA 2 r1.1).bind fun v10 =>
  (loadA none m7 v10).bind fun v11 =>
  (lenA false v11).bind fun v12 =>
  (maxA false v12 (.int .i64 4000)).bind fun v13 =>
  (sliceT (some 3) v9 none (some v13) none).bind fun v14 =>
  (lenA false v14).bind fun v15 =>
  L13_3 a1 r1.1 (.ptr (newAt none r1.2 .resv).1 0) (.ptr (newAt none (newAt none r1.2 (.obj true [(.int .i64 0), (.int .i64 0), (.lst none true .full [])])).2 .resv).1 0) v14 v15 (.int .i64 0) m7 (K13_3 (finK cfg.P f13.results.toList)) :=
(AC_eq cfg 13 [a0, a1] m (fn := f13) (c := bodyOf f13) at13 rfl).trans (by kernel_rfl)
theorem L13_3_eq (x1 x2 x4 x5 x21 x22 x23 : AV) (m : Mem) (K : Ex → St → Option (AV × Mem)) : L13_3 x1 x2 x4 x5 x21 x22 x23 m K =
  (binA .other .lss x23 x22).bind fun v1 =>
  ifA v1 (
  (indexAddrA (some 3) x21 x23).bind fun v2 =>
  (loadA (some 3) m v2).bind fun v3 =>
  (storeA (some 3) (newAt none m (.obj true [(.bool false), (.lst none true .full []), (.lst none true .full [])])).2 (.ptr (newAt none m .resv).1 0) v3).bind fun m4 =>
  (fieldAddrA 2 x5).bind fun v5 =>
  (loadA none (reserve m4 1) v5).bind fun v6 =>
  (fieldAddrA 0 (.ptr (newAt none m .resv).1 0)).bind fun v7 =>
  (loadA none (reserve m4 1) v7).bind fun v8 =>
  (fieldAddrA 1 (.ptr (newAt none m .resv).1 0)).bind fun v9 =>
  (loadA none (reserve m4 1) v9).bind fun v10 =>
  (pcall (AP cfg) (some m4.length) (reserve m4 1) 32 [v10, (.int .i64 3)]).bind fun r11 =>
  (fieldAddrA 2 (.ptr (newAt none m .resv).1 0)).bind fun v12 =>
  (loadA none r11.2 v12).bind fun v13 =>
  (pcall (AP cfg) (some m4.length) r11.2 32 [v13, (.int .i64 3)]).bind fun r14 =>
  (buildA (.agg [(.bool false), (.lst none true .full []), (.lst none true .full [])]) [(0, none, v8), (1, none, r11.1), (2, none, r14.1)]).bind fun v15 =>
  (buildSliceA (some 3) [v15]).bind fun v16 =>
  (appA (some m4.length) false 43 (some 3) 56 r14.2 v6 v16).bind fun r17 =>
  (fieldAddrA 2 x5).bind fun v18 =>
  (storeA none r17.2 v18 r17.1).bind fun m19 =>
  (binA .other .add x23 (.int .i64 1)).bind fun v20 =>
  L13_3 x1 x2 x4 x5 x21 x22 v20 m19 K) (
  K (.exit 0) (O13_3 x1 x2 x4 x5 m)) :=
(loopW_eq (execW_lin _) _ _ _).trans (by kernel_rfl)
theorem L13_11_eq (x2 x4 x5 x8 x9 : AV) (m : Mem) (K : Ex → St → Option (AV × Mem)) : L13_11 x2 x4 x5 x8 x9 m K =
  (fieldAddrA 0 x8).bind fun v1 =>
  (loadA none m v1).bind fun v2 =>
  (binA .other .lss x9 v2).bind fun v3 =>
  ifA v3 (
  (fieldAddrA 2 x8).bind fun v4 =>
  (loadA none (reserve m 1) v4).bind fun v5 =>
  (fieldAddrA 2 x5).bind fun v6 =>
  (loadA none (reserve m 1) v6).bind fun v7 =>
  (fieldAddrA 1 x2).bind fun v8 =>
  (loadA none (reserve m 1) v8).bind fun v9 =>
  (binA .other .mul x9 v9).bind fun v10 =>
  (fieldAddrA 1 x2).bind fun v11 =>
  (loadA none (reserve m 1) v11).bind fun v12 =>
  (binA .other .mul x9 v12).bind fun v13 =>
  (fieldAddrA 1 x8).bind fun v14 =>
  (loadA none (reserve m 1) v14).bind fun v15 =>
  (binA .other .add v13 v15).bind fun v16 =>
  (sliceT (some 3) v7 (some v10) (some v16) none).bind fun v17 =>
  (appA (some m.length) false 43 (some 3) 56 (reserve m 1) v5 v17).bind fun r18 =>
  (fieldAddrA 2 x8).bind fun v19 =>
  (storeA none r18.2 v19 r18.1).bind fun m20 =>
  (binA .other .add x9 (.int .i64 1)).bind fun v21 =>
  L13_11 x2 x4 x5 x8 v21 m20 K) (
  K (.exit 2) (O13_11 x4 x8 m)) :=
(loopW_eq (execW_lin _) _ _ _).trans (by kernel_rfl)
theorem K13_3_x0 (x1 x2 x4 x5 : AV) (m : Mem) : K13_3 (finK cfg.P f13.results.toList) (.exit 0) (O13_3 x1 x2 x4 x5 m) =
  (loadA (some 3) m x5).bind fun v1 =>
  (pcall (AP cfg) none m 21 [v1]).bind fun r2 =>
  (unA .not r2.1).bind fun v3 =>
  ifA v3 (
  (loadA (some 3) r2.2 x5).bind fun v4 =>
  (storeA (some 3) r2.2 x4 v4).bind fun m5 =>
  (loadA (some 3) m5 x4).bind fun v6 =>
  some (v6, m5)) (
  (fieldAddrA 0 x2).bind fun v7 =>
  (loadA none r2.2 v7).bind fun v8 =>
  (binA .other .leq v8 x1).bind fun v9 =>
  ifA v9 (
  (fieldAddrA 1 x2).bind fun v10 =>
  (loadA none r2.2 v10).bind fun v11 =>
  (binA .other .leq v11 x1).bind fun v12 =>
  ifA v12 (
  (loadA (some 3) r2.2 x5).bind fun v13 =>
  (storeA (some 3) r2.2 x4 v13).bind fun m14 =>
  (loadA (some 3) m14 x4).bind fun v15 =>
  some (v15, m14)) (
  (fieldAddrA 0 x2).bind fun v16 =>
  (loadA none r2.2 v16).bind fun v17 =>
  (maxA false v17 x1).bind fun v18 =>
  (fieldAddrA 1 x2).bind fun v19 =>
  (loadA none r2.2 v19).bind fun v20 =>
  (maxA false v20 x1).bind fun v21 =>
  (buildA (.agg [(.int .i64 0), (.int .i64 0), (.lst none true .full [])]) [(0, none, v18), (1, none, v21)]).bind fun v22 =>
  (storeA (some 3) (newAt none r2.2 (.obj true [(.int .i64 0), (.int .i64 0), (.lst none true .full [])])).2 (.ptr (newAt none r2.2 .resv).1 0) v22).bind fun m23 =>
  L13_11 x2 x4 x5 (.ptr (newAt none r2.2 .resv).1 0) (.int .i64 0) m23 (K13_11 (finK cfg.P f13.results.toList)))) (
  (fieldAddrA 0 x2).bind fun v24 =>
  (loadA none r2.2 v24).bind fun v25 =>
  (maxA false v25 x1).bind fun v26 =>
  (fieldAddrA 1 x2).bind fun v27 =>
  (loadA none r2.2 v27).bind fun v28 =>
  (maxA false v28 x1).bind fun v29 =>
  (buildA (.agg [(.int .i64 0), (.int .i64 0), (.lst none true .full [])]) [(0, none, v26), (1, none, v29)]).bind fun v30 =>
  (storeA (some 3) (newAt none r2.2 (.obj true [(.int .i64 0), (.int .i64 0), (.lst none true .full [])])).2 (.ptr (newAt none r2.2 .resv).1 0) v30).bind fun m31 =>
  L13_11 x2 x4 x5 (.ptr (newAt none r2.2 .resv).1 0) (.int .i64 0) m31 (K13_11 (finK cfg.P f13.results.toList)))) := by kernel_rfl
theorem K13_11_x2 (x4 x8 : AV) (m : Mem) : K13_11 (finK cfg.P f13.results.toList) (.exit 2) (O13_11 x4 x8 m) =
  (loadA (some 3) m x8).bind fun v1 =>
  (storeA (some 3) m x4 v1).bind fun m2 =>
  (loadA (some 3) m2 x4).bind fun v3 =>
  some (v3, m2) := by kernel_rfl
/-! ### sortilege/sortilegelaw19.same -/
/-! ### sortilege/sortilegelaw19.alive -/
theorem T26 (m : Mem) : AC cfg 26 [] m =
  (pcall (AP cfg) none m 18 [(.int .i64 2)]).bind fun r1 =>
  (extractA r1.1 0).bind fun v2 =>
  (extractA r1.1 1).bind fun v3 =>
  (storeA (some 3) (newAt none r1.2 (.obj true [(.int .i64 0), (.int .i64 0), (.lst none true .full [])])).2 (.ptr (newAt none r1.2 .resv).1 0) v2).bind fun m4 =>
  (binA .other .eql v3 (.int .i64 0)).bind fun v5 =>
  ifA v5 (
  (fieldAddrA 0 (.ptr (newAt none r1.2 .resv).1 0)).bind fun v6 =>
  (loadA none m4 v6).bind fun v7 =>
  (binA .other .eql v7 (.int .i64 2)).bind fun v8 =>
  ifA v8 (
  (fieldAddrA 2 (.ptr (newAt none r1.2 .resv).1 0)).bind fun v9 =>
  (loadA none m4 v9).bind fun v10 =>
  (lenA false v10).bind fun v11 =>
  (binA .other .eql v11 (.int .i64 4)).bind fun v12 =>
  some (v12, m4)) (
  some ((.bool false), m4))) (
  some ((.bool false), m4)) :=
(AC_eq cfg 26 [] m (fn := f26) (c := bodyOf f26) at26 rfl).trans (by kernel_rfl)
/-! ### sortilege/sortilegelaw19.nat -/
theorem T32 (a0 a1 : AV) (m : Mem) : AC cfg 32 [a0, a1] m =
  (lenA false a0).bind fun v1 =>
  (maxA false v1 a1).bind fun v2 =>
  (sliceT none a0 none (some v2) none).bind fun v3 =>
  some (v3, m) :=
(AC_eq cfg 32 [a0, a1] m (fn := f32) (c := bodyOf f32) at32 rfl).trans (by kernel_rfl)
/-! ### sortilege/sortilegelaw19.square -/
theorem T43 (a0 a1 : AV) (m : Mem) : AC cfg 43 [a0, a1] m =
  (boxA none (some 3) m a0).bind fun r1 =>
  (loadA (some 3) (newAt none r1.2 (.obj true [(.int .i64 0), (.int .i64 0), (.lst none true .full [])])).2 r1.1).bind fun v2 =>
  (pcall (AP cfg) none (newAt none r1.2 (.obj true [(.int .i64 0), (.int .i64 0), (.lst none true .full [])])).2 13 [v2, a1]).bind fun r3 =>
  (storeA (some 3) r3.2 r1.1 r3.1).bind fun m4 =>
  (loadA (some 3) m4 r1.1).bind fun v5 =>
  (pcall (AP cfg) none m4 21 [v5]).bind fun r6 =>
  (unA .not r6.1).bind fun v7 =>
  ifA v7 (
  (loadA (some 3) r6.2 r1.1).bind fun v8 =>
  (storeA (some 3) r6.2 (.ptr (newAt none r1.2 .resv).1 0) v8).bind fun m9 =>
  (loadA (some 3) m9 (.ptr (newAt none r1.2 .resv).1 0)).bind fun v10 =>
  some (v10, m9)) (
  (loadA (some 3) r6.2 r1.1).bind fun v11 =>
  (fieldAddrA 0 r1.1).bind fun v12 =>
  (loadA none r6.2 v12).bind fun v13 =>
  (fieldAddrA 1 r1.1).bind fun v14 =>
  (loadA none r6.2 v14).bind fun v15 =>
  (maxA false v13 v15).bind fun v16 =>
  (pcall (AP cfg) none r6.2 13 [v11, v16]).bind fun r17 =>
  (storeA (some 3) r17.2 (.ptr (newAt none r1.2 .resv).1 0) r17.1).bind fun m18 =>
  (loadA (some 3) m18 (.ptr (newAt none r1.2 .resv).1 0)).bind fun v19 =>
  some (v19, m18)) :=
(AC_eq cfg 43 [a0, a1] m (fn := f43) (c := bodyOf f43) at43 rfl).trans (by kernel_rfl)
end Go.Ab

/- At, Make, Zero, Identity; the law's own helpers, in values. -/
set_option linter.unusedVariables false
set_option linter.unusedSimpArgs false
set_option maxRecDepth 100000
namespace Go.Ab
open Go.Proofs.Try

/-! ### The reference's Make -/
/-! ### The reference's Zero and Identity -/
/-! ### same, alive -/
theorem V26 : AP cfg 26 [] = some (.bool true) := by
  obtain ⟨y, f1, f2, f3, f4⟩ := V18 2
  have h0 : sizeE 2 2 = 0 := rfl
  rcases f4 with ⟨h, _⟩ | ⟨_, h1, h2, h3⟩
  · exact absurd h0 h
  have hl : y.lv.es.length = 4 := by rw [h3, cellsF_length]; rfl
  have g0 : ([cM y] : Mem)[0]? = some (cM y) := rfl
  have q1 : binA .other .eql (.int .i64 (4 : Nat)) (.int .i64 4) = some (.bool true) := rfl
  refine AP_ofz _ _ (fz_bool _) rfl (m := [cM y]) ?_
  rw [h0] at f1
  rw [T26, pcI, f1, Option.map_some, Option.bind_some, ex0, Option.bind_some, ex1, Option.bind_some]
  simp only [new_m, new_r, List.length_nil, List.nil_append]
  rw [mstA (x := zM) rfl, Option.bind_some]
  simp only [List.set_cons_zero]
  rw [binA_eql, Option.bind_some, ifA_dec, if_pos rfl, fld0, Option.bind_some, mld0 g0, Option.bind_some, h1, binA_eql, Option.bind_some, ifA_dec, if_pos rfl, fld2, Option.bind_some, mld2 g0, Option.bind_some, len_lv, Option.bind_some, hl, q1]
  rfl

/-! ### At (24) -/
/-! ### At (25) -/
end Go.Ab

/- Inputs cut to size, in values. -/
set_option linter.unusedVariables false
set_option linter.unusedSimpArgs false
set_option maxRecDepth 100000
namespace Go.Ab
open Go.Proofs.Try

/-! ### nat -/
def cutN (x : NV) : NV := ⟨x.z, .no, x.ds.take 3⟩
theorem min_int (a b : Nat) : maxA false (.int .i64 a) (.int .i64 b) = some (.int .i64 (min a b : Nat)) := by
  show some (AV.int .i64 (if (b : Int) < (a : Int) then (b : Int) else (a : Int))) = _
  by_cases h : b < a
  · rw [if_pos (by omega), Nat.min_eq_right (by omega)]
  · rw [if_neg (by omega), Nat.min_eq_left (by omega)]
theorem V32 {x : NV} : AP cfg 32 [x.av, .int .i64 3] = some (cutN x).av := by
  refine AP_ofz _ _ (fz_nv (cutN x)) (noV_nv _) (m := []) ?_
  have h1 : maxA false (.int .i64 x.ds.length) (.int .i64 3) = some (.int .i64 (min x.ds.length 3 : Nat)) := min_int _ 3
  have hs := sliceT_to (z := x.z) (o := x.o) (ds := x.ds) (k := .i64) (i := (min x.ds.length 3 : Nat)) (by omega) (by omega)
  rw [← NV.av, Int.toNat_natCast] at hs
  rw [T32, len_nv, Option.bind_some, h1, Option.bind_some, hs, Option.bind_some]
  have ht : x.ds.take (min x.ds.length 3) = x.ds.take 3 := by
    by_cases h : x.ds.length ≤ 3
    · rw [Nat.min_eq_left h, List.take_of_length_le (Nat.le_refl _), List.take_of_length_le h]
    · rw [Nat.min_eq_right (by omega)]
  rw [ht]
  rfl
/-- What a number of the input is. -/
structure XN (x : NV) : Prop where
  dg : Dg x.ds
  nil : x.z = true → x.ds = []
theorem cutN_ok {x : NV} (h : XN x) : NOk (cutN x) ∧ (cutN x).ds.length ≤ 3 := by
  have hl : (x.ds.take 3).length ≤ 3 := by rw [List.length_take]; omega
  refine ⟨⟨h.dg.take 3, ?_, ?_⟩, hl⟩
  · show (x.ds.take 3).length < 2 ^ 40
    omega
  · intro hz
    show x.ds.take 3 = []
    rw [h.nil hz]; rfl
structure XR (r : RV) : Prop where
  num : XN r.num
  den : XN r.den
  fr : r.fr = r
def cutR (r : RV) : RV := ⟨r.neg, cutN r.num, cutN r.den⟩
theorem cutR_fr (r : RV) : (cutR r).fr = cutR r := rfl
theorem cutR_ok {r : RV} (h : XR r) : ROk 3 (cutR r) := ⟨(cutN_ok h.num).1, (cutN_ok h.den).1, (cutN_ok h.num).2, (cutN_ok h.den).2⟩
structure XM (x : MV) : Prop where
  sh : x.lv.sh = some 3 ∨ x.lv.es = []
  z : x.lv.z = true → x.lv.es = []
  es : ∀ r ∈ x.lv.es, XR r

/-! ### few -/
def headL (l : LV) : LV := ⟨l.sh, l.z, .no, l.es.take 4000⟩
theorem index_lv' {l : LV} {k : Nat} {kk : IntKind} (h : l.sh = some 3 ∨ l.es = []) (hk : k < l.es.length) : indexAddrA (some 3) l.av (.int kk k) = some (.vptr (l.es[k].av).cells) := by
  have hs : l.sh = some 3 := h.resolve_right (fun e => by rw [e] at hk; simp at hk)
  simp [LV.av, indexAddrA, hs, hk]
theorem W13_3 {x : MV} (hx : XM x) (x1 : AV) (K : Ex → St → Option (AV × Mem)) : ∀ (j i : Nat) (m : Mem) (l : LV), i + j = (headL x.lv).es.length → m[0]? = some (cM x) → m[1]? = some (cM zM) → m[2]? = some (cM ⟨x.rows, x.cols, l⟩) → RowAt m l → l.es = ((headL x.lv).es.take i).map cutR →
    ∃ m' l', m'[0]? = some (cM x) ∧ m'[1]? = some (cM zM) ∧ m'[2]? = some (cM ⟨x.rows, x.cols, l'⟩) ∧ RowAt m' l' ∧ l'.es = (headL x.lv).es.map cutR ∧
      L13_3 x1 (.ptr 0 0) (.ptr 1 0) (.ptr 2 0) (headL x.lv).av (.int .i64 (headL x.lv).es.length) (.int .i64 i) m K = K (.exit 0) (O13_3 x1 (.ptr 0 0) (.ptr 1 0) (.ptr 2 0) m') := by
  have hlen : (headL x.lv).es.length ≤ 4000 := by
    show (x.lv.es.take 4000).length ≤ 4000
    rw [List.length_take]; omega
  have hsh : (headL x.lv).sh = some 3 ∨ (headL x.lv).es = [] := by
    rcases hx.sh with h | h
    · exact .inl h
    · right; show x.lv.es.take 4000 = []; rw [h]; rfl
  intro j
  induction j with
  | zero =>
    intro i m l hi h0 h1 h2 h3 h4
    refine ⟨m, l, h0, h1, h2, h3, by rw [h4, List.take_of_length_le (by omega)], ?_⟩
    rw [L13_3_eq, n_lss, Option.bind_some, ifA_dec, if_neg (by omega)]
  | succ j ih =>
    intro i m l hi h0 h1 h2 h3 h4
    have hil : i < (headL x.lv).es.length := by omega
    have hmem : (headL x.lv).es[i] ∈ x.lv.es := List.mem_of_mem_take (List.getElem_mem hil)
    have hr := hx.es _ hmem
    have hn1 : (headL x.lv).es[i].num.fr = (headL x.lv).es[i].num := congrArg RV.num hr.fr
    have hn2 : (headL x.lv).es[i].den.fr = (headL x.lv).es[i].den := congrArg RV.den hr.fr
    have kp := Kp.app m [cR (headL x.lv).es[i]]
    have hb := kp.2 2 true _ h2
    have hll : l.es.length < 5000 := by rw [h4]; simp; omega
    obtain ⟨l', m1, m2, p1, p2, p3, p4, p5, p6⟩ := push (r := cutR (headL x.lv).es[i]) hb (h3.app [cR (headL x.lv).es[i]]) hll
    have kq := kp.trans (Kp.app (m ++ [cR (headL x.lv).es[i]]) [some .resv])
    obtain ⟨m', l'', q0, q1, q2, q3, q4, q5⟩ := ih (i + 1) m2 l' (by omega) (p6.2 0 true _ (by omega) (kp.2 0 true _ h0)) (p6.2 1 true _ (by omega) (kp.2 1 true _ h1)) p4 p5 (by
      rw [p2]
      show l.es ++ _ = _
      rw [h4, List.take_succ_eq_append_getElem hil, List.map_append]; rfl)
    refine ⟨m', l'', q0, q1, q2, q3, q4, ?_⟩
    have g2 := kq.2 2 true _ h2
    have gr : ((m ++ [cR (headL x.lv).es[i]]) ++ [some Ent.resv])[m.length]? = some (cR (headL x.lv).es[i]) := by
      rw [List.getElem?_append_left (by simp)]; exact get_last
    have pcNI : ∀ (mm : Mem) (d : Option Nat) (g : Nat) (y : NV) (n : Int), pcall (AP cfg) d mm g [y.av, .int .i64 n] = (AP cfg g [y.fr.av, .int .i64 n]).map fun v => (v, mm) := fun mm d g y n => pcall2 (fz_nv y) (fz_int _ _)
    have hbld := bld012 (headL x.lv).es[i].neg (cutN (headL x.lv).es[i].num) (cutN (headL x.lv).es[i].den)
    rw [nil_av.symm] at hbld
    have hbs := build_row (cutR_fr (headL x.lv).es[i])
    rw [L13_3_eq, n_lss, Option.bind_some, ifA_dec, if_pos hil, index_lv' hsh hil, Option.bind_some, load_row, Option.bind_some, new_z', new_r, st_last, Option.bind_some, fld2, Option.bind_some]
    rw [res1] at p1 ⊢
    rw [mld2 g2, Option.bind_some, fld0, Option.bind_some, rld0 gr, Option.bind_some, fld1, Option.bind_some, rld1 gr, Option.bind_some, pcNI, hn1, V32, Option.map_some, Option.bind_some, fld2, Option.bind_some, rld2 gr, Option.bind_some, pcNI, hn2, V32, Option.map_some, Option.bind_some, hbld, Option.bind_some]
    rw [show RV.av ⟨(headL x.lv).es[i].neg, cutN (headL x.lv).es[i].num, cutN (headL x.lv).es[i].den⟩ = (cutR (headL x.lv).es[i]).av from rfl, hbs, Option.bind_some, p1, Option.bind_some, Option.bind_some, p3, Option.bind_some, i_add1 (by omega), Option.bind_some]
    exact q5
theorem slice_head (l : LV) (hs : l.sh = some 3 ∨ l.es = []) : sliceT (some 3) l.av none (some (.int .i64 (min l.es.length 4000 : Nat))) none = some (headL l).av := by
  have e1 : (l.es.map RV.av).take (min l.es.length 4000) = (l.es.take 4000).map RV.av := by
    rw [← List.map_take]
    congr 1
    by_cases h : l.es.length ≤ 4000
    · rw [Nat.min_eq_left h, List.take_of_length_le (Nat.le_refl _), List.take_of_length_le h]
    · rw [Nat.min_eq_right (by omega)]
  have e2 : l.sh = some 3 ∨ l.es.map RV.av = [] := hs.elim .inl (fun h => .inr (by rw [h]; rfl))
  have e3 : (0 : Int) ≤ (min l.es.length 4000 : Nat) := by omega
  have e4 : ((min l.es.length 4000 : Nat) : Int) ≤ (l.es.map RV.av).length := by rw [List.length_map]; omega
  simp only [sliceT, LV.av, if_pos e2, sliceA, boundA, e3, e4, and_self, if_true, Option.bind_some, Int.toNat_natCast, e1, List.drop_zero, headL]
end Go.Ab

/- Inputs cut to any size, in values. -/
set_option linter.unusedVariables false
set_option linter.unusedSimpArgs false
set_option maxRecDepth 100000
namespace Go.Ab
open Go.Proofs.Try

theorem idx_lt {m : Mem} {n : Nat} {e : Option Ent} (h : m[n]? = some e) : n < m.length := by
  apply Classical.byContradiction
  intro hc
  rw [List.getElem?_eq_none (by omega)] at h
  cases h
theorem app_mats {m : Mem} {l : LV} {k : Nat} {y : LV} (h : RowAt m l) (hk : m[k]? = some (some .resv)) (hy : y.sh = some 3 ∨ y.es = []) (hlen : (l.es.length + y.es.length) * 56 ≤ roomA) :
    ∃ l' m', appA (some k) false 43 (some 3) 56 m l.av y.av = some (l'.av, m') ∧ RowAt m' l' ∧ l'.es = l.es ++ y.es ∧ Kp m m' := by
  obtain ⟨shy, zy, oy, ys⟩ := y
  cases ys with
  | nil => exact ⟨l, m, rfl, h, by simp, Kp.refl m⟩
  | cons r ys =>
    obtain rfl : shy = some 3 := hy.resolve_right (fun e => by cases e)
    have hkl := idx_lt hk
    rcases h with rfl | ⟨h1, h2, h3, nm, h4, h5⟩
    · have hlen' : (ys.length + 1) * 56 ≤ roomA := by simpa [nilL] using hlen
      refine ⟨⟨some 3, false, .tok k 43, r :: ys⟩, m.set k (some (.tok (r :: ys).length 3)), ?_, .inr ⟨rfl, rfl, by simp, k, rfl, by rw [List.getElem?_set_self hkl]⟩, rfl, by simp, ?_⟩
      · simp [LV.av, nilL, appA, hlen', newAt, Sh.size]
      · intro n bx cs hn
        have hne : k ≠ n := fun e => by rw [← e, hk] at hn; cases hn
        rw [List.getElem?_set_ne hne]; exact hn
    · have hnl := idx_lt h5
      refine ⟨⟨some 3, false, .tok nm 43, l.es ++ r :: ys⟩, m.set nm (some (.tok (l.es.length + (r :: ys).length) 3)), ?_, .inr ⟨rfl, rfl, by simp, nm, rfl, by rw [List.getElem?_set_self hnl]; simp⟩, rfl, by simp, ?_⟩
      · obtain ⟨sh, z, o, es⟩ := l
        simp only at h1 h2 h4
        subst h1; subst h2; subst h4
        have hlen' : (es.length + (ys.length + 1)) * 56 ≤ roomA := by simpa using hlen
        simp [LV.av, appA, hlen', mget h5, Sh.size]
      · intro n bx cs hn
        have hne : nm ≠ n := fun e => by rw [← e, h5] at hn; cases hn
        rw [List.getElem?_set_ne hne]; exact hn
theorem pushs {m : Mem} {n : Nat} {y : MV} {ys : LV} (hb : m[n]? = some (cM y)) (hr : RowAt m y.lv) (hy : ys.sh = some 3 ∨ ys.es = []) (hlen : y.lv.es.length + ys.es.length < 9000) :
    ∃ l' m' m'', appA (some m.length) false 43 (some 3) 56 (m ++ [some .resv]) y.lv.av ys.av = some (l'.av, m') ∧ l'.es = y.lv.es ++ ys.es ∧ storeA none m' (.ptr n 2) l'.av = some m'' ∧ m''[n]? = some (cM ⟨y.rows, y.cols, l'⟩) ∧ RowAt m'' l' ∧ Kn n m m'' := by
  obtain ⟨l', m', h1, h2, h3, h4⟩ := app_mats (y := ys) (hr.app [some .resv]) (k := m.length) get_last hy (by simp only [roomA]; omega)
  have hk := (Kp.app m [some .resv]).trans h4
  have hb' := hk.2 n true _ hb
  refine ⟨l', m', _, h1, h3, mst2 hb', by rw [List.getElem?_set_self (idx_lt hb')], h2.set hb' _, ?_⟩
  refine ⟨by rw [List.length_set]; exact hk.1, fun p bx cs hp hh => ?_⟩
  rw [List.getElem?_set_ne (fun e => hp e.symm)]
  exact hk.2 p bx cs hh
theorem slice_lv {l : LV} {a b : Nat} (hs : l.sh = some 3 ∨ l.es = []) (h1 : a ≤ b) (h2 : b ≤ l.es.length) : sliceT (some 3) l.av (some (.int .i64 a)) (some (.int .i64 b)) none = some (LV.av ⟨l.sh, l.z, .no, (l.es.take b).drop a⟩) := by
  have e1 : ((l.es.map RV.av).take b).drop a = ((l.es.take b).drop a).map RV.av := by rw [List.map_drop, List.map_take]
  have e2 : l.sh = some 3 ∨ l.es.map RV.av = [] := hs.elim .inl (fun h => .inr (by rw [h]; rfl))
  have e3 : (0 : Int) ≤ (b : Nat) := by omega
  have e4 : ((b : Nat) : Int) ≤ (l.es.map RV.av).length := by rw [List.length_map]; omega
  have e5 : (0 : Int) ≤ (a : Nat) ∧ ((a : Nat) : Int) ≤ (b : Nat) := by omega
  simp only [sliceT, LV.av, if_pos e2, sliceA, boundA, e3, e4, e5, and_self, if_true, Option.bind_some, Int.toNat_natCast, e1]

/-- The first rows and columns. -/
def cutE (es : List RV) (cols C : Nat) : Nat → List RV
  | 0 => []
  | i + 1 => cutE es cols C i ++ (es.take (i * cols + C)).drop (i * cols)
theorem cutE_mem {es : List RV} {cols C : Nat} {r : RV} : ∀ {i : Nat}, r ∈ cutE es cols C i → r ∈ es
  | 0, h => by cases h
  | i + 1, h => by
    rcases List.mem_append.1 h with h | h
    · exact cutE_mem h
    · exact List.mem_of_mem_take (List.mem_of_mem_drop h)
theorem cutE_length {es : List RV} {cols C : Nat} (hC : C ≤ cols) : ∀ {i : Nat}, i * cols ≤ es.length → (cutE es cols C i).length = i * C
  | 0, h => by simp [cutE]
  | i + 1, h => by
    have e : (i + 1) * cols = i * cols + cols := Nat.succ_mul i cols
    rw [cutE, List.length_append, cutE_length hC (by omega), List.length_drop, List.length_take, Nat.min_eq_left (by omega), Nat.succ_mul]; omega
theorem rowAt_sh {m : Mem} {l : LV} (h : RowAt m l) : l.sh = some 3 ∨ l.es = [] := by
  rcases h with rfl | ⟨h1, _⟩
  · exact .inr rfl
  · exact .inl h1
theorem W13_11 {rows cols : Nat} {o : LV} {x0 : MV} {R C L : Nat} (hR : R ≤ rows) (hr : rows ≤ 60) (hC : C ≤ cols) (hc : cols ≤ 60) (hlen : o.es.length = rows * cols) (ho : o.sh = some 3 ∨ o.es = []) (hL : 3 ≤ L) (hx : x0.cols = cols)
    (K : Ex → St → Option (AV × Mem)) : ∀ (j i : Nat) (m : Mem) (l : LV), i + j = R → m[0]? = some (cM x0) → m[1]? = some (cM zM) → m[2]? = some (cM ⟨x0.rows, x0.cols, o⟩) → m[L]? = some (cM ⟨R, C, l⟩) → RowAt m l → l.es = cutE o.es cols C i →
    ∃ m' l', m'[1]? = some (cM zM) ∧ m'[L]? = some (cM ⟨R, C, l'⟩) ∧ RowAt m' l' ∧ l'.es = cutE o.es cols C R ∧
      L13_11 (.ptr 0 0) (.ptr 1 0) (.ptr 2 0) (.ptr L 0) (.int .i64 i) m K = K (.exit 2) (O13_11 (.ptr 1 0) (.ptr L 0) m') := by
  intro j
  induction j with
  | zero =>
    intro i m l hi h0 h1 h2 h3 h4 h5
    have hiR : i = R := by omega
    subst hiR
    refine ⟨m, l, h1, h3, h4, h5, ?_⟩
    rw [L13_11_eq, fld0, Option.bind_some, mld0 h3, Option.bind_some, n_lss, Option.bind_some, ifA_dec, if_neg (by omega)]
  | succ j ih =>
    intro i m l hi h0 h1 h2 h3 h4 h5
    have hiR : i < R := by omega
    have hb1 : i * cols + cols ≤ rows * cols := by
      rw [← Nat.succ_mul]
      exact Nat.mul_le_mul_right _ (by omega)
    have hb2 : rows * cols ≤ 3600 := Nat.mul_le_mul hr hc
    have hb3 : i * C ≤ i * cols := Nat.mul_le_mul_left _ hC
    have hll : l.es.length = i * C := by rw [h5, cutE_length hC (by omega)]
    have hsl : ((o.es.take (i * cols + C)).drop (i * cols)).length = C := by
      rw [List.length_drop, List.length_take, Nat.min_eq_left (by omega)]; omega
    obtain ⟨l', m1, m2, p1, p2, p3, p4, p5, p6⟩ := pushs (y := ⟨R, C, l⟩) (ys := ⟨o.sh, o.z, .no, (o.es.take (i * cols + C)).drop (i * cols)⟩) h3 h4 (by
      rcases ho with h | h
      · exact .inl h
      · right; show (o.es.take _).drop _ = []; rw [h]; simp) (by show l.es.length + ((o.es.take (i * cols + C)).drop (i * cols)).length < 9000; omega)
    obtain ⟨m', l'', q1, q2, q3, q4, q5⟩ := ih (i + 1) m2 l' (by omega) (p6.2 0 true _ (by omega) h0) (p6.2 1 true _ (by omega) h1) (p6.2 2 true _ (by omega) h2) p4 p5 (by rw [p2]; show l.es ++ _ = _; rw [h5]; rfl)
    refine ⟨m', l'', q1, q2, q3, q4, ?_⟩
    have kp := Kp.app m [some .resv]
    have g0 := kp.2 0 true _ h0
    have g2 := kp.2 2 true _ h2
    have g3 := kp.2 L true _ h3
    have mulc : binA .other .mul (.int .i64 (i : Nat)) (.int .i64 x0.cols) = some (.int .i64 (i * cols : Nat)) := by
      rw [hx, i_mul60 (by omega) (by omega) (by omega) (by omega), ← Int.natCast_mul]
    have addc : binA .other .add (.int .i64 (i * cols : Nat)) (.int .i64 (C : Nat)) = some (.int .i64 (i * cols + C : Nat)) := i_add (by omega)
    rw [L13_11_eq, fld0, Option.bind_some, mld0 h3, Option.bind_some, n_lss, Option.bind_some, ifA_dec, if_pos hiR, fld2, Option.bind_some, res1, mld2 g3, Option.bind_some, fld2, Option.bind_some, mld2 g2, Option.bind_some,
      fld1, Option.bind_some, mld1 g0, Option.bind_some, mulc, Option.bind_some, Option.bind_some, mld1 g0, Option.bind_some, mulc, Option.bind_some, fld1, Option.bind_some, mld1 g3, Option.bind_some, addc, Option.bind_some,
      slice_lv ho (by omega) (by omega), Option.bind_some, p1, Option.bind_some, Option.bind_some, p3, Option.bind_some, i_add1 (by omega), Option.bind_some]
    exact q5
/-- Cut to n rows and columns. -/
theorem V13 {x : MV} {n : Nat} (hn : n ≤ 60) (hx : XM x) (hfx : x.fr = x) : ∃ y : MV, AP cfg 13 [x.av, .int .i64 n] = some y.av ∧ LOk 3 y.lv ∧ y.lv.es.length ≤ 4000 ∧ y.fr = y ∧ (rightM y = true → y.rows = min x.rows n ∧ y.cols = min x.cols n) := by
  obtain ⟨m', l', q0, q1, q2, q3, q4, q5⟩ := W13_3 hx (.int .i64 n) (K13_3 (finK cfg.P f13.results.toList)) (headL x.lv).es.length 0 [cM x, cM zM, cM ⟨x.rows, x.cols, nilL⟩] nilL (by omega) rfl rfl rfl (.inl rfl) rfl
  have hlen : l'.es.length ≤ 4000 := by
    rw [q4, List.length_map]
    show (x.lv.es.take 4000).length ≤ 4000
    rw [List.length_take]; omega
  have hlo : LOk 3 l' := rowAt_lok q3 (by rw [q4]; intro r hr; obtain ⟨r', _, rfl⟩ := List.mem_map.1 hr; exact cutR_fr _) (by rw [q4]; intro r hr; obtain ⟨r', h', rfl⟩ := List.mem_map.1 hr; exact cutR_ok (hx.es r' (List.mem_of_mem_take h')))
  have hl1 : 1 < m'.length := by
    apply Classical.byContradiction
    intro hc
    rw [List.getElem?_eq_none (by omega)] at q1
    cases q1
  have e1 := V21 (x := (MV.mk x.rows x.cols l').fr) hlo.fr' (k := 3) (by omega) (by show l'.es.length < _; omega)
  have hrf : rightM (MV.mk x.rows x.cols l').fr = rightM ⟨x.rows, x.cols, l'⟩ := rfl
  rw [hrf] at e1
  have a1 : ([cM x, cM zM] : Mem)[0]? = some (cM x) := rfl
  have a2 : ([cM x, cM zM, cM zM] : Mem)[2]? = some (cM zM) := rfl
  have a3 : ([cM x, cM zM, cM ⟨x.rows, x.cols, nilL⟩] : Mem)[0]? = some (cM x) := rfl
  have hmin : maxA false (.int .i64 x.lv.es.length) (.int .i64 4000) = some (.int .i64 (min x.lv.es.length 4000 : Nat)) := min_int _ 4000
  have fin : ((loadA (some 3) m' (.ptr 2 0)).bind fun v4 => (storeA (some 3) m' (.ptr 1 0) v4).bind fun m5 => (loadA (some 3) m5 (.ptr 1 0)).bind fun v6 => some (v6, m5)) = some (MV.av ⟨x.rows, x.cols, l'⟩, m'.set 1 (cM ⟨x.rows, x.cols, l'⟩)) := by
    rw [mldA q2, Option.bind_some, mstA q1, Option.bind_some, mldA (by rw [List.getElem?_set_self hl1])]
    rfl
  have pre : AC cfg 13 [x.av, .int .i64 n] [] = K13_3 (finK cfg.P f13.results.toList) (.exit 0) (O13_3 (.int .i64 n) (.ptr 0 0) (.ptr 1 0) (.ptr 2 0) m') := by
    rw [T13]
    simp only [Option.bind_some, box_mv, new_m, new_r, fld0, fld1, fld2, List.length_nil, List.nil_append, List.length_cons, List.cons_append, Nat.zero_add, Nat.reduceAdd]
    rw [mld0 a1, Option.bind_some, mld1 a1, Option.bind_some, bldM01, Option.bind_some, mstA a2, Option.bind_some]
    simp only [List.set_cons_succ, List.set_cons_zero]
    rw [mld2 a3, Option.bind_some, Option.bind_some, len_lv, Option.bind_some, hmin, Option.bind_some, slice_head _ hx.sh, Option.bind_some, len_lv, Option.bind_some]
    refine Eq.trans ?_ q5
    rfl
  have out : ∀ (z : MV) (mm : Mem), K13_3 (finK cfg.P f13.results.toList) (.exit 0) (O13_3 (.int .i64 n) (.ptr 0 0) (.ptr 1 0) (.ptr 2 0) m') = some (z.av, mm) → AP cfg 13 [x.av, .int .i64 n] = some z.fr.av := fun z mm h => AP_ofz _ _ (fz_mv z) (noV_mv _) (pre.trans h)
  have outl := out ⟨x.rows, x.cols, l'⟩ (m'.set 1 (cM ⟨x.rows, x.cols, l'⟩))
  rw [K13_3_x0, mldA q2, Option.bind_some, pcM, e1, Option.map_some, Option.bind_some, not_b, Option.bind_some] at outl
  cases hb : rightM ⟨x.rows, x.cols, l'⟩ with
  | false =>
    rw [hb, Bool.not_false, ifA_true] at outl
    exact ⟨_, outl fin, hlo.fr', hlen, by simp only [MV.fr, rowAt_fr q3], fun h => absurd (hrf.symm.trans (by rw [hrf]; exact h) : rightM ⟨x.rows, x.cols, l'⟩ = true) (by rw [hb]; decide)⟩
  | true =>
    have hsz : sizeB ⟨x.rows, x.cols, l'⟩ = true := by unfold rightM at hb; rw [Bool.and_eq_true] at hb; exact hb.1
    unfold sizeB at hsz
    obtain ⟨z1, z2, z3, z4, z5⟩ := of_decide_eq_true hsz
    have z1 : 0 ≤ x.rows := z1
    have z2 : x.rows ≤ 60 := z2
    have z3 : 0 ≤ x.cols := z3
    have z4 : x.cols ≤ 60 := z4
    have z5 : (l'.es.length : Int) = x.rows * x.cols := z5
    obtain ⟨rr, hrr⟩ := Int.eq_ofNat_of_zero_le z1
    obtain ⟨cc, hcc⟩ := Int.eq_ofNat_of_zero_le z3
    rw [hb, Bool.not_true, ifA_false, fld0, Option.bind_some, mld0 q0, Option.bind_some, binA_leq, Option.bind_some, ifA_dec] at outl
    have hlen2 : l'.es.length = rr * cc := by
      rw [hrr, hcc] at z5
      rw [← Int.natCast_mul] at z5
      exact Int.ofNat_inj.1 z5
    have hL := idx_lt q2
    obtain ⟨m2, l2, w1, w2, w3, w4, w5⟩ := W13_11 (rows := rr) (cols := cc) (o := l') (x0 := x) (R := min rr n) (C := min cc n) (L := m'.length) (by omega) (by omega) (by omega) (by omega) hlen2 (rowAt_sh q3) (by omega) hcc (K13_11 (finK cfg.P f13.results.toList)) (min rr n) 0 (m' ++ [cM ⟨(min rr n : Nat), (min cc n : Nat), nilL⟩]) nilL (by omega)
      (by rw [List.getElem?_append_left (by omega)]; exact q0) (by rw [List.getElem?_append_left (by omega)]; exact q1) (by rw [List.getElem?_append_left (by omega)]; exact q2) get_last (.inl rfl) rfl
    have fin2 : (loadA none m' (.ptr 0 0)).bind (fun v17 => (maxA false v17 (.int .i64 n)).bind fun v18 => (fieldAddrA 1 (.ptr 0 0)).bind fun v19 => (loadA none m' v19).bind fun v20 => (maxA false v20 (.int .i64 n)).bind fun v21 => (buildA (.agg [(.int .i64 0), (.int .i64 0), (.lst none true .full [])]) [(0, none, v18), (1, none, v21)]).bind fun v22 =>
        (storeA (some 3) (newAt none m' (.obj true [(.int .i64 0), (.int .i64 0), (.lst none true .full [])])).2 (.ptr (newAt none m' .resv).1 0) v22).bind fun m23 => L13_11 (.ptr 0 0) (.ptr 1 0) (.ptr 2 0) (.ptr (newAt none m' .resv).1 0) (.int .i64 0) m23 (K13_11 (finK cfg.P f13.results.toList))) = some (MV.av ⟨(min rr n : Nat), (min cc n : Nat), l2⟩, m2.set 1 (cM ⟨(min rr n : Nat), (min cc n : Nat), l2⟩)) := by
      rw [mld0 q0, Option.bind_some, hrr, min_int, Option.bind_some, fld1, Option.bind_some, mld1 q0, Option.bind_some, hcc, min_int, Option.bind_some, bldM01, Option.bind_some, new_m, new_r]
      rw [mstA (x := zM) get_last, Option.bind_some]
      rw [show (m' ++ [cM zM]).set m'.length (cM ⟨(min rr n : Nat), (min cc n : Nat), nilL⟩) = m' ++ [cM ⟨(min rr n : Nat), (min cc n : Nat), nilL⟩] by simp]
      refine w5.trans ?_
      rw [K13_11_x2, mldA w2, Option.bind_some, mstA w1, Option.bind_some, mldA (by rw [List.getElem?_set_self (idx_lt w1)])]
      rfl
    have hlo2 : LOk 3 l2 := rowAt_lok w3 (by rw [w4]; intro r hr; exact hlo.fr r (cutE_mem hr)) (by rw [w4]; intro r hr; exact hlo.ok r (cutE_mem hr))
    have hlen3 : l2.es.length ≤ 4000 := by
      rw [w4, cutE_length (by omega) (by rw [hlen2]; exact Nat.mul_le_mul_right _ (by omega))]
      have : min rr n * min cc n ≤ 60 * 60 := Nat.mul_le_mul (by omega) (by omega)
      omega
    have done2 : ∀ {R : Prop}, (AP cfg 13 [x.av, .int .i64 n] = some (MV.fr ⟨(min rr n : Nat), (min cc n : Nat), l2⟩).av) → ∃ y : MV, AP cfg 13 [x.av, .int .i64 n] = some y.av ∧ LOk 3 y.lv ∧ y.lv.es.length ≤ 4000 ∧ y.fr = y ∧ (rightM y = true → y.rows = min x.rows n ∧ y.cols = min x.cols n) := by
      intro _ h
      refine ⟨_, h, hlo2.fr', hlen3, by simp only [MV.fr, rowAt_fr w3], fun _ => ⟨?_, ?_⟩⟩
      · show ((min rr n : Nat) : Int) = _; rw [hrr]; omega
      · show ((min cc n : Nat) : Int) = _; rw [hcc]; omega
    have outc := out ⟨(min rr n : Nat), (min cc n : Nat), l2⟩ (m2.set 1 (cM ⟨(min rr n : Nat), (min cc n : Nat), l2⟩))
    rw [K13_3_x0, mldA q2, Option.bind_some, pcM, e1, Option.map_some, Option.bind_some, not_b, Option.bind_some, hb, Bool.not_true, ifA_false, fld0, Option.bind_some, mld0 q0, Option.bind_some, binA_leq, Option.bind_some, ifA_dec] at outc
    by_cases d1 : x.rows ≤ n
    · rw [if_pos d1, fld1, Option.bind_some, mld1 q0, Option.bind_some, binA_leq, Option.bind_some, ifA_dec] at outl outc
      by_cases d2 : x.cols ≤ n
      · rw [if_pos d2] at outl
        exact ⟨_, outl fin, hlo.fr', hlen, by simp only [MV.fr, rowAt_fr q3], fun _ => ⟨by show x.rows = _; omega, by show x.cols = _; omega⟩⟩
      · rw [if_neg d2] at outc
        exact done2 (R := True) (outc fin2)
    · rw [if_neg d1] at outc
      exact done2 (R := True) (outc fin2)
end Go.Ab

/- Inputs made square, in values. -/
set_option linter.unusedVariables false
set_option linter.unusedSimpArgs false
set_option maxRecDepth 100000
namespace Go.Ab
open Go.Proofs.Try

theorem LOk.xm {x : MV} {k : Nat} (h : LOk k x.lv) : XM x :=
  ⟨h.sh, h.z, fun r hr => ⟨⟨(h.ok r hr).num.dg, (h.ok r hr).num.nil⟩, ⟨(h.ok r hr).den.dg, (h.ok r hr).den.nil⟩, h.fr r hr⟩⟩
theorem pcMI {m : Mem} {d : Option Nat} {g : Nat} (x : MV) (a : Int) : pcall (AP cfg) d m g [x.av, .int .i64 a] = (AP cfg g [x.fr.av, .int .i64 a]).map fun v => (v, m) := pcall2 (fz_mv x) (fz_int _ a)
theorem size_of_right {x : MV} (h : rightM x = true) : 0 ≤ x.rows ∧ x.rows ≤ 60 ∧ 0 ≤ x.cols ∧ x.cols ≤ 60 ∧ (x.lv.es.length : Int) = x.rows * x.cols := by
  unfold rightM at h
  rw [Bool.and_eq_true] at h
  exact of_decide_eq_true h.1
theorem V43 {x : MV} {n : Nat} (hn : n ≤ 60) (hx : XM x) (hfx : x.fr = x) : ∃ y : MV, AP cfg 43 [x.av, .int .i64 n] = some y.av ∧ LOk 3 y.lv ∧ y.lv.es.length ≤ 4000 ∧ y.fr = y ∧ (rightM y = true → y.rows = y.cols ∧ y.rows ≤ n) := by
  obtain ⟨y, y1, y2, y3, y4, y5⟩ := V13 hn hx hfx
  have e21 := V21 (x := y) y2 (k := 3) (by omega) (by omega)
  have out : ∀ (z : MV) (mm : Mem), AC cfg 43 [x.av, .int .i64 n] [] = some (z.av, mm) → AP cfg 43 [x.av, .int .i64 n] = some z.fr.av := fun z mm h => AP_ofz _ _ (fz_mv z) (noV_mv _) h
  have start : AC cfg 43 [x.av, .int .i64 n] [] = AC cfg 43 [x.av, .int .i64 n] [] := rfl
  conv at start => rhs; rw [T43, box_mv]
  simp only [Option.bind_some, new_m, new_r, List.length_nil, List.nil_append, List.length_cons, List.cons_append, Nat.zero_add] at start
  rw [mldA (x := x) rfl, Option.bind_some, pcMI, hfx, y1, Option.map_some, Option.bind_some, mstA (x := x) rfl, Option.bind_some] at start
  simp only [List.set_cons_zero] at start
  rw [mldA (x := y) rfl, Option.bind_some, pcM, y4, e21, Option.map_some, Option.bind_some, not_b, Option.bind_some] at start
  cases hb : rightM y with
  | false =>
    rw [hb, Bool.not_false, ifA_true, mldA (x := y) rfl, Option.bind_some, mstA (x := zM) rfl, Option.bind_some] at start
    simp only [List.set_cons_zero, List.set_cons_succ] at start
    rw [mldA (x := y) rfl, Option.bind_some] at start
    have := out _ _ start
    rw [y4] at this
    exact ⟨y, this, y2, y3, y4, fun h => by rw [hb] at h; cases h⟩
  | true =>
    obtain ⟨z1, z2, z3, z4, z5⟩ := size_of_right hb
    obtain ⟨y6, y7⟩ := y5 hb
    obtain ⟨rr, hrr⟩ := Int.eq_ofNat_of_zero_le z1
    obtain ⟨cc, hcc⟩ := Int.eq_ofNat_of_zero_le z3
    obtain ⟨u, u1, u2, u3, u4, u5⟩ := V13 (x := y) (n := min rr cc) (by omega) y2.xm y4
    rw [hb, Bool.not_true, ifA_false, mldA (x := y) rfl, Option.bind_some, fld0, Option.bind_some, mld0 (x := y) rfl, Option.bind_some, fld1, Option.bind_some, mld1 (x := y) rfl, Option.bind_some, hrr, hcc, min_int, Option.bind_some, pcMI, y4, u1, Option.map_some, Option.bind_some, mstA (x := zM) rfl, Option.bind_some] at start
    simp only [List.set_cons_zero, List.set_cons_succ] at start
    rw [mldA (x := u) rfl, Option.bind_some] at start
    have := out _ _ start
    rw [u4] at this
    refine ⟨u, this, u2, u3, u4, fun h => ?_⟩
    obtain ⟨u6, u7⟩ := u5 h
    rw [u6, u7]
    omega
end Go.Ab

/- Compare and Same of fractions, Same of matrices, in values. -/
set_option linter.unusedVariables false
set_option linter.unusedSimpArgs false
set_option maxRecDepth 100000
namespace Go.Ab
open Go.Proofs.Try

theorem sgn_nat (neg : Bool) (n : Nat) : sgn neg n = if neg then -(n : Int) else n := by cases neg <;> rfl
end Go.Ab

/- The program's ratio.Neg, Sub, Div, nat.Bits, matrix.weight, by value. -/
set_option linter.unusedVariables false
set_option linter.unusedSimpArgs false
set_option maxRecDepth 100000
namespace Go.Ab
open Go.Proofs.Try

theorem qOf_sc {s : Bool} {n d a : Nat} (ha : a ≠ 0) : qOf s (n * a) (d * a) = qOf s n d := by
  have := Rat.mkRat_mul_right (a := a) (n := sgn s n) (d := d) ha
  rw [qOf, qOf, ← this]
  congr 1
  cases s <;> simp [sgn, Int.natCast_mul, Int.neg_mul]
theorem qOf_div {s t : Bool} {n d k e : Nat} (h : qOf t k e ≠ 0) : qOf (s != t) (n * e) (d * k) = qOf s n d / qOf t k e := by
  have hk : k ≠ 0 := fun h0 => h (by rw [h0, qOf_num0])
  have he : e ≠ 0 := fun h0 => h (by rw [h0, qOf_den0])
  have h1 : qOf (s != t) (n * e) (d * k) * qOf t k e = qOf s n d := by
    rw [qOf_mul, show ((s != t) != t) = s by cases s <;> cases t <;> rfl, Nat.mul_assoc, Nat.mul_assoc, Nat.mul_comm k e]
    exact qOf_sc (Nat.mul_ne_zero he hk)
  rw [← h1]
  generalize qOf t k e = y at h
  grind
theorem Bd_neg {q : Rat} {k : Nat} (h : Bd k q) : Bd k (-q) := by
  refine ⟨?_, ?_⟩
  · have : (-q).num.natAbs = q.num.natAbs := by rw [Rat.neg_num, Int.natAbs_neg]
    rw [this]; exact h.1
  · have : (-q).den = q.den := Rat.neg_den q
    rw [this]; exact h.2
theorem Bd_sub {p q : Rat} {k l : Nat} (hp : Bd k p) (hq : Bd l q) (hk : 1 ≤ k) : Bd (k + l + 1) (p - q) := by
  rw [Rat.sub_eq_add_neg]; exact Bd_add hp (Bd_neg hq) hk
theorem Bd_div {p q : Rat} {k l : Nat} (hp : Bd k p) (hq : Bd l q) (hk : 1 ≤ k) (h0 : q ≠ 0) : Bd (k + l) (p / q) := by
  have e := qOf_div (s := decide (p.num < 0)) (t := decide (q.num < 0)) (n := p.num.natAbs) (d := p.den) (k := q.num.natAbs) (e := q.den) (by rw [qOf_self]; exact h0)
  rw [qOf_self, qOf_self] at e
  rw [← e]
  exact Bd_qOf (ln_mul hp.1 hq.2) (ln_mul hp.2 hq.1) (by omega)
theorem V89 {r : RV} {k : Nat} (h : ROk k r) : ∃ s : RV, AP cfg 89 [r.av] = some s.av ∧ Can s (- r.q) ∧ s.fr = s := by
  obtain ⟨s, h1, h2, h3⟩ := V106 (!r.neg) h.num.fr h.den.fr
  have e : qOf (!r.neg) r.num.fr.v r.den.fr.v = - r.q := by
    rw [qOf_negate]; rfl
  rw [e] at h2
  refine ⟨s, (AP_ofz _ _ (fz_rv s) (noV_rv _) (m := [cR r, cR s]) ?_).trans (by rw [h3]), h2, h3⟩
  rw [T89]
  simp only [Nat.reduceAdd, Option.bind_some, Option.map_some, box_rv, new_z, new_r, new_zs, new_rs, fld0, fld1, fld2, res1, res2, ld0neg, ld0num, ld0den, ld0all, st0all, st0neg, ld1neg, ld1num, ld1den, ld1all, st1all, st1neg, ld2neg, ld2num, ld2den, ld2all, st2all, st2neg, ld3neg, ld3num, ld3den, ld3all, st3all, st3neg, ld4neg, ld4num, ld4den, ld4all, st4all, st4neg, ex0, ex1, ex2, bld0, bld2, bld12, bld012, nil_av, not_b, bl_neq, bl_eql, List.length_cons, List.length_nil, List.length_append, List.nil_append, List.cons_append, List.append_nil, Nat.zero_add, List.set_cons_zero, List.set_cons_succ, List.set_nil, pcN, pcI, pcNN, pcBNN, pcR, pcRR, pc0, h1]
theorem V135 {a b : RV} {k : Nat} (ha : ROk k a) (hb : ROk k b) (hk1 : 1 ≤ k) (hk : k < 2 ^ 36) : ∃ s : RV, AP cfg 135 [a.av, b.av] = some s.av ∧ Can s (a.q - b.q) ∧ s.fr = s := by
  obtain ⟨n, e1, e2, e3⟩ := V89 hb.fr
  have hn : ROk k n := e2.ok (by rw [RV.fr_q]; exact Bd_neg (hb.bd hk1)) (by omega)
  obtain ⟨s, f1, f2, f3⟩ := V75 ha.fr hn hk1 hk
  rw [RV.fr_q, e2.q, RV.fr_q, ← Rat.sub_eq_add_neg] at f2
  have hnf : n.fr.av = n.av := by rw [e3]
  refine ⟨s, (AP_ofz _ _ (fz_rv s) (noV_rv _) (m := [cR a, cR b, cR s]) ?_).trans (by rw [f3]), f2, f3⟩
  rw [T135]
  simp only [Nat.reduceAdd, Option.bind_some, Option.map_some, box_rv, new_z, new_r, new_zs, new_rs, fld0, fld1, fld2, res1, res2, ld0neg, ld0num, ld0den, ld0all, st0all, st0neg, ld1neg, ld1num, ld1den, ld1all, st1all, st1neg, ld2neg, ld2num, ld2den, ld2all, st2all, st2neg, ld3neg, ld3num, ld3den, ld3all, st3all, st3neg, ld4neg, ld4num, ld4den, ld4all, st4all, st4neg, ex0, ex1, ex2, bld0, bld2, bld12, bld012, nil_av, not_b, bl_neq, bl_eql, List.length_cons, List.length_nil, List.length_append, List.nil_append, List.cons_append, List.append_nil, Nat.zero_add, List.set_cons_zero, List.set_cons_succ, List.set_nil, pcN, pcI, pcNN, pcBNN, pcR, pcRR, pc0, e1, hnf, f1]
theorem V122 {a b : RV} {k : Nat} (ha : ROk k a) (hb : ROk k b) (hk1 : 1 ≤ k) (hk : k < 2 ^ 36) (hb0 : b.q ≠ 0) : ∃ s : RV, AP cfg 122 [a.av, b.av] = some (.tup [s.av, .int .i64 0]) ∧ Can s (a.q / b.q) ∧ s.fr = s := by
  have hsb : signR b ≠ 0 := fun e => hb0 (signR_zero.1 e)
  have e2 := V105 hb.fr
  have s2 : signR b.fr = signR b := rfl
  rw [s2] at e2
  have g1 := V107 ha.num.fr hb.den.fr
  have g2 := V107 ha.den.fr hb.num.fr
  have v1 : a.num.fr.v = a.num.v := rfl
  have v2 : a.den.fr.v = a.den.v := rfl
  have v3 : b.num.fr.v = b.num.v := rfl
  have v4 : b.den.fr.v = b.den.v := rfl
  rw [v1, v4] at g1
  rw [v2, v3] at g2
  have ln := ln_mul (Nat.le_trans ha.num.v_len ha.ln) (Nat.le_trans hb.den.v_len hb.ld)
  have ld := ln_mul (Nat.le_trans ha.den.v_len ha.ld) (Nat.le_trans hb.num.v_len hb.ln)
  have on : NOk ⟨false, .no, digs (a.num.v * b.den.v)⟩ := nok_digs (by omega)
  have od : NOk ⟨false, .no, digs (a.den.v * b.num.v)⟩ := nok_digs (by omega)
  have nf : ∀ n : Nat, (NV.mk false .no (digs n)).fr = ⟨false, .no, digs n⟩ := fun _ => rfl
  have nv : ∀ n : Nat, (NV.mk false .no (digs n)).v = n := fun n => val_digs n
  obtain ⟨r, h1, h2, h3⟩ := V106 (a.neg != b.neg) on od
  have hq : qOf (a.neg != b.neg) (a.num.v * b.den.v) (a.den.v * b.num.v) = a.q / b.q := qOf_div hb0
  rw [nv, nv, hq] at h2
  refine ⟨r, (AP_ofz _ _ (fz_tupR2 r (fza_int _ _)) rfl (m := [cR a, cR b, cR r]) ?_).trans (by rw [h3]), h2, h3⟩
  rw [T122]
  simp only [Nat.reduceAdd, Option.bind_some, Option.map_some, box_rv, new_z, new_r, new_zs, new_rs, fld0, fld1, fld2, res1, res2, ld0neg, ld0num, ld0den, ld0all, st0all, st0neg, ld1neg, ld1num, ld1den, ld1all, st1all, st1neg, ld2neg, ld2num, ld2den, ld2all, st2all, st2neg, ld3neg, ld3num, ld3den, ld3all, st3all, st3neg, ld4neg, ld4num, ld4den, ld4all, st4all, st4neg, ex0, ex1, ex2, bld0, bld2, bld12, bld012, nil_av, not_b, bl_neq, bl_eql, List.length_cons, List.length_nil, List.length_append, List.nil_append, List.cons_append, List.append_nil, Nat.zero_add, List.set_cons_zero, List.set_cons_succ, List.set_nil, pcN, pcI, pcNN, pcBNN, pcR, pcRR, pc0, e2]
  rw [binA_eql, Option.bind_some, ifA_dec, if_neg hsb]
  simp only [Nat.reduceAdd, Option.bind_some, Option.map_some, box_rv, new_z, new_r, new_zs, new_rs, fld0, fld1, fld2, res1, res2, ld0neg, ld0num, ld0den, ld0all, st0all, st0neg, ld1neg, ld1num, ld1den, ld1all, st1all, st1neg, ld2neg, ld2num, ld2den, ld2all, st2all, st2neg, ld3neg, ld3num, ld3den, ld3all, st3all, st3neg, ld4neg, ld4num, ld4den, ld4all, st4all, st4neg, ex0, ex1, ex2, bld0, bld2, bld12, bld012, nil_av, not_b, bl_neq, bl_eql, List.length_cons, List.length_nil, List.length_append, List.nil_append, List.cons_append, List.append_nil, Nat.zero_add, List.set_cons_zero, List.set_cons_succ, List.set_nil, pcN, pcI, pcNN, pcBNN, pcR, pcRR, pc0, g1, g2, nf, h1]
theorem n_mulE {tk : TK} {a b : Nat} (h : a * b < 9223372036854775808) : binA tk .mul (.int .i64 a) (.int .i64 b) = some (.int .i64 (a * b : Nat)) := by
  rw [binA_mul, ← Int.natCast_mul]
  generalize a * b = q at *
  rw [wrap_i64 (by omega) (by omega)]
theorem V139 {x : NV} (hx : NOk x) : ∃ b : Nat, AP cfg 139 [x.av] = some (.int .i64 (b : Nat)) ∧ b ≤ 32 * (digs x.v).length + 32 := by
  have e1 := V124 hx.fr
  have hv : x.fr.v = x.v := rfl
  rw [hv] at e1
  have hl := hx.v_len
  have hx2 := hx.len
  have p1 : pcall (AP cfg) none ([] : Mem) 124 [x.av] = some (NV.av ⟨x.fr.z, .no, digs x.v⟩, []) := by rw [pcN, e1]; rfl
  by_cases h0 : (digs x.v).length = 0
  · refine ⟨0, AP_ofz _ _ (fz_int _ _) rfl (m := []) ?_, by omega⟩
    rw [T139, p1, Option.bind_some]
    show (lenA false (NV.av ⟨x.fr.z, .no, digs x.v⟩)).bind _ = _
    rw [len_nv, Option.bind_some, show (NV.mk x.fr.z Own.no (digs x.v)).ds.length = 0 from h0, binA_eql, Option.bind_some, ifA_dec, if_pos (by decide)]; rfl
  · have hn0 : x.v ≠ 0 := fun e => h0 (by rw [e, digs_zero]; rfl)
    have hd := digs_last hn0
    have hlt : (digs x.v).getD ((digs x.v).length - 1) 0 < 4294967296 := dg_digs x.v _
    have e2 := V140 (x := (digs x.v).getD ((digs x.v).length - 1) 0) (by omega) hlt
    have hlg : Nat.log2 ((digs x.v).getD ((digs x.v).length - 1) 0) < 32 := (Nat.log2_lt (by omega)).2 hlt
    have ix := index_nv (x := ⟨x.fr.z, .no, digs x.v⟩) (k := .i64) (i := (digs x.v).length - 1) (by show _ < (digs x.v).length; omega)
    have ix : indexAddrA none (NV.av ⟨x.fr.z, .no, digs x.v⟩) (.int .i64 ((digs x.v).length - 1 : Nat)) = some (.vptr [dg ((digs x.v).getD ((digs x.v).length - 1) 0)]) := ix
    generalize (digs x.v).getD ((digs x.v).length - 1) 0 = d at *
    have hlen : lenA false (NV.av ⟨x.fr.z, .no, digs x.v⟩) = some (.int .i64 ((digs x.v).length : Nat)) := len_nv _
    have p2 : pcall (AP cfg) none ([] : Mem) 140 [dg d] = some (.int .i64 (Nat.log2 d + 1 : Nat), []) := by rw [pcall1 (a := dg d) (a' := dg d) (fz_int .u32 d), e2]; rfl
    refine ⟨32 * ((digs x.v).length - 1) + (Nat.log2 d + 1), AP_ofz _ _ (fz_int _ _) rfl (m := []) ?_, by omega⟩
    rw [T139, p1, Option.bind_some]
    dsimp only
    rw [hlen, Option.bind_some, binA_eql, Option.bind_some, ifA_dec, if_neg (by omega), Option.bind_some, i_sub1 (by omega) (by omega), Option.bind_some, show (AV.int .i64 32) = .int .i64 ((32 : Nat) : Int) from rfl, n_mulE (by omega), Option.bind_some, Option.bind_some, i_sub1 (by omega) (by omega), Option.bind_some, ix, Option.bind_some, loadA_one, Option.bind_some, p2, Option.bind_some]
    dsimp only
    rw [i_add (by omega), Option.bind_some]
theorem V134 {r : RV} {k : Nat} (h : ROk k r) (hk : k < 2 ^ 40) : ∃ w : Nat, AP cfg 134 [r.av] = some (.int .i64 (w : Nat)) ∧ w ≤ 64 * k + 64 := by
  obtain ⟨a, e1, h1⟩ := V139 h.num.fr
  obtain ⟨b, e2, h2⟩ := V139 h.den.fr
  have hv1 : r.num.fr.v = r.num.v := rfl
  have hv2 : r.den.fr.v = r.den.v := rfl
  rw [hv1] at h1
  rw [hv2] at h2
  have l1 := Nat.le_trans h.num.v_len h.ln
  have l2 := Nat.le_trans h.den.v_len h.ld
  refine ⟨a + b, AP_ofz _ _ (fz_int _ _) rfl (m := [cR r]) ?_, by omega⟩
  rw [T134]
  simp only [Nat.reduceAdd, Option.bind_some, Option.map_some, box_rv, new_z, new_r, new_zs, new_rs, fld0, fld1, fld2, res1, res2, ld0neg, ld0num, ld0den, ld0all, st0all, st0neg, ld1neg, ld1num, ld1den, ld1all, st1all, st1neg, ld2neg, ld2num, ld2den, ld2all, st2all, st2neg, ld3neg, ld3num, ld3den, ld3all, st3all, st3neg, ld4neg, ld4num, ld4den, ld4all, st4all, st4neg, ex0, ex1, ex2, bld0, bld2, bld12, bld012, nil_av, not_b, bl_neq, bl_eql, List.length_cons, List.length_nil, List.length_append, List.nil_append, List.cons_append, List.append_nil, Nat.zero_add, List.set_cons_zero, List.set_cons_succ, List.set_nil, pcN, pcI, pcNN, pcBNN, pcR, pcRR, pc0, e1, e2]
  rw [i_add (by omega), Option.bind_some]
end Go.Ab

/- Cells of matrices by index. -/
set_option linter.unusedVariables false
set_option linter.unusedSimpArgs false
set_option maxRecDepth 100000
namespace Go.Ab
open Go.Proofs.Try

theorem cellsF_get (F : Nat → Nat → RV) (cols : Nat) : ∀ (i p : Nat), p < i * cols → (cellsF F cols i)[p]? = some (F (p / cols) (p % cols))
  | 0, p, h => by simp at h
  | i + 1, p, h => by
    rw [Nat.succ_mul] at h
    unfold cellsF
    by_cases hp : p < i * cols
    · rw [List.getElem?_append_left (by rw [cellsF_length]; exact hp)]
      exact cellsF_get F cols i p hp
    · have hb : p - i * cols < cols := by omega
      have h1 : p = (p - i * cols) + cols * i := by rw [Nat.mul_comm cols i]; omega
      have h2 : p / cols = i := by rw [h1, Nat.add_mul_div_left _ _ (by omega), Nat.div_eq_of_lt hb, Nat.zero_add]
      have h3 : p % cols = p - i * cols := by rw [h1, Nat.add_mul_mod_self_left, Nat.mod_eq_of_lt hb, ← h1]
      rw [List.getElem?_append_right (by rw [cellsF_length]; omega), cellsF_length, h2, h3]
      unfold rowF
      rw [List.getElem?_map, List.getElem?_range hb]
      rfl
theorem sameM_of {x y : MV} (h1 : x.rows = y.rows) (h2 : x.cols = y.cols) (h3 : x.lv.es.map RV.q = y.lv.es.map RV.q) : sameM x y = true := by
  unfold sameM
  rw [decide_eq_true h1, decide_eq_true h2, decide_eq_true h3]; rfl
theorem sameM_refl (x : MV) : sameM x x = true := sameM_of rfl rfl rfl
end Go.Ab

/- The sum, the multiple and the transpose of matrices, in values. -/
set_option linter.unusedVariables false
set_option linter.unusedSimpArgs false
set_option maxRecDepth 100000
namespace Go.Ab
open Go.Proofs.Try

def qAt (x : MV) (p : Nat) : Rat := (x.lv.es.map RV.q).getD p 0
theorem qAt_get {x : MV} {p : Nat} (h : p < x.lv.es.length) : qAt x p = x.lv.es[p].q := by
  unfold qAt
  rw [List.getD_eq_getElem?_getD, List.getElem?_map, List.getElem?_eq_getElem h]; rfl
theorem sameM_ext {x y : MV} (h1 : x.rows = y.rows) (h2 : x.cols = y.cols) (hl : x.lv.es.length = y.lv.es.length) (h : ∀ p, p < x.lv.es.length → qAt x p = qAt y p) : sameM x y = true := by
  refine sameM_of h1 h2 (List.ext_getElem? fun p => ?_)
  rw [List.getElem?_map, List.getElem?_map]
  by_cases hp : p < x.lv.es.length
  · have := h p hp
    rw [qAt_get hp, qAt_get (by omega)] at this
    rw [List.getElem?_eq_getElem hp, List.getElem?_eq_getElem (by omega), Option.map_some, Option.map_some, this]
  · rw [List.getElem?_eq_none (by omega), List.getElem?_eq_none (by omega)]
/-- What an operation on matrices returns: an error and no matrix, or a matrix by its cells. -/
structure Res (z : MV) (e err : Int) (R C : Nat) (Q : Nat → Rat) (k : Nat) : Prop where
  fr : z.fr = z
  ok : LOk k z.lv
  e : e = err
  bad : err ≠ 0 → z = zM
  rows : err = 0 → z.rows = R
  cols : err = 0 → z.cols = C
  len : err = 0 → z.lv.es.length = R * C
  q : err = 0 → ∀ p, p < R * C → qAt z p = Q p
theorem Res.same {z z' : MV} {e e' err : Int} {R C k k' : Nat} {Q : Nat → Rat} (h : Res z e err R C Q k) (h' : Res z' e' err R C Q k') : e = e' ∧ sameM z z' = true := by
  refine ⟨h.e.trans h'.e.symm, ?_⟩
  by_cases h0 : err = 0
  · exact sameM_ext ((h.rows h0).trans (h'.rows h0).symm) ((h.cols h0).trans (h'.cols h0).symm) ((h.len h0).trans (h'.len h0).symm) (fun p hp => by
      rw [h.len h0] at hp
      rw [h.q h0 p hp, h'.q h0 p hp])
  · rw [h.bad h0, h'.bad h0]
    exact sameM_refl _
theorem Res.bad' {err : Int} {R C k : Nat} {Q : Nat → Rat} (h : err ≠ 0) : Res zM err err R C Q k :=
  ⟨rfl, zM_ok k, rfl, fun _ => rfl, fun h0 => absurd h0 h, fun h0 => absurd h0 h, fun h0 => absurd h0 h, fun h0 => absurd h0 h⟩

/-! ### Boxes handed to a closure -/
def vM (x : MV) : AV := .vptr [.int .i64 x.rows, .int .i64 x.cols, x.lv.av]
theorem frz_ptrM {m : Mem} {n : Nat} {x : MV} (h : m[n]? = some (cM x)) : frz m 8 (.ptr n 0) = some (vM x.fr, []) := by
  have e : frz m 8 (.ptr n 0) = (m.obj? n).bind fun o => if o.1 then (mapF (frz m 7) (o.2.drop 0)).map fun r => (.vptr r.1, r.2) else none := rfl
  rw [e, mobj h]
  simp [mapF, fza_int .i64 x.rows m 6, fza_int .i64 x.cols m 6, fza_lst x.lv.sh x.lv.z x.lv.o (x.lv.es.map RV.av) m 6, MV.fr, LV.fr, LV.av, vM]
theorem pcFill2 {m : Mem} {g : Nat} {a b c d : AV} (k : IntKind) (k' : IntKind) (i j : Int) (ha : frz m 8 a = some (c, [])) (hb : frz m 8 b = some (d, [])) : pcall (AP cfg) none m 58 [.int k i, .int k' j, .fn g [a, b]] = (AP cfg 58 [.int k i, .int k' j, .fn g [c, d]]).map fun v => (v, m) := by
  have e : frz m fuelF (.fn g [a, b]) = some (.fn g [c, d], []) := by
    have e' : frz m fuelF (.fn g [a, b]) = (mapF (frz m 8) [a, b]).map fun r => (.fn g r.1, r.2) := rfl
    rw [e']; simp [mapF, ha, hb]
  simp [pcall, mapF, kill, fz_int k i m, fz_int k' j m, e]
theorem pcFill1 {m : Mem} {g : Nat} {a c : AV} (k : IntKind) (k' : IntKind) (i j : Int) (ha : frz m 8 a = some (c, [])) : pcall (AP cfg) none m 58 [.int k i, .int k' j, .fn g [a]] = (AP cfg 58 [.int k i, .int k' j, .fn g [c]]).map fun v => (v, m) := by
  have e : frz m fuelF (.fn g [a]) = some (.fn g [c], []) := by
    have e' : frz m fuelF (.fn g [a]) = (mapF (frz m 8) [a]).map fun r => (.fn g r.1, r.2) := rfl
    rw [e']; simp [mapF, ha]
  simp [pcall, mapF, kill, fz_int k i m, fz_int k' j m, e]
theorem frz_vM {x : MV} (h : x.fr = x) (m : Mem) (k : Nat) : frz m (k + 2) (vM x) = some (vM x, []) := by
  have e : frz m (k + 2) (vM x) = (mapF (frz m (k + 1)) [.int .i64 x.rows, .int .i64 x.cols, x.lv.av]).map fun r => (.vptr r.1, r.2) := rfl
  rw [e]
  have hl : x.lv.fr.av = x.lv.av := by rw [show x.lv.fr = x.lv from congrArg MV.lv h]
  have hl' : AV.lst x.lv.sh x.lv.z x.lv.o.fr (x.lv.es.map RV.av) = x.lv.av := hl
  simp [mapF, fza_int .i64 x.rows m k, fza_int .i64 x.cols m k, LV.av, fza_lst x.lv.sh x.lv.z x.lv.o (x.lv.es.map RV.av) m k, vM]
  exact congrArg (fun y : MV => y.lv.o) h
theorem csz2 {a b : AV} (ha : ∀ m k, frz m (k + 2) a = some (a, [])) (hb : ∀ m k, frz m (k + 2) b = some (b, [])) : ∀ m, mapF (frz m fuelF) [a, b] = some ([a, b], []) := fun m => by
  have e1 : frz m fuelF a = some (a, []) := ha m 7
  have e2 : frz m fuelF b = some (b, []) := hb m 7
  simp [mapF, e1, e2]
theorem csz1 {a : AV} (ha : ∀ m k, frz m (k + 2) a = some (a, [])) : ∀ m, mapF (frz m fuelF) [a] = some ([a], []) := fun m => by
  have e1 : frz m fuelF a = some (a, []) := ha m 7
  simp [mapF, e1]

/-! ### The closures -/
theorem vMf1 (x : MV) : fieldAddrA 1 (vM x) = some (.vptr [.int .i64 x.cols, x.lv.av]) := rfl
theorem vMf2 (x : MV) : fieldAddrA 2 (vM x) = some (.vptr [x.lv.av]) := rfl
theorem vMl1 (x : MV) (m : Mem) : loadA none m (.vptr [.int .i64 x.cols, x.lv.av]) = some (.int .i64 x.cols) := rfl
theorem vMl2 (x : MV) (m : Mem) : loadA none m (.vptr [x.lv.av]) = some x.lv.av := rfl
theorem at_cell {i j c : Nat} (hi : i ≤ 60) (hc : c ≤ 60) (hj : j ≤ 60) : binA .other .mul (.int .i64 i) (.int .i64 c) = some (.int .i64 (i * c : Nat)) ∧ binA .other .add (.int .i64 (i * c : Nat)) (.int .i64 j) = some (.int .i64 (i * c + j : Nat)) := by
  have : i * c ≤ 60 * 60 := Nat.mul_le_mul hi hc
  refine ⟨?_, i_add (by omega)⟩
  rw [i_mul60 (by omega) (by omega) (by omega) (by omega), ← Int.natCast_mul]
theorem V79 {x : MV} {k i j c : Nat} (hx : LOk k x.lv) (hc : x.cols = c) (hi : i ≤ 60) (hj : j ≤ 60) (hc6 : c ≤ 60) (h1 : j * c + i < x.lv.es.length) :
    AP cfg 79 [.int .i64 i, .int .i64 j, vM x] = some (copyR x.lv.es[j * c + i]).av := by
  obtain ⟨a1, a2⟩ := at_cell hj hc6 hi
  have e := V67 (hx.ok _ (List.getElem_mem h1))
  have f1 := hx.fr _ (List.getElem_mem h1)
  refine (AP_ofz _ _ (fz_rv (copyR x.lv.es[j * c + i])) (noV_rv _) (m := [cR (copyR x.lv.es[j * c + i])]) ?_).trans (by rw [copyR_fr])
  rw [T79]
  simp only [new_z', new_r, List.length_nil, List.nil_append]
  rw [vMf2, Option.bind_some, vMl2, Option.bind_some, vMf1, Option.bind_some, vMl1, Option.bind_some, hc, a1, Option.bind_some, a2, Option.bind_some, index_lv hx h1, Option.bind_some, load_row, Option.bind_some, pcR, f1, e, Option.map_some, Option.bind_some, rstA (x := zR) rfl, Option.bind_some]
  simp only [List.set_cons_zero]
  rw [rldA (x := copyR x.lv.es[j * c + i]) rfl]
  rfl
end Go.Ab

/- Add, Scale and Transpose of matrices, in values. -/
set_option linter.unusedVariables false
set_option linter.unusedSimpArgs false
set_option maxRecDepth 100000
namespace Go.Ab
open Go.Proofs.Try

/-- A matrix as an argument. -/
structure IsM (k : Nat) (x : MV) : Prop where
  ok : LOk k x.lv
  fr : x.fr = x
  len : x.lv.es.length ≤ 4000
theorem retM2 {f : Nat} {args : List AV} {z : MV} {e : Int} {mm : Mem} (h : AC cfg f args [] = some (.tup [z.av, .int .i64 e], mm)) (hz : z.fr = z) : AP cfg f args = some (.tup [z.av, .int .i64 e]) :=
  (AP_ofz _ _ (fz_tupM2 z (fza_int _ _)) rfl h).trans (by rw [hz])
theorem qAt_bd {x : MV} {k p : Nat} (h : LOk k x.lv) (hk : 1 ≤ k) : Bd k (qAt x p) := by
  by_cases hp : p < x.lv.es.length
  · rw [qAt_get hp]
    exact (h.ok _ (List.getElem_mem hp)).bd hk
  · unfold qAt
    rw [List.getD_eq_getElem?_getD, List.getElem?_map, List.getElem?_eq_none (by omega)]
    exact Bd_zero hk
theorem choose2 {P : Nat → Nat → RV → Prop} {rows cols : Nat} (h : ∀ i j, i < rows → j < cols → ∃ s, P i j s) : ∃ F : Nat → Nat → RV, ∀ i j, i < rows → j < cols → P i j (F i j) := by
  have h' : ∀ i, ∃ f : Nat → RV, ∀ j, i < rows → j < cols → P i j (f j) := by
    intro i
    have : ∀ j, ∃ s, i < rows → j < cols → P i j s := by
      intro j
      by_cases hc : i < rows ∧ j < cols
      · obtain ⟨s, hs⟩ := h i j hc.1 hc.2
        exact ⟨s, fun _ _ => hs⟩
      · exact ⟨zeroR, fun h1 h2 => absurd ⟨h1, h2⟩ hc⟩
    obtain ⟨f, hf⟩ := Classical.axiomOfChoice this
    exact ⟨f, hf⟩
  obtain ⟨F, hF⟩ := Classical.axiomOfChoice h'
  exact ⟨F, fun i j => hF i j⟩
/-- A matrix filled by a closure whose values are known. -/
theorem fillP {g : Nat} {cs : List AV} {rows cols k : Nat} {Q : Nat → Nat → Rat} {P : RV → Prop} (hi : cfg.inl 58 g = false ∧ cfg.lib g = none) (hcs : ∀ m, mapF (frz m fuelF) cs = some (cs, [])) (hr : rows ≤ 60) (hc : cols ≤ 60)
    (h : ∀ i j, i < rows → j < cols → ∃ s : RV, AP cfg g ([.int .i64 i, .int .i64 j] ++ cs) = some s.av ∧ s.q = Q i j ∧ ROk k s ∧ s.fr = s ∧ P s) :
    ∃ y : MV, AP cfg 58 [.int .i64 rows, .int .i64 cols, .fn g cs] = some y.av ∧ y.rows = rows ∧ y.cols = cols ∧ y.lv.es.length = rows * cols ∧ (∀ p, p < rows * cols → qAt y p = Q (p / cols) (p % cols)) ∧ LOk k y.lv ∧ y.fr = y ∧ ∀ r ∈ y.lv.es, P r := by
  obtain ⟨F, hF⟩ := choose2 h
  obtain ⟨y, f1, f2, f3, f4, f5, f6⟩ := V58 (F := F) ⟨hi.1, hi.2, hcs, fun i j h1 h2 => (hF i j h1 h2).1, fun i j h1 h2 => (hF i j h1 h2).2.2.2.1, fun i j h1 h2 => (hF i j h1 h2).2.2.1⟩ hr hc
  refine ⟨y, f1, f2, f3, by rw [f4, cellsF_length], fun p hp => ?_, f5, f6, fun r hr => ?_⟩
  · have hcp : 0 < cols := by
      rcases Nat.eq_zero_or_pos cols with h0 | h0
      · rw [h0, Nat.mul_zero] at hp; omega
      · exact h0
    have h1 : p / cols < rows := Nat.div_lt_of_lt_mul (by rw [Nat.mul_comm]; exact hp)
    have h2 : p % cols < cols := Nat.mod_lt _ hcp
    unfold qAt
    rw [List.getD_eq_getElem?_getD, List.getElem?_map, f4, cellsF_get _ _ _ _ hp]
    exact (hF _ _ h1 h2).2.1
  · rw [f4] at hr
    obtain ⟨a, b, h1, h2, rfl⟩ := cellsF_mem hr
    exact (hF a b h1 h2).2.2.2.2
theorem div_mod_mul (p c : Nat) : p / c * c + p % c = p := by rw [Nat.mul_comm]; exact Nat.div_add_mod p c

/-! ### Add -/
theorem cell_lt60 {i j r c : Nat} (hi : i < r) (hj : j < c) : i * c + j < r * c := by
  have : (i + 1) * c ≤ r * c := Nat.mul_le_mul_right _ hi
  rw [Nat.succ_mul] at this
  omega
/-! ### Scale -/
/-! ### Transpose -/
end Go.Ab

/- What the interpreter does, function by function. -/
set_option maxRecDepth 100000
set_option linter.unusedVariables false
namespace Go.Ab
open Go.Proofs.Try
/-! ### sortilege/sortilegeref19.Add -/
/-! ### sortilege/sortilegeref19.Scale -/
/-! ### sortilege/sortilegeref19.Transpose -/
/-! ### sortilege/sortilegeref19.Mul -/
/-! ### sortilege/sortilegeref19.Power -/
/-! ### sortilege/sortilegeref19.times -/
end Go.Ab

/- The reference's Add, Scale and Transpose, in values. -/
set_option linter.unusedVariables false
set_option linter.unusedSimpArgs false
set_option maxRecDepth 100000
namespace Go.Ab
open Go.Proofs.Try

/-! ### A row that is written to, and the matrix that bears it -/
def cA (es : List RV) : Option Ent := some (.obj false (flatR es))
def cB (rows cols : Int) (nR L : Nat) : Option Ent := some (.obj true [.int .i64 rows, .int .i64 cols, .arr nR 0 L (some 3)])
theorem arr_index {nR L p : Nat} (h : p < L) : indexAddrA (some 3) (.arr nR 0 L (some 3)) (.int .i64 p) = some (.ptr nR (p * 3)) := by
  simp only [indexAddrA, if_true]
  rw [if_pos ⟨by omega, by omega⟩, Int.toNat_natCast, Nat.zero_add]; rfl
theorem atom_lst {o : Own} (h : o.fr = o) (sh : Sh) (z : Bool) (es : List AV) : atomOk (.lst sh z o es) = true := by
  cases o <;> first | rfl | (simp [Own.fr] at h)
theorem sh_fr {r : RV} (h : r.fr = r) : shOk (some 3) r.av = true := by
  obtain ⟨n, ⟨z1, o1, d1⟩, ⟨z2, o2, d2⟩⟩ := r
  simp only [RV.fr, NV.fr, RV.mk.injEq, NV.mk.injEq, true_and, and_true] at h
  have h1 := atom_lst h.1 none z1 (d1.map dg)
  have h2 := atom_lst h.2 none z2 (d2.map dg)
  show (true && (true && (atomOk (.lst none z1 o1 (d1.map dg)) && (atomOk (.lst none z2 o2 (d2.map dg)) && true)))) = true
  rw [h1, h2]; rfl
theorem arr_store {m : Mem} {nR p : Nat} {es : List RV} {r : RV} (hm : m[nR]? = some (cA es)) (hp : p < es.length) (hf : r.fr = r) : storeA (some 3) m (.ptr nR (p * 3)) r.av = some (m.set nR (cA (es.set p r))) := by
  have hl := flatR_length es
  simp only [storeA, mobj hm, Option.bind_some, sh_fr hf, if_true]
  rw [if_pos (by rw [hl]; simp only [Sh.size]; omega), putAt_flat _ _ _ hp]
  rfl
theorem flatR_drop : ∀ (es : List RV) (p : Nat) (h : p < es.length), ((flatR es).drop (p * 3)).take 3 = [.bool es[p].neg, es[p].num.av, es[p].den.av]
  | r :: es, 0, h => rfl
  | r :: es, p + 1, h => by
    have e : (p + 1) * 3 = p * 3 + 1 + 1 + 1 := by omega
    show ((_ :: _ :: _ :: flatR es).drop ((p + 1) * 3)).take 3 = _
    rw [e, List.drop_succ_cons, List.drop_succ_cons, List.drop_succ_cons, flatR_drop es p (by simpa using h)]
    rfl
theorem arr_load {m : Mem} {nR p : Nat} {es : List RV} (hm : m[nR]? = some (cA es)) (hp : p < es.length) : loadA (some 3) m (.ptr nR (p * 3)) = some es[p].av := by
  have hl := flatR_length es
  have e := flatR_drop es p hp
  simp only [loadA, mobj hm, Option.bind_some, cutSh]
  rw [if_pos (by rw [hl]; omega), e]
  rfl
/-- What is known of a row that is being written: all fractions are sound, the first have their values. -/
structure Wr (es : List RV) (L k : Nat) (Q : Nat → Rat) (done : Nat → Prop) : Prop where
  len : es.length = L
  fr : ∀ r ∈ es, r.fr = r
  ok : ∀ r ∈ es, ROk k r
  q : ∀ p, p < L → done p → (es.map RV.q).getD p 0 = Q p
theorem Wr.set {es : List RV} {L k : Nat} {Q : Nat → Rat} {done done' : Nat → Prop} (h : Wr es L k Q done) {p : Nat} {r : RV} (hp : p < L) (hq : done' p → r.q = Q p) (hf : r.fr = r) (hr : ROk k r) (hd : ∀ p', p' ≠ p → done' p' → done p') : Wr (es.set p r) L k Q done' where
  len := by rw [List.length_set]; exact h.len
  fr s hs := by
    rcases List.mem_or_eq_of_mem_set hs with hs | rfl
    · exact h.fr s hs
    · exact hf
  ok s hs := by
    rcases List.mem_or_eq_of_mem_set hs with hs | rfl
    · exact h.ok s hs
    · exact hr
  q p' hp' hd' := by
    by_cases e : p = p'
    · subst e
      rw [List.getD_eq_getElem?_getD, List.getElem?_map, List.getElem?_set_self (by rw [h.len]; exact hp)]
      exact hq hd'
    · rw [List.getD_eq_getElem?_getD, List.getElem?_map, List.getElem?_set_ne e, ← List.getElem?_map, ← List.getD_eq_getElem?_getD]
      exact h.q p' hp' (hd p' (fun e' => e e'.symm) hd')
theorem Wr.zero (L k : Nat) (Q : Nat → Rat) (hk : 1 ≤ k) : Wr (List.replicate L zeroF) L k Q (fun _ => False) :=
  ⟨List.length_replicate, fun r hr => by rw [(List.mem_replicate.1 hr).2]; exact zeroF_fr, fun r hr => by rw [(List.mem_replicate.1 hr).2]; exact zeroF_ok.mono hk, fun _ _ h => h.elim⟩
theorem Wr.mono {es : List RV} {L k : Nat} {Q : Nat → Rat} {done done' : Nat → Prop} (h : Wr es L k Q done) (hd : ∀ p, p < L → done' p → done p) : Wr es L k Q done' := ⟨h.len, h.fr, h.ok, fun p hp hd' => h.q p hp (hd p hp hd')⟩
theorem Wr.res {es : List RV} {R C k : Nat} {Q : Nat → Rat} (h : Wr es (R * C) k Q (fun _ => True)) : Res ⟨R, C, ⟨some 3, false, .no, es⟩⟩ 0 0 R C Q k :=
  ⟨rfl, ⟨.inl rfl, (fun h => absurd (show false = true from h) (by decide)), h.fr, h.ok⟩, rfl, fun h => absurd rfl h, fun _ => rfl, fun _ => rfl, fun _ => h.len, fun _ p hp => h.q p hp trivial⟩
theorem Res.nil {R C k : Nat} {Q : Nat → Rat} (h : R * C = 0) : Res ⟨R, C, nilL⟩ 0 0 R C Q k :=
  ⟨rfl, zM_ok k, rfl, fun h => absurd rfl h, fun _ => rfl, fun _ => rfl, fun _ => h.symm, fun _ p hp => by omega⟩

/-! ### Add -/
end Go.Ab

/- The reference's Scale and Transpose, in values. -/
set_option linter.unusedVariables false
set_option linter.unusedSimpArgs false
set_option maxRecDepth 100000
namespace Go.Ab
open Go.Proofs.Try

/-! ### Scale -/
/-! ### Transpose -/
theorem tr_cell {r i j : Nat} (hi : i < r) : (j * r + i) % r = i ∧ (j * r + i) / r = j := by
  have e : j * r + i = i + r * j := by rw [Nat.mul_comm]; omega
  rw [e]
  refine ⟨by rw [Nat.add_mul_mod_self_left, Nat.mod_eq_of_lt hi], by rw [Nat.add_mul_div_left _ _ (by omega), Nat.div_eq_of_lt hi, Nat.zero_add]⟩
end Go.Ab

/- Products of matrices, in values: sums, and the program's side. -/
set_option linter.unusedVariables false
set_option linter.unusedSimpArgs false
set_option maxRecDepth 100000
namespace Go.Ab
open Go.Proofs.Try

/-! ### Sums -/
def sumN (f : Nat → Rat) : Nat → Rat
  | 0 => 0
  | n + 1 => sumN f n + f n
theorem sumN_congr {f g : Nat → Rat} : ∀ {n : Nat}, (∀ l, l < n → f l = g l) → sumN f n = sumN g n
  | 0, _ => rfl
  | n + 1, h => by rw [sumN, sumN, sumN_congr (fun l hl => h l (by omega)), h n (by omega)]
theorem sumN_zero : ∀ n : Nat, sumN (fun _ => 0) n = 0
  | 0 => rfl
  | n + 1 => by rw [sumN, sumN_zero n, Rat.add_zero]
theorem sumN_add (f g : Nat → Rat) : ∀ n : Nat, sumN (fun l => f l + g l) n = sumN f n + sumN g n
  | 0 => by simp only [sumN, Rat.add_zero]
  | n + 1 => by
    rw [sumN, sumN_add f g n, sumN, sumN, Rat.add_assoc, Rat.add_assoc]
    congr 1
    rw [← Rat.add_assoc, ← Rat.add_assoc, Rat.add_comm (sumN g n) (f n)]
theorem sumN_mulL (c : Rat) (f : Nat → Rat) : ∀ n : Nat, sumN (fun l => c * f l) n = c * sumN f n
  | 0 => by simp only [sumN, Rat.mul_zero]
  | n + 1 => by rw [sumN, sumN_mulL c f n, sumN, Rat.mul_add]
theorem sumN_mulR (c : Rat) (f : Nat → Rat) : ∀ n : Nat, sumN (fun l => f l * c) n = sumN f n * c
  | 0 => by simp only [sumN, Rat.zero_mul]
  | n + 1 => by rw [sumN, sumN_mulR c f n, sumN, Rat.add_mul]
theorem sumN_swap (f : Nat → Nat → Rat) (m : Nat) : ∀ n : Nat, sumN (fun i => sumN (f i) m) n = sumN (fun j => sumN (fun i => f i j) n) m
  | 0 => (sumN_zero m).symm
  | n + 1 => by rw [sumN, sumN_swap f m n, ← sumN_add]; rfl
theorem sumN_one {f : Nat → Rat} {p : Nat} : ∀ {n : Nat}, (∀ l, l < n → l ≠ p → f l = 0) → sumN f n = if p < n then f p else 0
  | 0, _ => rfl
  | n + 1, h => by
    rw [sumN, sumN_one (fun l hl => h l (by omega))]
    by_cases c : p < n
    · rw [if_pos c, if_pos (by omega), h n (by omega) (by omega), Rat.add_zero]
    · rw [if_neg c, Rat.zero_add]
      by_cases c2 : p = n
      · rw [if_pos (by omega), c2]
      · rw [if_neg (by omega), h n (by omega) (fun e => c2 e.symm)]

/-! ### The product of a row and a column -/
def dotQ (x y : MV) (c d i j : Nat) (l : Nat) : Rat := sumN (fun l => qAt x (i * c + l) * qAt y (l * d + j)) l
theorem Can.num0 {x : MV} {k p : Nat} (h : LOk k x.lv) (hp : p < x.lv.es.length) (h0 : x.lv.es[p].num.ds.length = 0) : qAt x p = 0 := by
  rw [qAt_get hp, RV.q]
  have : x.lv.es[p].num.v = 0 := by
    unfold NV.v
    rw [List.length_eq_zero_iff.1 h0]; rfl
  rw [this, qOf_num0]
theorem res2' (m : Mem) : reserve m 2 = m ++ [some .resv, some .resv] := rfl
theorem newB0 (m : Mem) (a b : Option Ent) (e : Ent) : newAt (some m.length) (m ++ [a, b]) e = (m.length, m ++ [some e, b]) := by
  simp [newAt]
theorem newB1 (m : Mem) (a b : Option Ent) (e : Ent) : newAt (some (m.length + 1)) (m ++ [a, b]) e = (m.length + 1, m ++ [a, some e]) := by
  simp [newAt]
theorem getB0 (m : Mem) (a b : Option Ent) : (m ++ [a, b])[m.length]? = some a := by simp
theorem getB1 (m : Mem) (a b : Option Ent) : (m ++ [a, b])[m.length + 1]? = some b := by simp
theorem setB0 (m : Mem) (a b e : Option Ent) : (m ++ [a, b]).set m.length e = m ++ [e, b] := by simp
theorem setB1 (m : Mem) (a b e : Option Ent) : (m ++ [a, b]).set (m.length + 1) e = m ++ [a, e] := by simp
theorem zR_obj : some (Ent.obj true [(.bool false), (.lst none true .full []), (.lst none true .full [])]) = cR zR := rfl
theorem gtr0 (x : NV) : binA .other .gtr (.int .i64 x.ds.length) (.int .i64 0) = some (.bool (decide (x.ds.length > 0))) := by
  rw [binA_gtr]; congr 2; exact decide_eq_decide.2 (by omega)
theorem W104 {x y : MV} {k K i j c d r : Nat} (hx : LOk k x.lv) (hy : LOk k y.lv) (hk1 : 1 ≤ k) (hkK : 1 ≤ K) (hK : K + (k + k) < 2 ^ 36) (hxc : x.cols = c) (hyd : y.cols = d) (hi : i < r) (hj : j < d) (hr : r ≤ 60) (hc : c ≤ 60) (hd : d ≤ 60) (hlx : x.lv.es.length = r * c) (hly : y.lv.es.length = c * d)
    (hB : ∀ l, l ≤ c → Bd K (dotQ x y c d i j l)) (Kt : Ex → St → Option (AV × Mem)) : ∀ (n l : Nat) (m : Mem) (s : RV), l + n = c → m[0]? = some (cR zR) → m[1]? = some (cR s) → s.fr = s → ROk K s ∧ rightR s = true → s.q = dotQ x y c d i j l →
    ∃ m' s', m'[0]? = some (cR zR) ∧ m'[1]? = some (cR s') ∧ s'.fr = s' ∧ (ROk K s' ∧ rightR s' = true) ∧ s'.q = dotQ x y c d i j c ∧
      L104_3 (.int .i64 i) (.int .i64 j) (vM x) (vM y) (.ptr 0 0) (.ptr 1 0) (.int .i64 c) (.int .i64 l) m Kt = Kt (.exit 0) (O104_3 (.ptr 0 0) (.ptr 1 0) m') := by
  intro n
  induction n with
  | zero =>
    intro l m s hl h0 h1 h2 h3 h4
    obtain rfl : l = c := by omega
    refine ⟨m, s, h0, h1, h2, h3, h4, ?_⟩
    rw [L104_3_eq, n_lss, Option.bind_some, ifA_dec, if_neg (by omega)]
  | succ n ih =>
    intro l m s hl h0 h1 h2 h3 h4
    have hlc : l < c := by omega
    obtain ⟨a1, a2⟩ := at_cell (i := i) (c := c) (j := l) (by omega) hc (by omega)
    obtain ⟨b1, b2⟩ := at_cell (i := l) (c := d) (j := j) (by omega) hd (by omega)
    have p1 : i * c + l < x.lv.es.length := by rw [hlx]; exact cell_lt60 hi hlc
    have p2 : l * d + j < y.lv.es.length := by rw [hly]; exact cell_lt60 hlc hj
    have f1 := hx.fr _ (List.getElem_mem p1)
    have f2 := hy.fr _ (List.getElem_mem p2)
    have r1 := hx.ok _ (List.getElem_mem p1)
    have r2 := hy.ok _ (List.getElem_mem p2)
    have hm0 := idx_lt h0
    have hm1 := idx_lt h1
    have hstep : dotQ x y c d i j (l + 1) = dotQ x y c d i j l + qAt x (i * c + l) * qAt y (l * d + j) := rfl
    have g0 : ∀ e e' : Option Ent, (m ++ [e, e'])[0]? = some (cR zR) := fun e e' => by rw [List.getElem?_append_left hm0]; exact h0
    have g1 : ∀ e e' : Option Ent, (m ++ [e, e'])[1]? = some (cR s) := fun e e' => by rw [List.getElem?_append_left hm1]; exact h1
    have lv2 : loadA none (m ++ [some .resv, some .resv]) (.vptr [.int .i64 (c : Int), x.lv.av]) = some (.int .i64 (c : Int)) := rfl
    have lw2 : loadA none (m ++ [some .resv, some .resv]) (.vptr [.int .i64 (d : Int), y.lv.av]) = some (.int .i64 (d : Int)) := rfl
    have skip : qAt x (i * c + l) * qAt y (l * d + j) = 0 → ∃ m' s', m'[0]? = some (cR zR) ∧ m'[1]? = some (cR s') ∧ s'.fr = s' ∧ (ROk K s' ∧ rightR s' = true) ∧ s'.q = dotQ x y c d i j c ∧
      L104_3 (.int .i64 i) (.int .i64 j) (vM x) (vM y) (.ptr 0 0) (.ptr 1 0) (.int .i64 c) (.int .i64 (l + 1 : Nat)) (m ++ [cR x.lv.es[i * c + l], cR y.lv.es[l * d + j]]) Kt = Kt (.exit 0) (O104_3 (.ptr 0 0) (.ptr 1 0) m') := by
      intro hz
      exact ih (l + 1) (m ++ [cR x.lv.es[i * c + l], cR y.lv.es[l * d + j]]) s (by omega) (g0 _ _) (g1 _ _) h2 h3 (by rw [hstep, hz, Rat.add_zero]; exact h4)
    have pre : ∀ R : Option (AV × Mem), (ifA (.bool (decide (x.lv.es[i * c + l].num.ds.length > 0)))
        (ifA (.bool (decide (y.lv.es[l * d + j].num.ds.length > 0)))
          ((loadA (some 3) (m ++ [cR x.lv.es[i * c + l], cR y.lv.es[l * d + j]]) (.ptr 1 0)).bind fun v28 =>
            (pcall (AP cfg) (some (m ++ [cR x.lv.es[i * c + l], cR y.lv.es[l * d + j]]).length) (m ++ [cR x.lv.es[i * c + l], cR y.lv.es[l * d + j]]) 78 [x.lv.es[i * c + l].av, y.lv.es[l * d + j].av]).bind fun r31 =>
            (pcall (AP cfg) (some (m ++ [cR x.lv.es[i * c + l], cR y.lv.es[l * d + j]]).length) r31.2 75 [v28, r31.1]).bind fun r32 =>
            (storeA (some 3) r32.2 (.ptr 1 0) r32.1).bind fun m33 =>
            L104_3 (.int .i64 i) (.int .i64 j) (vM x) (vM y) (.ptr 0 0) (.ptr 1 0) (.int .i64 c) (.int .i64 (l + 1 : Nat)) m33 Kt)
          (L104_3 (.int .i64 i) (.int .i64 j) (vM x) (vM y) (.ptr 0 0) (.ptr 1 0) (.int .i64 c) (.int .i64 (l + 1 : Nat)) (m ++ [cR x.lv.es[i * c + l], cR y.lv.es[l * d + j]]) Kt))
        (L104_3 (.int .i64 i) (.int .i64 j) (vM x) (vM y) (.ptr 0 0) (.ptr 1 0) (.int .i64 c) (.int .i64 (l + 1 : Nat)) (m ++ [cR x.lv.es[i * c + l], cR y.lv.es[l * d + j]]) Kt)) = R →
        L104_3 (.int .i64 i) (.int .i64 j) (vM x) (vM y) (.ptr 0 0) (.ptr 1 0) (.int .i64 c) (.int .i64 l) m Kt = R := by
      intro R hR
      rw [L104_3_eq, n_lss, Option.bind_some, ifA_dec, if_pos hlc, vMf2, Option.bind_some, vMl2, Option.bind_some, vMf1, Option.bind_some, hxc, res2', lv2, Option.bind_some, a1, Option.bind_some, a2, Option.bind_some, index_lv hx p1, Option.bind_some, load_row, Option.bind_some,
        vMf2, Option.bind_some, vMl2, Option.bind_some, vMf1, Option.bind_some, hyd, lw2, Option.bind_some, b1, Option.bind_some, b2, Option.bind_some, index_lv hy p2, Option.bind_some, load_row, Option.bind_some,
        newB0, newB0, newB1, newB1, zR_obj, rstA (x := zR) (getB0 _ _ _), Option.bind_some, setB0, rstA (x := zR) (getB1 _ _ _), Option.bind_some, setB1]
      rw [show namesV (.vptr [y.lv.av]) (.ptr m.length 0) = true from rfl, ifB, show namesV (.vptr [.int .i64 (d : Int), y.lv.av]) (.ptr m.length 0) = true from rfl, ifB, show namesV (.vptr y.lv.es[l * d + j].av.cells) (.ptr m.length 0) = true from rfl, ifB]
      rw [fld1, Option.bind_some, rld1 (getB0 _ _ _), Option.bind_some, len_nv, Option.bind_some, gtr0, Option.bind_some, fld1, Option.bind_some, rld1 (getB1 _ _ _), Option.bind_some, len_nv, Option.bind_some, gtr0, Option.bind_some, rldA (getB0 _ _ _), rldA (getB1 _ _ _), i_add1 (by omega)]
      exact hR
    by_cases z1 : x.lv.es[i * c + l].num.ds.length > 0
    · by_cases z2 : y.lv.es[l * d + j].num.ds.length > 0
      · obtain ⟨t, t1, t2, t3⟩ := V78 r1 r2 hk1 (by omega)
        have bt : Bd (k + k) (x.lv.es[i * c + l].q * y.lv.es[l * d + j].q) := Bd_mul (r1.bd hk1) (r2.bd hk1) hk1
        obtain ⟨u, u1, u2, u3⟩ := V75 (k := K + (k + k)) (h3.1.mono (by omega)) ((t2.ok bt (by omega)).mono (by omega)) (by omega) (by omega)
        have hq : s.q + t.q = dotQ x y c d i j (l + 1) := by rw [hstep, h4, t2.q, qAt_get p1, qAt_get p2]
        rw [hq] at u2
        obtain ⟨m', s', w⟩ := ih (l + 1) ((m ++ [cR x.lv.es[i * c + l], cR y.lv.es[l * d + j]]).set 1 (cR u)) u (by omega) (by rw [List.getElem?_set_ne (by omega)]; exact g0 _ _) (by rw [List.getElem?_set_self (Nat.lt_of_lt_of_le hm1 (by simp))]) u3 ⟨u2.ok (hB (l + 1) (by omega)) (by omega), can_rightR u2⟩ u2.q
        refine ⟨m', s', w.1, w.2.1, w.2.2.1, w.2.2.2.1, w.2.2.2.2.1, pre _ ?_⟩
        rw [ifA_dec, if_pos z1, ifA_dec, if_pos z2, rldA (g1 _ _), Option.bind_some, pcRR, f1, f2, t1, Option.map_some, Option.bind_some, pcRR, h2, t3, u1, Option.map_some, Option.bind_some, rstA (g1 _ _), Option.bind_some]
        exact w.2.2.2.2.2
      · obtain ⟨m', s', w⟩ := skip (by rw [Can.num0 hy p2 (by omega), Rat.mul_zero])
        refine ⟨m', s', w.1, w.2.1, w.2.2.1, w.2.2.2.1, w.2.2.2.2.1, pre _ ?_⟩
        rw [ifA_dec, if_pos z1, ifA_dec, if_neg z2]
        exact w.2.2.2.2.2
    · obtain ⟨m', s', w⟩ := skip (by rw [Can.num0 hx p1 (by omega), Rat.zero_mul])
      refine ⟨m', s', w.1, w.2.1, w.2.2.1, w.2.2.2.1, w.2.2.2.2.1, pre _ ?_⟩
      rw [ifA_dec, if_neg z1]
      exact w.2.2.2.2.2
theorem V104 {x y : MV} {k K i j c d r : Nat} (hx : LOk k x.lv) (hy : LOk k y.lv) (hk1 : 1 ≤ k) (hkK : 1 ≤ K) (hK : K + (k + k) < 2 ^ 36) (hxc : x.cols = c) (hyd : y.cols = d) (hi : i < r) (hj : j < d) (hr : r ≤ 60) (hc : c ≤ 60) (hd : d ≤ 60) (hlx : x.lv.es.length = r * c) (hly : y.lv.es.length = c * d)
    (hB : ∀ l, l ≤ c → Bd K (dotQ x y c d i j l)) : ∃ s : RV, AP cfg 104 [.int .i64 i, .int .i64 j, vM x, vM y] = some s.av ∧ s.q = dotQ x y c d i j c ∧ ROk K s ∧ s.fr = s ∧ rightR s = true := by
  obtain ⟨m', s, q0, q1, q2, q3, q4, q5⟩ := W104 hx hy hk1 hkK hK hxc hyd hi hj hr hc hd hlx hly hB (K104_3 (finK cfg.P f104.results.toList)) c 0 [cR zR, cR zeroR] zeroR (by omega) rfl rfl rfl ⟨zeroR_ok.mono (by omega), can_rightR can_zero⟩ can_zero.q
  refine ⟨s, (AP_ofz _ _ (fz_rv s) (noV_rv _) (m := m'.set 0 (cR s)) ?_).trans (by rw [q2]), q4, q3.1, q2, q3.2⟩
  rw [T104]
  simp only [new_z', new_r, List.length_nil, List.nil_append]
  rw [pc0, V60, Option.map_some, Option.bind_some]
  simp only [new_z', new_r, List.length_cons, List.length_nil, List.cons_append, List.nil_append, Nat.zero_add, Nat.reduceAdd]
  rw [rstA (x := zR) rfl, Option.bind_some]
  simp only [List.set_cons_zero, List.set_cons_succ]
  rw [vMf1, Option.bind_some, vMl1, Option.bind_some, hxc]
  refine Eq.trans ?_ (q5.trans ?_)
  · rfl
  rw [K104_3_x0, rldA q1, Option.bind_some, rstA q0, Option.bind_some, rldA (by rw [List.getElem?_set_self (idx_lt q0)])]
  rfl
/-- The product's cell. -/
def mulQ (x y : MV) (c d p : Nat) : Rat := dotQ x y c d (p / d) (p % d) c
theorem V73 {x y : MV} {k K r c d : Nat} (hx : IsM k x) (hy : IsM k y) (hk1 : 1 ≤ k) (hkK : 1 ≤ K) (hK : K + (k + k) < 2 ^ 36) (hxr : x.rows = r) (hxc : x.cols = c) (hyd : y.cols = d) (hr : r ≤ 60) (hc : c ≤ 60) (hd : d ≤ 60) (hlx : x.lv.es.length = r * c) (hly : y.lv.es.length = c * d)
    (hB : ∀ i j l, i < r → j < d → l ≤ c → Bd K (dotQ x y c d i j l)) : ∃ z : MV, AP cfg 73 [x.av, y.av] = some z.av ∧ Res z 0 0 r d (mulQ x y c d) K ∧ ∀ t ∈ z.lv.es, rightR t = true := by
  obtain ⟨z, f1, f2, f3, f4, f5, f6, f7, f8⟩ := fillP (P := fun s => rightR s = true) (g := 104) (cs := [vM x, vM y]) (rows := r) (cols := d) (k := K) (Q := fun i j => dotQ x y c d i j c) ⟨rfl, rfl⟩ (csz2 (frz_vM hx.fr) (frz_vM hy.fr)) hr hd
    (fun i j hi hj => V104 hx.ok hy.ok hk1 hkK hK hxc hyd hi hj hr hc hd hlx hly (fun l hl => hB i j l hi hj hl))
  refine ⟨z, (AP_ofz _ _ (fz_mv z) (noV_mv _) (m := [cM x, cM y, cM z]) ?_).trans (by rw [f7]), ⟨f7, f6, rfl, fun h => absurd rfl h, fun _ => f2, fun _ => f3, fun _ => f4, fun _ p hp => f5 p hp⟩, f8⟩
  rw [T73, box_mv, Option.bind_some, box_mv, Option.bind_some]
  simp only [new_m, new_r, List.length_nil, List.nil_append, List.length_cons, List.cons_append, Nat.zero_add, Nat.reduceAdd]
  rw [fld0, Option.bind_some, mld0 (x := x) rfl, Option.bind_some, fld1, Option.bind_some, mld1 (x := y) rfl, Option.bind_some, hxr, hyd, pcFill2 _ _ _ _ (frz_ptrM (x := x) rfl) (frz_ptrM (x := y) rfl), hx.fr, hy.fr, f1, Option.map_some, Option.bind_some, mstA (x := zM) rfl, Option.bind_some]
  simp only [List.set_cons_zero, List.set_cons_succ]
  rw [mldA (x := z) rfl]
  rfl
end Go.Ab

/- Products of matrices, in values: the reference's side. -/
set_option linter.unusedVariables false
set_option linter.unusedSimpArgs false
set_option maxRecDepth 100000
namespace Go.Ab
open Go.Proofs.Try

theorem Wr.congr {es : List RV} {L k : Nat} {Q Q' : Nat → Rat} (h : Wr es L k Q (fun _ => True)) (hq : ∀ p, p < L → Q' p = Q p) : Wr es L k Q' (fun _ => True) := ⟨h.len, h.fr, h.ok, fun p hp _ => by rw [h.q p hp trivial, hq p hp]⟩
theorem Wr.get {es : List RV} {L k : Nat} {Q : Nat → Rat} (h : Wr es L k Q (fun _ => True)) {p : Nat} (hp : p < es.length) : es[p].q = Q p := by
  have := h.q p (by rw [← h.len]; exact hp) trivial
  rw [List.getD_eq_getElem?_getD, List.getElem?_map, List.getElem?_eq_getElem hp] at this
  exact this
theorem row_col {i j d : Nat} (hj : j < d) : (i * d + j) / d = i ∧ (i * d + j) % d = j := by
  obtain ⟨a, b⟩ := tr_cell (r := d) (i := j) (j := i) hj
  exact ⟨b, a⟩

section
variable {x y : MV} {k K r c d : Nat}
end

/-! ### Mul -/
def mulE (x y : MV) : Int := if rightM x = true ∧ rightM y = true then if x.cols = y.rows then 0 else 30 else 1
/-- A bound for the sums of products. -/
theorem dot_bd {x y : MV} {k c d i j : Nat} (hx : LOk k x.lv) (hy : LOk k y.lv) (hk1 : 1 ≤ k) : ∀ l : Nat, Bd (1 + l * (k + k + 1)) (dotQ x y c d i j l)
  | 0 => Bd_zero (by omega)
  | l + 1 => by
    have h := Bd_add (dot_bd (c := c) (d := d) (i := i) (j := j) hx hy hk1 l) (Bd_mul (qAt_bd (p := i * c + l) hx hk1) (qAt_bd (p := l * d + j) hy hk1) hk1) (by omega)
    have e : 1 + (l + 1) * (k + k + 1) = 1 + l * (k + k + 1) + (k + k) + 1 := by rw [Nat.succ_mul]; omega
    rw [e]
    exact h
theorem right_len {x : MV} (h : rightM x = true) : ∃ r c : Nat, x.rows = r ∧ x.cols = c ∧ r ≤ 60 ∧ c ≤ 60 ∧ x.lv.es.length = r * c := by
  obtain ⟨z1, z2, z3, z4, z5⟩ := size_of_right h
  obtain ⟨r, hr⟩ := Int.eq_ofNat_of_zero_le z1
  obtain ⟨c, hc⟩ := Int.eq_ofNat_of_zero_le z3
  refine ⟨r, c, hr, hc, by omega, by omega, ?_⟩
  rw [hr, hc, ← Int.natCast_mul] at z5
  exact Int.ofNat_inj.1 z5
theorem right_of {z : MV} {r c : Nat} (h1 : z.rows = r) (h2 : z.cols = c) (h3 : r ≤ 60) (h4 : c ≤ 60) (h5 : z.lv.es.length = r * c) (h6 : ∀ t ∈ z.lv.es, rightR t = true) : rightM z = true := by
  unfold rightM sizeB
  rw [Bool.and_eq_true]
  refine ⟨decide_eq_true ⟨by omega, by omega, by omega, by omega, ?_⟩, List.all_eq_true.2 h6⟩
  rw [h1, h2, h5, Int.natCast_mul]
theorem V41g {x y : MV} {k K : Nat} (hx : IsM k x) (hy : IsM k y) (hk1 : 1 ≤ k) (hkK : 1 ≤ K) (hK : K + (k + k) < 2 ^ 36) (hB : mulE x y = 0 → ∀ i j l, i < x.rows.toNat → j < y.cols.toNat → l ≤ x.cols.toNat → Bd K (dotQ x y x.cols.toNat y.cols.toNat i j l)) :
    ∃ z e, AP cfg 41 [x.av, y.av] = some (.tup [z.av, .int .i64 e]) ∧ Res z e (mulE x y) x.rows.toNat y.cols.toNat (mulQ x y x.cols.toNat y.cols.toNat) K ∧ (mulE x y = 0 → rightM z = true) := by
  have e20 := V20 hx.ok (by omega) (by have := hx.len; omega)
  have e20' := V20 hy.ok (by omega) (by have := hy.len; omega)
  have gx : ∀ e : Mem, (cM x :: e)[0]? = some (cM x) := fun _ => rfl
  have gy : ∀ e : Mem, (cM x :: cM y :: e)[1]? = some (cM y) := fun _ => rfl
  have start : AC cfg 41 [x.av, y.av] [] = AC cfg 41 [x.av, y.av] [] := rfl
  conv at start => rhs; rw [T41, box_mv, Option.bind_some, box_mv, Option.bind_some]
  simp only [new_m, new_r, List.length_nil, List.nil_append, List.length_cons, List.cons_append, Nat.zero_add, Nat.reduceAdd] at start
  rw [mldA (gx _), Option.bind_some, pcM, hx.fr, e20, Option.map_some, Option.bind_some, not_b, Option.bind_some] at start
  revert hB
  unfold mulE
  intro hB
  cases hbx : rightM x with
  | false =>
    rw [hbx, Bool.not_false, ifA_true, bldM, Option.bind_some, mstA (x := zM) rfl, Option.bind_some] at start
    simp only [List.set_cons_zero, List.set_cons_succ] at start
    rw [mldA (x := zM) rfl, Option.bind_some] at start
    rw [if_neg (fun h => by cases h.1)]
    exact ⟨zM, 1, retM2 start rfl, Res.bad' (by decide), fun h => absurd h (by decide)⟩
  | true =>
    rw [hbx, Bool.not_true, ifA_false, mldA (gy _), Option.bind_some, pcM, hy.fr, e20', Option.map_some, Option.bind_some, not_b, Option.bind_some] at start
    cases hby : rightM y with
    | false =>
      rw [hby, Bool.not_false, ifA_true, bldM, Option.bind_some, mstA (x := zM) rfl, Option.bind_some] at start
      simp only [List.set_cons_zero, List.set_cons_succ] at start
      rw [mldA (x := zM) rfl, Option.bind_some] at start
      rw [if_neg (fun h => by cases h.2)]
      exact ⟨zM, 1, retM2 start rfl, Res.bad' (by decide), fun h => absurd h (by decide)⟩
    | true =>
      rw [hby, Bool.not_true, ifA_false, fld1, Option.bind_some, mld1 (gx _), Option.bind_some, fld0, Option.bind_some, mld0 (gy _), Option.bind_some, binA_neq, Option.bind_some, ifA_dec] at start
      rw [if_pos ⟨rfl, rfl⟩]
      by_cases c1 : x.cols = y.rows
      · obtain ⟨r, c, hr, hc, r6, c6, hlx⟩ := right_len hbx
        obtain ⟨c', d, hc', hd, _, d6, hly⟩ := right_len hby
        obtain rfl : c = c' := by rw [c1, hc'] at hc; omega
        have hB := hB (by rw [hbx, hby, if_pos ⟨rfl, rfl⟩, if_pos c1])
        rw [hr, hc, hd] at hB
        obtain ⟨z, f1, f2, f3⟩ := V73 hx hy hk1 hkK hK hr hc hd r6 c6 d6 hlx hly hB
        rw [if_neg (fun h => h c1), mldA (gx _), Option.bind_some, mldA (gy _), Option.bind_some, pcall2 (fz_mv x) (fz_mv y), hx.fr, hy.fr, f1, Option.map_some, Option.bind_some, mstA (x := zM) rfl, Option.bind_some] at start
        simp only [List.set_cons_zero, List.set_cons_succ] at start
        rw [mldA (x := z) rfl, Option.bind_some] at start
        rw [if_pos c1, hr, hc, hd]
        exact ⟨z, 0, retM2 start f2.fr, f2, fun _ => right_of (f2.rows rfl) (f2.cols rfl) r6 d6 (f2.len rfl) f3⟩
      · rw [if_pos c1, bldM, Option.bind_some, mstA (x := zM) rfl, Option.bind_some] at start
        simp only [List.set_cons_zero, List.set_cons_succ] at start
        rw [mldA (x := zM) rfl, Option.bind_some] at start
        rw [if_neg c1]
        exact ⟨zM, 30, retM2 start rfl, Res.bad' (by decide), fun h => absurd h (by decide)⟩
theorem V41 {x y : MV} {k K : Nat} (hx : IsM k x) (hy : IsM k y) (hk1 : 1 ≤ k) (hkK : 1 + 60 * (k + k + 1) ≤ K) (hK : K < 2 ^ 35) :
    ∃ z e, AP cfg 41 [x.av, y.av] = some (.tup [z.av, .int .i64 e]) ∧ Res z e (mulE x y) x.rows.toNat y.cols.toNat (mulQ x y x.cols.toNat y.cols.toNat) K ∧ (mulE x y = 0 → rightM z = true) :=
  V41g hx hy hk1 (by omega) (by omega) (fun h0 i j l _ _ hl => (dot_bd hx.ok hy.ok hk1 l).mono (by
    have hxr : rightM x = true := by
      unfold mulE at h0
      by_cases c : rightM x = true ∧ rightM y = true
      · exact c.1
      · rw [if_neg c] at h0; cases h0
    obtain ⟨_, _, _, z4, _⟩ := size_of_right hxr
    have : l * (k + k + 1) ≤ 60 * (k + k + 1) := Nat.mul_le_mul_right _ (by omega)
    omega))
end Go.Ab

/- Determinants in plain Lean: sums, the expansion over all permutations, what the operations on rows do to it. -/
set_option linter.unusedVariables false
set_option linter.unusedSimpArgs false
set_option linter.unusedSectionVars false
namespace Go.Ab

/-! ### Sums of fractions -/
def sumR : Nat → (Nat → Rat) → Rat
  | 0, _ => 0
  | n + 1, f => sumR n f + f n
theorem sumR_congr : ∀ {n : Nat} {f g : Nat → Rat}, (∀ k, k < n → f k = g k) → sumR n f = sumR n g
  | 0, _, _, _ => rfl
  | n + 1, f, g, h => by rw [sumR, sumR, sumR_congr fun k hk => h k (by omega), h n (by omega)]
theorem sumR_zero (n : Nat) : sumR n (fun _ => 0) = 0 := by
  induction n with
  | zero => rfl
  | succ n ih => rw [sumR, ih]; grind
theorem sumR_add (f g : Nat → Rat) : ∀ n, sumR n (fun k => f k + g k) = sumR n f + sumR n g
  | 0 => by simp only [sumR]; grind
  | n + 1 => by rw [sumR, sumR, sumR, sumR_add f g n]; grind
theorem sumR_mul (c : Rat) (f : Nat → Rat) : ∀ n, sumR n (fun k => c * f k) = c * sumR n f
  | 0 => by simp only [sumR]; grind
  | n + 1 => by rw [sumR, sumR, sumR_mul c f n]; grind
theorem sumR_lin (a b : Rat) (f g : Nat → Rat) (n : Nat) : sumR n (fun k => a * f k + b * g k) = a * sumR n f + b * sumR n g := by
  rw [sumR_add, sumR_mul, sumR_mul]
theorem sumR_neg (f : Nat → Rat) (n : Nat) : sumR n (fun k => - f k) = - sumR n f := by
  have := sumR_mul (-1) f n
  rw [sumR_congr (g := fun k => -1 * f k) fun k _ => by grind, this]; grind
theorem sumR_swap (n m : Nat) (F : Nat → Nat → Rat) : sumR n (fun i => sumR m fun j => F i j) = sumR m fun j => sumR n fun i => F i j := by
  induction n with
  | zero => simp only [sumR]; exact (sumR_zero m).symm
  | succ n ih => simp only [sumR]; rw [ih, sumR_add]
theorem sumR_one {n i : Nat} {f : Nat → Rat} (hi : i < n) (h : ∀ k, k < n → k ≠ i → f k = 0) : sumR n f = f i := by
  induction n with
  | zero => omega
  | succ n ih =>
    rw [sumR]
    by_cases hn : i = n
    · subst hn
      rw [sumR_congr (g := fun _ => 0) fun k hk => h k (by omega) (by omega), sumR_zero]; grind
    · rw [ih (by omega) fun k hk => h k (by omega), h n (by omega) (by omega)]; grind
theorem sumR_all0 {n : Nat} {f : Nat → Rat} (h : ∀ k, k < n → f k = 0) : sumR n f = 0 := by
  rw [sumR_congr (g := fun _ => 0) h, sumR_zero]

/-! ### The expansion -/
abbrev MX := Nat → Nat → Rat
def use (U : Nat → Bool) (k : Nat) : Nat → Bool := fun j => if j = k then true else U j
theorem use_comm (U : Nat → Bool) (k l : Nat) : use (use U k) l = use (use U l) k := by
  funext j; unfold use; split <;> split <;> rfl
theorem use_ne {U : Nat → Bool} {k l : Nat} (h : l ≠ k) : use U k l = U l := if_neg h
theorem use_self {U : Nat → Bool} {k : Nat} : use U k k = true := if_pos rfl
/-- One sign for each used column of d from j on. -/
def sgU (U : Nat → Bool) : Nat → Nat → Rat
  | 0, _ => 1
  | d + 1, j => (if U j then -1 else 1) * sgU U d (j + 1)
/-- The sum over all choices of unused columns for d rows from i on. -/
def Dt (n : Nat) (M : MX) : Nat → Nat → (Nat → Bool) → Rat
  | 0, _, _ => 1
  | d + 1, i, U => sumR n fun k => if U k then 0 else sgU U (n - (k + 1)) (k + 1) * M i k * Dt n M d (i + 1) (use U k)
def det (n : Nat) (M : MX) : Rat := Dt n M n 0 fun _ => false
theorem Dt_congr {n : Nat} {M N : MX} : ∀ (d i : Nat) (U : Nat → Bool), (∀ r k, i ≤ r → r < i + d → k < n → M r k = N r k) → Dt n M d i U = Dt n N d i U
  | 0, _, _, _ => rfl
  | d + 1, i, U, h => by
    rw [Dt, Dt]
    refine sumR_congr fun k hk => ?_
    rw [h i k (by omega) (by omega) hk, Dt_congr d (i + 1) (use U k) fun r k h1 h2 hk => h r k (by omega) (by omega) hk]
theorem sgU_use {U : Nat → Bool} {k : Nat} (hk : U k = false) : ∀ (d j : Nat), sgU (use U k) d j = sgU U d j * (if j ≤ k ∧ k < j + d then -1 else 1)
  | 0, j => by
    rw [if_neg (fun h => by omega)]; simp only [sgU]; grind
  | d + 1, j => by
    rw [sgU, sgU, sgU_use hk d (j + 1)]
    by_cases hj : j = k
    · subst hj
      have h1 : ¬ (j + 1 ≤ j ∧ j < j + 1 + d) := by omega
      have h2 : j ≤ j ∧ j < j + (d + 1) := by omega
      simp only [use_self, hk, if_neg h1, if_pos h2, if_true, Bool.false_eq_true, if_false]; grind
    · rw [use_ne hj]
      by_cases h2 : j ≤ k ∧ k < j + (d + 1)
      · rw [if_pos (by omega : j + 1 ≤ k ∧ k < j + 1 + d), if_pos h2]; grind
      · rw [if_neg (by omega : ¬ (j + 1 ≤ k ∧ k < j + 1 + d)), if_neg h2]; grind
/-- Two rows that stand together, changed. -/
theorem Dt_adj {n : Nat} {M N : MX} {t : Nat} (h1 : ∀ k, N t k = M (t + 1) k) (h2 : ∀ k, N (t + 1) k = M t k) (h3 : ∀ r k, r ≠ t → r ≠ t + 1 → N r k = M r k) : ∀ (d i : Nat) (U : Nat → Bool), i ≤ t → t + 1 < i + d → Dt n N d i U = - Dt n M d i U
  | 0, i, U, hi, hd => by omega
  | d + 1, i, U, hi, hd => by
    by_cases hit : i = t
    · subst hit
      obtain ⟨e, rfl⟩ : ∃ e, d = e + 1 := ⟨d - 1, by omega⟩
      have key : ∀ A : MX, Dt n A (e + 1 + 1) i U = sumR n fun k => sumR n fun l => if U k then 0 else if use U k l then 0 else sgU U (n - (k + 1)) (k + 1) * sgU (use U k) (n - (l + 1)) (l + 1) * A i k * A (i + 1) l * Dt n A e (i + 2) (use (use U k) l) := fun A => by
        rw [Dt]
        refine sumR_congr fun k hk => ?_
        by_cases hU : U k = true
        · simp only [hU, if_true]; exact (sumR_zero n).symm
        · simp only [hU]
          rw [Dt, ← sumR_mul]
          refine sumR_congr fun l hl => ?_
          by_cases hV : use U k l = true
          · simp only [hV, if_true]; grind
          · simp only [hV]; grind
      rw [key N, key M, sumR_swap, ← sumR_neg]
      refine sumR_congr fun l hl => ?_
      rw [← sumR_neg]
      refine sumR_congr fun k hk => ?_
      have hD : Dt n N e (i + 2) (use (use U k) l) = Dt n M e (i + 2) (use (use U l) k) := by
        rw [use_comm]
        exact Dt_congr _ _ _ fun r k hr _ _ => h3 r k (by omega) (by omega)
      by_cases hk : U k = true
      · have : use U l k = true := by unfold use; split <;> simp [hk]
        simp only [hk, this, if_true]; split <;> grind
      · have hk : U k = false := by simpa using hk
        by_cases hl' : U l = true
        · have : use U k l = true := by unfold use; split <;> simp [hl']
          simp only [hk, hl', this, if_true]; simp only [Bool.false_eq_true, if_false]; grind
        · have hl' : U l = false := by simpa using hl'
          by_cases hkl : k = l
          · subst hkl
            simp only [use_self, if_true, hk, Bool.false_eq_true, if_false]; grind
          · rw [use_ne (fun e => hkl e.symm), use_ne hkl, hk, hl', hD, h1, h2, sgU_use hk, sgU_use hl']
            simp only [Bool.false_eq_true, if_false]
            by_cases hlt : k < l
            · rw [if_neg (by omega : ¬ (l + 1 ≤ k ∧ k < l + 1 + (n - (l + 1)))), if_pos (by omega : k + 1 ≤ l ∧ l < k + 1 + (n - (k + 1)))]; grind
            · rw [if_pos (by omega : l + 1 ≤ k ∧ k < l + 1 + (n - (l + 1))), if_neg (by omega : ¬ (k + 1 ≤ l ∧ l < k + 1 + (n - (k + 1))))]; grind
    · rw [Dt, Dt, ← sumR_neg]
      refine sumR_congr fun k hk => ?_
      rw [h3 i k hit (by omega), Dt_adj h1 h2 h3 d (i + 1) (use U k) (by omega) (by omega)]
      split <;> grind
/-- A row that is a sum. -/
theorem Dt_lin {n : Nat} {M P Q : MX} {a b : Rat} {t : Nat} (h1 : ∀ k, M t k = a * P t k + b * Q t k) (h2 : ∀ r k, r ≠ t → P r k = M r k) (h3 : ∀ r k, r ≠ t → Q r k = M r k) : ∀ (d i : Nat) (U : Nat → Bool), i ≤ t → t < i + d → Dt n M d i U = a * Dt n P d i U + b * Dt n Q d i U
  | 0, i, U, hi, hd => by omega
  | d + 1, i, U, hi, hd => by
    rw [Dt, Dt, Dt, ← sumR_lin]
    refine sumR_congr fun k hk => ?_
    by_cases hU : U k = true
    · simp only [hU, if_true]; grind
    · simp only [hU]
      by_cases hit : i = t
      · subst hit
        rw [h1, Dt_congr (M := P) (N := M) d (i + 1) _ fun r k hr _ _ => h2 r k (by omega), Dt_congr (M := Q) (N := M) d (i + 1) _ fun r k hr _ _ => h3 r k (by omega)]; grind
      · rw [h2 i k hit, h3 i k hit, Dt_lin h1 h2 h3 d (i + 1) (use U k) (by omega) (by omega)]; grind
/-- Two rows that are the same. -/
theorem Dt_same {n : Nat} : ∀ (e : Nat) (M : MX) (r t d i : Nat) (U : Nat → Bool), t = r + 1 + e → (∀ k, M r k = M t k) → i ≤ r → t < i + d → Dt n M d i U = 0
  | 0, M, r, t, d, i, U, ht, h, hi, hd => by
    subst ht
    have := Dt_adj (n := n) (M := M) (N := M) (t := r) (fun k => h k) (fun k => (h k).symm) (fun _ _ _ _ => rfl) d i U hi (by omega)
    grind
  | e + 1, M, r, t, d, i, U, ht, h, hi, hd => by
    let N : MX := fun q k => if q = t - 1 then M t k else if q = t then M (t - 1) k else M q k
    have h1 : Dt n N d i U = 0 := Dt_same e N r (t - 1) d i U (by omega) (fun k => by
      show (if r = t - 1 then M t k else if r = t then M (t - 1) k else M r k) = (if t - 1 = t - 1 then M t k else _)
      rw [if_neg (by omega), if_neg (by omega), if_pos rfl]; exact h k) hi (by omega)
    have h2 := Dt_adj (n := n) (M := M) (N := N) (t := t - 1) (fun k => by
      show (if t - 1 = t - 1 then M t k else _) = _
      rw [if_pos rfl, show t - 1 + 1 = t by omega]) (fun k => by
      show (if t - 1 + 1 = t - 1 then M t k else if t - 1 + 1 = t then M (t - 1) k else _) = _
      rw [if_neg (by omega), if_pos (by omega)]) (fun q k a b => by
      show (if q = t - 1 then M t k else if q = t then M (t - 1) k else M q k) = _
      rw [if_neg a, if_neg (by omega)]) d i U (by omega) (by omega)
    grind
/-! ### Operations on rows -/
def addR (M : MX) (r t : Nat) (f : Rat) : MX := fun q k => if q = t then M t k - f * M r k else M q k
def swpR (M : MX) (r t : Nat) : MX := fun q k => if q = r then M t k else if q = t then M r k else M q k
def sclR (M : MX) (r : Nat) (a : Rat) : MX := fun q k => if q = r then a * M r k else M q k
theorem det_add {n : Nat} (M : MX) {r t : Nat} (f : Rat) (hr : r < n) (ht : t < n) (hne : r ≠ t) : det n (addR M r t f) = det n M := by
  let Q : MX := fun q k => if q = t then M r k else M q k
  have h0 : det n Q = 0 := by
    rcases Nat.lt_or_gt_of_ne hne with h | h
    · exact Dt_same (t - (r + 1)) Q r t n 0 _ (by omega) (fun k => by
        show (if r = t then _ else M r k) = (if t = t then M r k else _)
        rw [if_neg hne, if_pos rfl]) (by omega) (by omega)
    · exact Dt_same (r - (t + 1)) Q t r n 0 _ (by omega) (fun k => by
        show (if t = t then M r k else _) = (if r = t then _ else M r k)
        rw [if_neg hne, if_pos rfl]) (by omega) (by omega)
  have := Dt_lin (n := n) (M := addR M r t f) (P := M) (Q := Q) (a := 1) (b := -f) (t := t) (fun k => by
    show (if t = t then M t k - f * M r k else _) = 1 * M t k + -f * (if t = t then M r k else _)
    rw [if_pos rfl, if_pos rfl]; grind) (fun q k hq => (if_neg hq).symm) (fun q k hq => by
    show (if q = t then _ else M q k) = (if q = t then _ else M q k)
    rw [if_neg hq, if_neg hq]) n 0 (fun _ => false) (by omega) (by omega)
  unfold det at *
  rw [this, h0]; grind
theorem det_scl {n : Nat} (M : MX) {r : Nat} (a : Rat) (hr : r < n) : det n (sclR M r a) = a * det n M := by
  have := Dt_lin (n := n) (M := sclR M r a) (P := M) (Q := M) (a := a) (b := 0) (t := r) (fun k => by
    show (if r = r then a * M r k else _) = _
    rw [if_pos rfl]; grind) (fun q k hq => (if_neg hq).symm) (fun q k hq => (if_neg hq).symm) n 0 (fun _ => false) (by omega) (by omega)
  unfold det
  rw [this]; grind
theorem det_congr {n : Nat} {M N : MX} (h : ∀ r k, r < n → k < n → M r k = N r k) : det n M = det n N :=
  Dt_congr n 0 _ fun r k _ hr hk => h r k (by omega) hk
theorem det_swp {n : Nat} (M : MX) {r t : Nat} (hr : r < n) (ht : t < n) (hne : r ≠ t) : det n (swpR M r t) = - det n M := by
  have e : ∀ q k, swpR M r t q k = sclR (addR (addR (addR M r t (-1)) t r 1) r t (-1)) r (-1) q k := fun q k => by
    simp only [swpR, sclR, addR]
    by_cases h1 : q = r
    · subst h1; simp only [if_true, if_neg hne, if_neg hne.symm]; grind
    · by_cases h2 : q = t
      · subst h2; simp only [if_true, if_neg hne, if_neg hne.symm]; grind
      · simp only [if_neg h1, if_neg h2]
  have : det n (swpR M r t) = det n (sclR (addR (addR (addR M r t (-1)) t r 1) r t (-1)) r (-1)) := det_congr fun q k _ _ => e q k
  rw [this, det_scl _ _ hr, det_add _ _ hr ht hne, det_add _ _ ht hr hne.symm, det_add _ _ hr ht hne]; grind
/-- A row of zeros. -/
theorem det_row0 {n : Nat} {M : MX} {r : Nat} (hr : r < n) (h : ∀ k, k < n → M r k = 0) : det n M = 0 := by
  have := det_scl (n := n) M (r := r) 0 hr
  have h2 : det n (sclR M r 0) = det n M := det_congr fun q k _ hk => by
    unfold sclR
    split
    · rename_i e; subst e; rw [h k hk]; grind
    · rfl
  grind
/-! ### Columns -/
def cntU (U : Nat → Bool) : Nat → Nat
  | 0 => 0
  | n + 1 => cntU U n + if U n then 1 else 0
theorem cnt_le (U : Nat → Bool) : ∀ n, cntU U n ≤ n
  | 0 => Nat.le_refl _
  | n + 1 => by have := cnt_le U n; rw [cntU]; split <;> omega
theorem cnt_all {U : Nat → Bool} : ∀ {n : Nat}, cntU U n = n → ∀ c, c < n → U c = true
  | 0, _, c, hc => by omega
  | n + 1, h, c, hc => by
    rw [cntU] at h
    have hl := cnt_le U n
    by_cases hn : U n = true
    · by_cases e : c = n
      · rw [e]; exact hn
      · rw [if_pos hn] at h; exact cnt_all (n := n) (by omega) c (by omega)
    · rw [if_neg hn] at h; omega
theorem cnt_same {U V : Nat → Bool} : ∀ {n : Nat}, (∀ j, j < n → U j = V j) → cntU U n = cntU V n
  | 0, _ => rfl
  | n + 1, h => by rw [cntU, cntU, cnt_same fun j hj => h j (by omega), h n (by omega)]
theorem cnt_use {U : Nat → Bool} {k : Nat} (hk : U k = false) : ∀ {n : Nat}, k < n → cntU (use U k) n = cntU U n + 1
  | 0, h => by omega
  | n + 1, h => by
    rw [cntU, cntU]
    by_cases e : k = n
    · subst e
      rw [use_self, hk, cnt_same (V := U) fun j hj => use_ne (by omega)]; simp
    · rw [cnt_use hk (by omega), use_ne (fun h => e h.symm)]; omega
/-- A column of zeros that is not used yet. -/
theorem Dt_col0 {n : Nat} {M : MX} {c : Nat} (hc : c < n) : ∀ (d i : Nat) (U : Nat → Bool), U c = false → (∀ r, i ≤ r → r < i + d → M r c = 0) → cntU U n + d = n → Dt n M d i U = 0
  | 0, i, U, hU, h, hn => by
    have := cnt_all (show cntU U n = n by omega) c hc
    rw [hU] at this; cases this
  | d + 1, i, U, hU, h, hn => by
    rw [Dt]
    refine sumR_all0 fun k hk => ?_
    by_cases hk' : U k = true
    · rw [if_pos hk']
    · have hk'' : U k = false := by simpa using hk'
      rw [if_neg hk']
      by_cases hkc : k = c
      · rw [hkc, h i (by omega) (by omega)]; grind
      · rw [Dt_col0 hc d (i + 1) (use U k) (by rw [use_ne (fun e => hkc e.symm)]; exact hU) (fun r h1 h2 => h r (by omega) (by omega)) (by rw [cnt_use hk'' hk]; omega)]; grind
theorem cnt_none (n : Nat) : cntU (fun _ => false) n = 0 := by
  induction n with
  | zero => rfl
  | succ n ih => rw [cntU, ih]; rfl
theorem det_col0 {n : Nat} {M : MX} {c : Nat} (hc : c < n) (h : ∀ r, r < n → M r c = 0) : det n M = 0 :=
  Dt_col0 hc n 0 _ rfl (fun r _ hr => h r (by omega)) (by rw [cnt_none]; omega)
/-- The product of the diagonal, d cells from i on. -/
def diagP (M : MX) : Nat → Nat → Rat
  | 0, _ => 1
  | d + 1, i => M i i * diagP M d (i + 1)
theorem sgU_one {U : Nat → Bool} : ∀ (d j : Nat), (∀ q, j ≤ q → q < j + d → U q = false) → sgU U d j = 1
  | 0, _, _ => rfl
  | d + 1, j, h => by
    rw [sgU, h j (by omega) (by omega), sgU_one d (j + 1) fun q h1 h2 => h q (by omega) (by omega)]; simp
def below (i : Nat) : Nat → Bool := fun j => decide (j < i)
theorem cnt_below {i : Nat} : ∀ {n : Nat}, i ≤ n → cntU (below i) n = i
  | 0, h => by rw [cntU]; omega
  | n + 1, h => by
    rw [cntU]
    by_cases e : i = n + 1
    · subst e
      have : cntU (below (n + 1)) n = cntU (below n) n := cnt_same fun j hj => by simp [below]; omega
      rw [this, cnt_below (Nat.le_refl n)]; simp [below]
    · rw [cnt_below (by omega)]
      have : below i n = false := by simp [below]; omega
      rw [this]; rfl
theorem Dt_tri {n : Nat} {M : MX} (h : ∀ r k, r < n → k < r → M r k = 0) : ∀ (d i : Nat), i + d = n → Dt n M d i (below i) = diagP M d i
  | 0, _, _ => rfl
  | d + 1, i, hi => by
    have hin : i < n := by omega
    have hU : below i i = false := by simp [below]
    rw [Dt, sumR_one hin fun k hk hne => ?_, if_neg (by rw [hU]; simp), sgU_one _ _ fun q h1 h2 => by simp [below]; omega]
    · have e : use (below i) i = below (i + 1) := by
        funext j; unfold use below
        split
        · rename_i e; subst e; simp
        · rename_i e; apply decide_eq_decide.2; omega
      rw [e, Dt_tri h d (i + 1) (by omega), diagP]; grind
    · by_cases hk' : below i k = true
      · rw [if_pos hk']
      · have hk'' : below i k = false := by simpa using hk'
        rw [if_neg hk', Dt_col0 hin d (i + 1) (use (below i) k) (by rw [use_ne (fun e => hne e.symm)]; exact hU) (fun r h1 h2 => h r i (by omega) (by omega)) (by rw [cnt_use hk'' hk, cnt_below (by omega)]; omega)]; grind
theorem det_tri {n : Nat} {M : MX} (h : ∀ r k, r < n → k < r → M r k = 0) : det n M = diagP M n 0 := by
  have e : (fun _ => false) = below 0 := by funext j; simp [below]
  unfold det
  rw [e]
  exact Dt_tri h n 0 (by omega)
end Go.Ab
