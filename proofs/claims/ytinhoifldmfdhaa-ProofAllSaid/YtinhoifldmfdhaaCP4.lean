/- The reference's sums, products and comparisons of fractions, in values. -/
import Derived.Test.YtinhoifldmfdhaaCP3
import Derived.Test.YtinhoifldmfdhaaCP1
set_option linter.unusedVariables false
set_option linter.unusedSimpArgs false
set_option maxRecDepth 100000
namespace Go.Ab
open Go.Proofs.Try

def sgQ (q : Rat) : Int := if q = 0 then 0 else if q.num < 0 then -1 else 1
theorem sgQ_zero (q : Rat) : sgQ q = 0 ↔ q = 0 := by
  unfold sgQ
  constructor
  · intro h
    split at h
    · assumption
    · split at h <;> omega
  · intro h; rw [if_pos h]
theorem Can.len0 {r : RV} {q : Rat} (h : Can r q) : r.num.ds.length = 0 ↔ q = 0 := by
  rw [h.num, digs_len0, Int.natAbs_eq_zero, Rat.num_eq_zero]
theorem V50 {r : RV} {k : Nat} (h : ROk k r) (hk : k < 2 ^ 38) : AP cfg 50 [r.av] = some (.int .i64 (sgQ r.q)) := by
  obtain ⟨s, e1, e2, e3⟩ := V58 h.fr hk
  rw [RV.fr_q] at e2
  refine AP_ofz _ _ (fz_int _ _) rfl (m := [cR s]) ?_
  rw [T50]
  simp only [Nat.reduceAdd, Option.bind_some, Option.map_some, box_rv, new_z, new_r, new_zs, new_rs, fld0, fld1, fld2, res1, res2, ld0neg, ld0num, ld0den, ld0all, st0all, st0neg, ld1neg, ld1num, ld1den, ld1all, st1all, st1neg, ld2neg, ld2num, ld2den, ld2all, st2all, st2neg, ld3neg, ld3num, ld3den, ld3all, st3all, st3neg, ld4neg, ld4num, ld4den, ld4all, st4all, st4neg, ex0, ex1, ex2, bld0, bld2, bld12, bld012, nil_av, not_b, bl_neq, bl_eql, List.length_cons, List.length_nil, List.length_append, List.nil_append, List.cons_append, List.append_nil, Nat.zero_add, List.set_cons_zero, List.set_cons_succ, List.set_nil, pcN, pcI, pcNN, pcBNN, pcR, pcRR, pc0, e1, len_nv, n_eql0, ifA_dec]
  unfold sgQ
  by_cases h0 : r.q = 0
  · rw [if_pos (e2.len0.2 h0), if_pos h0]
  · rw [if_neg (fun hh => h0 (e2.len0.1 hh)), if_neg h0, e2.neg, ifA_dec]
    split <;> rfl
theorem V76 {r : RV} {k : Nat} (h : ROk k r) (hk : k < 2 ^ 38) : ∃ s : RV, AP cfg 76 [r.av] = some s.av ∧ Can s (-r.q) ∧ s.fr = s := by
  obtain ⟨s, e1, e2, e3⟩ := V58 h.fr hk
  rw [RV.fr_q] at e2
  have hlen : ∀ b : Bool, decide (s.num.ds.length > 0) = decide (r.q ≠ 0) := by
    intro b
    refine decide_eq_decide.2 ?_
    have := e2.len0
    constructor
    · intro h1 h2
      have := this.2 h2
      omega
    · intro h1
      have : s.num.ds.length ≠ 0 := fun e => h1 (this.1 e)
      omega
  have hs1 : s.num.fr = s.num := congrArg RV.num e3
  have hs2 : s.den.fr = s.den := congrArg RV.den e3
  have hc : ∀ b : Bool, b = decide ((-r.q).num < 0) → Can ⟨b, s.num, s.den⟩ (-r.q) := by
    intro b hb
    refine ⟨hb, ?_, ?_, e2.numz, e2.denz⟩
    · rw [Rat.neg_num, Int.natAbs_neg]; exact e2.num
    · rw [Rat.neg_den]; exact e2.den
  cases hn : s.neg with
  | true =>
    have hq : r.q.num < 0 := by have := e2.neg; rw [hn] at this; exact of_decide_eq_true this.symm
    refine ⟨⟨false, s.num, s.den⟩, (AP_ofz _ _ (fz_rv ⟨false, s.num, s.den⟩) (noV_rv _) (m := [cR ⟨false, s.num, s.den⟩, cR ⟨false, s.num, s.den⟩]) ?_).trans (by simp only [RV.fr, hs1, hs2]), hc false ?_, by simp only [RV.fr, hs1, hs2]⟩
    · rw [T76]
      simp only [Nat.reduceAdd, Option.bind_some, Option.map_some, box_rv, new_z, new_r, new_zs, new_rs, fld0, fld1, fld2, res1, res2, ld0neg, ld0num, ld0den, ld0all, st0all, st0neg, ld1neg, ld1num, ld1den, ld1all, st1all, st1neg, ld2neg, ld2num, ld2den, ld2all, st2all, st2neg, ld3neg, ld3num, ld3den, ld3all, st3all, st3neg, ld4neg, ld4num, ld4den, ld4all, st4all, st4neg, ex0, ex1, ex2, bld0, bld2, bld12, bld012, nil_av, not_b, bl_neq, bl_eql, List.length_cons, List.length_nil, List.length_append, List.nil_append, List.cons_append, List.append_nil, Nat.zero_add, List.set_cons_zero, List.set_cons_succ, List.set_nil, pcN, pcI, pcNN, pcBNN, pcR, pcRR, pc0, e1, hn, Bool.not_true, ifA_false]
    · rw [Rat.neg_num]; exact (decide_eq_false (by omega)).symm
  | false =>
    have hq : ¬ r.q.num < 0 := by have := e2.neg; rw [hn] at this; exact of_decide_eq_false this.symm
    refine ⟨⟨decide (r.q ≠ 0), s.num, s.den⟩, (AP_ofz _ _ (fz_rv ⟨decide (r.q ≠ 0), s.num, s.den⟩) (noV_rv _) (m := [cR ⟨decide (r.q ≠ 0), s.num, s.den⟩, cR ⟨decide (r.q ≠ 0), s.num, s.den⟩]) ?_).trans (by simp only [RV.fr, hs1, hs2]), hc _ ?_, by simp only [RV.fr, hs1, hs2]⟩
    · rw [T76]
      simp only [Nat.reduceAdd, Option.bind_some, Option.map_some, box_rv, new_z, new_r, new_zs, new_rs, fld0, fld1, fld2, res1, res2, ld0neg, ld0num, ld0den, ld0all, st0all, st0neg, ld1neg, ld1num, ld1den, ld1all, st1all, st1neg, ld2neg, ld2num, ld2den, ld2all, st2all, st2neg, ld3neg, ld3num, ld3den, ld3all, st3all, st3neg, ld4neg, ld4num, ld4den, ld4all, st4all, st4neg, ex0, ex1, ex2, bld0, bld2, bld12, bld012, nil_av, not_b, bl_neq, bl_eql, List.length_cons, List.length_nil, List.length_append, List.nil_append, List.cons_append, List.append_nil, Nat.zero_add, List.set_cons_zero, List.set_cons_succ, List.set_nil, pcN, pcI, pcNN, pcBNN, pcR, pcRR, pc0, e1, hn, Bool.not_false, ifA_true, len_nv, n_gtr0, hlen true]
    · rw [Rat.neg_num]
      refine decide_eq_decide.2 ?_
      have h0 : r.q = 0 ↔ r.q.num = 0 := Rat.num_eq_zero.symm
      constructor
      · intro h1
        have : r.q.num ≠ 0 := fun e => h1 (h0.2 e)
        omega
      · intro h1 h2
        have := h0.1 h2
        omega
theorem V27 {a b : RV} {k : Nat} (ha : ROk k a) (hb : ROk k b) (hk1 : 1 ≤ k) (hk : k < 2 ^ 36) : ∃ s : RV, AP cfg 27 [a.av, b.av] = some s.av ∧ Can s (a.q + b.q) ∧ s.fr = s := by
  obtain ⟨s, e1, e2, e3⟩ := V58 ha.fr (by omega)
  obtain ⟨t, f1, f2, f3⟩ := V58 hb.fr (by omega)
  rw [RV.fr_q] at e2 f2
  have os := e2.ok (ha.bd hk1) (by omega)
  have ot := f2.ok (hb.bd hk1) (by omega)
  have hs1 : s.num.fr = s.num := congrArg RV.num e3
  have hs2 : s.den.fr = s.den := congrArg RV.den e3
  have ht1 : t.num.fr = t.num := congrArg RV.num f3
  have ht2 : t.den.fr = t.den := congrArg RV.den f3
  have lx := ln_mul (Nat.le_trans os.num.v_len os.ln) (Nat.le_trans ot.den.v_len ot.ld)
  have ly := ln_mul (Nat.le_trans ot.num.v_len ot.ln) (Nat.le_trans os.den.v_len os.ld)
  have ld := ln_mul (Nat.le_trans os.den.v_len os.ld) (Nat.le_trans ot.den.v_len ot.ld)
  have lxy := ln_add lx ly
  have g1 := V59 os.num ot.den
  have g2 := V59 ot.num os.den
  have g3 := V59 os.den ot.den
  have ox : NOk (refN (s.num.v * t.den.v)) := refN_ok (by omega)
  have oy : NOk (refN (t.num.v * s.den.v)) := refN_ok (by omega)
  have od : NOk (refN (s.den.v * t.den.v)) := refN_ok (by omega)
  have g4 := V60 ox oy (refN_fr _) (refN_fr _)
  have g5 := V61 ox oy
  have g6 := V62 ox oy (refN_fr _) (refN_fr _)
  have g7 := V62 oy ox (refN_fr _) (refN_fr _)
  rw [refN_v, refN_v] at g4 g5
  unfold subR at g6 g7
  rw [refN_v, refN_v] at g6 g7
  have hd0 : s.den.v * t.den.v ≠ 0 := Nat.mul_ne_zero e2.den0 f2.den0
  have hsum : a.q + b.q = mkRat (sgn s.neg (s.num.v * t.den.v) + sgn t.neg (t.num.v * s.den.v)) (s.den.v * t.den.v) := by
    rw [← e2.q, ← f2.q]
    exact qOf_add e2.den0 f2.den0
  have fin : ∀ (neg : Bool) (n : Nat), (digs n).length < 2 ^ 38 → mkRat (sgn s.neg (s.num.v * t.den.v) + sgn t.neg (t.num.v * s.den.v)) (s.den.v * t.den.v) = qOf neg n (s.den.v * t.den.v) → ∃ r : RV, AP cfg 63 [.bool neg, (refN n).av, (refN (s.den.v * t.den.v)).av] = some (.tup [r.av, .int .i64 0]) ∧ Can r (a.q + b.q) ∧ r.fr = r := by
    intro neg n hn he
    rcases V63 neg (refN_ok (n := n) (by omega)) od (by rw [refN_v]; exact hn) (by rw [refN_v]; omega) with ⟨h0, _⟩ | ⟨_, r, h1, h2, h3⟩
    · rw [refN_v] at h0; exact absurd h0 hd0
    · rw [refN_v, refN_v, ← he, ← hsum] at h2
      exact ⟨r, h1, h2, h3⟩
  by_cases hn : s.neg = t.neg
  · obtain ⟨r, h1, h2, h3⟩ := fin s.neg (s.num.v * t.den.v + t.num.v * s.den.v) (by omega) (by rw [← hn, sgn_same]; rfl)
    refine ⟨r, (AP_ofz _ _ (fz_rv r) (noV_rv _) (m := [cR s, cR t, cR r, cR r]) ?_).trans (by rw [h3]), h2, h3⟩
    rw [T27]
    simp only [Nat.reduceAdd, Option.bind_some, Option.map_some, box_rv, new_z, new_r, new_zs, new_rs, fld0, fld1, fld2, res1, res2, ld0neg, ld0num, ld0den, ld0all, st0all, st0neg, ld1neg, ld1num, ld1den, ld1all, st1all, st1neg, ld2neg, ld2num, ld2den, ld2all, st2all, st2neg, ld3neg, ld3num, ld3den, ld3all, st3all, st3neg, ld4neg, ld4num, ld4den, ld4all, st4all, st4neg, ex0, ex1, ex2, bld0, bld2, bld12, bld012, nil_av, not_b, bl_neq, bl_eql, List.length_cons, List.length_nil, List.length_append, List.nil_append, List.cons_append, List.append_nil, Nat.zero_add, List.set_cons_zero, List.set_cons_succ, List.set_nil, pcN, pcI, pcNN, pcBNN, pcR, pcRR, pc0, e1, f1, hs1, hs2, ht1, ht2, g1, g2, g3, refN_fr, g4, hn, bne_self_eq_false, ifA_false]
    rw [hn] at h1
    simp only [Nat.reduceAdd, Option.bind_some, Option.map_some, box_rv, new_z, new_r, new_zs, new_rs, fld0, fld1, fld2, res1, res2, ld0neg, ld0num, ld0den, ld0all, st0all, st0neg, ld1neg, ld1num, ld1den, ld1all, st1all, st1neg, ld2neg, ld2num, ld2den, ld2all, st2all, st2neg, ld3neg, ld3num, ld3den, ld3all, st3all, st3neg, ld4neg, ld4num, ld4den, ld4all, st4all, st4neg, ex0, ex1, ex2, bld0, bld2, bld12, bld012, nil_av, not_b, bl_neq, bl_eql, List.length_cons, List.length_nil, List.length_append, List.nil_append, List.cons_append, List.append_nil, Nat.zero_add, List.set_cons_zero, List.set_cons_succ, List.set_nil, pcN, pcI, pcNN, pcBNN, pcR, pcRR, pc0, h1]
  · have hne : (s.neg != t.neg) = true := by simpa using hn
    by_cases hlt : s.num.v * t.den.v < t.num.v * s.den.v
    · obtain ⟨r, h1, h2, h3⟩ := fin t.neg (t.num.v * s.den.v - s.num.v * t.den.v) (Nat.lt_of_le_of_lt (digs_mono (Nat.sub_le _ _)) (by omega)) (by rw [sgn_lt hn hlt]; rfl)
      refine ⟨r, (AP_ofz _ _ (fz_rv r) (noV_rv _) (m := [cR s, cR t, cR r, cR r]) ?_).trans (by rw [h3]), h2, h3⟩
      have hc : ¬ cmpV (s.num.v * t.den.v) (t.num.v * s.den.v) ≥ 0 := by unfold cmpV; rw [if_pos hlt]; omega
      rw [if_neg (by omega)] at g7
      rw [T27]
      simp only [Nat.reduceAdd, Option.bind_some, Option.map_some, box_rv, new_z, new_r, new_zs, new_rs, fld0, fld1, fld2, res1, res2, ld0neg, ld0num, ld0den, ld0all, st0all, st0neg, ld1neg, ld1num, ld1den, ld1all, st1all, st1neg, ld2neg, ld2num, ld2den, ld2all, st2all, st2neg, ld3neg, ld3num, ld3den, ld3all, st3all, st3neg, ld4neg, ld4num, ld4den, ld4all, st4all, st4neg, ex0, ex1, ex2, bld0, bld2, bld12, bld012, nil_av, not_b, bl_neq, bl_eql, List.length_cons, List.length_nil, List.length_append, List.nil_append, List.cons_append, List.append_nil, Nat.zero_add, List.set_cons_zero, List.set_cons_succ, List.set_nil, pcN, pcI, pcNN, pcBNN, pcR, pcRR, pc0, e1, f1, hs1, hs2, ht1, ht2, g1, g2, g3, refN_fr, g4, hne, ifA_true, g5, binA_geq, ifA_dec]
      rw [if_neg hc]
      simp only [Nat.reduceAdd, Option.bind_some, Option.map_some, box_rv, new_z, new_r, new_zs, new_rs, fld0, fld1, fld2, res1, res2, ld0neg, ld0num, ld0den, ld0all, st0all, st0neg, ld1neg, ld1num, ld1den, ld1all, st1all, st1neg, ld2neg, ld2num, ld2den, ld2all, st2all, st2neg, ld3neg, ld3num, ld3den, ld3all, st3all, st3neg, ld4neg, ld4num, ld4den, ld4all, st4all, st4neg, ex0, ex1, ex2, bld0, bld2, bld12, bld012, nil_av, not_b, bl_neq, bl_eql, List.length_cons, List.length_nil, List.length_append, List.nil_append, List.cons_append, List.append_nil, Nat.zero_add, List.set_cons_zero, List.set_cons_succ, List.set_nil, pcN, pcI, pcNN, pcBNN, pcR, pcRR, pc0, refN_fr, g7, h1]
    · obtain ⟨r, h1, h2, h3⟩ := fin s.neg (s.num.v * t.den.v - t.num.v * s.den.v) (Nat.lt_of_le_of_lt (digs_mono (Nat.sub_le _ _)) (by omega)) (by rw [sgn_gt hn hlt]; rfl)
      refine ⟨r, (AP_ofz _ _ (fz_rv r) (noV_rv _) (m := [cR s, cR t, cR r, cR r]) ?_).trans (by rw [h3]), h2, h3⟩
      have hc : cmpV (s.num.v * t.den.v) (t.num.v * s.den.v) ≥ 0 := by unfold cmpV; rw [if_neg hlt]; split <;> omega
      rw [if_neg hlt] at g6
      rw [T27]
      simp only [Nat.reduceAdd, Option.bind_some, Option.map_some, box_rv, new_z, new_r, new_zs, new_rs, fld0, fld1, fld2, res1, res2, ld0neg, ld0num, ld0den, ld0all, st0all, st0neg, ld1neg, ld1num, ld1den, ld1all, st1all, st1neg, ld2neg, ld2num, ld2den, ld2all, st2all, st2neg, ld3neg, ld3num, ld3den, ld3all, st3all, st3neg, ld4neg, ld4num, ld4den, ld4all, st4all, st4neg, ex0, ex1, ex2, bld0, bld2, bld12, bld012, nil_av, not_b, bl_neq, bl_eql, List.length_cons, List.length_nil, List.length_append, List.nil_append, List.cons_append, List.append_nil, Nat.zero_add, List.set_cons_zero, List.set_cons_succ, List.set_nil, pcN, pcI, pcNN, pcBNN, pcR, pcRR, pc0, e1, f1, hs1, hs2, ht1, ht2, g1, g2, g3, refN_fr, g4, hne, ifA_true, g5, binA_geq, ifA_dec]
      rw [if_pos hc]
      simp only [Nat.reduceAdd, Option.bind_some, Option.map_some, box_rv, new_z, new_r, new_zs, new_rs, fld0, fld1, fld2, res1, res2, ld0neg, ld0num, ld0den, ld0all, st0all, st0neg, ld1neg, ld1num, ld1den, ld1all, st1all, st1neg, ld2neg, ld2num, ld2den, ld2all, st2all, st2neg, ld3neg, ld3num, ld3den, ld3all, st3all, st3neg, ld4neg, ld4num, ld4den, ld4all, st4all, st4neg, ex0, ex1, ex2, bld0, bld2, bld12, bld012, nil_av, not_b, bl_neq, bl_eql, List.length_cons, List.length_nil, List.length_append, List.nil_append, List.cons_append, List.append_nil, Nat.zero_add, List.set_cons_zero, List.set_cons_succ, List.set_nil, pcN, pcI, pcNN, pcBNN, pcR, pcRR, pc0, refN_fr, g6, h1]
theorem V51 {a b : RV} {k : Nat} (ha : ROk k a) (hb : ROk k b) (hk1 : 1 ≤ k) (hk : k < 2 ^ 36) : ∃ s : RV, AP cfg 51 [a.av, b.av] = some s.av ∧ Can s (a.q - b.q) ∧ s.fr = s := by
  obtain ⟨t, f1, f2, f3⟩ := V76 hb.fr (by omega)
  rw [RV.fr_q] at f2
  have bt : Bd k (-b.q) := by
    have := hb.bd hk1
    refine ⟨?_, ?_⟩
    · rw [Rat.neg_num, Int.natAbs_neg]; exact this.1
    · rw [Rat.neg_den]; exact this.2
  have ot := f2.ok bt (by omega)
  obtain ⟨s, e1, e2, e3⟩ := V27 ha.fr ot hk1 hk
  rw [f2.q, RV.fr_q, ← Rat.sub_eq_add_neg] at e2
  refine ⟨s, (AP_ofz _ _ (fz_rv s) (noV_rv _) (m := [cR a, cR b, cR s]) ?_).trans (by rw [e3]), e2, e3⟩
  rw [T51]
  simp only [Nat.reduceAdd, Option.bind_some, Option.map_some, box_rv, new_z, new_r, new_zs, new_rs, fld0, fld1, fld2, res1, res2, ld0neg, ld0num, ld0den, ld0all, st0all, st0neg, ld1neg, ld1num, ld1den, ld1all, st1all, st1neg, ld2neg, ld2num, ld2den, ld2all, st2all, st2neg, ld3neg, ld3num, ld3den, ld3all, st3all, st3neg, ld4neg, ld4num, ld4den, ld4all, st4all, st4neg, ex0, ex1, ex2, bld0, bld2, bld12, bld012, nil_av, not_b, bl_neq, bl_eql, List.length_cons, List.length_nil, List.length_append, List.nil_append, List.cons_append, List.append_nil, Nat.zero_add, List.set_cons_zero, List.set_cons_succ, List.set_nil, pcN, pcI, pcNN, pcBNN, pcR, pcRR, pc0, f1, f3, e1]
theorem V20 {a b : RV} {k : Nat} (ha : ROk k a) (hb : ROk k b) (hk1 : 1 ≤ k) (hk : k < 2 ^ 36) : AP cfg 20 [a.av, b.av] = some (.int .i64 (sgQ (a.q - b.q))) := by
  obtain ⟨s, e1, e2, e3⟩ := V51 ha.fr hb.fr hk1 hk
  rw [RV.fr_q, RV.fr_q] at e2
  have bs := Bd_add (ha.bd hk1) (q := -b.q) (l := k) (by
    have := hb.bd hk1
    refine ⟨?_, ?_⟩
    · rw [Rat.neg_num, Int.natAbs_neg]; exact this.1
    · rw [Rat.neg_den]; exact this.2) hk1
  rw [← Rat.sub_eq_add_neg] at bs
  have os := e2.ok bs (by omega)
  have e4 := V50 os (by omega)
  rw [e2.q] at e4
  refine AP_ofz _ _ (fz_int _ _) rfl (m := [cR a, cR b]) ?_
  rw [T20]
  simp only [Nat.reduceAdd, Option.bind_some, Option.map_some, box_rv, new_z, new_r, new_zs, new_rs, fld0, fld1, fld2, res1, res2, ld0neg, ld0num, ld0den, ld0all, st0all, st0neg, ld1neg, ld1num, ld1den, ld1all, st1all, st1neg, ld2neg, ld2num, ld2den, ld2all, st2all, st2neg, ld3neg, ld3num, ld3den, ld3all, st3all, st3neg, ld4neg, ld4num, ld4den, ld4all, st4all, st4neg, ex0, ex1, ex2, bld0, bld2, bld12, bld012, nil_av, not_b, bl_neq, bl_eql, List.length_cons, List.length_nil, List.length_append, List.nil_append, List.cons_append, List.append_nil, Nat.zero_add, List.set_cons_zero, List.set_cons_succ, List.set_nil, pcN, pcI, pcNN, pcBNN, pcR, pcRR, pc0, e1, e3, e4]
theorem V9 {a b : RV} {k : Nat} (ha : ROk k a) (hb : ROk k b) (hk1 : 1 ≤ k) (hk : k < 2 ^ 36) : AP cfg 9 [a.av, b.av] = some (.bool (decide (a.q = b.q))) := by
  have e1 := V20 ha.fr hb.fr hk1 hk
  rw [RV.fr_q, RV.fr_q] at e1
  refine AP_ofz _ _ (fz_bool _) rfl (m := [cR a, cR b]) ?_
  rw [T9]
  simp only [Nat.reduceAdd, Option.bind_some, Option.map_some, box_rv, new_z, new_r, new_zs, new_rs, fld0, fld1, fld2, res1, res2, ld0neg, ld0num, ld0den, ld0all, st0all, st0neg, ld1neg, ld1num, ld1den, ld1all, st1all, st1neg, ld2neg, ld2num, ld2den, ld2all, st2all, st2neg, ld3neg, ld3num, ld3den, ld3all, st3all, st3neg, ld4neg, ld4num, ld4den, ld4all, st4all, st4neg, ex0, ex1, ex2, bld0, bld2, bld12, bld012, nil_av, not_b, bl_neq, bl_eql, List.length_cons, List.length_nil, List.length_append, List.nil_append, List.cons_append, List.append_nil, Nat.zero_add, List.set_cons_zero, List.set_cons_succ, List.set_nil, pcN, pcI, pcNN, pcBNN, pcR, pcRR, pc0, e1, binA_eql]
  congr 3
  refine decide_eq_decide.2 ?_
  rw [sgQ_zero]
  constructor
  · intro h
    have := Rat.sub_add_cancel (a := a.q) (b := b.q)
    rw [h, Rat.zero_add] at this
    exact this.symm
  · intro h; rw [h, Rat.sub_self]
end Go.Ab

/- Lowest terms in the reference; sums and products of ratio, in values. -/
set_option linter.unusedVariables false
set_option linter.unusedSimpArgs false
set_option maxRecDepth 100000
namespace Go.Ab
open Go.Proofs.Try

theorem V47 {r : RV} {k : Nat} (h : ROk k r) (hk : k < 2 ^ 38) : AP cfg 47 [r.av] = some (.bool (rightR r)) := by
  have ln := Nat.le_trans h.num.v_len h.ln
  have ld := Nat.le_trans h.den.v_len h.ld
  have e1 := V73 h.num.fr
  have e2 := V73 h.den.fr
  have e3 := V74 h.num.fr h.den.fr (by show (digs r.num.v).length < _; omega) (by show (digs r.den.v).length < _; omega)
  have v1 : r.num.fr.v = r.num.v := rfl
  have v2 : r.den.fr.v = r.den.v := rfl
  rw [v1, v2] at e3
  have lg : (digs (Nat.gcd r.num.v r.den.v)).length < 2 ^ 40 := digs_gcd_len (by omega) (by omega)
  have o1 : NOk (refN 1) := refN_ok ln1'
  have e5 := V61 (refN_ok lg) o1
  have e6 := V61 h.den.fr o1
  rw [refN_v, refN_v] at e5
  rw [refN_v, v2] at e6
  have d1 : r.num.fr.ds = r.num.ds := rfl
  have d2 : r.den.fr.ds = r.den.ds := rfl
  rw [d1] at e1
  rw [d2] at e2
  have cm : ∀ n : Nat, (binA .other .eql (.int .i64 (cmpV n 1)) (.int .i64 0)) = some (.bool (decide (n = 1))) := by
    intro n
    rw [binA_eql]
    congr 2
    refine decide_eq_decide.2 ?_
    unfold cmpV
    constructor <;> intro h <;> (repeat' split at *) <;> omega
  refine AP_ofz _ _ (fz_bool _) rfl (m := [cR r]) ?_
  rw [T47]
  simp only [Nat.reduceAdd, Option.bind_some, Option.map_some, box_rv, new_z, new_r, new_zs, new_rs, fld0, fld1, fld2, res1, res2, ld0neg, ld0num, ld0den, ld0all, st0all, st0neg, ld1neg, ld1num, ld1den, ld1all, st1all, st1neg, ld2neg, ld2num, ld2den, ld2all, st2all, st2neg, ld3neg, ld3num, ld3den, ld3all, st3all, st3neg, ld4neg, ld4num, ld4den, ld4all, st4all, st4neg, ex0, ex1, ex2, bld0, bld2, bld12, bld012, nil_av, not_b, bl_neq, bl_eql, List.length_cons, List.length_nil, List.length_append, List.nil_append, List.cons_append, List.append_nil, Nat.zero_add, List.set_cons_zero, List.set_cons_succ, List.set_nil, pcN, pcI, pcNN, pcBNN, pcR, pcRR, pc0, e1]
  unfold rightR
  cases h1 : canB r.num.ds with
  | false => rfl
  | true =>
    simp only [Nat.reduceAdd, Option.bind_some, Option.map_some, box_rv, new_z, new_r, new_zs, new_rs, fld0, fld1, fld2, res1, res2, ld0neg, ld0num, ld0den, ld0all, st0all, st0neg, ld1neg, ld1num, ld1den, ld1all, st1all, st1neg, ld2neg, ld2num, ld2den, ld2all, st2all, st2neg, ld3neg, ld3num, ld3den, ld3all, st3all, st3neg, ld4neg, ld4num, ld4den, ld4all, st4all, st4neg, ex0, ex1, ex2, bld0, bld2, bld12, bld012, nil_av, not_b, bl_neq, bl_eql, List.length_cons, List.length_nil, List.length_append, List.nil_append, List.cons_append, List.append_nil, Nat.zero_add, List.set_cons_zero, List.set_cons_succ, List.set_nil, pcN, pcI, pcNN, pcBNN, pcR, pcRR, pc0, Bool.not_true, ifA_false, e2, Bool.true_and]
    cases h2 : canB r.den.ds with
    | false => rfl
    | true =>
      simp only [Nat.reduceAdd, Option.bind_some, Option.map_some, box_rv, new_z, new_r, new_zs, new_rs, fld0, fld1, fld2, res1, res2, ld0neg, ld0num, ld0den, ld0all, st0all, st0neg, ld1neg, ld1num, ld1den, ld1all, st1all, st1neg, ld2neg, ld2num, ld2den, ld2all, st2all, st2neg, ld3neg, ld3num, ld3den, ld3all, st3all, st3neg, ld4neg, ld4num, ld4den, ld4all, st4all, st4neg, ex0, ex1, ex2, bld0, bld2, bld12, bld012, nil_av, not_b, bl_neq, bl_eql, List.length_cons, List.length_nil, List.length_append, List.nil_append, List.cons_append, List.append_nil, Nat.zero_add, List.set_cons_zero, List.set_cons_succ, List.set_nil, pcN, pcI, pcNN, pcBNN, pcR, pcRR, pc0, Bool.not_true, ifA_false, len_nv, n_eql0, Bool.true_and, canB_len h2]
      rw [ifA_dec]
      by_cases h3 : r.den.v = 0
      · rw [if_pos h3]; simp [h3]
      · rw [if_neg h3]
        simp only [Nat.reduceAdd, Option.bind_some, Option.map_some, box_rv, new_z, new_r, new_zs, new_rs, fld0, fld1, fld2, res1, res2, ld0neg, ld0num, ld0den, ld0all, st0all, st0neg, ld1neg, ld1num, ld1den, ld1all, st1all, st1neg, ld2neg, ld2num, ld2den, ld2all, st2all, st2neg, ld3neg, ld3num, ld3den, ld3all, st3all, st3neg, ld4neg, ld4num, ld4den, ld4all, st4all, st4neg, ex0, ex1, ex2, bld0, bld2, bld12, bld012, nil_av, not_b, bl_neq, bl_eql, List.length_cons, List.length_nil, List.length_append, List.nil_append, List.cons_append, List.append_nil, Nat.zero_add, List.set_cons_zero, List.set_cons_succ, List.set_nil, pcN, pcI, pcNN, pcBNN, pcR, pcRR, pc0, len_nv, n_eql0, canB_len h1]
        rw [ifA_dec]
        by_cases h4 : r.num.v = 0
        · rw [if_pos h4]
          cases hn : r.neg with
          | true => simp only [Nat.reduceAdd, Option.bind_some, Option.map_some, box_rv, new_z, new_r, new_zs, new_rs, fld0, fld1, fld2, res1, res2, ld0neg, ld0num, ld0den, ld0all, st0all, st0neg, ld1neg, ld1num, ld1den, ld1all, st1all, st1neg, ld2neg, ld2num, ld2den, ld2all, st2all, st2neg, ld3neg, ld3num, ld3den, ld3all, st3all, st3neg, ld4neg, ld4num, ld4den, ld4all, st4all, st4neg, ex0, ex1, ex2, bld0, bld2, bld12, bld012, nil_av, not_b, bl_neq, bl_eql, List.length_cons, List.length_nil, List.length_append, List.nil_append, List.cons_append, List.append_nil, Nat.zero_add, List.set_cons_zero, List.set_cons_succ, List.set_nil, pcN, pcI, pcNN, pcBNN, pcR, pcRR, pc0, Bool.not_true, ifA_false]; simp [h4]
          | false =>
            simp only [Nat.reduceAdd, Option.bind_some, Option.map_some, box_rv, new_z, new_r, new_zs, new_rs, fld0, fld1, fld2, res1, res2, ld0neg, ld0num, ld0den, ld0all, st0all, st0neg, ld1neg, ld1num, ld1den, ld1all, st1all, st1neg, ld2neg, ld2num, ld2den, ld2all, st2all, st2neg, ld3neg, ld3num, ld3den, ld3all, st3all, st3neg, ld4neg, ld4num, ld4den, ld4all, st4all, st4neg, ex0, ex1, ex2, bld0, bld2, bld12, bld012, nil_av, not_b, bl_neq, bl_eql, List.length_cons, List.length_nil, List.length_append, List.nil_append, List.cons_append, List.append_nil, Nat.zero_add, List.set_cons_zero, List.set_cons_succ, List.set_nil, pcN, pcI, pcNN, pcBNN, pcR, pcRR, pc0, Bool.not_false, ifA_true, V52one, refN_fr, e6, cm]
            simp [h3, h4]
        · rw [if_neg h4]
          simp only [Nat.reduceAdd, Option.bind_some, Option.map_some, box_rv, new_z, new_r, new_zs, new_rs, fld0, fld1, fld2, res1, res2, ld0neg, ld0num, ld0den, ld0all, st0all, st0neg, ld1neg, ld1num, ld1den, ld1all, st1all, st1neg, ld2neg, ld2num, ld2den, ld2all, st2all, st2neg, ld3neg, ld3num, ld3den, ld3all, st3all, st3neg, ld4neg, ld4num, ld4den, ld4all, st4all, st4neg, ex0, ex1, ex2, bld0, bld2, bld12, bld012, nil_av, not_b, bl_neq, bl_eql, List.length_cons, List.length_nil, List.length_append, List.nil_append, List.cons_append, List.append_nil, Nat.zero_add, List.set_cons_zero, List.set_cons_succ, List.set_nil, pcN, pcI, pcNN, pcBNN, pcR, pcRR, pc0, V52one, e3, refN_fr, e5, cm]
          simp [h3, h4]
theorem V49 {a b : RV} {k : Nat} (ha : ROk k a) (hb : ROk k b) (hk1 : 1 ≤ k) (hk : k < 2 ^ 36) : ∃ s : RV, AP cfg 49 [a.av, b.av] = some s.av ∧ Can s (a.q * b.q) ∧ s.fr = s := by
  obtain ⟨s, e1, e2, e3⟩ := V58 ha.fr (by omega)
  obtain ⟨t, f1, f2, f3⟩ := V58 hb.fr (by omega)
  rw [RV.fr_q] at e2 f2
  have os := e2.ok (ha.bd hk1) (by omega)
  have ot := f2.ok (hb.bd hk1) (by omega)
  have hs1 : s.num.fr = s.num := congrArg RV.num e3
  have hs2 : s.den.fr = s.den := congrArg RV.den e3
  have ht1 : t.num.fr = t.num := congrArg RV.num f3
  have ht2 : t.den.fr = t.den := congrArg RV.den f3
  have ln := ln_mul (Nat.le_trans os.num.v_len os.ln) (Nat.le_trans ot.num.v_len ot.ln)
  have ld := ln_mul (Nat.le_trans os.den.v_len os.ld) (Nat.le_trans ot.den.v_len ot.ld)
  have g1 := V59 os.num ot.num
  have g3 := V59 os.den ot.den
  have on : NOk (refN (s.num.v * t.num.v)) := refN_ok (by omega)
  have od : NOk (refN (s.den.v * t.den.v)) := refN_ok (by omega)
  have hd0 : s.den.v * t.den.v ≠ 0 := Nat.mul_ne_zero e2.den0 f2.den0
  have hq : qOf (s.neg != t.neg) (s.num.v * t.num.v) (s.den.v * t.den.v) = a.q * b.q := by rw [← qOf_mul, ← e2.q, ← f2.q]; rfl
  rcases V63 (s.neg != t.neg) on od (by rw [refN_v]; omega) (by rw [refN_v]; omega) with ⟨h0, _⟩ | ⟨_, r, h1, h2, h3⟩
  · rw [refN_v] at h0; exact absurd h0 hd0
  · rw [refN_v, refN_v, hq] at h2
    refine ⟨r, (AP_ofz _ _ (fz_rv r) (noV_rv _) (m := [cR s, cR t, cR r, cR r]) ?_).trans (by rw [h3]), h2, h3⟩
    rw [T49]
    simp only [Nat.reduceAdd, Option.bind_some, Option.map_some, box_rv, new_z, new_r, new_zs, new_rs, fld0, fld1, fld2, res1, res2, ld0neg, ld0num, ld0den, ld0all, st0all, st0neg, ld1neg, ld1num, ld1den, ld1all, st1all, st1neg, ld2neg, ld2num, ld2den, ld2all, st2all, st2neg, ld3neg, ld3num, ld3den, ld3all, st3all, st3neg, ld4neg, ld4num, ld4den, ld4all, st4all, st4neg, ex0, ex1, ex2, bld0, bld2, bld12, bld012, nil_av, not_b, bl_neq, bl_eql, List.length_cons, List.length_nil, List.length_append, List.nil_append, List.cons_append, List.append_nil, Nat.zero_add, List.set_cons_zero, List.set_cons_succ, List.set_nil, pcN, pcI, pcNN, pcBNN, pcR, pcRR, pc0, e1, f1, hs1, hs2, ht1, ht2, g1, g3, refN_fr, h1]

/-! ### The program's -/
theorem V34 {a b : RV} {k : Nat} (ha : ROk k a) (hb : ROk k b) (hk1 : 1 ≤ k) (hk : k < 2 ^ 36) : ∃ s : RV, AP cfg 34 [a.av, b.av] = some s.av ∧ Can s (a.q * b.q) ∧ s.fr = s := by
  have g1 := V38 ha.num.fr hb.num.fr
  have g2 := V38 ha.den.fr hb.den.fr
  have v1 : a.num.fr.v = a.num.v := rfl
  have v2 : a.den.fr.v = a.den.v := rfl
  have v3 : b.num.fr.v = b.num.v := rfl
  have v4 : b.den.fr.v = b.den.v := rfl
  rw [v1, v3] at g1
  rw [v2, v4] at g2
  have ln := ln_mul (Nat.le_trans ha.num.v_len ha.ln) (Nat.le_trans hb.num.v_len hb.ln)
  have ld := ln_mul (Nat.le_trans ha.den.v_len ha.ld) (Nat.le_trans hb.den.v_len hb.ld)
  have on : NOk ⟨false, .no, digs (a.num.v * b.num.v)⟩ := nok_digs (by omega)
  have od : NOk ⟨false, .no, digs (a.den.v * b.den.v)⟩ := nok_digs (by omega)
  have nf : ∀ n : Nat, (NV.mk false .no (digs n)).fr = ⟨false, .no, digs n⟩ := fun _ => rfl
  have nv : ∀ n : Nat, (NV.mk false .no (digs n)).v = n := fun n => val_digs n
  obtain ⟨r, h1, h2, h3⟩ := V37 (a.neg != b.neg) on od
  rw [nv, nv, ← qOf_mul] at h2
  refine ⟨r, (AP_ofz _ _ (fz_rv r) (noV_rv _) (m := [cR a, cR b, cR r]) ?_).trans (by rw [h3]), h2, h3⟩
  rw [T34]
  simp only [Nat.reduceAdd, Option.bind_some, Option.map_some, box_rv, new_z, new_r, new_zs, new_rs, fld0, fld1, fld2, res1, res2, ld0neg, ld0num, ld0den, ld0all, st0all, st0neg, ld1neg, ld1num, ld1den, ld1all, st1all, st1neg, ld2neg, ld2num, ld2den, ld2all, st2all, st2neg, ld3neg, ld3num, ld3den, ld3all, st3all, st3neg, ld4neg, ld4num, ld4den, ld4all, st4all, st4neg, ex0, ex1, ex2, bld0, bld2, bld12, bld012, nil_av, not_b, bl_neq, bl_eql, List.length_cons, List.length_nil, List.length_append, List.nil_append, List.cons_append, List.append_nil, Nat.zero_add, List.set_cons_zero, List.set_cons_succ, List.set_nil, pcN, pcI, pcNN, pcBNN, pcR, pcRR, pc0, g1, g2, nf, h1]
theorem signR_zero {r : RV} : signR r = 0 ↔ r.q = 0 := by
  unfold signR
  by_cases h : r.num.v = 0 ∨ r.den.v = 0
  · rw [if_pos h]
    refine ⟨fun _ => ?_, fun _ => rfl⟩
    rcases h with h | h
    · rw [RV.q, h, qOf_num0]
    · rw [RV.q, h, qOf_den0]
  · rw [if_neg h]
    constructor
    · intro h'; split at h' <;> omega
    · intro h'
      have hd : r.den.v ≠ 0 := fun e => h (.inr e)
      exact absurd (.inl ((qOf_eq0 hd).1 h')) h
theorem V16 {a b : RV} {k : Nat} (ha : ROk k a) (hb : ROk k b) (hk1 : 1 ≤ k) (hk : k < 2 ^ 36) : ∃ s : RV, AP cfg 16 [a.av, b.av] = some s.av ∧ Can s (a.q + b.q) ∧ s.fr = s := by
  have e1 := V36 ha.fr
  have e2 := V36 hb.fr
  have s1 : signR a.fr = signR a := rfl
  have s2 : signR b.fr = signR b := rfl
  rw [s1] at e1
  rw [s2] at e2
  have v1 : a.num.fr.v = a.num.v := rfl
  have v2 : a.den.fr.v = a.den.v := rfl
  have v3 : b.num.fr.v = b.num.v := rfl
  have v4 : b.den.fr.v = b.den.v := rfl
  by_cases ha0 : signR a = 0
  · obtain ⟨r, h1, h2, h3⟩ := V37 b.neg hb.num.fr hb.den.fr
    rw [v3, v4] at h2
    refine ⟨r, (AP_ofz _ _ (fz_rv r) (noV_rv _) (m := [cR a, cR b, cR r]) ?_).trans (by rw [h3]), ?_, h3⟩
    · rw [T16]
      simp only [Nat.reduceAdd, Option.bind_some, Option.map_some, box_rv, new_z, new_r, new_zs, new_rs, fld0, fld1, fld2, res1, res2, ld0neg, ld0num, ld0den, ld0all, st0all, st0neg, ld1neg, ld1num, ld1den, ld1all, st1all, st1neg, ld2neg, ld2num, ld2den, ld2all, st2all, st2neg, ld3neg, ld3num, ld3den, ld3all, st3all, st3neg, ld4neg, ld4num, ld4den, ld4all, st4all, st4neg, ex0, ex1, ex2, bld0, bld2, bld12, bld012, nil_av, not_b, bl_neq, bl_eql, List.length_cons, List.length_nil, List.length_append, List.nil_append, List.cons_append, List.append_nil, Nat.zero_add, List.set_cons_zero, List.set_cons_succ, List.set_nil, pcN, pcI, pcNN, pcBNN, pcR, pcRR, pc0, e1, binA_eql, ifA_dec]
      rw [if_pos ha0]
      simp only [Nat.reduceAdd, Option.bind_some, Option.map_some, box_rv, new_z, new_r, new_zs, new_rs, fld0, fld1, fld2, res1, res2, ld0neg, ld0num, ld0den, ld0all, st0all, st0neg, ld1neg, ld1num, ld1den, ld1all, st1all, st1neg, ld2neg, ld2num, ld2den, ld2all, st2all, st2neg, ld3neg, ld3num, ld3den, ld3all, st3all, st3neg, ld4neg, ld4num, ld4den, ld4all, st4all, st4neg, ex0, ex1, ex2, bld0, bld2, bld12, bld012, nil_av, not_b, bl_neq, bl_eql, List.length_cons, List.length_nil, List.length_append, List.nil_append, List.cons_append, List.append_nil, Nat.zero_add, List.set_cons_zero, List.set_cons_succ, List.set_nil, pcN, pcI, pcNN, pcBNN, pcR, pcRR, pc0, h1]
    · rw [signR_zero.1 ha0, Rat.zero_add]; exact h2
  · by_cases hb0 : signR b = 0
    · obtain ⟨r, h1, h2, h3⟩ := V37 a.neg ha.num.fr ha.den.fr
      rw [v1, v2] at h2
      refine ⟨r, (AP_ofz _ _ (fz_rv r) (noV_rv _) (m := [cR a, cR b, cR r]) ?_).trans (by rw [h3]), ?_, h3⟩
      · rw [T16]
        simp only [Nat.reduceAdd, Option.bind_some, Option.map_some, box_rv, new_z, new_r, new_zs, new_rs, fld0, fld1, fld2, res1, res2, ld0neg, ld0num, ld0den, ld0all, st0all, st0neg, ld1neg, ld1num, ld1den, ld1all, st1all, st1neg, ld2neg, ld2num, ld2den, ld2all, st2all, st2neg, ld3neg, ld3num, ld3den, ld3all, st3all, st3neg, ld4neg, ld4num, ld4den, ld4all, st4all, st4neg, ex0, ex1, ex2, bld0, bld2, bld12, bld012, nil_av, not_b, bl_neq, bl_eql, List.length_cons, List.length_nil, List.length_append, List.nil_append, List.cons_append, List.append_nil, Nat.zero_add, List.set_cons_zero, List.set_cons_succ, List.set_nil, pcN, pcI, pcNN, pcBNN, pcR, pcRR, pc0, e1, binA_eql, ifA_dec]
        rw [if_neg ha0]
        simp only [Nat.reduceAdd, Option.bind_some, Option.map_some, box_rv, new_z, new_r, new_zs, new_rs, fld0, fld1, fld2, res1, res2, ld0neg, ld0num, ld0den, ld0all, st0all, st0neg, ld1neg, ld1num, ld1den, ld1all, st1all, st1neg, ld2neg, ld2num, ld2den, ld2all, st2all, st2neg, ld3neg, ld3num, ld3den, ld3all, st3all, st3neg, ld4neg, ld4num, ld4den, ld4all, st4all, st4neg, ex0, ex1, ex2, bld0, bld2, bld12, bld012, nil_av, not_b, bl_neq, bl_eql, List.length_cons, List.length_nil, List.length_append, List.nil_append, List.cons_append, List.append_nil, Nat.zero_add, List.set_cons_zero, List.set_cons_succ, List.set_nil, pcN, pcI, pcNN, pcBNN, pcR, pcRR, pc0, e2, binA_eql, ifA_dec]
        rw [if_pos hb0]
        simp only [Nat.reduceAdd, Option.bind_some, Option.map_some, box_rv, new_z, new_r, new_zs, new_rs, fld0, fld1, fld2, res1, res2, ld0neg, ld0num, ld0den, ld0all, st0all, st0neg, ld1neg, ld1num, ld1den, ld1all, st1all, st1neg, ld2neg, ld2num, ld2den, ld2all, st2all, st2neg, ld3neg, ld3num, ld3den, ld3all, st3all, st3neg, ld4neg, ld4num, ld4den, ld4all, st4all, st4neg, ex0, ex1, ex2, bld0, bld2, bld12, bld012, nil_av, not_b, bl_neq, bl_eql, List.length_cons, List.length_nil, List.length_append, List.nil_append, List.cons_append, List.append_nil, Nat.zero_add, List.set_cons_zero, List.set_cons_succ, List.set_nil, pcN, pcI, pcNN, pcBNN, pcR, pcRR, pc0, h1]
      · rw [signR_zero.1 hb0, Rat.add_zero]; exact h2
    · have da : a.den.v ≠ 0 := fun e => ha0 (by unfold signR; rw [if_pos (.inr e)])
      have db : b.den.v ≠ 0 := fun e => hb0 (by unfold signR; rw [if_pos (.inr e)])
      have g1 := V38 ha.num.fr hb.den.fr
      have g2 := V38 hb.num.fr ha.den.fr
      have g3 := V38 ha.den.fr hb.den.fr
      rw [v1, v4] at g1
      rw [v3, v2] at g2
      rw [v2, v4] at g3
      have lx := ln_mul (Nat.le_trans ha.num.v_len ha.ln) (Nat.le_trans hb.den.v_len hb.ld)
      have ly := ln_mul (Nat.le_trans hb.num.v_len hb.ln) (Nat.le_trans ha.den.v_len ha.ld)
      have ld := ln_mul (Nat.le_trans ha.den.v_len ha.ld) (Nat.le_trans hb.den.v_len hb.ld)
      have lxy := ln_add lx ly
      have ox : NOk ⟨false, .no, digs (a.num.v * b.den.v)⟩ := nok_digs (by omega)
      have oy : NOk ⟨false, .no, digs (b.num.v * a.den.v)⟩ := nok_digs (by omega)
      have od : NOk ⟨false, .no, digs (a.den.v * b.den.v)⟩ := nok_digs (by omega)
      have nf : ∀ n : Nat, (NV.mk false .no (digs n)).fr = ⟨false, .no, digs n⟩ := fun _ => rfl
      have nv : ∀ n : Nat, (NV.mk false .no (digs n)).v = n := fun n => val_digs n
      have g4 := V39 ox oy
      have g5 := V40 ox oy
      have g6 := V41 ox oy
      have g7 := V41 oy ox
      rw [nv, nv] at g4 g5
      unfold subV at g6 g7
      rw [nv, nv] at g6 g7
      have hsum : a.q + b.q = mkRat (sgn a.neg (a.num.v * b.den.v) + sgn b.neg (b.num.v * a.den.v)) (a.den.v * b.den.v) := qOf_add da db
      have fin : ∀ (neg : Bool) (n : Nat), (digs n).length < 2 ^ 38 → mkRat (sgn a.neg (a.num.v * b.den.v) + sgn b.neg (b.num.v * a.den.v)) (a.den.v * b.den.v) = qOf neg n (a.den.v * b.den.v) → ∃ r : RV, AP cfg 37 [.bool neg, (NV.mk false .no (digs n)).av, (NV.mk false .no (digs (a.den.v * b.den.v))).av] = some r.av ∧ Can r (a.q + b.q) ∧ r.fr = r := by
        intro neg n hn he
        obtain ⟨r, h1, h2, h3⟩ := V37 neg (x := ⟨false, .no, digs n⟩) (nok_digs (by omega)) od
        rw [nv, nv, ← he, ← hsum] at h2
        exact ⟨r, h1, h2, h3⟩
      by_cases hn : a.neg = b.neg
      · obtain ⟨r, h1, h2, h3⟩ := fin a.neg (a.num.v * b.den.v + b.num.v * a.den.v) (by omega) (by rw [← hn, sgn_same]; rfl)
        refine ⟨r, (AP_ofz _ _ (fz_rv r) (noV_rv _) (m := [cR a, cR b, cR r]) ?_).trans (by rw [h3]), h2, h3⟩
        rw [T16]
        simp only [Nat.reduceAdd, Option.bind_some, Option.map_some, box_rv, new_z, new_r, new_zs, new_rs, fld0, fld1, fld2, res1, res2, ld0neg, ld0num, ld0den, ld0all, st0all, st0neg, ld1neg, ld1num, ld1den, ld1all, st1all, st1neg, ld2neg, ld2num, ld2den, ld2all, st2all, st2neg, ld3neg, ld3num, ld3den, ld3all, st3all, st3neg, ld4neg, ld4num, ld4den, ld4all, st4all, st4neg, ex0, ex1, ex2, bld0, bld2, bld12, bld012, nil_av, not_b, bl_neq, bl_eql, List.length_cons, List.length_nil, List.length_append, List.nil_append, List.cons_append, List.append_nil, Nat.zero_add, List.set_cons_zero, List.set_cons_succ, List.set_nil, pcN, pcI, pcNN, pcBNN, pcR, pcRR, pc0, e1, binA_eql, ifA_dec]
        rw [if_neg ha0]
        simp only [Nat.reduceAdd, Option.bind_some, Option.map_some, box_rv, new_z, new_r, new_zs, new_rs, fld0, fld1, fld2, res1, res2, ld0neg, ld0num, ld0den, ld0all, st0all, st0neg, ld1neg, ld1num, ld1den, ld1all, st1all, st1neg, ld2neg, ld2num, ld2den, ld2all, st2all, st2neg, ld3neg, ld3num, ld3den, ld3all, st3all, st3neg, ld4neg, ld4num, ld4den, ld4all, st4all, st4neg, ex0, ex1, ex2, bld0, bld2, bld12, bld012, nil_av, not_b, bl_neq, bl_eql, List.length_cons, List.length_nil, List.length_append, List.nil_append, List.cons_append, List.append_nil, Nat.zero_add, List.set_cons_zero, List.set_cons_succ, List.set_nil, pcN, pcI, pcNN, pcBNN, pcR, pcRR, pc0, e2, binA_eql, ifA_dec]
        rw [if_neg hb0]
        rw [hn] at h1
        simp only [Nat.reduceAdd, Option.bind_some, Option.map_some, box_rv, new_z, new_r, new_zs, new_rs, fld0, fld1, fld2, res1, res2, ld0neg, ld0num, ld0den, ld0all, st0all, st0neg, ld1neg, ld1num, ld1den, ld1all, st1all, st1neg, ld2neg, ld2num, ld2den, ld2all, st2all, st2neg, ld3neg, ld3num, ld3den, ld3all, st3all, st3neg, ld4neg, ld4num, ld4den, ld4all, st4all, st4neg, ex0, ex1, ex2, bld0, bld2, bld12, bld012, nil_av, not_b, bl_neq, bl_eql, List.length_cons, List.length_nil, List.length_append, List.nil_append, List.cons_append, List.append_nil, Nat.zero_add, List.set_cons_zero, List.set_cons_succ, List.set_nil, pcN, pcI, pcNN, pcBNN, pcR, pcRR, pc0, g1, g2, g3, nf, hn, BEq.rfl, ifA_true, g4, h1]
      · have hne : (a.neg == b.neg) = false := by simpa using hn
        by_cases hlt : a.num.v * b.den.v < b.num.v * a.den.v
        · obtain ⟨r, h1, h2, h3⟩ := fin b.neg (b.num.v * a.den.v - a.num.v * b.den.v) (Nat.lt_of_le_of_lt (digs_mono (Nat.sub_le _ _)) (by omega)) (by rw [sgn_lt hn hlt]; rfl)
          refine ⟨r, (AP_ofz _ _ (fz_rv r) (noV_rv _) (m := [cR b, cR b, cR r]) ?_).trans (by rw [h3]), h2, h3⟩
          have hc : cmpV (a.num.v * b.den.v) (b.num.v * a.den.v) < 0 := by unfold cmpV; rw [if_pos hlt]; omega
          rw [if_neg (by omega)] at g7
          rw [T16]
          simp only [Nat.reduceAdd, Option.bind_some, Option.map_some, box_rv, new_z, new_r, new_zs, new_rs, fld0, fld1, fld2, res1, res2, ld0neg, ld0num, ld0den, ld0all, st0all, st0neg, ld1neg, ld1num, ld1den, ld1all, st1all, st1neg, ld2neg, ld2num, ld2den, ld2all, st2all, st2neg, ld3neg, ld3num, ld3den, ld3all, st3all, st3neg, ld4neg, ld4num, ld4den, ld4all, st4all, st4neg, ex0, ex1, ex2, bld0, bld2, bld12, bld012, nil_av, not_b, bl_neq, bl_eql, List.length_cons, List.length_nil, List.length_append, List.nil_append, List.cons_append, List.append_nil, Nat.zero_add, List.set_cons_zero, List.set_cons_succ, List.set_nil, pcN, pcI, pcNN, pcBNN, pcR, pcRR, pc0, e1, binA_eql, ifA_dec]
          rw [if_neg ha0]
          simp only [Nat.reduceAdd, Option.bind_some, Option.map_some, box_rv, new_z, new_r, new_zs, new_rs, fld0, fld1, fld2, res1, res2, ld0neg, ld0num, ld0den, ld0all, st0all, st0neg, ld1neg, ld1num, ld1den, ld1all, st1all, st1neg, ld2neg, ld2num, ld2den, ld2all, st2all, st2neg, ld3neg, ld3num, ld3den, ld3all, st3all, st3neg, ld4neg, ld4num, ld4den, ld4all, st4all, st4neg, ex0, ex1, ex2, bld0, bld2, bld12, bld012, nil_av, not_b, bl_neq, bl_eql, List.length_cons, List.length_nil, List.length_append, List.nil_append, List.cons_append, List.append_nil, Nat.zero_add, List.set_cons_zero, List.set_cons_succ, List.set_nil, pcN, pcI, pcNN, pcBNN, pcR, pcRR, pc0, e2, binA_eql, ifA_dec]
          rw [if_neg hb0]
          simp only [Nat.reduceAdd, Option.bind_some, Option.map_some, box_rv, new_z, new_r, new_zs, new_rs, fld0, fld1, fld2, res1, res2, ld0neg, ld0num, ld0den, ld0all, st0all, st0neg, ld1neg, ld1num, ld1den, ld1all, st1all, st1neg, ld2neg, ld2num, ld2den, ld2all, st2all, st2neg, ld3neg, ld3num, ld3den, ld3all, st3all, st3neg, ld4neg, ld4num, ld4den, ld4all, st4all, st4neg, ex0, ex1, ex2, bld0, bld2, bld12, bld012, nil_av, not_b, bl_neq, bl_eql, List.length_cons, List.length_nil, List.length_append, List.nil_append, List.cons_append, List.append_nil, Nat.zero_add, List.set_cons_zero, List.set_cons_succ, List.set_nil, pcN, pcI, pcNN, pcBNN, pcR, pcRR, pc0, g1, g2, g3, nf, hne, ifA_false, g5, binA_lss, ifA_dec]
          rw [if_pos hc]
          simp only [Nat.reduceAdd, Option.bind_some, Option.map_some, box_rv, new_z, new_r, new_zs, new_rs, fld0, fld1, fld2, res1, res2, ld0neg, ld0num, ld0den, ld0all, st0all, st0neg, ld1neg, ld1num, ld1den, ld1all, st1all, st1neg, ld2neg, ld2num, ld2den, ld2all, st2all, st2neg, ld3neg, ld3num, ld3den, ld3all, st3all, st3neg, ld4neg, ld4num, ld4den, ld4all, st4all, st4neg, ex0, ex1, ex2, bld0, bld2, bld12, bld012, nil_av, not_b, bl_neq, bl_eql, List.length_cons, List.length_nil, List.length_append, List.nil_append, List.cons_append, List.append_nil, Nat.zero_add, List.set_cons_zero, List.set_cons_succ, List.set_nil, pcN, pcI, pcNN, pcBNN, pcR, pcRR, pc0, nf, g7, h1]
        · obtain ⟨r, h1, h2, h3⟩ := fin a.neg (a.num.v * b.den.v - b.num.v * a.den.v) (Nat.lt_of_le_of_lt (digs_mono (Nat.sub_le _ _)) (by omega)) (by rw [sgn_gt hn hlt]; rfl)
          refine ⟨r, (AP_ofz _ _ (fz_rv r) (noV_rv _) (m := [cR a, cR b, cR r]) ?_).trans (by rw [h3]), h2, h3⟩
          have hc : ¬ cmpV (a.num.v * b.den.v) (b.num.v * a.den.v) < 0 := by unfold cmpV; rw [if_neg hlt]; split <;> omega
          rw [if_neg hlt] at g6
          rw [T16]
          simp only [Nat.reduceAdd, Option.bind_some, Option.map_some, box_rv, new_z, new_r, new_zs, new_rs, fld0, fld1, fld2, res1, res2, ld0neg, ld0num, ld0den, ld0all, st0all, st0neg, ld1neg, ld1num, ld1den, ld1all, st1all, st1neg, ld2neg, ld2num, ld2den, ld2all, st2all, st2neg, ld3neg, ld3num, ld3den, ld3all, st3all, st3neg, ld4neg, ld4num, ld4den, ld4all, st4all, st4neg, ex0, ex1, ex2, bld0, bld2, bld12, bld012, nil_av, not_b, bl_neq, bl_eql, List.length_cons, List.length_nil, List.length_append, List.nil_append, List.cons_append, List.append_nil, Nat.zero_add, List.set_cons_zero, List.set_cons_succ, List.set_nil, pcN, pcI, pcNN, pcBNN, pcR, pcRR, pc0, e1, binA_eql, ifA_dec]
          rw [if_neg ha0]
          simp only [Nat.reduceAdd, Option.bind_some, Option.map_some, box_rv, new_z, new_r, new_zs, new_rs, fld0, fld1, fld2, res1, res2, ld0neg, ld0num, ld0den, ld0all, st0all, st0neg, ld1neg, ld1num, ld1den, ld1all, st1all, st1neg, ld2neg, ld2num, ld2den, ld2all, st2all, st2neg, ld3neg, ld3num, ld3den, ld3all, st3all, st3neg, ld4neg, ld4num, ld4den, ld4all, st4all, st4neg, ex0, ex1, ex2, bld0, bld2, bld12, bld012, nil_av, not_b, bl_neq, bl_eql, List.length_cons, List.length_nil, List.length_append, List.nil_append, List.cons_append, List.append_nil, Nat.zero_add, List.set_cons_zero, List.set_cons_succ, List.set_nil, pcN, pcI, pcNN, pcBNN, pcR, pcRR, pc0, e2, binA_eql, ifA_dec]
          rw [if_neg hb0]
          simp only [Nat.reduceAdd, Option.bind_some, Option.map_some, box_rv, new_z, new_r, new_zs, new_rs, fld0, fld1, fld2, res1, res2, ld0neg, ld0num, ld0den, ld0all, st0all, st0neg, ld1neg, ld1num, ld1den, ld1all, st1all, st1neg, ld2neg, ld2num, ld2den, ld2all, st2all, st2neg, ld3neg, ld3num, ld3den, ld3all, st3all, st3neg, ld4neg, ld4num, ld4den, ld4all, st4all, st4neg, ex0, ex1, ex2, bld0, bld2, bld12, bld012, nil_av, not_b, bl_neq, bl_eql, List.length_cons, List.length_nil, List.length_append, List.nil_append, List.cons_append, List.append_nil, Nat.zero_add, List.set_cons_zero, List.set_cons_succ, List.set_nil, pcN, pcI, pcNN, pcBNN, pcR, pcRR, pc0, g1, g2, g3, nf, hne, ifA_false, g5, binA_lss, ifA_dec]
          rw [if_neg hc]
          simp only [Nat.reduceAdd, Option.bind_some, Option.map_some, box_rv, new_z, new_r, new_zs, new_rs, fld0, fld1, fld2, res1, res2, ld0neg, ld0num, ld0den, ld0all, st0all, st0neg, ld1neg, ld1num, ld1den, ld1all, st1all, st1neg, ld2neg, ld2num, ld2den, ld2all, st2all, st2neg, ld3neg, ld3num, ld3den, ld3all, st3all, st3neg, ld4neg, ld4num, ld4den, ld4all, st4all, st4neg, ex0, ex1, ex2, bld0, bld2, bld12, bld012, nil_av, not_b, bl_neq, bl_eql, List.length_cons, List.length_nil, List.length_append, List.nil_append, List.cons_append, List.append_nil, Nat.zero_add, List.set_cons_zero, List.set_cons_succ, List.set_nil, pcN, pcI, pcNN, pcBNN, pcR, pcRR, pc0, nf, g6, h1]
end Go.Ab

/- Comparing, and fractions of two whole numbers. -/
set_option linter.unusedVariables false
set_option linter.unusedSimpArgs false
set_option maxRecDepth 100000
namespace Go.Ab
open Go.Proofs.Try

def cmpR (a b : RV) : Int := if signR a < signR b then -1 else if signR a > signR b then 1 else signR a * cmpV (a.num.v * b.den.v) (b.num.v * a.den.v)
theorem signR_vals (r : RV) : signR r = -1 ∨ signR r = 0 ∨ signR r = 1 := by
  unfold signR
  split
  · exact .inr (.inl rfl)
  · split
    · exact .inl rfl
    · exact .inr (.inr rfl)
theorem cmpV_vals (a b : Nat) : cmpV a b = -1 ∨ cmpV a b = 0 ∨ cmpV a b = 1 := by
  unfold cmpV
  split
  · exact .inl rfl
  · split
    · exact .inr (.inr rfl)
    · exact .inr (.inl rfl)
theorem cmpV_zero (a b : Nat) : cmpV a b = 0 ↔ a = b := by
  unfold cmpV
  split
  · constructor
    · intro h; cases h
    · intro h; omega
  · split
    · constructor
      · intro h; cases h
      · intro h; omega
    · constructor
      · intro _; omega
      · intro _; rfl
theorem i_mul1 {a b : Int} (ha : a = -1 ∨ a = 0 ∨ a = 1) (hb : b = -1 ∨ b = 0 ∨ b = 1) : binA .other .mul (.int .i64 a) (.int .i64 b) = some (.int .i64 (a * b)) := by
  rcases ha with rfl | rfl | rfl <;> rcases hb with rfl | rfl | rfl <;> rfl
theorem V33 {a b : RV} {k : Nat} (ha : ROk k a) (hb : ROk k b) (fa : a.fr = a) (fb : b.fr = b) (hk1 : 1 ≤ k) (hk : k < 2 ^ 36) : AP cfg 33 [a.av, b.av] = some (.int .i64 (cmpR a b)) := by
  have fan : a.num.fr = a.num := congrArg RV.num fa
  have fad : a.den.fr = a.den := congrArg RV.den fa
  have fbn : b.num.fr = b.num := congrArg RV.num fb
  have fbd : b.den.fr = b.den := congrArg RV.den fb
  have l1 : (digs (a.num.v * b.den.v)).length < 2 ^ 40 := Nat.lt_of_le_of_lt (ln_mul (Nat.le_trans ha.num.v_len ha.ln) (Nat.le_trans hb.den.v_len hb.ld)) (by omega)
  have l2 : (digs (b.num.v * a.den.v)).length < 2 ^ 40 := Nat.lt_of_le_of_lt (ln_mul (Nat.le_trans hb.num.v_len hb.ln) (Nat.le_trans ha.den.v_len ha.ld)) (by omega)
  have e1 := V38 ha.num hb.den
  have e2 := V38 hb.num ha.den
  have e3 := V40 (x := ⟨false, .no, digs (a.num.v * b.den.v)⟩) (y := ⟨false, .no, digs (b.num.v * a.den.v)⟩) (nok_digs l1) (nok_digs l2)
  have v1 : NV.v ⟨false, .no, digs (a.num.v * b.den.v)⟩ = a.num.v * b.den.v := val_digs _
  have v2 : NV.v ⟨false, .no, digs (b.num.v * a.den.v)⟩ = b.num.v * a.den.v := val_digs _
  rw [v1, v2] at e3
  have q1 : ∀ (d : Option Nat) (mm : Mem), pcall (AP cfg) d mm 36 [a.av] = some (.int .i64 (signR a), mm) := fun d mm => by rw [pcR, fa, V36 ha]; rfl
  have q2 : ∀ (d : Option Nat) (mm : Mem), pcall (AP cfg) d mm 36 [b.av] = some (.int .i64 (signR b), mm) := fun d mm => by rw [pcR, fb, V36 hb]; rfl
  have q3 : ∀ (d : Option Nat) (mm : Mem), pcall (AP cfg) d mm 38 [a.num.av, b.den.av] = some (NV.av ⟨false, .no, digs (a.num.v * b.den.v)⟩, mm) := fun d mm => by rw [pcNN, fan, fbd, e1]; rfl
  have q4 : ∀ (d : Option Nat) (mm : Mem), pcall (AP cfg) d mm 38 [b.num.av, a.den.av] = some (NV.av ⟨false, .no, digs (b.num.v * a.den.v)⟩, mm) := fun d mm => by rw [pcNN, fbn, fad, e2]; rfl
  have q5 : ∀ (d : Option Nat) (mm : Mem), pcall (AP cfg) d mm 40 [NV.av ⟨false, .no, digs (a.num.v * b.den.v)⟩, NV.av ⟨false, .no, digs (b.num.v * a.den.v)⟩] = some (.int .i64 (cmpV (a.num.v * b.den.v) (b.num.v * a.den.v)), mm) := fun d mm => by
    rw [pcNN, show NV.fr ⟨false, .no, digs (a.num.v * b.den.v)⟩ = ⟨false, .no, digs (a.num.v * b.den.v)⟩ from rfl, show NV.fr ⟨false, .no, digs (b.num.v * a.den.v)⟩ = ⟨false, .no, digs (b.num.v * a.den.v)⟩ from rfl, e3]; rfl
  refine AP_ofz _ _ (fz_int _ _) rfl (m := [cR a, cR b]) ?_
  rw [T33, box_rv, Option.bind_some, box_rv, Option.bind_some]
  simp only [List.length_nil, List.nil_append, List.length_cons, List.cons_append, Nat.zero_add]
  rw [rldA (x := a) rfl, Option.bind_some, q1, Option.bind_some, rldA (x := b) rfl, Option.bind_some, q2, Option.bind_some, binA_lss, Option.bind_some, ifA_dec]
  unfold cmpR
  by_cases c1 : signR a < signR b
  · rw [if_pos c1, if_pos c1]
  · rw [if_neg c1, if_neg c1, binA_gtr, Option.bind_some, ifA_dec]
    by_cases c2 : signR a > signR b
    · rw [if_pos c2, if_pos c2]
    · rw [if_neg c2, if_neg c2, fld1, Option.bind_some, rld1 (x := a) rfl, Option.bind_some, fld2, Option.bind_some, rld2 (x := b) rfl, Option.bind_some, q3, Option.bind_some, fld1, Option.bind_some, rld1 (x := b) rfl, Option.bind_some, fld2, Option.bind_some, rld2 (x := a) rfl, Option.bind_some, q4, Option.bind_some, q5, Option.bind_some, i_mul1 (signR_vals a) (cmpV_vals _ _), Option.bind_some]
theorem sgn_nat (neg : Bool) (n : Nat) : sgn neg n = if neg then -(n : Int) else n := by cases neg <;> rfl
theorem cmpR_zero (a b : RV) : cmpR a b = 0 ↔ a.q = b.q := by
  have key : ∀ r : RV, (signR r = 0 ∧ r.q = 0) ∨ (r.num.v ≠ 0 ∧ r.den.v ≠ 0 ∧ r.q ≠ 0 ∧ signR r = if r.neg then -1 else 1) := by
    intro r
    by_cases h : r.num.v = 0 ∨ r.den.v = 0
    · left
      refine ⟨by unfold signR; rw [if_pos h], ?_⟩
      rcases h with h | h
      · rw [RV.q, h, qOf_num0]
      · rw [RV.q, h, qOf_den0]
    · right
      refine ⟨fun e => h (.inl e), fun e => h (.inr e), ?_, by unfold signR; rw [if_neg h]⟩
      intro e
      have hd : r.den.v ≠ 0 := fun e => h (.inr e)
      have : sgn r.neg r.num.v = 0 := by
        have e' : mkRat (sgn r.neg r.num.v) r.den.v = 0 := e
        exact (Rat.mkRat_eq_zero hd).1 e'
      have h2 : (sgn r.neg r.num.v).natAbs = 0 := by rw [this]; rfl
      rw [sgn_abs] at h2
      exact h (.inl h2)
  unfold cmpR
  rcases key a with ⟨a1, a2⟩ | ⟨a1, a2, a3, a4⟩
  · rcases key b with ⟨b1, b2⟩ | ⟨b1, b2, b3, b4⟩
    · rw [a1, b1, a2, b2]; simp
    · rw [a1, a2]
      constructor
      · intro h
        rw [b4] at h
        by_cases hb : b.neg = true <;> simp [hb] at h
      · intro h; exact absurd h.symm b3
  · rcases key b with ⟨b1, b2⟩ | ⟨b1, b2, b3, b4⟩
    · rw [b1, b2]
      constructor
      · intro h
        rw [a4] at h
        by_cases hb : a.neg = true <;> simp [hb] at h
      · intro h; exact absurd h a3
    · have hq : a.q = b.q ↔ sgn a.neg a.num.v * (b.den.v : Int) = sgn b.neg b.num.v * (a.den.v : Int) := Rat.mkRat_eq_iff a2 b2
      rw [hq, a4, b4, sgn_nat, sgn_nat]
      have p1 : 0 < a.num.v * b.den.v := Nat.mul_pos (by omega) (by omega)
      have p2 : 0 < b.num.v * a.den.v := Nat.mul_pos (by omega) (by omega)
      have p1' : (a.num.v : Int) * (b.den.v : Int) = ((a.num.v * b.den.v : Nat) : Int) := (Int.natCast_mul _ _).symm
      have p2' : (b.num.v : Int) * (a.den.v : Int) = ((b.num.v * a.den.v : Nat) : Int) := (Int.natCast_mul _ _).symm
      cases a.neg <;> cases b.neg
      · simp only [Bool.false_eq_true, if_false, p1', p2']
        rw [if_neg (by omega), if_neg (by omega), Int.one_mul, cmpV_zero]
        omega
      · simp only [Bool.false_eq_true, if_false, if_true, Int.neg_mul, p1', p2']
        rw [if_neg (by omega), if_pos (by omega)]
        omega
      · simp only [Bool.false_eq_true, if_false, if_true, Int.neg_mul, p1', p2']
        rw [if_pos (by omega)]
        omega
      · simp only [if_true, Int.neg_mul, p1', p2']
        rw [if_neg (by omega), if_neg (by omega), Int.one_mul, Int.neg_eq_zero, cmpV_zero]
        omega
theorem V14 {a b : RV} {k : Nat} (ha : ROk k a) (hb : ROk k b) (fa : a.fr = a) (fb : b.fr = b) (hk1 : 1 ≤ k) (hk : k < 2 ^ 36) : AP cfg 14 [a.av, b.av] = some (.bool (decide (a.q = b.q))) := by
  have e := V33 ha hb fa fb hk1 hk
  refine AP_ofz (.bool (decide (a.q = b.q))) (.bool (decide (a.q = b.q))) (fun _ => rfl) rfl (m := [cR a, cR b]) ?_
  rw [T14, box_rv, Option.bind_some, box_rv, Option.bind_some]
  simp only [List.length_nil, List.nil_append, List.length_cons, List.cons_append, Nat.zero_add]
  rw [rldA (x := a) rfl, Option.bind_some, rldA (x := b) rfl, Option.bind_some, pcRR, fa, fb, e, Option.map_some, Option.bind_some, binA_eql, Option.bind_some]
  rw [decide_eq_decide.2 (cmpR_zero a b)]
theorem st_last {m : Mem} {x r : RV} : storeA (some 3) (m ++ [cR x]) (.ptr m.length 0) r.av = some (m ++ [cR r]) := by
  rw [rstA (get_last : (m ++ [cR x])[m.length]? = some (cR x)), List.set_append_right _ _ (Nat.le_refl _), Nat.sub_self, List.set_cons_zero]
theorem ld_last {m : Mem} {r : RV} : loadA (some 3) (m ++ [cR r]) (.ptr m.length 0) = some r.av := rldA get_last
theorem new_z' (m : Mem) : newAt none m (.obj true [.bool false, .lst none true .full [], .lst none true .full []]) = (m.length, m ++ [cR zR]) := rfl
theorem V75 {n : Nat} (h : n < 9223372036854775808) : AP cfg 75 [.int .i64 (n : Int)] = some (.tup [(refN n).av, .bool false]) := by
  refine AP_ofz _ _ (fz_tup2 (fza_ref n) (fza_bool false)) rfl (m := []) ?_
  rw [T75, n_lss0, Option.bind_some, ifA_false, c_up (by omega), Option.bind_some, pcI, V52 (by omega)]; rfl
theorem V48 {a b : Nat} (ha : a < 9223372036854775808) (hb : b < 9223372036854775808) (h0 : b ≠ 0) : ∃ r : RV, AP cfg 48 [.int .i64 (a : Int), .int .i64 (b : Int)] = some (.tup [r.av, .int .i64 0]) ∧ Can r (qOf false a b) ∧ r.fr = r := by
  have la : (digs a).length ≤ 2 := digs_length_le (by omega)
  have lb : (digs b).length ≤ 2 := digs_length_le (by omega)
  rcases V63 false (refN_ok (n := a) (by omega)) (refN_ok (n := b) (by omega)) (by rw [refN_v]; omega) (by rw [refN_v]; omega) with ⟨h, _⟩ | ⟨_, r, e, h2, h3⟩
  · rw [refN_v] at h; exact absurd h h0
  · rw [refN_v, refN_v] at h2
    refine ⟨r, (AP_ofz _ _ (fz_tupR2 r (fza_int .i64 0)) rfl (m := [cR r]) ?_).trans (by rw [h3]), h2, h3⟩
    rw [T48]
    simp only [Nat.reduceAdd, Option.bind_some, Option.map_some, box_rv, new_z, new_r, st0all, ld0all, ex0, ex1, nil_av, bl_neq, List.length_cons, List.length_nil, List.nil_append, pcI, pcBNN, V75 ha, V75 hb, refN_fr, bne_self_eq_false, e]
end Go.Ab

/- What the interpreter does, function by function. -/
set_option maxRecDepth 100000
set_option linter.unusedVariables false
namespace Go.Ab
open Go.Proofs.Try
/-! ### sortilege/proof.shaped -/
def O13_5 (x1 x3 : AV) (m : Mem) : St := ⟨[.any, x1, .any, x3, .any, .any, .any, .any, .any, .any, .any, .any, .any, .any, .any, .any, .any, .any, .any, .any, .any, .any, .any, .any, .any, .any, .any, .any, .any, .any, .any, .any, .any, .any, .any, .any, .any, .any, .any, .any, .any, .any, .any, .any, .any, .any, .any, .any, .any, .any, .any, .any, .any, .any, .any, .any, .any, .any, .any, .any, .any, .any, .any, .any, .any, .any, .any, .any, .any, .any, .any, .any], m⟩
def R13_5 (x2 : AV) (m : Mem) : St := ⟨[.any, .any, x2, .any, .any, .any, .any, .any, .any, .any, .any, .any, .any, .any, .any, .any, .any, .any, .any, .any, .any, .any, .any, .any, .any, .any, .any, .any, .any, .any, .any, .any, .any, .any, .any, .any, .any, .any, .any, .any, .any, .any, .any, .any, .any, .any, .any, .any, .any, .any, .any, .any, .any, .any, .any, .any, .any, .any, .any, .any, .any, .any, .any, .any, .any, .any, .any, .any, .any, .any, .any, .any], m⟩
noncomputable def L13_5 (x1 x3 x36 x37 x38 : AV) (m : Mem) (K : Ex → St → Option (AV × Mem)) : Option (AV × Mem) := loopW (execW cfg 13 (AP cfg) (AC cfg) (c1 (c1 (c2 (c1 (c2 (c2 (c2 (bodyOf f13))))))))) (cfg.mask 13 (some 5)) ⟨[.any, x1, .any, x3, .any, .any, .any, .any, .any, .any, .any, .any, .any, .any, .any, .any, .any, .any, .any, .any, .any, .any, .any, .any, .any, .any, .any, .any, .any, .any, .any, .any, .any, .any, .any, .any, x36, x37, x38, .any, .any, .any, .any, .any, .any, .any, .any, .any, .any, .any, .any, .any, .any, .any, .any, .any, .any, .any, .any, .any, .any, .any, .any, .any, .any, .any, .any, .any, .any, .any, .any, .any], m⟩ K
noncomputable abbrev K13_5_0 (K : Ex → St → Option (AV × Mem)) : Ex → St → Option (AV × Mem) := seqK (fun st => execW cfg 13 (AP cfg) (AC cfg) (c2 (c2 (c2 (c2 (bodyOf f13))))) st K) K
noncomputable abbrev K13_5_1 (K : Ex → St → Option (AV × Mem)) : Ex → St → Option (AV × Mem) := blockK 0 (K13_5_0 K)
noncomputable abbrev K13_5 (K : Ex → St → Option (AV × Mem)) : Ex → St → Option (AV × Mem) := (K13_5_1 K)
theorem T13 (a0 : AV) (m : Mem) : AC cfg 13 [a0] m =
  (boxA none (some 4) m a0).bind fun r1 =>
  (fieldAddrA 0 r1.1).bind fun v2 =>
  (loadA none r1.2 v2).bind fun v3 =>
  (lenA false v3).bind fun v4 =>
  (binA .other .gtr v4 (.int .i64 16)).bind fun v5 =>
  ifA v5 (
  some ((.bool false), r1.2)) (
  (fieldAddrA 3 r1.1).bind fun v6 =>
  (loadA none r1.2 v6).bind fun v7 =>
  (binA .other .lss v7 (.int .i64 0)).bind fun v8 =>
  ifA v8 (
  some ((.bool false), r1.2)) (
  (fieldAddrA 3 r1.1).bind fun v9 =>
  (loadA none r1.2 v9).bind fun v10 =>
  (binA .other .gtr v10 (.int .i64 2147483647)).bind fun v11 =>
  ifA v11 (
  some ((.bool false), r1.2)) (
  (fieldAddrA 1 r1.1).bind fun v12 =>
  (loadA none r1.2 v12).bind fun v13 =>
  (lenA false v13).bind fun v14 =>
  (binA .other .gtr v14 (.int .i64 4000)).bind fun v15 =>
  ifA v15 (
  some ((.bool false), r1.2)) (
  (fieldAddrA 2 r1.1).bind fun v16 =>
  (loadA none r1.2 v16).bind fun v17 =>
  (lenA false v17).bind fun v18 =>
  (fieldAddrA 1 r1.1).bind fun v19 =>
  (loadA none r1.2 v19).bind fun v20 =>
  (lenA false v20).bind fun v21 =>
  (binA .other .neq v18 v21).bind fun v22 =>
  ifA v22 (
  some ((.bool false), r1.2)) (
  (fieldAddrA 0 r1.1).bind fun v23 =>
  (loadA none r1.2 v23).bind fun v24 =>
  (lenA false v24).bind fun v25 =>
  L13_5 r1.1 (.lst none true .full []) v24 v25 (.int .i64 0) r1.2 (K13_5 (finK cfg.P f13.results.toList))))))) :=
(AC_eq cfg 13 [a0] m (fn := f13) (c := bodyOf f13) at13 rfl).trans (by kernel_rfl)
theorem L13_5_eq (x1 x3 x36 x37 x38 : AV) (m : Mem) (K : Ex → St → Option (AV × Mem)) : L13_5 x1 x3 x36 x37 x38 m K =
  (binA .other .lss x38 x37).bind fun v1 =>
  ifA v1 (
  (indexAddrA none x36 x38).bind fun v2 =>
  (loadA none m v2).bind fun v3 =>
  (lenA false v3).bind fun v4 =>
  (binA .other .lss v4 (.int .i64 1)).bind fun v5 =>
  ifA v5 (
  K .ret (R13_5 (.bool false) m)) (
  (lenA false v3).bind fun v6 =>
  (binA .other .gtr v6 (.int .i64 64)).bind fun v7 =>
  ifA v7 (
  K .ret (R13_5 (.bool false) m)) (
  (lenA false v3).bind fun v8 =>
  (buildSliceA none [v8]).bind fun v9 =>
  (appA none false 3 none 8 m x3 v9).bind fun r10 =>
  (binA .other .add x38 (.int .i64 1)).bind fun v11 =>
  L13_5 x1 r10.1 x36 x37 v11 r10.2 K))) (
  K (.exit 0) (O13_5 x1 x3 m)) :=
(loopW_eq (execW_lin _) _ _ _).trans (by kernel_rfl)
theorem K13_5_x0 (x1 x3 : AV) (m : Mem) : K13_5 (finK cfg.P f13.results.toList) (.exit 0) (O13_5 x1 x3 m) =
  (fieldAddrA 0 x1).bind fun v1 =>
  (loadA none m v1).bind fun v2 =>
  (pcall (AP cfg) none m 28 [x3, v2]).bind fun r3 =>
  ifA r3.1 (
  (fieldAddrA 1 x1).bind fun v4 =>
  (loadA none r3.2 v4).bind fun v5 =>
  (pcall (AP cfg) none r3.2 29 [x3, v5]).bind fun r6 =>
  ifA r6.1 (
  (fieldAddrA 2 x1).bind fun v7 =>
  (loadA none r6.2 v7).bind fun v8 =>
  (pcall (AP cfg) none r6.2 30 [v8, (.fn 31 [])]).bind fun r9 =>
  (unA .not r9.1).bind fun v10 =>
  some (v10, r9.2)) (
  some ((.bool false), r6.2))) (
  some ((.bool false), r3.2)) := by kernel_rfl
theorem K13_5_ret (x2 : AV) (m : Mem) : K13_5 (finK cfg.P f13.results.toList) .ret (R13_5 x2 m) =
  some (x2, m) := by kernel_rfl
/-! ### sortilege/proof.weigh -/
def O15_7 (x8 x9 : AV) (m : Mem) : St := ⟨[.any, .any, .any, .any, .any, .any, .any, .any, x8, x9, .any, .any, .any, .any, .any, .any, .any, .any, .any, .any, .any, .any, .any, .any, .any, .any, .any, .any, .any, .any, .any, .any, .any, .any, .any, .any, .any, .any, .any, .any, .any, .any, .any, .any, .any, .any], m⟩
noncomputable def L15_7 (x0 x3 x5 x8 x9 x23 x24 x25 : AV) (m : Mem) (K : Ex → St → Option (AV × Mem)) : Option (AV × Mem) := loopW (execW cfg 15 (AP cfg) (AC cfg) (c1 (c1 (c2 (c1 (c2 (c2 (c2 (bodyOf f15))))))))) (cfg.mask 15 (some 7)) ⟨[x0, .any, .any, x3, .any, x5, .any, .any, x8, x9, .any, .any, .any, .any, .any, .any, .any, .any, .any, .any, .any, .any, .any, x23, x24, x25, .any, .any, .any, .any, .any, .any, .any, .any, .any, .any, .any, .any, .any, .any, .any, .any, .any, .any, .any, .any], m⟩ K
noncomputable abbrev K15_7_0 (K : Ex → St → Option (AV × Mem)) : Ex → St → Option (AV × Mem) := seqK (fun st => execW cfg 15 (AP cfg) (AC cfg) (c2 (c2 (c2 (c2 (bodyOf f15))))) st K) K
noncomputable abbrev K15_7_1 (K : Ex → St → Option (AV × Mem)) : Ex → St → Option (AV × Mem) := blockK 0 (K15_7_0 K)
noncomputable abbrev K15_7 (K : Ex → St → Option (AV × Mem)) : Ex → St → Option (AV × Mem) := (K15_7_1 K)
theorem T15 (a0 a1 a2 a3 : AV) (m : Mem) : AC cfg 15 [a0, a1, a2, a3] m =
  (boxA none (some 3) m a1).bind fun r1 =>
  (fieldAddrA 0 r1.1).bind fun v2 =>
  (loadA none (newAt none r1.2 (.obj true [(.bool false), (.lst none true .full []), (.lst none true .full [])])).2 v2).bind fun v3 =>
  (binA .other .lss v3 (.int .i64 0)).bind fun v4 =>
  ifA v4 (
  (fieldAddrA 2 r1.1).bind fun v5 =>
  (loadA none (newAt none r1.2 (.obj true [(.bool false), (.lst none true .full []), (.lst none true .full [])])).2 v5).bind fun v6 =>
  (binA .other .eql v6 a2).bind fun v7 =>
  ifA v7 (
  (pcall (AP cfg) none (newAt none r1.2 (.obj true [(.bool false), (.lst none true .full []), (.lst none true .full [])])).2 23 []).bind fun r8 =>
  (storeA (some 3) r8.2 (.ptr (newAt none r1.2 .resv).1 0) r8.1).bind fun m9 =>
  (loadA (some 3) m9 (.ptr (newAt none r1.2 .resv).1 0)).bind fun v10 =>
  some (v10, m9)) (
  (pcall (AP cfg) none (newAt none r1.2 (.obj true [(.bool false), (.lst none true .full []), (.lst none true .full [])])).2 17 []).bind fun r11 =>
  (storeA (some 3) r11.2 (.ptr (newAt none r1.2 .resv).1 0) r11.1).bind fun m12 =>
  (loadA (some 3) m12 (.ptr (newAt none r1.2 .resv).1 0)).bind fun v13 =>
  some (v13, m12))) (
  (pcall (AP cfg) none (newAt none r1.2 (.obj true [(.bool false), (.lst none true .full []), (.lst none true .full [])])).2 17 []).bind fun r14 =>
  (storeA (some 3) (newAt none r14.2 (.obj true [(.bool false), (.lst none true .full []), (.lst none true .full [])])).2 (.ptr (newAt none r14.2 .resv).1 0) r14.1).bind fun m15 =>
  (fieldAddrA 1 r1.1).bind fun v16 =>
  (loadA none m15 v16).bind fun v17 =>
  (lenA false v17).bind fun v18 =>
  L15_7 a0 a3 r1.1 (.ptr (newAt none r1.2 .resv).1 0) (.ptr (newAt none r14.2 .resv).1 0) v17 v18 (.int .i64 0) m15 (K15_7 (finK cfg.P f15.results.toList))) :=
(AC_eq cfg 15 [a0, a1, a2, a3] m (fn := f15) (c := bodyOf f15) at15 rfl).trans (by kernel_rfl)
theorem L15_7_eq (x0 x3 x5 x8 x9 x23 x24 x25 : AV) (m : Mem) (K : Ex → St → Option (AV × Mem)) : L15_7 x0 x3 x5 x8 x9 x23 x24 x25 m K =
  (binA .other .lss x25 x24).bind fun v1 =>
  ifA v1 (
  (indexAddrA none x23 x25).bind fun v2 =>
  (loadA none m v2).bind fun v3 =>
  (loadA (some 3) m x9).bind fun v4 =>
  (fieldAddrA 0 x5).bind fun v5 =>
  (loadA none m v5).bind fun v6 =>
  (indexAddrA none x0 v6).bind fun v7 =>
  (loadA none m v7).bind fun v8 =>
  (pcall (AP cfg) (some m.length) m 35 [v8, x25]).bind fun r9 =>
  (indexAddrA (some 3) x3 v3).bind fun v10 =>
  (loadA (some 3) r9.2 v10).bind fun v11 =>
  (pcall (AP cfg) (some m.length) r9.2 34 [r9.1, v11]).bind fun r12 =>
  (pcall (AP cfg) (some m.length) r12.2 16 [v4, r12.1]).bind fun r13 =>
  (storeA (some 3) r13.2 x9 r13.1).bind fun m14 =>
  (binA .other .add x25 (.int .i64 1)).bind fun v15 =>
  L15_7 x0 x3 x5 x8 x9 x23 x24 v15 m14 K) (
  K (.exit 0) (O15_7 x8 x9 m)) :=
(loopW_eq (execW_lin _) _ _ _).trans (by kernel_rfl)
theorem K15_7_x0 (x8 x9 : AV) (m : Mem) : K15_7 (finK cfg.P f15.results.toList) (.exit 0) (O15_7 x8 x9 m) =
  (loadA (some 3) m x9).bind fun v1 =>
  (storeA (some 3) m x8 v1).bind fun m2 =>
  (loadA (some 3) m2 x8).bind fun v3 =>
  some (v3, m2) := by kernel_rfl
/-! ### sortilege/diagram.Odds -/
def O28_4 (m : Mem) : St := ⟨[.any, .any, .any, .any, .any, .any, .any, .any, .any, .any, .any, .any, .any, .any, .any, .any, .any, .any, .any, .any, .any, .any, .any, .any, .any, .any, .any, .any, .any, .any, .any, .any, .any, .any, .any, .any, .any, .any, .any, .any, .any, .any, .any, .any, .any, .any, .any, .any, .any, .any], m⟩
def R28_4 (x4 : AV) (m : Mem) : St := ⟨[.any, .any, .any, .any, x4, .any, .any, .any, .any, .any, .any, .any, .any, .any, .any, .any, .any, .any, .any, .any, .any, .any, .any, .any, .any, .any, .any, .any, .any, .any, .any, .any, .any, .any, .any, .any, .any, .any, .any, .any, .any, .any, .any, .any, .any, .any, .any, .any, .any, .any], m⟩
noncomputable def L28_4 (x0 x15 x16 x17 : AV) (m : Mem) (K : Ex → St → Option (AV × Mem)) : Option (AV × Mem) := loopW (execW cfg 28 (AP cfg) (AC cfg) (c1 (c1 (c2 (c1 (c2 (c2 (bodyOf f28)))))))) (cfg.mask 28 (some 4)) ⟨[x0, .any, .any, .any, .any, .any, .any, .any, .any, .any, .any, .any, .any, .any, .any, x15, x16, x17, .any, .any, .any, .any, .any, .any, .any, .any, .any, .any, .any, .any, .any, .any, .any, .any, .any, .any, .any, .any, .any, .any, .any, .any, .any, .any, .any, .any, .any, .any, .any, .any], m⟩ K
def O28_8 (x0 x5 x6 x7 x15 x16 x17 : AV) (m : Mem) : St := ⟨[x0, .any, .any, .any, .any, x5, x6, x7, .any, .any, .any, .any, .any, .any, .any, x15, x16, x17, .any, .any, .any, .any, .any, .any, .any, .any, .any, .any, .any, .any, .any, .any, .any, .any, .any, .any, .any, .any, .any, .any, .any, .any, .any, .any, .any, .any, .any, .any, .any, .any], m⟩
def R28_8 (x4 : AV) (m : Mem) : St := ⟨[.any, .any, .any, .any, x4, .any, .any, .any, .any, .any, .any, .any, .any, .any, .any, .any, .any, .any, .any, .any, .any, .any, .any, .any, .any, .any, .any, .any, .any, .any, .any, .any, .any, .any, .any, .any, .any, .any, .any, .any, .any, .any, .any, .any, .any, .any, .any, .any, .any, .any], m⟩
noncomputable def L28_8 (x0 x5 x6 x7 x15 x16 x17 x22 x23 x24 : AV) (m : Mem) (K : Ex → St → Option (AV × Mem)) : Option (AV × Mem) := loopW (execW cfg 28 (AP cfg) (AC cfg) (c1 (c1 (c2 (c1 (c2 (c2 (c1 (c1 (c2 (c2 (c1 (c1 (c2 (c1 (c2 (c2 (bodyOf f28)))))))))))))))))) (cfg.mask 28 (some 8)) ⟨[x0, .any, .any, .any, .any, x5, x6, x7, .any, .any, .any, .any, .any, .any, .any, x15, x16, x17, .any, .any, .any, .any, x22, x23, x24, .any, .any, .any, .any, .any, .any, .any, .any, .any, .any, .any, .any, .any, .any, .any, .any, .any, .any, .any, .any, .any, .any, .any, .any, .any], m⟩ K
noncomputable abbrev K28_4_0 (K : Ex → St → Option (AV × Mem)) : Ex → St → Option (AV × Mem) := seqK (fun st => execW cfg 28 (AP cfg) (AC cfg) (c2 (c2 (c2 (bodyOf f28)))) st K) K
noncomputable abbrev K28_4_1 (K : Ex → St → Option (AV × Mem)) : Ex → St → Option (AV × Mem) := blockK 0 (K28_4_0 K)
noncomputable abbrev K28_4 (K : Ex → St → Option (AV × Mem)) : Ex → St → Option (AV × Mem) := (K28_4_1 K)
noncomputable abbrev K28_8_0 (K : Ex → St → Option (AV × Mem)) : Ex → St → Option (AV × Mem) := seqK (fun st => execW cfg 28 (AP cfg) (AC cfg) (c2 (c2 (c2 (c1 (c1 (c2 (c1 (c2 (c2 (bodyOf f28)))))))))) st (roundG (fun st => loopW (execW cfg 28 (AP cfg) (AC cfg) (c1 (c1 (c2 (c1 (c2 (c2 (bodyOf f28)))))))) (cfg.mask 28 (some 4)) st K) (cfg.mask 28 (some 4)) K)) (roundG (fun st => loopW (execW cfg 28 (AP cfg) (AC cfg) (c1 (c1 (c2 (c1 (c2 (c2 (bodyOf f28)))))))) (cfg.mask 28 (some 4)) st K) (cfg.mask 28 (some 4)) K)
noncomputable abbrev K28_8_1 (K : Ex → St → Option (AV × Mem)) : Ex → St → Option (AV × Mem) := blockK 1 (K28_8_0 K)
noncomputable abbrev K28_8_2 (K : Ex → St → Option (AV × Mem)) : Ex → St → Option (AV × Mem) := seqK (fun st => execW cfg 28 (AP cfg) (AC cfg) (c2 (c2 (c2 (c1 (c1 (c2 (c2 (c1 (c1 (c2 (c1 (c2 (c2 (bodyOf f28)))))))))))))) st (K28_8_1 K)) (K28_8_1 K)
noncomputable abbrev K28_8_3 (K : Ex → St → Option (AV × Mem)) : Ex → St → Option (AV × Mem) := blockK 2 (K28_8_2 K)
noncomputable abbrev K28_8 (K : Ex → St → Option (AV × Mem)) : Ex → St → Option (AV × Mem) := (K28_8_3 K)
theorem T28 (a0 a1 : AV) (m : Mem) : AC cfg 28 [a0, a1] m =
  (lenA false a1).bind fun v1 =>
  (lenA false a0).bind fun v2 =>
  (binA .other .neq v1 v2).bind fun v3 =>
  ifA v3 (
  some ((.bool false), m)) (
  (lenA false a1).bind fun v4 =>
  L28_4 a0 a1 v4 (.int .i64 0) m (K28_4 (finK cfg.P f28.results.toList))) :=
(AC_eq cfg 28 [a0, a1] m (fn := f28) (c := bodyOf f28) at28 rfl).trans (by kernel_rfl)
theorem L28_4_eq (x0 x15 x16 x17 : AV) (m : Mem) (K : Ex → St → Option (AV × Mem)) : L28_4 x0 x15 x16 x17 m K =
  (binA .other .lss x17 x16).bind fun v1 =>
  ifA v1 (
  (indexAddrA none x15 x17).bind fun v2 =>
  (loadA none m v2).bind fun v3 =>
  (lenA false v3).bind fun v4 =>
  L28_8 x0 x17 v3 (.int .i64 0) x15 x16 x17 v3 v4 (.int .i64 0) m (K28_8 K)) (
  K (.exit 0) (O28_4 m)) :=
(loopW_eq (execW_lin _) _ _ _).trans (by kernel_rfl)
theorem L28_8_eq (x0 x5 x6 x7 x15 x16 x17 x22 x23 x24 : AV) (m : Mem) (K : Ex → St → Option (AV × Mem)) : L28_8 x0 x5 x6 x7 x15 x16 x17 x22 x23 x24 m K =
  (binA .other .lss x24 x23).bind fun v1 =>
  ifA v1 (
  (indexAddrA none x22 x24).bind fun v2 =>
  (loadA none m v2).bind fun v3 =>
  (binA .other .lss v3 (.int .i64 0)).bind fun v4 =>
  ifA v4 (
  K .ret (R28_8 (.bool false) m)) (
  (binA .other .gtr v3 (.int .i64 1000)).bind fun v5 =>
  ifA v5 (
  K .ret (R28_8 (.bool false) m)) (
  (binA .other .add x7 v3).bind fun v6 =>
  (binA .other .add x24 (.int .i64 1)).bind fun v7 =>
  L28_8 x0 x5 x6 v6 x15 x16 x17 x22 x23 v7 m K))) (
  K (.exit 2) (O28_8 x0 x5 x6 x7 x15 x16 x17 m)) :=
(loopW_eq (execW_lin _) _ _ _).trans (by kernel_rfl)
theorem K28_4_x0 (m : Mem) : K28_4 (finK cfg.P f28.results.toList) (.exit 0) (O28_4  m) =
  some ((.bool true), m) := by kernel_rfl
theorem K28_4_ret (x4 : AV) (m : Mem) : K28_4 (finK cfg.P f28.results.toList) .ret (R28_4 x4 m) =
  some (x4, m) := by kernel_rfl
theorem K28_8_x2 (x0 x5 x6 x7 x15 x16 x17 : AV) (m : Mem) (K : Ex → St → Option (AV × Mem)) : K28_8 K (.exit 2) (O28_8 x0 x5 x6 x7 x15 x16 x17 m) =
  (lenA false x6).bind fun v1 =>
  (indexAddrA none x0 x5).bind fun v2 =>
  (loadA none m v2).bind fun v3 =>
  (binA .other .neq v1 v3).bind fun v4 =>
  ifA v4 (
  K .ret (R28_4 (.bool false) m)) (
  (binA .other .eql x7 (.int .i64 0)).bind fun v5 =>
  ifA v5 (
  K .ret (R28_4 (.bool false) m)) (
  (binA .other .add x17 (.int .i64 1)).bind fun v6 =>
  L28_4 x0 x15 x16 v6 m K)) := by kernel_rfl
theorem K28_8_ret (x4 : AV) (m : Mem) (K : Ex → St → Option (AV × Mem)) : K28_8 K .ret (R28_8 x4 m) =
  K .ret (R28_4 x4 m) := by kernel_rfl
/-! ### sortilege/diagram.Listed -/
def O29_2 (x1 : AV) (m : Mem) : St := ⟨[.any, x1, .any, .any, .any, .any, .any, .any, .any, .any, .any, .any, .any, .any, .any, .any, .any, .any, .any, .any, .any, .any, .any, .any, .any, .any, .any, .any, .any, .any, .any, .any, .any, .any, .any, .any, .any, .any, .any, .any, .any, .any, .any, .any, .any, .any, .any, .any, .any, .any, .any, .any, .any, .any, .any, .any, .any, .any, .any, .any, .any, .any, .any, .any, .any, .any, .any, .any, .any, .any, .any, .any, .any, .any, .any, .any, .any, .any, .any, .any, .any, .any, .any, .any, .any, .any, .any, .any, .any, .any, .any, .any], m⟩
def R29_2 (x4 : AV) (m : Mem) : St := ⟨[.any, .any, .any, .any, x4, .any, .any, .any, .any, .any, .any, .any, .any, .any, .any, .any, .any, .any, .any, .any, .any, .any, .any, .any, .any, .any, .any, .any, .any, .any, .any, .any, .any, .any, .any, .any, .any, .any, .any, .any, .any, .any, .any, .any, .any, .any, .any, .any, .any, .any, .any, .any, .any, .any, .any, .any, .any, .any, .any, .any, .any, .any, .any, .any, .any, .any, .any, .any, .any, .any, .any, .any, .any, .any, .any, .any, .any, .any, .any, .any, .any, .any, .any, .any, .any, .any, .any, .any, .any, .any, .any, .any], m⟩
noncomputable def L29_2 (x0 x1 x9 x10 x11 : AV) (m : Mem) (K : Ex → St → Option (AV × Mem)) : Option (AV × Mem) := loopW (execW cfg 29 (AP cfg) (AC cfg) (c1 (c1 (c2 (c1 (c2 (bodyOf f29))))))) (cfg.mask 29 (some 2)) ⟨[x0, x1, .any, .any, .any, .any, .any, .any, .any, x9, x10, x11, .any, .any, .any, .any, .any, .any, .any, .any, .any, .any, .any, .any, .any, .any, .any, .any, .any, .any, .any, .any, .any, .any, .any, .any, .any, .any, .any, .any, .any, .any, .any, .any, .any, .any, .any, .any, .any, .any, .any, .any, .any, .any, .any, .any, .any, .any, .any, .any, .any, .any, .any, .any, .any, .any, .any, .any, .any, .any, .any, .any, .any, .any, .any, .any, .any, .any, .any, .any, .any, .any, .any, .any, .any, .any, .any, .any, .any, .any, .any, .any], m⟩ K
def O29_10 (x0 x1 x9 x10 x11 : AV) (m : Mem) : St := ⟨[x0, x1, .any, .any, .any, .any, .any, .any, .any, x9, x10, x11, .any, .any, .any, .any, .any, .any, .any, .any, .any, .any, .any, .any, .any, .any, .any, .any, .any, .any, .any, .any, .any, .any, .any, .any, .any, .any, .any, .any, .any, .any, .any, .any, .any, .any, .any, .any, .any, .any, .any, .any, .any, .any, .any, .any, .any, .any, .any, .any, .any, .any, .any, .any, .any, .any, .any, .any, .any, .any, .any, .any, .any, .any, .any, .any, .any, .any, .any, .any, .any, .any, .any, .any, .any, .any, .any, .any, .any, .any, .any, .any], m⟩
def R29_10 (x4 : AV) (m : Mem) : St := ⟨[.any, .any, .any, .any, x4, .any, .any, .any, .any, .any, .any, .any, .any, .any, .any, .any, .any, .any, .any, .any, .any, .any, .any, .any, .any, .any, .any, .any, .any, .any, .any, .any, .any, .any, .any, .any, .any, .any, .any, .any, .any, .any, .any, .any, .any, .any, .any, .any, .any, .any, .any, .any, .any, .any, .any, .any, .any, .any, .any, .any, .any, .any, .any, .any, .any, .any, .any, .any, .any, .any, .any, .any, .any, .any, .any, .any, .any, .any, .any, .any, .any, .any, .any, .any, .any, .any, .any, .any, .any, .any, .any, .any], m⟩
noncomputable def L29_10 (x0 x1 x5 x6 x9 x10 x11 x56 x57 x58 : AV) (m : Mem) (K : Ex → St → Option (AV × Mem)) : Option (AV × Mem) := loopW (execW cfg 29 (AP cfg) (AC cfg) (c1 (c1 (c2 (c2 (c2 (c2 (c1 (c1 (c2 (c2 (c1 (c1 (c2 (c1 (c2 (bodyOf f29))))))))))))))))) (cfg.mask 29 (some 10)) ⟨[x0, x1, .any, .any, .any, x5, x6, .any, .any, x9, x10, x11, .any, .any, .any, .any, .any, .any, .any, .any, .any, .any, .any, .any, .any, .any, .any, .any, .any, .any, .any, .any, .any, .any, .any, .any, .any, .any, .any, .any, .any, .any, .any, .any, .any, .any, .any, .any, .any, .any, .any, .any, .any, .any, .any, .any, x56, x57, x58, .any, .any, .any, .any, .any, .any, .any, .any, .any, .any, .any, .any, .any, .any, .any, .any, .any, .any, .any, .any, .any, .any, .any, .any, .any, .any, .any, .any, .any, .any, .any, .any, .any], m⟩ K
noncomputable abbrev K29_2_0 (K : Ex → St → Option (AV × Mem)) : Ex → St → Option (AV × Mem) := seqK (fun st => execW cfg 29 (AP cfg) (AC cfg) (c2 (c2 (bodyOf f29))) st K) K
noncomputable abbrev K29_2_1 (K : Ex → St → Option (AV × Mem)) : Ex → St → Option (AV × Mem) := blockK 0 (K29_2_0 K)
noncomputable abbrev K29_2 (K : Ex → St → Option (AV × Mem)) : Ex → St → Option (AV × Mem) := (K29_2_1 K)
noncomputable abbrev K29_10_0 (K : Ex → St → Option (AV × Mem)) : Ex → St → Option (AV × Mem) := seqK (fun st => execW cfg 29 (AP cfg) (AC cfg) (c2 (c2 (c2 (c1 (c1 (c2 (c1 (c2 (bodyOf f29))))))))) st (roundG (fun st => loopW (execW cfg 29 (AP cfg) (AC cfg) (c1 (c1 (c2 (c1 (c2 (bodyOf f29))))))) (cfg.mask 29 (some 2)) st K) (cfg.mask 29 (some 2)) K)) (roundG (fun st => loopW (execW cfg 29 (AP cfg) (AC cfg) (c1 (c1 (c2 (c1 (c2 (bodyOf f29))))))) (cfg.mask 29 (some 2)) st K) (cfg.mask 29 (some 2)) K)
noncomputable abbrev K29_10_1 (K : Ex → St → Option (AV × Mem)) : Ex → St → Option (AV × Mem) := blockK 1 (K29_10_0 K)
noncomputable abbrev K29_10_2 (K : Ex → St → Option (AV × Mem)) : Ex → St → Option (AV × Mem) := blockK 2 (K29_10_1 K)
noncomputable abbrev K29_10 (K : Ex → St → Option (AV × Mem)) : Ex → St → Option (AV × Mem) := (K29_10_2 K)
theorem T29 (a0 a1 : AV) (m : Mem) : AC cfg 29 [a0, a1] m =
  (lenA false a1).bind fun v1 =>
  L29_2 a0 a1 a1 v1 (.int .i64 0) m (K29_2 (finK cfg.P f29.results.toList)) :=
(AC_eq cfg 29 [a0, a1] m (fn := f29) (c := bodyOf f29) at29 rfl).trans (by kernel_rfl)
theorem L29_2_eq (x0 x1 x9 x10 x11 : AV) (m : Mem) (K : Ex → St → Option (AV × Mem)) : L29_2 x0 x1 x9 x10 x11 m K =
  (binA .other .lss x11 x10).bind fun v1 =>
  ifA v1 (
  (indexAddrA (some 3) x9 x11).bind fun v2 =>
  (loadA (some 3) m v2).bind fun v3 =>
  (storeA (some 3) (newAt none m (.obj true [(.int .i64 0), (.lst none true .full []), (.int .i64 0)])).2 (.ptr (newAt none m .resv).1 0) v3).bind fun m4 =>
  (fieldAddrA 0 (.ptr (newAt none m .resv).1 0)).bind fun v5 =>
  (loadA none m4 v5).bind fun v6 =>
  (binA .other .eql v6 (.int .i64 (-1))).bind fun v7 =>
  ifA v7 (
  (fieldAddrA 1 (.ptr (newAt none m .resv).1 0)).bind fun v8 =>
  (loadA none m4 v8).bind fun v9 =>
  (lenA false v9).bind fun v10 =>
  (binA .other .gtr v10 (.int .i64 0)).bind fun v11 =>
  ifA v11 (
  K .ret (R29_2 (.bool false) m4)) (
  (fieldAddrA 2 (.ptr (newAt none m .resv).1 0)).bind fun v12 =>
  (loadA none m4 v12).bind fun v13 =>
  (pcall (AP cfg) none m4 64 [v13]).bind fun r14 =>
  (unA .not r14.1).bind fun v15 =>
  ifA v15 (
  K .ret (R29_2 (.bool false) r14.2)) (
  (binA .other .add x11 (.int .i64 1)).bind fun v16 =>
  L29_2 x0 x1 x9 x10 v16 r14.2 K))) (
  (fieldAddrA 0 (.ptr (newAt none m .resv).1 0)).bind fun v17 =>
  (loadA none m4 v17).bind fun v18 =>
  (binA .other .lss v18 (.int .i64 0)).bind fun v19 =>
  ifA v19 (
  K .ret (R29_2 (.bool false) m4)) (
  (fieldAddrA 0 (.ptr (newAt none m .resv).1 0)).bind fun v20 =>
  (loadA none m4 v20).bind fun v21 =>
  (lenA false x0).bind fun v22 =>
  (binA .other .geq v21 v22).bind fun v23 =>
  ifA v23 (
  K .ret (R29_2 (.bool false) m4)) (
  (fieldAddrA 2 (.ptr (newAt none m .resv).1 0)).bind fun v24 =>
  (loadA none m4 v24).bind fun v25 =>
  (binA .other .neq v25 (.int .i64 0)).bind fun v26 =>
  ifA v26 (
  K .ret (R29_2 (.bool false) m4)) (
  (fieldAddrA 1 (.ptr (newAt none m .resv).1 0)).bind fun v27 =>
  (loadA none m4 v27).bind fun v28 =>
  (lenA false v28).bind fun v29 =>
  (fieldAddrA 0 (.ptr (newAt none m .resv).1 0)).bind fun v30 =>
  (loadA none m4 v30).bind fun v31 =>
  (indexAddrA none x0 v31).bind fun v32 =>
  (loadA none m4 v32).bind fun v33 =>
  (binA .other .neq v29 v33).bind fun v34 =>
  ifA v34 (
  K .ret (R29_2 (.bool false) m4)) (
  (fieldAddrA 1 (.ptr (newAt none m .resv).1 0)).bind fun v35 =>
  (loadA none m4 v35).bind fun v36 =>
  (lenA false v36).bind fun v37 =>
  L29_10 x0 x1 x11 (.ptr (newAt none m .resv).1 0) x9 x10 x11 v36 v37 (.int .i64 0) m4 (K29_10 K))))))) (
  K (.exit 0) (O29_2 x1 m)) :=
(loopW_eq (execW_lin _) _ _ _).trans (by kernel_rfl)
theorem L29_10_eq (x0 x1 x5 x6 x9 x10 x11 x56 x57 x58 : AV) (m : Mem) (K : Ex → St → Option (AV × Mem)) : L29_10 x0 x1 x5 x6 x9 x10 x11 x56 x57 x58 m K =
  (binA .other .lss x58 x57).bind fun v1 =>
  ifA v1 (
  (indexAddrA none x56 x58).bind fun v2 =>
  (loadA none m v2).bind fun v3 =>
  (binA .other .lss v3 (.int .i64 0)).bind fun v4 =>
  ifA v4 (
  K .ret (R29_10 (.bool false) m)) (
  (binA .other .geq v3 x5).bind fun v5 =>
  ifA v5 (
  K .ret (R29_10 (.bool false) m)) (
  (indexAddrA (some 3) x1 v3).bind fun v6 =>
  (fieldAddrA 0 v6).bind fun v7 =>
  (loadA none m v7).bind fun v8 =>
  (binA .other .geq v8 (.int .i64 0)).bind fun v9 =>
  ifA v9 (
  (indexAddrA (some 3) x1 v3).bind fun v10 =>
  (fieldAddrA 0 v10).bind fun v11 =>
  (loadA none m v11).bind fun v12 =>
  (fieldAddrA 0 x6).bind fun v13 =>
  (loadA none m v13).bind fun v14 =>
  (binA .other .leq v12 v14).bind fun v15 =>
  ifA v15 (
  K .ret (R29_10 (.bool false) m)) (
  (binA .other .add x58 (.int .i64 1)).bind fun v16 =>
  L29_10 x0 x1 x5 x6 x9 x10 x11 x56 x57 v16 m K)) (
  (binA .other .add x58 (.int .i64 1)).bind fun v17 =>
  L29_10 x0 x1 x5 x6 x9 x10 x11 x56 x57 v17 m K)))) (
  K (.exit 2) (O29_10 x0 x1 x9 x10 x11 m)) :=
(loopW_eq (execW_lin _) _ _ _).trans (by kernel_rfl)
theorem K29_2_x0 (x1 : AV) (m : Mem) : K29_2 (finK cfg.P f29.results.toList) (.exit 0) (O29_2 x1 m) =
  (lenA false x1).bind fun v1 =>
  (binA .other .gtr v1 (.int .i64 0)).bind fun v2 =>
  some (v2, m) := by kernel_rfl
theorem K29_2_ret (x4 : AV) (m : Mem) : K29_2 (finK cfg.P f29.results.toList) .ret (R29_2 x4 m) =
  some (x4, m) := by kernel_rfl
theorem K29_10_x2 (x0 x1 x9 x10 x11 : AV) (m : Mem) (K : Ex → St → Option (AV × Mem)) : K29_10 K (.exit 2) (O29_10 x0 x1 x9 x10 x11 m) =
  (binA .other .add x11 (.int .i64 1)).bind fun v1 =>
  L29_2 x0 x1 x9 x10 v1 m K := by kernel_rfl
theorem K29_10_ret (x4 : AV) (m : Mem) (K : Ex → St → Option (AV × Mem)) : K29_10 K .ret (R29_10 x4 m) =
  K .ret (R29_2 x4 m) := by kernel_rfl
/-! ### slices.ContainsFunc[[]sortilege/api.Ratio,sortilege/api.Ratio] -/
theorem T30 (a0 a1 : AV) (m : Mem) : AC cfg 30 [a0, a1] m =
  (pcall (AP cfg) none m 65 [a0, a1]).bind fun r1 =>
  (binA .other .geq r1.1 (.int .i64 0)).bind fun v2 =>
  some (v2, r1.2) :=
(AC_eq cfg 30 [a0, a1] m (fn := f30) (c := bodyOf f30) at30 rfl).trans (by kernel_rfl)
/-! ### sortilege/proof.shaped$1 -/
theorem T31 (a0 : AV) (m : Mem) : AC cfg 31 [a0] m =
  (boxA none (some 3) m a0).bind fun r1 =>
  (loadA (some 3) r1.2 r1.1).bind fun v2 =>
  (pcall (AP cfg) none r1.2 32 [v2]).bind fun r3 =>
  (unA .not r3.1).bind fun v4 =>
  some (v4, r3.2) :=
(AC_eq cfg 31 [a0] m (fn := f31) (c := bodyOf f31) at31 rfl).trans (by kernel_rfl)
/-! ### sortilege/diagram.number -/
theorem T64 (a0 : AV) (m : Mem) : AC cfg 64 [a0] m =
  (binA .other .geq a0 (.int .i64 0)).bind fun v1 =>
  ifA v1 (
  (binA .other .leq a0 (.int .i64 2147483647)).bind fun v2 =>
  some (v2, m)) (
  some ((.bool false), m)) :=
(AC_eq cfg 64 [a0] m (fn := f64) (c := bodyOf f64) at64 rfl).trans (by kernel_rfl)
/-! ### slices.IndexFunc[[]sortilege/api.Ratio,sortilege/api.Ratio] -/
def O65_2 (m : Mem) : St := ⟨[.any, .any, .any, .any, .any, .any, .any, .any, .any, .any, .any, .any, .any, .any, .any, .any, .any, .any, .any], m⟩
def R65_2 (x4 : AV) (m : Mem) : St := ⟨[.any, .any, .any, .any, x4, .any, .any, .any, .any, .any, .any, .any, .any, .any, .any, .any, .any, .any, .any], m⟩
noncomputable def L65_2 (x0 x1 x7 x8 : AV) (m : Mem) (K : Ex → St → Option (AV × Mem)) : Option (AV × Mem) := loopW (execW cfg 65 (AP cfg) (AC cfg) (c1 (c1 (c2 (c1 (c2 (bodyOf f65))))))) (cfg.mask 65 (some 2)) ⟨[x0, x1, .any, .any, .any, .any, .any, x7, x8, .any, .any, .any, .any, .any, .any, .any, .any, .any, .any], m⟩ K
noncomputable abbrev K65_2_0 (K : Ex → St → Option (AV × Mem)) : Ex → St → Option (AV × Mem) := seqK (fun st => execW cfg 65 (AP cfg) (AC cfg) (c2 (c2 (bodyOf f65))) st K) K
noncomputable abbrev K65_2_1 (K : Ex → St → Option (AV × Mem)) : Ex → St → Option (AV × Mem) := blockK 0 (K65_2_0 K)
noncomputable abbrev K65_2 (K : Ex → St → Option (AV × Mem)) : Ex → St → Option (AV × Mem) := (K65_2_1 K)
theorem T65 (a0 a1 : AV) (m : Mem) : AC cfg 65 [a0, a1] m =
  (lenA false a0).bind fun v1 =>
  L65_2 a0 a1 v1 (.int .i64 0) m (K65_2 (finK cfg.P f65.results.toList)) :=
(AC_eq cfg 65 [a0, a1] m (fn := f65) (c := bodyOf f65) at65 rfl).trans (by kernel_rfl)
theorem L65_2_eq (x0 x1 x7 x8 : AV) (m : Mem) (K : Ex → St → Option (AV × Mem)) : L65_2 x0 x1 x7 x8 m K =
  (binA .other .lss x8 x7).bind fun v1 =>
  ifA v1 (
  (indexAddrA (some 3) x0 x8).bind fun v2 =>
  (loadA (some 3) m v2).bind fun v3 =>
  (fnOf x1).bind fun g4 =>
  callK cfg 65 (AP cfg) (AC cfg) none g4.1 ([v3] ++ g4.2) m fun v5 m6 =>
  ifA v5 (
  K .ret (R65_2 x8 m6)) (
  (binA .other .add x8 (.int .i64 1)).bind fun v7 =>
  L65_2 x0 x1 x7 v7 m6 K)) (
  K (.exit 0) (O65_2 m)) :=
(loopW_eq (execW_lin _) _ _ _).trans (by kernel_rfl)
theorem K65_2_x0 (m : Mem) : K65_2 (finK cfg.P f65.results.toList) (.exit 0) (O65_2  m) =
  some ((.int .i64 (-1)), m) := by kernel_rfl
theorem K65_2_ret (x4 : AV) (m : Mem) : K65_2 (finK cfg.P f65.results.toList) .ret (R65_2 x4 m) =
  some (x4, m) := by kernel_rfl
/-! ### sortilege/diagram.Part -/
def O35_3 (x0 x1 x4 x5 : AV) (m : Mem) : St := ⟨[x0, x1, .any, .any, x4, x5, .any, .any, .any, .any, .any, .any, .any, .any, .any, .any, .any, .any, .any, .any, .any, .any, .any, .any, .any, .any, .any, .any, .any, .any], m⟩
noncomputable def L35_3 (x0 x1 x4 x5 x10 x11 x12 : AV) (m : Mem) (K : Ex → St → Option (AV × Mem)) : Option (AV × Mem) := loopW (execW cfg 35 (AP cfg) (AC cfg) (c1 (c1 (c2 (c1 (c2 (c2 (bodyOf f35)))))))) (cfg.mask 35 (some 3)) ⟨[x0, x1, .any, .any, x4, x5, .any, .any, .any, .any, x10, x11, x12, .any, .any, .any, .any, .any, .any, .any, .any, .any, .any, .any, .any, .any, .any, .any, .any, .any], m⟩ K
noncomputable abbrev K35_3_0 (K : Ex → St → Option (AV × Mem)) : Ex → St → Option (AV × Mem) := seqK (fun st => execW cfg 35 (AP cfg) (AC cfg) (c2 (c2 (c2 (bodyOf f35)))) st K) K
noncomputable abbrev K35_3_1 (K : Ex → St → Option (AV × Mem)) : Ex → St → Option (AV × Mem) := blockK 0 (K35_3_0 K)
noncomputable abbrev K35_3 (K : Ex → St → Option (AV × Mem)) : Ex → St → Option (AV × Mem) := (K35_3_1 K)
theorem T35 (a0 a1 : AV) (m : Mem) : AC cfg 35 [a0, a1] m =
  (lenA false a0).bind fun v1 =>
  L35_3 a0 a1 (.ptr (newAt none m .resv).1 0) (.int .i64 0) a0 v1 (.int .i64 0) (newAt none m (.obj true [(.bool false), (.lst none true .full []), (.lst none true .full [])])).2 (K35_3 (finK cfg.P f35.results.toList)) :=
(AC_eq cfg 35 [a0, a1] m (fn := f35) (c := bodyOf f35) at35 rfl).trans (by kernel_rfl)
theorem L35_3_eq (x0 x1 x4 x5 x10 x11 x12 : AV) (m : Mem) (K : Ex → St → Option (AV × Mem)) : L35_3 x0 x1 x4 x5 x10 x11 x12 m K =
  (binA .other .lss x12 x11).bind fun v1 =>
  ifA v1 (
  (indexAddrA none x10 x12).bind fun v2 =>
  (loadA none m v2).bind fun v3 =>
  (binA .other .add x5 v3).bind fun v4 =>
  (binA .other .add x12 (.int .i64 1)).bind fun v5 =>
  L35_3 x0 x1 x4 v4 x10 x11 v5 m K) (
  K (.exit 0) (O35_3 x0 x1 x4 x5 m)) :=
(loopW_eq (execW_lin _) _ _ _).trans (by kernel_rfl)
theorem K35_3_x0 (x0 x1 x4 x5 : AV) (m : Mem) : K35_3 (finK cfg.P f35.results.toList) (.exit 0) (O35_3 x0 x1 x4 x5 m) =
  (indexAddrA none x0 x1).bind fun v1 =>
  (loadA none m v1).bind fun v2 =>
  (pcall (AP cfg) none m 69 [v2, x5]).bind fun r3 =>
  (extractA r3.1 0).bind fun v4 =>
  (extractA r3.1 1).bind fun v5 =>
  (storeA (some 3) (newAt none r3.2 (.obj true [(.bool false), (.lst none true .full []), (.lst none true .full [])])).2 (.ptr (newAt none r3.2 .resv).1 0) v4).bind fun m6 =>
  (loadA (some 3) m6 (.ptr (newAt none r3.2 .resv).1 0)).bind fun v7 =>
  (storeA (some 3) m6 x4 v7).bind fun m8 =>
  (loadA (some 3) m8 x4).bind fun v9 =>
  some (v9, m8) := by kernel_rfl
/-! ### sortilege/ratio.Make -/
theorem T69 (a0 a1 : AV) (m : Mem) : AC cfg 69 [a0, a1] m =
  (binA .other .lss a0 (.int .i64 0)).bind fun v1 =>
  (binA .other .lss a1 (.int .i64 0)).bind fun v2 =>
  (binA .bl .neq v1 v2).bind fun v3 =>
  (pcall (AP cfg) none (newAt none m (.obj true [(.bool false), (.lst none true .full []), (.lst none true .full [])])).2 82 [a0]).bind fun r4 =>
  (pcall (AP cfg) none r4.2 82 [a1]).bind fun r5 =>
  (pcall (AP cfg) none r5.2 70 [v3, r4.1, r5.1]).bind fun r6 =>
  (extractA r6.1 0).bind fun v7 =>
  (extractA r6.1 1).bind fun v8 =>
  (storeA (some 3) r6.2 (.ptr (newAt none m .resv).1 0) v7).bind fun m9 =>
  (loadA (some 3) m9 (.ptr (newAt none m .resv).1 0)).bind fun v10 =>
  some ((.tup [v10, v8]), m9) :=
(AC_eq cfg 69 [a0, a1] m (fn := f69) (c := bodyOf f69) at69 rfl).trans (by kernel_rfl)
/-! ### sortilege/proof.Check -/
def O7_4 (x1 x2 : AV) (m : Mem) : St := ⟨[.any, x1, x2, .any, .any, .any, .any, .any, .any, .any, .any, .any, .any, .any, .any, .any, .any, .any, .any, .any, .any, .any, .any, .any, .any, .any, .any, .any, .any, .any, .any, .any, .any, .any, .any, .any, .any, .any, .any, .any, .any, .any, .any, .any, .any, .any, .any], m⟩
def R7_4 (x2 x3 x4 : AV) (m : Mem) : St := ⟨[.any, .any, x2, x3, x4, .any, .any, .any, .any, .any, .any, .any, .any, .any, .any, .any, .any, .any, .any, .any, .any, .any, .any, .any, .any, .any, .any, .any, .any, .any, .any, .any, .any, .any, .any, .any, .any, .any, .any, .any, .any, .any, .any, .any, .any, .any, .any], m⟩
noncomputable def L7_4 (x1 x2 x12 x13 x14 : AV) (m : Mem) (K : Ex → St → Option (AV × Mem)) : Option (AV × Mem) := loopW (execW cfg 7 (AP cfg) (AC cfg) (c1 (c1 (c2 (c1 (c2 (c2 (bodyOf f7)))))))) (cfg.mask 7 (some 4)) ⟨[.any, x1, x2, .any, .any, .any, .any, .any, .any, .any, .any, .any, x12, x13, x14, .any, .any, .any, .any, .any, .any, .any, .any, .any, .any, .any, .any, .any, .any, .any, .any, .any, .any, .any, .any, .any, .any, .any, .any, .any, .any, .any, .any, .any, .any, .any, .any], m⟩ K
noncomputable abbrev K7_4_0 (K : Ex → St → Option (AV × Mem)) : Ex → St → Option (AV × Mem) := seqK (fun st => execW cfg 7 (AP cfg) (AC cfg) (c2 (c2 (c2 (bodyOf f7)))) st K) K
noncomputable abbrev K7_4_1 (K : Ex → St → Option (AV × Mem)) : Ex → St → Option (AV × Mem) := blockK 0 (K7_4_0 K)
noncomputable abbrev K7_4 (K : Ex → St → Option (AV × Mem)) : Ex → St → Option (AV × Mem) := (K7_4_1 K)
theorem T7 (a0 : AV) (m : Mem) : AC cfg 7 [a0] m =
  (boxA none (some 4) m a0).bind fun r1 =>
  (loadA (some 4) (newAt none r1.2 (.obj true [(.bool false), (.lst none true .full []), (.lst none true .full [])])).2 r1.1).bind fun v2 =>
  (pcall (AP cfg) none (newAt none r1.2 (.obj true [(.bool false), (.lst none true .full []), (.lst none true .full [])])).2 13 [v2]).bind fun r3 =>
  (unA .not r3.1).bind fun v4 =>
  ifA v4 (
  (buildA (.agg [(.bool false), (.lst none true .full []), (.lst none true .full [])]) []).bind fun v5 =>
  (storeA (some 3) r3.2 (.ptr (newAt none r1.2 .resv).1 0) v5).bind fun m6 =>
  (loadA (some 3) m6 (.ptr (newAt none r1.2 .resv).1 0)).bind fun v7 =>
  some ((.tup [v7, (.int .i64 0), (.int .i64 1)]), m6)) (
  (fieldAddrA 1 r1.1).bind fun v8 =>
  (loadA none r3.2 v8).bind fun v9 =>
  (lenA false v9).bind fun v10 =>
  L7_4 r1.1 (.ptr (newAt none r1.2 .resv).1 0) v9 v10 (.int .i64 0) r3.2 (K7_4 (finK cfg.P f7.results.toList))) :=
(AC_eq cfg 7 [a0] m (fn := f7) (c := bodyOf f7) at7 rfl).trans (by kernel_rfl)
theorem L7_4_eq (x1 x2 x12 x13 x14 : AV) (m : Mem) (K : Ex → St → Option (AV × Mem)) : L7_4 x1 x2 x12 x13 x14 m K =
  (binA .other .lss x14 x13).bind fun v1 =>
  ifA v1 (
  (indexAddrA (some 3) x12 x14).bind fun v2 =>
  (loadA (some 3) m v2).bind fun v3 =>
  (storeA (some 3) (newAt none m (.obj true [(.int .i64 0), (.lst none true .full []), (.int .i64 0)])).2 (.ptr (newAt none m .resv).1 0) v3).bind fun m4 =>
  (fieldAddrA 2 x1).bind fun v5 =>
  (loadA none m4 v5).bind fun v6 =>
  (indexAddrA (some 3) v6 x14).bind fun v7 =>
  (loadA (some 3) m4 v7).bind fun v8 =>
  (fieldAddrA 0 x1).bind fun v9 =>
  (loadA none m4 v9).bind fun v10 =>
  (loadA (some 3) m4 (.ptr (newAt none m .resv).1 0)).bind fun v11 =>
  (fieldAddrA 3 x1).bind fun v12 =>
  (loadA none m4 v12).bind fun v13 =>
  (fieldAddrA 2 x1).bind fun v14 =>
  (loadA none m4 v14).bind fun v15 =>
  (pcall (AP cfg) (some m4.length) m4 15 [v10, v11, v13, v15]).bind fun r16 =>
  (pcall (AP cfg) (some m4.length) r16.2 14 [v8, r16.1]).bind fun r17 =>
  (unA .not r17.1).bind fun v18 =>
  ifA v18 (
  (buildA (.agg [(.bool false), (.lst none true .full []), (.lst none true .full [])]) []).bind fun v19 =>
  (storeA (some 3) r17.2 x2 v19).bind fun m20 =>
  K .ret (R7_4 x2 x14 (.int .i64 32) m20)) (
  (binA .other .add x14 (.int .i64 1)).bind fun v21 =>
  L7_4 x1 x2 x12 x13 v21 r17.2 K)) (
  K (.exit 0) (O7_4 x1 x2 m)) :=
(loopW_eq (execW_lin _) _ _ _).trans (by kernel_rfl)
theorem K7_4_x0 (x1 x2 : AV) (m : Mem) : K7_4 (finK cfg.P f7.results.toList) (.exit 0) (O7_4 x1 x2 m) =
  (fieldAddrA 2 x1).bind fun v1 =>
  (loadA none m v1).bind fun v2 =>
  (fieldAddrA 2 x1).bind fun v3 =>
  (loadA none m v3).bind fun v4 =>
  (lenA false v4).bind fun v5 =>
  (binA .other .sub v5 (.int .i64 1)).bind fun v6 =>
  (indexAddrA (some 3) v2 v6).bind fun v7 =>
  (loadA (some 3) m v7).bind fun v8 =>
  (pcall (AP cfg) (some m.length) m 17 []).bind fun r9 =>
  (pcall (AP cfg) (some m.length) r9.2 16 [v8, r9.1]).bind fun r10 =>
  (storeA (some 3) r10.2 x2 r10.1).bind fun m11 =>
  (loadA (some 3) m11 x2).bind fun v12 =>
  some ((.tup [v12, (.int .i64 0), (.int .i64 0)]), m11) := by kernel_rfl
theorem K7_4_ret (x2 x3 x4 : AV) (m : Mem) : K7_4 (finK cfg.P f7.results.toList) .ret (R7_4 x2 x3 x4 m) =
  (loadA (some 3) m x2).bind fun v1 =>
  some ((.tup [v1, x3, x4]), m) := by kernel_rfl
end Go.Ab

/- What the interpreter does, function by function. -/
set_option maxRecDepth 100000
set_option linter.unusedVariables false
namespace Go.Ab
open Go.Proofs.Try
/-! ### sortilege/sortilegeref25.arms -/
def O43_3 (x3 : AV) (m : Mem) : St := ⟨[.any, .any, .any, x3, .any, .any, .any, .any, .any, .any, .any, .any, .any, .any, .any, .any, .any, .any, .any], m⟩
noncomputable def L43_3 (x3 x6 x7 x8 : AV) (m : Mem) (K : Ex → St → Option (AV × Mem)) : Option (AV × Mem) := loopW (execW cfg 43 (AP cfg) (AC cfg) (c1 (c1 (c2 (c1 (c2 (c2 (bodyOf f43)))))))) (cfg.mask 43 (some 3)) ⟨[.any, .any, .any, x3, .any, .any, x6, x7, x8, .any, .any, .any, .any, .any, .any, .any, .any, .any, .any], m⟩ K
noncomputable abbrev K43_3_0 (K : Ex → St → Option (AV × Mem)) : Ex → St → Option (AV × Mem) := seqK (fun st => execW cfg 43 (AP cfg) (AC cfg) (c2 (c2 (c2 (bodyOf f43)))) st K) K
noncomputable abbrev K43_3_1 (K : Ex → St → Option (AV × Mem)) : Ex → St → Option (AV × Mem) := blockK 0 (K43_3_0 K)
noncomputable abbrev K43_3 (K : Ex → St → Option (AV × Mem)) : Ex → St → Option (AV × Mem) := (K43_3_1 K)
theorem T43 (a0 : AV) (m : Mem) : AC cfg 43 [a0] m =
  (lenA false a0).bind fun v1 =>
  L43_3 (.lst none true .full []) a0 v1 (.int .i64 0) m (K43_3 (finK cfg.P f43.results.toList)) :=
(AC_eq cfg 43 [a0] m (fn := f43) (c := bodyOf f43) at43 rfl).trans (by kernel_rfl)
theorem L43_3_eq (x3 x6 x7 x8 : AV) (m : Mem) (K : Ex → St → Option (AV × Mem)) : L43_3 x3 x6 x7 x8 m K =
  (binA .other .lss x8 x7).bind fun v1 =>
  ifA v1 (
  (indexAddrA none x6 x8).bind fun v2 =>
  (loadA none m v2).bind fun v3 =>
  (lenA false v3).bind fun v4 =>
  (buildSliceA none [v4]).bind fun v5 =>
  (appA none false 3 none 8 m x3 v5).bind fun r6 =>
  (binA .other .add x8 (.int .i64 1)).bind fun v7 =>
  L43_3 r6.1 x6 x7 v7 r6.2 K) (
  K (.exit 0) (O43_3 x3 m)) :=
(loopW_eq (execW_lin _) _ _ _).trans (by kernel_rfl)
theorem K43_3_x0 (x3 : AV) (m : Mem) : K43_3 (finK cfg.P f43.results.toList) (.exit 0) (O43_3 x3 m) =
  some (x3, m) := by kernel_rfl
/-! ### sortilege/sortilegeref23.Arms -/
def O44_4 (m : Mem) : St := ⟨[.any, .any, .any, .any, .any, .any, .any, .any, .any, .any, .any, .any, .any, .any, .any, .any, .any, .any, .any, .any, .any], m⟩
def R44_4 (x2 : AV) (m : Mem) : St := ⟨[.any, .any, x2, .any, .any, .any, .any, .any, .any, .any, .any, .any, .any, .any, .any, .any, .any, .any, .any, .any, .any], m⟩
noncomputable def L44_4 (x8 x9 x10 : AV) (m : Mem) (K : Ex → St → Option (AV × Mem)) : Option (AV × Mem) := loopW (execW cfg 44 (AP cfg) (AC cfg) (c1 (c1 (c2 (c1 (c2 (c2 (bodyOf f44)))))))) (cfg.mask 44 (some 4)) ⟨[.any, .any, .any, .any, .any, .any, .any, .any, x8, x9, x10, .any, .any, .any, .any, .any, .any, .any, .any, .any, .any], m⟩ K
noncomputable abbrev K44_4_0 (K : Ex → St → Option (AV × Mem)) : Ex → St → Option (AV × Mem) := seqK (fun st => execW cfg 44 (AP cfg) (AC cfg) (c2 (c2 (c2 (bodyOf f44)))) st K) K
noncomputable abbrev K44_4_1 (K : Ex → St → Option (AV × Mem)) : Ex → St → Option (AV × Mem) := blockK 0 (K44_4_0 K)
noncomputable abbrev K44_4 (K : Ex → St → Option (AV × Mem)) : Ex → St → Option (AV × Mem) := (K44_4_1 K)
theorem T44 (a0 : AV) (m : Mem) : AC cfg 44 [a0] m =
  (lenA false a0).bind fun v1 =>
  (binA .other .gtr v1 (.int .i64 16)).bind fun v2 =>
  ifA v2 (
  some ((.int .i64 2), m)) (
  (lenA false a0).bind fun v3 =>
  L44_4 a0 v3 (.int .i64 0) m (K44_4 (finK cfg.P f44.results.toList))) :=
(AC_eq cfg 44 [a0] m (fn := f44) (c := bodyOf f44) at44 rfl).trans (by kernel_rfl)
theorem L44_4_eq (x8 x9 x10 : AV) (m : Mem) (K : Ex → St → Option (AV × Mem)) : L44_4 x8 x9 x10 m K =
  (binA .other .lss x10 x9).bind fun v1 =>
  ifA v1 (
  (indexAddrA none x8 x10).bind fun v2 =>
  (loadA none m v2).bind fun v3 =>
  (binA .other .lss v3 (.int .i64 1)).bind fun v4 =>
  ifA v4 (
  K .ret (R44_4 (.int .i64 1) m)) (
  (binA .other .gtr v3 (.int .i64 64)).bind fun v5 =>
  ifA v5 (
  K .ret (R44_4 (.int .i64 1) m)) (
  (binA .other .add x10 (.int .i64 1)).bind fun v6 =>
  L44_4 x8 x9 v6 m K))) (
  K (.exit 0) (O44_4 m)) :=
(loopW_eq (execW_lin _) _ _ _).trans (by kernel_rfl)
theorem K44_4_x0 (m : Mem) : K44_4 (finK cfg.P f44.results.toList) (.exit 0) (O44_4  m) =
  some ((.int .i64 0), m) := by kernel_rfl
theorem K44_4_ret (x2 : AV) (m : Mem) : K44_4 (finK cfg.P f44.results.toList) .ret (R44_4 x2 m) =
  some (x2, m) := by kernel_rfl
/-! ### sortilege/sortilegeref23.Odds -/
def O45_4 (m : Mem) : St := ⟨[.any, .any, .any, .any, .any, .any, .any, .any, .any, .any, .any, .any, .any, .any, .any, .any, .any, .any, .any, .any, .any, .any, .any, .any, .any, .any, .any, .any, .any, .any, .any, .any, .any, .any, .any, .any, .any, .any, .any, .any, .any, .any, .any, .any, .any, .any, .any, .any, .any, .any], m⟩
def R45_4 (x4 : AV) (m : Mem) : St := ⟨[.any, .any, .any, .any, x4, .any, .any, .any, .any, .any, .any, .any, .any, .any, .any, .any, .any, .any, .any, .any, .any, .any, .any, .any, .any, .any, .any, .any, .any, .any, .any, .any, .any, .any, .any, .any, .any, .any, .any, .any, .any, .any, .any, .any, .any, .any, .any, .any, .any, .any], m⟩
noncomputable def L45_4 (x0 x15 x16 x17 : AV) (m : Mem) (K : Ex → St → Option (AV × Mem)) : Option (AV × Mem) := loopW (execW cfg 45 (AP cfg) (AC cfg) (c1 (c1 (c2 (c1 (c2 (c2 (bodyOf f45)))))))) (cfg.mask 45 (some 4)) ⟨[x0, .any, .any, .any, .any, .any, .any, .any, .any, .any, .any, .any, .any, .any, .any, x15, x16, x17, .any, .any, .any, .any, .any, .any, .any, .any, .any, .any, .any, .any, .any, .any, .any, .any, .any, .any, .any, .any, .any, .any, .any, .any, .any, .any, .any, .any, .any, .any, .any, .any], m⟩ K
def O45_8 (x0 x5 x6 x7 x15 x16 x17 : AV) (m : Mem) : St := ⟨[x0, .any, .any, .any, .any, x5, x6, x7, .any, .any, .any, .any, .any, .any, .any, x15, x16, x17, .any, .any, .any, .any, .any, .any, .any, .any, .any, .any, .any, .any, .any, .any, .any, .any, .any, .any, .any, .any, .any, .any, .any, .any, .any, .any, .any, .any, .any, .any, .any, .any], m⟩
def R45_8 (x4 : AV) (m : Mem) : St := ⟨[.any, .any, .any, .any, x4, .any, .any, .any, .any, .any, .any, .any, .any, .any, .any, .any, .any, .any, .any, .any, .any, .any, .any, .any, .any, .any, .any, .any, .any, .any, .any, .any, .any, .any, .any, .any, .any, .any, .any, .any, .any, .any, .any, .any, .any, .any, .any, .any, .any, .any], m⟩
noncomputable def L45_8 (x0 x5 x6 x7 x15 x16 x17 x22 x23 x24 : AV) (m : Mem) (K : Ex → St → Option (AV × Mem)) : Option (AV × Mem) := loopW (execW cfg 45 (AP cfg) (AC cfg) (c1 (c1 (c2 (c1 (c2 (c2 (c1 (c1 (c2 (c2 (c1 (c1 (c2 (c1 (c2 (c2 (bodyOf f45)))))))))))))))))) (cfg.mask 45 (some 8)) ⟨[x0, .any, .any, .any, .any, x5, x6, x7, .any, .any, .any, .any, .any, .any, .any, x15, x16, x17, .any, .any, .any, .any, x22, x23, x24, .any, .any, .any, .any, .any, .any, .any, .any, .any, .any, .any, .any, .any, .any, .any, .any, .any, .any, .any, .any, .any, .any, .any, .any, .any], m⟩ K
noncomputable abbrev K45_4_0 (K : Ex → St → Option (AV × Mem)) : Ex → St → Option (AV × Mem) := seqK (fun st => execW cfg 45 (AP cfg) (AC cfg) (c2 (c2 (c2 (bodyOf f45)))) st K) K
noncomputable abbrev K45_4_1 (K : Ex → St → Option (AV × Mem)) : Ex → St → Option (AV × Mem) := blockK 0 (K45_4_0 K)
noncomputable abbrev K45_4 (K : Ex → St → Option (AV × Mem)) : Ex → St → Option (AV × Mem) := (K45_4_1 K)
noncomputable abbrev K45_8_0 (K : Ex → St → Option (AV × Mem)) : Ex → St → Option (AV × Mem) := seqK (fun st => execW cfg 45 (AP cfg) (AC cfg) (c2 (c2 (c2 (c1 (c1 (c2 (c1 (c2 (c2 (bodyOf f45)))))))))) st (roundG (fun st => loopW (execW cfg 45 (AP cfg) (AC cfg) (c1 (c1 (c2 (c1 (c2 (c2 (bodyOf f45)))))))) (cfg.mask 45 (some 4)) st K) (cfg.mask 45 (some 4)) K)) (roundG (fun st => loopW (execW cfg 45 (AP cfg) (AC cfg) (c1 (c1 (c2 (c1 (c2 (c2 (bodyOf f45)))))))) (cfg.mask 45 (some 4)) st K) (cfg.mask 45 (some 4)) K)
noncomputable abbrev K45_8_1 (K : Ex → St → Option (AV × Mem)) : Ex → St → Option (AV × Mem) := blockK 1 (K45_8_0 K)
noncomputable abbrev K45_8_2 (K : Ex → St → Option (AV × Mem)) : Ex → St → Option (AV × Mem) := seqK (fun st => execW cfg 45 (AP cfg) (AC cfg) (c2 (c2 (c2 (c1 (c1 (c2 (c2 (c1 (c1 (c2 (c1 (c2 (c2 (bodyOf f45)))))))))))))) st (K45_8_1 K)) (K45_8_1 K)
noncomputable abbrev K45_8_3 (K : Ex → St → Option (AV × Mem)) : Ex → St → Option (AV × Mem) := blockK 2 (K45_8_2 K)
noncomputable abbrev K45_8 (K : Ex → St → Option (AV × Mem)) : Ex → St → Option (AV × Mem) := (K45_8_3 K)
theorem T45 (a0 a1 : AV) (m : Mem) : AC cfg 45 [a0, a1] m =
  (lenA false a1).bind fun v1 =>
  (lenA false a0).bind fun v2 =>
  (binA .other .neq v1 v2).bind fun v3 =>
  ifA v3 (
  some ((.bool false), m)) (
  (lenA false a1).bind fun v4 =>
  L45_4 a0 a1 v4 (.int .i64 0) m (K45_4 (finK cfg.P f45.results.toList))) :=
(AC_eq cfg 45 [a0, a1] m (fn := f45) (c := bodyOf f45) at45 rfl).trans (by kernel_rfl)
theorem L45_4_eq (x0 x15 x16 x17 : AV) (m : Mem) (K : Ex → St → Option (AV × Mem)) : L45_4 x0 x15 x16 x17 m K =
  (binA .other .lss x17 x16).bind fun v1 =>
  ifA v1 (
  (indexAddrA none x15 x17).bind fun v2 =>
  (loadA none m v2).bind fun v3 =>
  (lenA false v3).bind fun v4 =>
  L45_8 x0 x17 v3 (.int .i64 0) x15 x16 x17 v3 v4 (.int .i64 0) m (K45_8 K)) (
  K (.exit 0) (O45_4 m)) :=
(loopW_eq (execW_lin _) _ _ _).trans (by kernel_rfl)
theorem L45_8_eq (x0 x5 x6 x7 x15 x16 x17 x22 x23 x24 : AV) (m : Mem) (K : Ex → St → Option (AV × Mem)) : L45_8 x0 x5 x6 x7 x15 x16 x17 x22 x23 x24 m K =
  (binA .other .lss x24 x23).bind fun v1 =>
  ifA v1 (
  (indexAddrA none x22 x24).bind fun v2 =>
  (loadA none m v2).bind fun v3 =>
  (binA .other .lss v3 (.int .i64 0)).bind fun v4 =>
  ifA v4 (
  K .ret (R45_8 (.bool false) m)) (
  (binA .other .gtr v3 (.int .i64 1000)).bind fun v5 =>
  ifA v5 (
  K .ret (R45_8 (.bool false) m)) (
  (binA .other .add x7 v3).bind fun v6 =>
  (binA .other .add x24 (.int .i64 1)).bind fun v7 =>
  L45_8 x0 x5 x6 v6 x15 x16 x17 x22 x23 v7 m K))) (
  K (.exit 2) (O45_8 x0 x5 x6 x7 x15 x16 x17 m)) :=
(loopW_eq (execW_lin _) _ _ _).trans (by kernel_rfl)
theorem K45_4_x0 (m : Mem) : K45_4 (finK cfg.P f45.results.toList) (.exit 0) (O45_4  m) =
  some ((.bool true), m) := by kernel_rfl
theorem K45_4_ret (x4 : AV) (m : Mem) : K45_4 (finK cfg.P f45.results.toList) .ret (R45_4 x4 m) =
  some (x4, m) := by kernel_rfl
theorem K45_8_x2 (x0 x5 x6 x7 x15 x16 x17 : AV) (m : Mem) (K : Ex → St → Option (AV × Mem)) : K45_8 K (.exit 2) (O45_8 x0 x5 x6 x7 x15 x16 x17 m) =
  (lenA false x6).bind fun v1 =>
  (indexAddrA none x0 x5).bind fun v2 =>
  (loadA none m v2).bind fun v3 =>
  (binA .other .neq v1 v3).bind fun v4 =>
  ifA v4 (
  K .ret (R45_4 (.bool false) m)) (
  (binA .other .eql x7 (.int .i64 0)).bind fun v5 =>
  ifA v5 (
  K .ret (R45_4 (.bool false) m)) (
  (binA .other .add x17 (.int .i64 1)).bind fun v6 =>
  L45_4 x0 x15 x16 v6 m K)) := by kernel_rfl
theorem K45_8_ret (x4 : AV) (m : Mem) (K : Ex → St → Option (AV × Mem)) : K45_8 K .ret (R45_8 x4 m) =
  K .ret (R45_4 x4 m) := by kernel_rfl
/-! ### sortilege/sortilegeref23.Right -/
def O46_2 (x1 : AV) (m : Mem) : St := ⟨[.any, x1, .any, .any, .any, .any, .any, .any, .any, .any, .any, .any, .any, .any, .any, .any, .any, .any, .any, .any, .any, .any, .any, .any, .any, .any, .any, .any, .any, .any, .any, .any, .any, .any, .any, .any, .any, .any, .any, .any, .any, .any, .any, .any, .any, .any, .any, .any, .any, .any, .any, .any, .any, .any, .any, .any, .any, .any, .any, .any, .any, .any, .any, .any, .any, .any, .any, .any, .any, .any, .any, .any, .any, .any, .any, .any, .any, .any, .any, .any, .any, .any, .any, .any, .any, .any, .any, .any, .any, .any, .any, .any, .any, .any, .any, .any], m⟩
def R46_2 (x4 : AV) (m : Mem) : St := ⟨[.any, .any, .any, .any, x4, .any, .any, .any, .any, .any, .any, .any, .any, .any, .any, .any, .any, .any, .any, .any, .any, .any, .any, .any, .any, .any, .any, .any, .any, .any, .any, .any, .any, .any, .any, .any, .any, .any, .any, .any, .any, .any, .any, .any, .any, .any, .any, .any, .any, .any, .any, .any, .any, .any, .any, .any, .any, .any, .any, .any, .any, .any, .any, .any, .any, .any, .any, .any, .any, .any, .any, .any, .any, .any, .any, .any, .any, .any, .any, .any, .any, .any, .any, .any, .any, .any, .any, .any, .any, .any, .any, .any, .any, .any, .any, .any], m⟩
noncomputable def L46_2 (x0 x1 x9 x10 x11 : AV) (m : Mem) (K : Ex → St → Option (AV × Mem)) : Option (AV × Mem) := loopW (execW cfg 46 (AP cfg) (AC cfg) (c1 (c1 (c2 (c1 (c2 (bodyOf f46))))))) (cfg.mask 46 (some 2)) ⟨[x0, x1, .any, .any, .any, .any, .any, .any, .any, x9, x10, x11, .any, .any, .any, .any, .any, .any, .any, .any, .any, .any, .any, .any, .any, .any, .any, .any, .any, .any, .any, .any, .any, .any, .any, .any, .any, .any, .any, .any, .any, .any, .any, .any, .any, .any, .any, .any, .any, .any, .any, .any, .any, .any, .any, .any, .any, .any, .any, .any, .any, .any, .any, .any, .any, .any, .any, .any, .any, .any, .any, .any, .any, .any, .any, .any, .any, .any, .any, .any, .any, .any, .any, .any, .any, .any, .any, .any, .any, .any, .any, .any, .any, .any, .any, .any], m⟩ K
def O46_10 (x0 x1 x9 x10 x11 : AV) (m : Mem) : St := ⟨[x0, x1, .any, .any, .any, .any, .any, .any, .any, x9, x10, x11, .any, .any, .any, .any, .any, .any, .any, .any, .any, .any, .any, .any, .any, .any, .any, .any, .any, .any, .any, .any, .any, .any, .any, .any, .any, .any, .any, .any, .any, .any, .any, .any, .any, .any, .any, .any, .any, .any, .any, .any, .any, .any, .any, .any, .any, .any, .any, .any, .any, .any, .any, .any, .any, .any, .any, .any, .any, .any, .any, .any, .any, .any, .any, .any, .any, .any, .any, .any, .any, .any, .any, .any, .any, .any, .any, .any, .any, .any, .any, .any, .any, .any, .any, .any], m⟩
def R46_10 (x4 : AV) (m : Mem) : St := ⟨[.any, .any, .any, .any, x4, .any, .any, .any, .any, .any, .any, .any, .any, .any, .any, .any, .any, .any, .any, .any, .any, .any, .any, .any, .any, .any, .any, .any, .any, .any, .any, .any, .any, .any, .any, .any, .any, .any, .any, .any, .any, .any, .any, .any, .any, .any, .any, .any, .any, .any, .any, .any, .any, .any, .any, .any, .any, .any, .any, .any, .any, .any, .any, .any, .any, .any, .any, .any, .any, .any, .any, .any, .any, .any, .any, .any, .any, .any, .any, .any, .any, .any, .any, .any, .any, .any, .any, .any, .any, .any, .any, .any, .any, .any, .any, .any], m⟩
noncomputable def L46_10 (x0 x1 x5 x6 x9 x10 x11 x60 x61 x62 : AV) (m : Mem) (K : Ex → St → Option (AV × Mem)) : Option (AV × Mem) := loopW (execW cfg 46 (AP cfg) (AC cfg) (c1 (c1 (c2 (c2 (c2 (c2 (c1 (c1 (c2 (c2 (c1 (c1 (c2 (c1 (c2 (bodyOf f46))))))))))))))))) (cfg.mask 46 (some 10)) ⟨[x0, x1, .any, .any, .any, x5, x6, .any, .any, x9, x10, x11, .any, .any, .any, .any, .any, .any, .any, .any, .any, .any, .any, .any, .any, .any, .any, .any, .any, .any, .any, .any, .any, .any, .any, .any, .any, .any, .any, .any, .any, .any, .any, .any, .any, .any, .any, .any, .any, .any, .any, .any, .any, .any, .any, .any, .any, .any, .any, .any, x60, x61, x62, .any, .any, .any, .any, .any, .any, .any, .any, .any, .any, .any, .any, .any, .any, .any, .any, .any, .any, .any, .any, .any, .any, .any, .any, .any, .any, .any, .any, .any, .any, .any, .any, .any], m⟩ K
noncomputable abbrev K46_2_0 (K : Ex → St → Option (AV × Mem)) : Ex → St → Option (AV × Mem) := seqK (fun st => execW cfg 46 (AP cfg) (AC cfg) (c2 (c2 (bodyOf f46))) st K) K
noncomputable abbrev K46_2_1 (K : Ex → St → Option (AV × Mem)) : Ex → St → Option (AV × Mem) := blockK 0 (K46_2_0 K)
noncomputable abbrev K46_2 (K : Ex → St → Option (AV × Mem)) : Ex → St → Option (AV × Mem) := (K46_2_1 K)
noncomputable abbrev K46_10_0 (K : Ex → St → Option (AV × Mem)) : Ex → St → Option (AV × Mem) := seqK (fun st => execW cfg 46 (AP cfg) (AC cfg) (c2 (c2 (c2 (c1 (c1 (c2 (c1 (c2 (bodyOf f46))))))))) st (roundG (fun st => loopW (execW cfg 46 (AP cfg) (AC cfg) (c1 (c1 (c2 (c1 (c2 (bodyOf f46))))))) (cfg.mask 46 (some 2)) st K) (cfg.mask 46 (some 2)) K)) (roundG (fun st => loopW (execW cfg 46 (AP cfg) (AC cfg) (c1 (c1 (c2 (c1 (c2 (bodyOf f46))))))) (cfg.mask 46 (some 2)) st K) (cfg.mask 46 (some 2)) K)
noncomputable abbrev K46_10_1 (K : Ex → St → Option (AV × Mem)) : Ex → St → Option (AV × Mem) := blockK 1 (K46_10_0 K)
noncomputable abbrev K46_10_2 (K : Ex → St → Option (AV × Mem)) : Ex → St → Option (AV × Mem) := blockK 2 (K46_10_1 K)
noncomputable abbrev K46_10 (K : Ex → St → Option (AV × Mem)) : Ex → St → Option (AV × Mem) := (K46_10_2 K)
theorem T46 (a0 a1 : AV) (m : Mem) : AC cfg 46 [a0, a1] m =
  (lenA false a1).bind fun v1 =>
  L46_2 a0 a1 a1 v1 (.int .i64 0) m (K46_2 (finK cfg.P f46.results.toList)) :=
(AC_eq cfg 46 [a0, a1] m (fn := f46) (c := bodyOf f46) at46 rfl).trans (by kernel_rfl)
theorem L46_2_eq (x0 x1 x9 x10 x11 : AV) (m : Mem) (K : Ex → St → Option (AV × Mem)) : L46_2 x0 x1 x9 x10 x11 m K =
  (binA .other .lss x11 x10).bind fun v1 =>
  ifA v1 (
  (indexAddrA (some 3) x9 x11).bind fun v2 =>
  (loadA (some 3) m v2).bind fun v3 =>
  (storeA (some 3) (newAt none m (.obj true [(.int .i64 0), (.lst none true .full []), (.int .i64 0)])).2 (.ptr (newAt none m .resv).1 0) v3).bind fun m4 =>
  (fieldAddrA 0 (.ptr (newAt none m .resv).1 0)).bind fun v5 =>
  (loadA none m4 v5).bind fun v6 =>
  (binA .other .eql v6 (.int .i64 (-1))).bind fun v7 =>
  ifA v7 (
  (fieldAddrA 1 (.ptr (newAt none m .resv).1 0)).bind fun v8 =>
  (loadA none m4 v8).bind fun v9 =>
  (lenA false v9).bind fun v10 =>
  (binA .other .neq v10 (.int .i64 0)).bind fun v11 =>
  ifA v11 (
  K .ret (R46_2 (.bool false) m4)) (
  (fieldAddrA 2 (.ptr (newAt none m .resv).1 0)).bind fun v12 =>
  (loadA none m4 v12).bind fun v13 =>
  (binA .other .lss v13 (.int .i64 0)).bind fun v14 =>
  ifA v14 (
  K .ret (R46_2 (.bool false) m4)) (
  (fieldAddrA 2 (.ptr (newAt none m .resv).1 0)).bind fun v15 =>
  (loadA none m4 v15).bind fun v16 =>
  (binA .other .gtr v16 (.int .i64 2147483647)).bind fun v17 =>
  ifA v17 (
  K .ret (R46_2 (.bool false) m4)) (
  (binA .other .add x11 (.int .i64 1)).bind fun v18 =>
  L46_2 x0 x1 x9 x10 v18 m4 K)))) (
  (fieldAddrA 0 (.ptr (newAt none m .resv).1 0)).bind fun v19 =>
  (loadA none m4 v19).bind fun v20 =>
  (binA .other .lss v20 (.int .i64 0)).bind fun v21 =>
  ifA v21 (
  K .ret (R46_2 (.bool false) m4)) (
  (fieldAddrA 0 (.ptr (newAt none m .resv).1 0)).bind fun v22 =>
  (loadA none m4 v22).bind fun v23 =>
  (lenA false x0).bind fun v24 =>
  (binA .other .geq v23 v24).bind fun v25 =>
  ifA v25 (
  K .ret (R46_2 (.bool false) m4)) (
  (fieldAddrA 2 (.ptr (newAt none m .resv).1 0)).bind fun v26 =>
  (loadA none m4 v26).bind fun v27 =>
  (binA .other .neq v27 (.int .i64 0)).bind fun v28 =>
  ifA v28 (
  K .ret (R46_2 (.bool false) m4)) (
  (fieldAddrA 1 (.ptr (newAt none m .resv).1 0)).bind fun v29 =>
  (loadA none m4 v29).bind fun v30 =>
  (lenA false v30).bind fun v31 =>
  (fieldAddrA 0 (.ptr (newAt none m .resv).1 0)).bind fun v32 =>
  (loadA none m4 v32).bind fun v33 =>
  (indexAddrA none x0 v33).bind fun v34 =>
  (loadA none m4 v34).bind fun v35 =>
  (binA .other .neq v31 v35).bind fun v36 =>
  ifA v36 (
  K .ret (R46_2 (.bool false) m4)) (
  (fieldAddrA 1 (.ptr (newAt none m .resv).1 0)).bind fun v37 =>
  (loadA none m4 v37).bind fun v38 =>
  (lenA false v38).bind fun v39 =>
  L46_10 x0 x1 x11 (.ptr (newAt none m .resv).1 0) x9 x10 x11 v38 v39 (.int .i64 0) m4 (K46_10 K))))))) (
  K (.exit 0) (O46_2 x1 m)) :=
(loopW_eq (execW_lin _) _ _ _).trans (by kernel_rfl)
theorem L46_10_eq (x0 x1 x5 x6 x9 x10 x11 x60 x61 x62 : AV) (m : Mem) (K : Ex → St → Option (AV × Mem)) : L46_10 x0 x1 x5 x6 x9 x10 x11 x60 x61 x62 m K =
  (binA .other .lss x62 x61).bind fun v1 =>
  ifA v1 (
  (indexAddrA none x60 x62).bind fun v2 =>
  (loadA none m v2).bind fun v3 =>
  (binA .other .lss v3 (.int .i64 0)).bind fun v4 =>
  ifA v4 (
  K .ret (R46_10 (.bool false) m)) (
  (binA .other .geq v3 x5).bind fun v5 =>
  ifA v5 (
  K .ret (R46_10 (.bool false) m)) (
  (indexAddrA (some 3) x1 v3).bind fun v6 =>
  (fieldAddrA 0 v6).bind fun v7 =>
  (loadA none m v7).bind fun v8 =>
  (binA .other .neq v8 (.int .i64 (-1))).bind fun v9 =>
  ifA v9 (
  (indexAddrA (some 3) x1 v3).bind fun v10 =>
  (fieldAddrA 0 v10).bind fun v11 =>
  (loadA none m v11).bind fun v12 =>
  (fieldAddrA 0 x6).bind fun v13 =>
  (loadA none m v13).bind fun v14 =>
  (binA .other .leq v12 v14).bind fun v15 =>
  ifA v15 (
  K .ret (R46_10 (.bool false) m)) (
  (binA .other .add x62 (.int .i64 1)).bind fun v16 =>
  L46_10 x0 x1 x5 x6 x9 x10 x11 x60 x61 v16 m K)) (
  (binA .other .add x62 (.int .i64 1)).bind fun v17 =>
  L46_10 x0 x1 x5 x6 x9 x10 x11 x60 x61 v17 m K)))) (
  K (.exit 2) (O46_10 x0 x1 x9 x10 x11 m)) :=
(loopW_eq (execW_lin _) _ _ _).trans (by kernel_rfl)
theorem K46_2_x0 (x1 : AV) (m : Mem) : K46_2 (finK cfg.P f46.results.toList) (.exit 0) (O46_2 x1 m) =
  (lenA false x1).bind fun v1 =>
  (binA .other .gtr v1 (.int .i64 0)).bind fun v2 =>
  some (v2, m) := by kernel_rfl
theorem K46_2_ret (x4 : AV) (m : Mem) : K46_2 (finK cfg.P f46.results.toList) .ret (R46_2 x4 m) =
  some (x4, m) := by kernel_rfl
theorem K46_10_x2 (x0 x1 x9 x10 x11 : AV) (m : Mem) (K : Ex → St → Option (AV × Mem)) : K46_10 K (.exit 2) (O46_10 x0 x1 x9 x10 x11 m) =
  (binA .other .add x11 (.int .i64 1)).bind fun v1 =>
  L46_2 x0 x1 x9 x10 v1 m K := by kernel_rfl
theorem K46_10_ret (x4 : AV) (m : Mem) (K : Ex → St → Option (AV × Mem)) : K46_10 K .ret (R46_10 x4 m) =
  K .ret (R46_2 x4 m) := by kernel_rfl
/-! ### sortilege/sortilegeref25.form -/
def O18_5 (m : Mem) : St := ⟨[.any, .any, .any, .any, .any, .any, .any, .any, .any, .any, .any, .any, .any, .any, .any, .any, .any, .any, .any, .any, .any, .any, .any, .any, .any, .any, .any, .any, .any, .any, .any, .any, .any, .any, .any, .any, .any, .any, .any, .any, .any, .any, .any, .any, .any, .any, .any, .any, .any, .any, .any, .any, .any, .any, .any, .any, .any, .any, .any, .any, .any, .any], m⟩
def R18_5 (x2 : AV) (m : Mem) : St := ⟨[.any, .any, x2, .any, .any, .any, .any, .any, .any, .any, .any, .any, .any, .any, .any, .any, .any, .any, .any, .any, .any, .any, .any, .any, .any, .any, .any, .any, .any, .any, .any, .any, .any, .any, .any, .any, .any, .any, .any, .any, .any, .any, .any, .any, .any, .any, .any, .any, .any, .any, .any, .any, .any, .any, .any, .any, .any, .any, .any, .any, .any, .any], m⟩
noncomputable def L18_5 (x52 x53 x54 : AV) (m : Mem) (K : Ex → St → Option (AV × Mem)) : Option (AV × Mem) := loopW (execW cfg 18 (AP cfg) (AC cfg) (c1 (c1 (c2 (c1 (c2 (c2 (c2 (bodyOf f18))))))))) (cfg.mask 18 (some 5)) ⟨[.any, .any, .any, .any, .any, .any, .any, .any, .any, .any, .any, .any, .any, .any, .any, .any, .any, .any, .any, .any, .any, .any, .any, .any, .any, .any, .any, .any, .any, .any, .any, .any, .any, .any, .any, .any, .any, .any, .any, .any, .any, .any, .any, .any, .any, .any, .any, .any, .any, .any, .any, .any, x52, x53, x54, .any, .any, .any, .any, .any, .any, .any], m⟩ K
noncomputable abbrev K18_5_0 (K : Ex → St → Option (AV × Mem)) : Ex → St → Option (AV × Mem) := seqK (fun st => execW cfg 18 (AP cfg) (AC cfg) (c2 (c2 (c2 (c2 (bodyOf f18))))) st K) K
noncomputable abbrev K18_5_1 (K : Ex → St → Option (AV × Mem)) : Ex → St → Option (AV × Mem) := blockK 0 (K18_5_0 K)
noncomputable abbrev K18_5 (K : Ex → St → Option (AV × Mem)) : Ex → St → Option (AV × Mem) := (K18_5_1 K)
theorem T18 (a0 : AV) (m : Mem) : AC cfg 18 [a0] m =
  (boxA none (some 4) m a0).bind fun r1 =>
  (fieldAddrA 0 r1.1).bind fun v2 =>
  (loadA none r1.2 v2).bind fun v3 =>
  (pcall (AP cfg) none r1.2 43 [v3]).bind fun r4 =>
  (pcall (AP cfg) none r4.2 44 [r4.1]).bind fun r5 =>
  (binA .other .neq r5.1 (.int .i64 0)).bind fun v6 =>
  ifA v6 (
  some ((.bool false), r5.2)) (
  (fieldAddrA 0 r1.1).bind fun v7 =>
  (loadA none r5.2 v7).bind fun v8 =>
  (pcall (AP cfg) none r5.2 45 [r4.1, v8]).bind fun r9 =>
  (unA .not r9.1).bind fun v10 =>
  ifA v10 (
  some ((.bool false), r9.2)) (
  (fieldAddrA 3 r1.1).bind fun v11 =>
  (loadA none r9.2 v11).bind fun v12 =>
  (binA .other .lss v12 (.int .i64 0)).bind fun v13 =>
  ifA v13 (
  some ((.bool false), r9.2)) (
  (fieldAddrA 3 r1.1).bind fun v14 =>
  (loadA none r9.2 v14).bind fun v15 =>
  (binA .other .gtr v15 (.int .i64 2147483647)).bind fun v16 =>
  ifA v16 (
  some ((.bool false), r9.2)) (
  (fieldAddrA 1 r1.1).bind fun v17 =>
  (loadA none r9.2 v17).bind fun v18 =>
  (lenA false v18).bind fun v19 =>
  (binA .other .gtr v19 (.int .i64 4000)).bind fun v20 =>
  ifA v20 (
  some ((.bool false), r9.2)) (
  (fieldAddrA 1 r1.1).bind fun v21 =>
  (loadA none r9.2 v21).bind fun v22 =>
  (pcall (AP cfg) none r9.2 46 [r4.1, v22]).bind fun r23 =>
  (unA .not r23.1).bind fun v24 =>
  ifA v24 (
  some ((.bool false), r23.2)) (
  (fieldAddrA 2 r1.1).bind fun v25 =>
  (loadA none r23.2 v25).bind fun v26 =>
  (lenA false v26).bind fun v27 =>
  (fieldAddrA 1 r1.1).bind fun v28 =>
  (loadA none r23.2 v28).bind fun v29 =>
  (lenA false v29).bind fun v30 =>
  (binA .other .neq v27 v30).bind fun v31 =>
  ifA v31 (
  some ((.bool false), r23.2)) (
  (fieldAddrA 2 r1.1).bind fun v32 =>
  (loadA none r23.2 v32).bind fun v33 =>
  (lenA false v33).bind fun v34 =>
  L18_5 v33 v34 (.int .i64 0) r23.2 (K18_5 (finK cfg.P f18.results.toList))))))))) :=
(AC_eq cfg 18 [a0] m (fn := f18) (c := bodyOf f18) at18 rfl).trans (by kernel_rfl)
theorem L18_5_eq (x52 x53 x54 : AV) (m : Mem) (K : Ex → St → Option (AV × Mem)) : L18_5 x52 x53 x54 m K =
  (binA .other .lss x54 x53).bind fun v1 =>
  ifA v1 (
  (indexAddrA (some 3) x52 x54).bind fun v2 =>
  (loadA (some 3) m v2).bind fun v3 =>
  (storeA (some 3) (newAt none m (.obj true [(.bool false), (.lst none true .full []), (.lst none true .full [])])).2 (.ptr (newAt none m .resv).1 0) v3).bind fun m4 =>
  (loadA (some 3) m4 (.ptr (newAt none m .resv).1 0)).bind fun v5 =>
  (pcall (AP cfg) none m4 47 [v5]).bind fun r6 =>
  (unA .not r6.1).bind fun v7 =>
  ifA v7 (
  K .ret (R18_5 (.bool false) r6.2)) (
  (binA .other .add x54 (.int .i64 1)).bind fun v8 =>
  L18_5 x52 x53 v8 r6.2 K)) (
  K (.exit 0) (O18_5 m)) :=
(loopW_eq (execW_lin _) _ _ _).trans (by kernel_rfl)
theorem K18_5_x0 (m : Mem) : K18_5 (finK cfg.P f18.results.toList) (.exit 0) (O18_5  m) =
  some ((.bool true), m) := by kernel_rfl
theorem K18_5_ret (x2 : AV) (m : Mem) : K18_5 (finK cfg.P f18.results.toList) .ret (R18_5 x2 m) =
  some (x2, m) := by kernel_rfl
/-! ### sortilege/sortilegeref25.Has -/
def O19_8 (x2 x4 x5 x6 x7 : AV) (m : Mem) : St := ⟨[.any, .any, x2, .any, x4, x5, x6, x7, .any, .any, .any, .any, .any, .any, .any, .any, .any, .any, .any, .any, .any, .any, .any, .any, .any, .any, .any, .any, .any, .any, .any, .any, .any, .any, .any, .any, .any, .any, .any, .any, .any, .any, .any, .any, .any, .any, .any, .any, .any, .any, .any, .any, .any, .any, .any, .any, .any, .any, .any, .any, .any, .any, .any, .any, .any, .any, .any, .any, .any, .any, .any, .any, .any, .any, .any, .any, .any, .any], m⟩
noncomputable def L19_8 (x2 x4 x5 x6 x7 x35 x36 x37 : AV) (m : Mem) (K : Ex → St → Option (AV × Mem)) : Option (AV × Mem) := loopW (execW cfg 19 (AP cfg) (AC cfg) (c1 (c1 (c2 (c1 (c2 (c2 (c2 (c2 (bodyOf f19)))))))))) (cfg.mask 19 (some 8)) ⟨[.any, .any, x2, .any, x4, x5, x6, x7, .any, .any, .any, .any, .any, .any, .any, .any, .any, .any, .any, .any, .any, .any, .any, .any, .any, .any, .any, .any, .any, .any, .any, .any, .any, .any, .any, x35, x36, x37, .any, .any, .any, .any, .any, .any, .any, .any, .any, .any, .any, .any, .any, .any, .any, .any, .any, .any, .any, .any, .any, .any, .any, .any, .any, .any, .any, .any, .any, .any, .any, .any, .any, .any, .any, .any, .any, .any, .any, .any], m⟩ K
def O19_13 (x4 x7 : AV) (m : Mem) : St := ⟨[.any, .any, .any, .any, x4, .any, .any, x7, .any, .any, .any, .any, .any, .any, .any, .any, .any, .any, .any, .any, .any, .any, .any, .any, .any, .any, .any, .any, .any, .any, .any, .any, .any, .any, .any, .any, .any, .any, .any, .any, .any, .any, .any, .any, .any, .any, .any, .any, .any, .any, .any, .any, .any, .any, .any, .any, .any, .any, .any, .any, .any, .any, .any, .any, .any, .any, .any, .any, .any, .any, .any, .any, .any, .any, .any, .any, .any, .any], m⟩
noncomputable def L19_13 (x2 x4 x5 x6 x7 x46 x47 x48 : AV) (m : Mem) (K : Ex → St → Option (AV × Mem)) : Option (AV × Mem) := loopW (execW cfg 19 (AP cfg) (AC cfg) (c1 (c1 (c2 (c1 (c2 (c2 (c2 (c2 (c2 (bodyOf f19))))))))))) (cfg.mask 19 (some 13)) ⟨[.any, .any, x2, .any, x4, x5, x6, x7, .any, .any, .any, .any, .any, .any, .any, .any, .any, .any, .any, .any, .any, .any, .any, .any, .any, .any, .any, .any, .any, .any, .any, .any, .any, .any, .any, .any, .any, .any, .any, .any, .any, .any, .any, .any, .any, .any, x46, x47, x48, .any, .any, .any, .any, .any, .any, .any, .any, .any, .any, .any, .any, .any, .any, .any, .any, .any, .any, .any, .any, .any, .any, .any, .any, .any, .any, .any, .any, .any], m⟩ K
noncomputable abbrev K19_8_0 (K : Ex → St → Option (AV × Mem)) : Ex → St → Option (AV × Mem) := seqK (fun st => execW cfg 19 (AP cfg) (AC cfg) (c2 (c2 (c2 (c2 (c2 (bodyOf f19)))))) st K) K
noncomputable abbrev K19_8_1 (K : Ex → St → Option (AV × Mem)) : Ex → St → Option (AV × Mem) := blockK 0 (K19_8_0 K)
noncomputable abbrev K19_8 (K : Ex → St → Option (AV × Mem)) : Ex → St → Option (AV × Mem) := (K19_8_1 K)
noncomputable abbrev K19_13_0 (K : Ex → St → Option (AV × Mem)) : Ex → St → Option (AV × Mem) := seqK (fun st => execW cfg 19 (AP cfg) (AC cfg) (c2 (c2 (c2 (c2 (c2 (c2 (bodyOf f19))))))) st K) K
noncomputable abbrev K19_13_1 (K : Ex → St → Option (AV × Mem)) : Ex → St → Option (AV × Mem) := blockK 2 (K19_13_0 K)
noncomputable abbrev K19_13 (K : Ex → St → Option (AV × Mem)) : Ex → St → Option (AV × Mem) := (K19_13_1 K)
theorem T19 (a0 a1 : AV) (m : Mem) : AC cfg 19 [a0, a1] m =
  (boxA none (some 4) m a0).bind fun r1 =>
  (fieldAddrA 1 r1.1).bind fun v2 =>
  (loadA none (newAt none r1.2 (.obj true [(.bool false), (.lst none true .full []), (.lst none true .full [])])).2 v2).bind fun v3 =>
  (indexAddrA (some 3) v3 a1).bind fun v4 =>
  (loadA (some 3) (newAt none r1.2 (.obj true [(.bool false), (.lst none true .full []), (.lst none true .full [])])).2 v4).bind fun v5 =>
  (storeA (some 3) (newAt none (newAt none r1.2 (.obj true [(.bool false), (.lst none true .full []), (.lst none true .full [])])).2 (.obj true [(.int .i64 0), (.lst none true .full []), (.int .i64 0)])).2 (.ptr (newAt none (newAt none r1.2 (.obj true [(.bool false), (.lst none true .full []), (.lst none true .full [])])).2 .resv).1 0) v5).bind fun m6 =>
  (fieldAddrA 0 (.ptr (newAt none (newAt none r1.2 (.obj true [(.bool false), (.lst none true .full []), (.lst none true .full [])])).2 .resv).1 0)).bind fun v7 =>
  (loadA none m6 v7).bind fun v8 =>
  (binA .other .eql v8 (.int .i64 (-1))).bind fun v9 =>
  ifA v9 (
  (fieldAddrA 2 (.ptr (newAt none (newAt none r1.2 (.obj true [(.bool false), (.lst none true .full []), (.lst none true .full [])])).2 .resv).1 0)).bind fun v10 =>
  (loadA none m6 v10).bind fun v11 =>
  (fieldAddrA 3 r1.1).bind fun v12 =>
  (loadA none m6 v12).bind fun v13 =>
  (binA .other .eql v11 v13).bind fun v14 =>
  ifA v14 (
  (pcall (AP cfg) none m6 21 []).bind fun r15 =>
  (storeA (some 3) r15.2 (.ptr (newAt none r1.2 .resv).1 0) r15.1).bind fun m16 =>
  (loadA (some 3) m16 (.ptr (newAt none r1.2 .resv).1 0)).bind fun v17 =>
  some (v17, m16)) (
  (pcall (AP cfg) none m6 24 []).bind fun r18 =>
  (storeA (some 3) r18.2 (.ptr (newAt none r1.2 .resv).1 0) r18.1).bind fun m19 =>
  (loadA (some 3) m19 (.ptr (newAt none r1.2 .resv).1 0)).bind fun v20 =>
  some (v20, m19))) (
  (pcall (AP cfg) none m6 24 []).bind fun r21 =>
  (storeA (some 3) (newAt none r21.2 (.obj true [(.bool false), (.lst none true .full []), (.lst none true .full [])])).2 (.ptr (newAt none r21.2 .resv).1 0) r21.1).bind fun m22 =>
  (fieldAddrA 0 r1.1).bind fun v23 =>
  (loadA none m22 v23).bind fun v24 =>
  (fieldAddrA 0 (.ptr (newAt none (newAt none r1.2 (.obj true [(.bool false), (.lst none true .full []), (.lst none true .full [])])).2 .resv).1 0)).bind fun v25 =>
  (loadA none m22 v25).bind fun v26 =>
  (indexAddrA none v24 v26).bind fun v27 =>
  (loadA none m22 v27).bind fun v28 =>
  (lenA false v28).bind fun v29 =>
  L19_8 r1.1 (.ptr (newAt none r1.2 .resv).1 0) (.ptr (newAt none (newAt none r1.2 (.obj true [(.bool false), (.lst none true .full []), (.lst none true .full [])])).2 .resv).1 0) (.int .i64 0) (.ptr (newAt none r21.2 .resv).1 0) v28 v29 (.int .i64 0) m22 (K19_8 (finK cfg.P f19.results.toList))) :=
(AC_eq cfg 19 [a0, a1] m (fn := f19) (c := bodyOf f19) at19 rfl).trans (by kernel_rfl)
theorem L19_8_eq (x2 x4 x5 x6 x7 x35 x36 x37 : AV) (m : Mem) (K : Ex → St → Option (AV × Mem)) : L19_8 x2 x4 x5 x6 x7 x35 x36 x37 m K =
  (binA .other .lss x37 x36).bind fun v1 =>
  ifA v1 (
  (indexAddrA none x35 x37).bind fun v2 =>
  (loadA none m v2).bind fun v3 =>
  (binA .other .add x6 v3).bind fun v4 =>
  (binA .other .add x37 (.int .i64 1)).bind fun v5 =>
  L19_8 x2 x4 x5 v4 x7 x35 x36 v5 m K) (
  K (.exit 0) (O19_8 x2 x4 x5 x6 x7 m)) :=
(loopW_eq (execW_lin _) _ _ _).trans (by kernel_rfl)
theorem L19_13_eq (x2 x4 x5 x6 x7 x46 x47 x48 : AV) (m : Mem) (K : Ex → St → Option (AV × Mem)) : L19_13 x2 x4 x5 x6 x7 x46 x47 x48 m K =
  (binA .other .lss x48 x47).bind fun v1 =>
  ifA v1 (
  (indexAddrA none x46 x48).bind fun v2 =>
  (loadA none m v2).bind fun v3 =>
  (fieldAddrA 0 x2).bind fun v4 =>
  (loadA none m v4).bind fun v5 =>
  (fieldAddrA 0 x5).bind fun v6 =>
  (loadA none m v6).bind fun v7 =>
  (indexAddrA none v5 v7).bind fun v8 =>
  (loadA none m v8).bind fun v9 =>
  (indexAddrA none v9 x48).bind fun v10 =>
  (loadA none m v10).bind fun v11 =>
  (pcall (AP cfg) none m 48 [v11, x6]).bind fun r12 =>
  (extractA r12.1 0).bind fun v13 =>
  (extractA r12.1 1).bind fun v14 =>
  (storeA (some 3) (newAt none r12.2 (.obj true [(.bool false), (.lst none true .full []), (.lst none true .full [])])).2 (.ptr (newAt none r12.2 .resv).1 0) v13).bind fun m15 =>
  (loadA (some 3) m15 x7).bind fun v16 =>
  (loadA (some 3) m15 (.ptr (newAt none r12.2 .resv).1 0)).bind fun v17 =>
  (fieldAddrA 2 x2).bind fun v18 =>
  (loadA none m15 v18).bind fun v19 =>
  (indexAddrA (some 3) v19 v3).bind fun v20 =>
  (loadA (some 3) m15 v20).bind fun v21 =>
  (pcall (AP cfg) (some m15.length) m15 49 [v17, v21]).bind fun r22 =>
  (pcall (AP cfg) (some m15.length) r22.2 27 [v16, r22.1]).bind fun r23 =>
  (storeA (some 3) r23.2 x7 r23.1).bind fun m24 =>
  (binA .other .add x48 (.int .i64 1)).bind fun v25 =>
  L19_13 x2 x4 x5 x6 x7 x46 x47 v25 m24 K) (
  K (.exit 2) (O19_13 x4 x7 m)) :=
(loopW_eq (execW_lin _) _ _ _).trans (by kernel_rfl)
theorem K19_8_x0 (x2 x4 x5 x6 x7 : AV) (m : Mem) : K19_8 (finK cfg.P f19.results.toList) (.exit 0) (O19_8 x2 x4 x5 x6 x7 m) =
  (fieldAddrA 1 x5).bind fun v1 =>
  (loadA none m v1).bind fun v2 =>
  (lenA false v2).bind fun v3 =>
  L19_13 x2 x4 x5 x6 x7 v2 v3 (.int .i64 0) m (K19_13 (finK cfg.P f19.results.toList)) := by kernel_rfl
theorem K19_13_x2 (x4 x7 : AV) (m : Mem) : K19_13 (finK cfg.P f19.results.toList) (.exit 2) (O19_13 x4 x7 m) =
  (loadA (some 3) m x7).bind fun v1 =>
  (storeA (some 3) m x4 v1).bind fun m2 =>
  (loadA (some 3) m2 x4).bind fun v3 =>
  some (v3, m2) := by kernel_rfl
/-! ### sortilege/sortilegeref25.Check -/
def O8_4 (x1 x2 : AV) (m : Mem) : St := ⟨[.any, x1, x2, .any, .any, .any, .any, .any, .any, .any, .any, .any, .any, .any, .any, .any, .any, .any, .any, .any, .any, .any, .any, .any, .any, .any, .any, .any, .any, .any, .any, .any, .any, .any, .any, .any, .any], m⟩
def R8_4 (x2 x3 x4 : AV) (m : Mem) : St := ⟨[.any, .any, x2, x3, x4, .any, .any, .any, .any, .any, .any, .any, .any, .any, .any, .any, .any, .any, .any, .any, .any, .any, .any, .any, .any, .any, .any, .any, .any, .any, .any, .any, .any, .any, .any, .any, .any], m⟩
noncomputable def L8_4 (x1 x2 x12 x13 : AV) (m : Mem) (K : Ex → St → Option (AV × Mem)) : Option (AV × Mem) := loopW (execW cfg 8 (AP cfg) (AC cfg) (c1 (c1 (c2 (c1 (c2 (c2 (bodyOf f8)))))))) (cfg.mask 8 (some 4)) ⟨[.any, x1, x2, .any, .any, .any, .any, .any, .any, .any, .any, .any, x12, x13, .any, .any, .any, .any, .any, .any, .any, .any, .any, .any, .any, .any, .any, .any, .any, .any, .any, .any, .any, .any, .any, .any, .any], m⟩ K
noncomputable abbrev K8_4_0 (K : Ex → St → Option (AV × Mem)) : Ex → St → Option (AV × Mem) := seqK (fun st => execW cfg 8 (AP cfg) (AC cfg) (c2 (c2 (c2 (bodyOf f8)))) st K) K
noncomputable abbrev K8_4_1 (K : Ex → St → Option (AV × Mem)) : Ex → St → Option (AV × Mem) := blockK 0 (K8_4_0 K)
noncomputable abbrev K8_4 (K : Ex → St → Option (AV × Mem)) : Ex → St → Option (AV × Mem) := (K8_4_1 K)
theorem T8 (a0 : AV) (m : Mem) : AC cfg 8 [a0] m =
  (boxA none (some 4) m a0).bind fun r1 =>
  (loadA (some 4) (newAt none r1.2 (.obj true [(.bool false), (.lst none true .full []), (.lst none true .full [])])).2 r1.1).bind fun v2 =>
  (pcall (AP cfg) none (newAt none r1.2 (.obj true [(.bool false), (.lst none true .full []), (.lst none true .full [])])).2 18 [v2]).bind fun r3 =>
  (unA .not r3.1).bind fun v4 =>
  ifA v4 (
  (buildA (.agg [(.bool false), (.lst none true .full []), (.lst none true .full [])]) []).bind fun v5 =>
  (storeA (some 3) r3.2 (.ptr (newAt none r1.2 .resv).1 0) v5).bind fun m6 =>
  (loadA (some 3) m6 (.ptr (newAt none r1.2 .resv).1 0)).bind fun v7 =>
  some ((.tup [v7, (.int .i64 0), (.int .i64 1)]), m6)) (
  (fieldAddrA 1 r1.1).bind fun v8 =>
  (loadA none r3.2 v8).bind fun v9 =>
  (lenA false v9).bind fun v10 =>
  L8_4 r1.1 (.ptr (newAt none r1.2 .resv).1 0) v10 (.int .i64 0) r3.2 (K8_4 (finK cfg.P f8.results.toList))) :=
(AC_eq cfg 8 [a0] m (fn := f8) (c := bodyOf f8) at8 rfl).trans (by kernel_rfl)
theorem L8_4_eq (x1 x2 x12 x13 : AV) (m : Mem) (K : Ex → St → Option (AV × Mem)) : L8_4 x1 x2 x12 x13 m K =
  (binA .other .lss x13 x12).bind fun v1 =>
  ifA v1 (
  (fieldAddrA 2 x1).bind fun v2 =>
  (loadA none m v2).bind fun v3 =>
  (indexAddrA (some 3) v3 x13).bind fun v4 =>
  (loadA (some 3) m v4).bind fun v5 =>
  (loadA (some 4) m x1).bind fun v6 =>
  (pcall (AP cfg) (some m.length) m 19 [v6, x13]).bind fun r7 =>
  (pcall (AP cfg) (some m.length) r7.2 9 [v5, r7.1]).bind fun r8 =>
  (unA .not r8.1).bind fun v9 =>
  ifA v9 (
  (buildA (.agg [(.bool false), (.lst none true .full []), (.lst none true .full [])]) []).bind fun v10 =>
  (storeA (some 3) r8.2 x2 v10).bind fun m11 =>
  K .ret (R8_4 x2 x13 (.int .i64 32) m11)) (
  (binA .other .add x13 (.int .i64 1)).bind fun v12 =>
  L8_4 x1 x2 x12 v12 r8.2 K)) (
  K (.exit 0) (O8_4 x1 x2 m)) :=
(loopW_eq (execW_lin _) _ _ _).trans (by kernel_rfl)
theorem K8_4_x0 (x1 x2 : AV) (m : Mem) : K8_4 (finK cfg.P f8.results.toList) (.exit 0) (O8_4 x1 x2 m) =
  (fieldAddrA 2 x1).bind fun v1 =>
  (loadA none m v1).bind fun v2 =>
  (fieldAddrA 2 x1).bind fun v3 =>
  (loadA none m v3).bind fun v4 =>
  (lenA false v4).bind fun v5 =>
  (binA .other .sub v5 (.int .i64 1)).bind fun v6 =>
  (indexAddrA (some 3) v2 v6).bind fun v7 =>
  (loadA (some 3) m v7).bind fun v8 =>
  (storeA (some 3) m x2 v8).bind fun m9 =>
  (loadA (some 3) m9 x2).bind fun v10 =>
  some ((.tup [v10, (.int .i64 0), (.int .i64 0)]), m9) := by kernel_rfl
theorem K8_4_ret (x2 x3 x4 : AV) (m : Mem) : K8_4 (finK cfg.P f8.results.toList) .ret (R8_4 x2 x3 x4 m) =
  (loadA (some 3) m x2).bind fun v1 =>
  some ((.tup [v1, x3, x4]), m) := by kernel_rfl
end Go.Ab

/- Certificates in values: rows of whole numbers, nodes, odds; boxes of nodes and certificates; numbers, arms and odds. -/
set_option linter.unusedVariables false
set_option linter.unusedSimpArgs false
set_option maxRecDepth 100000
namespace Go.Ab
open Go.Proofs.Try

structure IL where
  z : Bool
  o : Own
  ns : List Int
def iA (n : Int) : AV := .int .i64 n
def IL.av (l : IL) : AV := .lst none l.z l.o (l.ns.map iA)
def IL.fr (l : IL) : IL := ⟨l.z, l.o.fr, l.ns⟩
structure ND where
  var : Int
  kids : IL
  leaf : Int
def ND.av (n : ND) : AV := .agg [.int .i64 n.var, n.kids.av, .int .i64 n.leaf]
structure OL where
  z : Bool
  o : Own
  es : List IL
def OL.av (l : OL) : AV := .lst none l.z l.o (l.es.map IL.av)
def OL.fr (l : OL) : OL := ⟨l.z, l.o.fr, l.es⟩
structure NL where
  sh : Sh
  z : Bool
  o : Own
  es : List ND
def NL.av (l : NL) : AV := .lst l.sh l.z l.o (l.es.map ND.av)
def NL.fr (l : NL) : NL := ⟨l.sh, l.z, l.o.fr, l.es⟩
structure CV where
  odds : OL
  nodes : NL
  ws : LV
  leaf : Int
def CV.av (c : CV) : AV := .agg [c.odds.av, c.nodes.av, c.ws.av, .int .i64 c.leaf]
def CV.fr (c : CV) : CV := ⟨c.odds.fr, c.nodes.fr, c.ws.fr, c.leaf⟩
theorem fz_il (l : IL) : Fz l.av l.fr.av := fun m => fza_lst none l.z l.o (l.ns.map iA) m 8
theorem fz_ol (l : OL) : Fz l.av l.fr.av := fun m => fza_lst none l.z l.o (l.es.map IL.av) m 8
theorem fz_nl (l : NL) : Fz l.av l.fr.av := fun m => fza_lst l.sh l.z l.o (l.es.map ND.av) m 8
theorem fza_il (l : IL) : ∀ m k, frz m (k + 1) l.av = some (l.fr.av, []) := fza_lst none l.z l.o (l.ns.map iA)
theorem fza_ol (l : OL) : ∀ m k, frz m (k + 1) l.av = some (l.fr.av, []) := fza_lst none l.z l.o (l.es.map IL.av)
theorem fza_nl (l : NL) : ∀ m k, frz m (k + 1) l.av = some (l.fr.av, []) := fza_lst l.sh l.z l.o (l.es.map ND.av)
theorem fza_lv (l : LV) : ∀ m k, frz m (k + 1) l.av = some (l.fr.av, []) := fza_lst l.sh l.z l.o (l.es.map RV.av)
theorem fza_nd (n : ND) : ∀ m k, frz m (k + 2) n.av = some (ND.av ⟨n.var, n.kids.fr, n.leaf⟩, []) := by
  intro m k
  have e : frz m (k + 2) n.av = (mapF (frz m (k + 1)) [.int .i64 n.var, n.kids.av, .int .i64 n.leaf]).map fun r => (.agg r.1, r.2) := rfl
  rw [e]
  simp [mapF, fza_int _ _ m k, fza_il n.kids m k, ND.av]
theorem fza_cv (c : CV) : ∀ m k, frz m (k + 2) c.av = some (c.fr.av, []) := by
  intro m k
  have e : frz m (k + 2) c.av = (mapF (frz m (k + 1)) [c.odds.av, c.nodes.av, c.ws.av, .int .i64 c.leaf]).map fun r => (.agg r.1, r.2) := rfl
  rw [e]
  simp [mapF, fza_int _ _ m k, fza_ol _ m k, fza_nl _ m k, fza_lv _ m k, CV.av, CV.fr]
theorem fz_nd (n : ND) : Fz n.av (ND.av ⟨n.var, n.kids.fr, n.leaf⟩) := fun m => fza_nd n m 7
theorem fz_cv (c : CV) : Fz c.av c.fr.av := fun m => fza_cv c m 7
/-! ### What the operations do -/
theorem len_il (l : IL) : lenA false l.av = some (.int .i64 l.ns.length) := by simp [IL.av, lenA]
theorem len_ol (l : OL) : lenA false l.av = some (.int .i64 l.es.length) := by simp [OL.av, lenA]
theorem len_nl (l : NL) : lenA false l.av = some (.int .i64 l.es.length) := by simp [NL.av, lenA]
theorem index_il {l : IL} {k : Nat} {kk : IntKind} (hk : k < l.ns.length) : indexAddrA none l.av (.int kk k) = some (.vptr [iA l.ns[k]]) := by
  simp [IL.av, indexAddrA, hk, iA, AV.cells]
theorem load_il (m : Mem) (n : Int) : loadA none m (.vptr [iA n]) = some (.int .i64 n) := rfl
theorem index_ol {l : OL} {k : Nat} {kk : IntKind} (hk : k < l.es.length) : indexAddrA none l.av (.int kk k) = some (.vptr [l.es[k].av]) := by
  simp [OL.av, indexAddrA, hk, IL.av, AV.cells]
theorem load_ol (m : Mem) (n : IL) : loadA none m (.vptr [n.av]) = some n.av := rfl
theorem index_nl {l : NL} {k : Nat} {kk : IntKind} (hs : l.sh = some 3 ∨ l.es = []) (hk : k < l.es.length) : indexAddrA (some 3) l.av (.int kk k) = some (.vptr (l.es[k].av).cells) := by
  have hs : l.sh = some 3 := hs.resolve_right (fun e => by rw [e] at hk; simp at hk)
  simp [NL.av, indexAddrA, hs, hk]
theorem load_nd (m : Mem) (n : ND) : loadA (some 3) m (.vptr n.av.cells) = some n.av := rfl
theorem fld_nd (n : ND) : fieldAddrA 0 (.vptr n.av.cells) = some (.vptr n.av.cells) := rfl
theorem load_nd0 (m : Mem) (n : ND) : loadA none m (.vptr n.av.cells) = some (.int .i64 n.var) := rfl
/-! ### Boxes -/
def cN (n : ND) : Option Ent := some (.obj true [.int .i64 n.var, n.kids.av, .int .i64 n.leaf])
def nilI : IL := ⟨true, .full, []⟩
def zN : ND := ⟨0, nilI, 0⟩
theorem new_n (m : Mem) : newAt none m (.obj true [.int .i64 0, .lst none true .full [], .int .i64 0]) = (m.length, m ++ [cN zN]) := rfl
theorem nld0 {m : Mem} {k : Nat} {x : ND} (h : m[k]? = some (cN x)) : loadA none m (.ptr k 0) = some (.int .i64 x.var) := by simp [loadA, mobj h, cutSh]
theorem nld1 {m : Mem} {k : Nat} {x : ND} (h : m[k]? = some (cN x)) : loadA none m (.ptr k 1) = some x.kids.av := by simp [loadA, mobj h, cutSh]
theorem nld2 {m : Mem} {k : Nat} {x : ND} (h : m[k]? = some (cN x)) : loadA none m (.ptr k 2) = some (.int .i64 x.leaf) := by simp [loadA, mobj h, cutSh]
theorem nldA {m : Mem} {k : Nat} {x : ND} (h : m[k]? = some (cN x)) : loadA (some 3) m (.ptr k 0) = some x.av := by simp [loadA, mobj h, cutSh, ND.av]
theorem nst_last {m : Mem} {x y : ND} : storeA (some 3) (m ++ [cN x]) (.ptr m.length 0) y.av = some (m ++ [cN y]) := by
  simp only [storeA, mobj (get_last (m := m) (e := cN x)), Option.bind_some]
  simp [ND.av, IL.av, Sh.size, shOk, atomOk, putAt, AV.cells, cN]
theorem box_nd (m : Mem) (x : ND) : boxA none (some 3) m x.av = some (.ptr m.length 0, m ++ [cN x]) := rfl
def cC (c : CV) : Option Ent := some (.obj true [c.odds.av, c.nodes.av, c.ws.av, .int .i64 c.leaf])
def zC : CV := ⟨⟨true, .full, []⟩, ⟨none, true, .full, []⟩, nilL, 0⟩
theorem box_cv (m : Mem) (x : CV) : boxA none (some 4) m x.av = some (.ptr m.length 0, m ++ [cC x]) := rfl
theorem new_cv (m : Mem) : newAt none m (.obj true [.lst none true .full [], .lst none true .full [], .lst none true .full [], .int .i64 0]) = (m.length, m ++ [cC zC]) := rfl
theorem cld0 {m : Mem} {k : Nat} {x : CV} (h : m[k]? = some (cC x)) : loadA none m (.ptr k 0) = some x.odds.av := by simp [loadA, mobj h, cutSh]
theorem cld1 {m : Mem} {k : Nat} {x : CV} (h : m[k]? = some (cC x)) : loadA none m (.ptr k 1) = some x.nodes.av := by simp [loadA, mobj h, cutSh]
theorem cld2 {m : Mem} {k : Nat} {x : CV} (h : m[k]? = some (cC x)) : loadA none m (.ptr k 2) = some x.ws.av := by simp [loadA, mobj h, cutSh]
theorem cld3 {m : Mem} {k : Nat} {x : CV} (h : m[k]? = some (cC x)) : loadA none m (.ptr k 3) = some (.int .i64 x.leaf) := by simp [loadA, mobj h, cutSh]
theorem cldA {m : Mem} {k : Nat} {x : CV} (h : m[k]? = some (cC x)) : loadA (some 4) m (.ptr k 0) = some x.av := by simp [loadA, mobj h, cutSh, CV.av]
theorem cstA {m : Mem} {k : Nat} {x y : CV} (h : m[k]? = some (cC x)) : storeA (some 4) m (.ptr k 0) y.av = some (m.set k (cC y)) := by
  simp only [storeA, mobj h, Option.bind_some]
  rfl
theorem fld3 (n : Nat) : fieldAddrA 3 (.ptr n 0) = some (.ptr n 3) := rfl
/-! ### Numbers -/
theorem V64 (n : Int) : AP cfg 64 [.int .i64 n] = some (.bool (decide (0 ≤ n ∧ n ≤ 2147483647))) := by
  refine AP_ofz _ _ (fz_bool _) rfl (m := []) ?_
  rw [T64, binA_geq, Option.bind_some, ifA_dec]
  by_cases h : n ≥ 0
  · rw [if_pos h, binA_leq, Option.bind_some]
    congr 3
    exact decide_eq_decide.2 (by omega)
  · rw [if_neg h]
    congr 3
    exact (decide_eq_false (by omega)).symm
/-! ### Arms -/
def armB (n : Int) : Bool := decide (1 ≤ n ∧ n ≤ 64)
theorem W44 (l : IL) (hl : l.ns.length ≤ 16) (m : Mem) (K : Ex → St → Option (AV × Mem)) : ∀ j i : Nat, i + j = l.ns.length → L44_4 l.av (.int .i64 l.ns.length) (.int .i64 i) m K = if (l.ns.drop i).all armB then K (.exit 0) (O44_4 m) else K .ret (R44_4 (.int .i64 1) m)
  | 0, i, h => by
    rw [L44_4_eq, n_lss, Option.bind_some, ifA_dec, if_neg (by omega), List.drop_eq_nil_of_le (by omega)]; rfl
  | j + 1, i, h => by
    have hi : i < l.ns.length := by omega
    have ih := W44 l hl m K j (i + 1) (by omega)
    rw [L44_4_eq, n_lss, Option.bind_some, ifA_dec, if_pos hi, index_il hi, Option.bind_some, load_il, Option.bind_some, binA_lss, Option.bind_some, ifA_dec, List.drop_eq_getElem_cons hi, List.all_cons]
    by_cases h1 : l.ns[i] < 1
    · rw [if_pos h1, show armB l.ns[i] = false from decide_eq_false (by omega)]; rfl
    · rw [if_neg h1, binA_gtr, Option.bind_some, ifA_dec]
      by_cases h2 : l.ns[i] > 64
      · rw [if_pos h2, show armB l.ns[i] = false from decide_eq_false (by omega)]; rfl
      · rw [if_neg h2, i_add1 (by omega), Option.bind_some, ih, show armB l.ns[i] = true from decide_eq_true (by omega), Bool.true_and]
theorem V44 (l : IL) : AP cfg 44 [l.av] = some (.int .i64 (if l.ns.length > 16 then 2 else if l.ns.all armB then 0 else 1)) := by
  refine AP_ofz _ _ (fz_int _ _) rfl (m := []) ?_
  rw [T44, len_il, Option.bind_some, show ((16 : Int)) = ((16 : Nat) : Int) from rfl, n_gtr, Option.bind_some, ifA_dec]
  by_cases h : l.ns.length > 16
  · rw [if_pos h, if_pos h]
  · rw [if_neg h, if_neg h, Option.bind_some, show ((0 : Int)) = ((0 : Nat) : Int) from rfl, W44 l (by omega) [] _ l.ns.length 0 (by omega), List.drop_zero]
    by_cases h2 : l.ns.all armB = true
    · rw [if_pos h2, if_pos h2, K44_4_x0]; rfl
    · rw [if_neg h2, if_neg h2, K44_4_ret]
/-! ### Odds -/
def oddB (o : Int) : Bool := decide (0 ≤ o ∧ o ≤ 1000)
def rowB (l : IL) (a : Int) : Bool := l.ns.all oddB && (decide ((l.ns.length : Int) = a) && decide (l.ns.sum ≠ 0))
def oddsB (arms : IL) (L : OL) : Bool := decide (L.es.length = arms.ns.length) && (L.es.zip arms.ns).all fun p => rowB p.1 p.2
theorem oddB_iff {o : Int} : oddB o = true ↔ 0 ≤ o ∧ o ≤ 1000 := by unfold oddB; exact decide_eq_true_iff
theorem X28 (l : IL) (hl : l.ns.length ≤ 64) (x0 x5 x6 x15 x16 x17 : AV) (m : Mem) (K : Ex → St → Option (AV × Mem)) : ∀ (j i : Nat) (s : Int), i + j = l.ns.length → 0 ≤ s → s ≤ 1000 * i →
    L28_8 x0 x5 x6 (.int .i64 s) x15 x16 x17 l.av (.int .i64 l.ns.length) (.int .i64 i) m K = if (l.ns.drop i).all oddB then K (.exit 2) (O28_8 x0 x5 x6 (.int .i64 (s + (l.ns.drop i).sum)) x15 x16 x17 m) else K .ret (R28_8 (.bool false) m)
  | 0, i, s, h, h0, h1 => by
    rw [L28_8_eq, n_lss, Option.bind_some, ifA_dec, if_neg (by omega), List.drop_eq_nil_of_le (by omega), List.sum_nil, Int.add_zero]; rfl
  | j + 1, i, s, h, h0, h1 => by
    have hi : i < l.ns.length := by omega
    rw [L28_8_eq, n_lss, Option.bind_some, ifA_dec, if_pos hi, index_il hi, Option.bind_some, load_il, Option.bind_some, binA_lss, Option.bind_some, ifA_dec, List.drop_eq_getElem_cons hi, List.all_cons, List.sum_cons]
    by_cases c1 : l.ns[i] < 0
    · rw [if_pos c1, show oddB l.ns[i] = false from decide_eq_false (by omega)]; rfl
    · rw [if_neg c1, binA_gtr, Option.bind_some, ifA_dec]
      by_cases c2 : l.ns[i] > 1000
      · rw [if_pos c2, show oddB l.ns[i] = false from decide_eq_false (by omega)]; rfl
      · have ih := X28 l hl x0 x5 x6 x15 x16 x17 m K j (i + 1) (s + l.ns[i]) (by omega) (by omega) (by omega)
        rw [if_neg c2, binA_add, wrap_i64 (by omega) (by omega), Option.bind_some, i_add1 (by omega), Option.bind_some, ih, show oddB l.ns[i] = true from decide_eq_true (by omega), Bool.true_and, Int.add_assoc]
theorem W28 (arms : IL) (L : OL) (hlen : L.es.length = arms.ns.length) (h64 : ∀ l ∈ L.es, l.ns.length ≤ 64) (h40 : L.es.length ≤ 40) (m : Mem) (K : Ex → St → Option (AV × Mem)) : ∀ j i : Nat, i + j = L.es.length →
    L28_4 arms.av L.av (.int .i64 L.es.length) (.int .i64 i) m K = if ((L.es.zip arms.ns).drop i).all (fun p => rowB p.1 p.2) then K (.exit 0) (O28_4 m) else K .ret (R28_4 (.bool false) m)
  | 0, i, h => by
    rw [L28_4_eq, n_lss, Option.bind_some, ifA_dec, if_neg (by omega), List.drop_eq_nil_of_le (by rw [List.length_zip]; omega)]; rfl
  | j + 1, i, h => by
    have hi : i < L.es.length := by omega
    have hz : i < (L.es.zip arms.ns).length := by rw [List.length_zip]; omega
    have ih := W28 arms L hlen h64 h40 m K j (i + 1) (by omega)
    have hx := X28 L.es[i] (h64 _ (List.getElem_mem hi)) arms.av (.int .i64 i) L.es[i].av L.av (.int .i64 L.es.length) (.int .i64 i) m (K28_8 K) L.es[i].ns.length 0 0 (by omega) (by omega) (by omega)
    rw [List.drop_zero, Int.zero_add, show (((0 : Nat) : Int)) = (0 : Int) from rfl] at hx
    rw [L28_4_eq, n_lss, Option.bind_some, ifA_dec, if_pos hi, index_ol hi, Option.bind_some, load_ol, Option.bind_some, len_il, Option.bind_some, hx, List.drop_eq_getElem_cons hz, List.all_cons, List.getElem_zip]
    dsimp only
    unfold rowB
    by_cases c1 : L.es[i].ns.all oddB = true
    · rw [if_pos c1, K28_8_x2, len_il, Option.bind_some, index_il (by omega), Option.bind_some, load_il, Option.bind_some, binA_neq, Option.bind_some, ifA_dec, c1, Bool.true_and]
      by_cases c2 : (L.es[i].ns.length : Int) = arms.ns[i]
      · rw [if_neg (by omega), binA_eql, Option.bind_some, ifA_dec, decide_eq_true c2, Bool.true_and]
        by_cases c3 : L.es[i].ns.sum = 0
        · rw [if_pos c3, decide_eq_false (by omega)]; rfl
        · rw [if_neg c3, decide_eq_true c3, Bool.true_and, i_add1 (by omega), Option.bind_some, ih]; rfl
      · rw [if_pos c2, decide_eq_false c2]; rfl
    · rw [if_neg c1, K28_8_ret, Bool.eq_false_iff.2 c1]; rfl
theorem V28 (arms : IL) (L : OL) (h64 : ∀ l ∈ L.es, l.ns.length ≤ 64) (h40 : L.es.length ≤ 40) : AP cfg 28 [arms.av, L.av] = some (.bool (oddsB arms L)) := by
  refine AP_ofz _ _ (fz_bool _) rfl (m := []) ?_
  unfold oddsB
  rw [T28, len_ol, Option.bind_some, len_il, Option.bind_some, binA_neq, Option.bind_some, ifA_dec]
  by_cases h : L.es.length = arms.ns.length
  · rw [if_neg (by omega), Option.bind_some, show ((0 : Int)) = ((0 : Nat) : Int) from rfl, W28 arms L h h64 h40 [] _ L.es.length 0 (by omega), List.drop_zero, decide_eq_true h, Bool.true_and]
    by_cases h2 : (L.es.zip arms.ns).all (fun p => rowB p.1 p.2) = true
    · rw [if_pos h2, h2, K28_4_x0]
    · rw [if_neg h2, Bool.eq_false_iff.2 h2, K28_4_ret]
  · rw [if_pos (by omega), decide_eq_false h]; rfl
theorem X45 (l : IL) (hl : l.ns.length ≤ 64) (x0 x5 x6 x15 x16 x17 : AV) (m : Mem) (K : Ex → St → Option (AV × Mem)) : ∀ (j i : Nat) (s : Int), i + j = l.ns.length → 0 ≤ s → s ≤ 1000 * i →
    L45_8 x0 x5 x6 (.int .i64 s) x15 x16 x17 l.av (.int .i64 l.ns.length) (.int .i64 i) m K = if (l.ns.drop i).all oddB then K (.exit 2) (O45_8 x0 x5 x6 (.int .i64 (s + (l.ns.drop i).sum)) x15 x16 x17 m) else K .ret (R45_8 (.bool false) m)
  | 0, i, s, h, h0, h1 => by
    rw [L45_8_eq, n_lss, Option.bind_some, ifA_dec, if_neg (by omega), List.drop_eq_nil_of_le (by omega), List.sum_nil, Int.add_zero]; rfl
  | j + 1, i, s, h, h0, h1 => by
    have hi : i < l.ns.length := by omega
    rw [L45_8_eq, n_lss, Option.bind_some, ifA_dec, if_pos hi, index_il hi, Option.bind_some, load_il, Option.bind_some, binA_lss, Option.bind_some, ifA_dec, List.drop_eq_getElem_cons hi, List.all_cons, List.sum_cons]
    by_cases c1 : l.ns[i] < 0
    · rw [if_pos c1, show oddB l.ns[i] = false from decide_eq_false (by omega)]; rfl
    · rw [if_neg c1, binA_gtr, Option.bind_some, ifA_dec]
      by_cases c2 : l.ns[i] > 1000
      · rw [if_pos c2, show oddB l.ns[i] = false from decide_eq_false (by omega)]; rfl
      · have ih := X45 l hl x0 x5 x6 x15 x16 x17 m K j (i + 1) (s + l.ns[i]) (by omega) (by omega) (by omega)
        rw [if_neg c2, binA_add, wrap_i64 (by omega) (by omega), Option.bind_some, i_add1 (by omega), Option.bind_some, ih, show oddB l.ns[i] = true from decide_eq_true (by omega), Bool.true_and, Int.add_assoc]
theorem W45 (arms : IL) (L : OL) (hlen : L.es.length = arms.ns.length) (h64 : ∀ l ∈ L.es, l.ns.length ≤ 64) (h40 : L.es.length ≤ 40) (m : Mem) (K : Ex → St → Option (AV × Mem)) : ∀ j i : Nat, i + j = L.es.length →
    L45_4 arms.av L.av (.int .i64 L.es.length) (.int .i64 i) m K = if ((L.es.zip arms.ns).drop i).all (fun p => rowB p.1 p.2) then K (.exit 0) (O45_4 m) else K .ret (R45_4 (.bool false) m)
  | 0, i, h => by
    rw [L45_4_eq, n_lss, Option.bind_some, ifA_dec, if_neg (by omega), List.drop_eq_nil_of_le (by rw [List.length_zip]; omega)]; rfl
  | j + 1, i, h => by
    have hi : i < L.es.length := by omega
    have hz : i < (L.es.zip arms.ns).length := by rw [List.length_zip]; omega
    have ih := W45 arms L hlen h64 h40 m K j (i + 1) (by omega)
    have hx := X45 L.es[i] (h64 _ (List.getElem_mem hi)) arms.av (.int .i64 i) L.es[i].av L.av (.int .i64 L.es.length) (.int .i64 i) m (K45_8 K) L.es[i].ns.length 0 0 (by omega) (by omega) (by omega)
    rw [List.drop_zero, Int.zero_add, show (((0 : Nat) : Int)) = (0 : Int) from rfl] at hx
    rw [L45_4_eq, n_lss, Option.bind_some, ifA_dec, if_pos hi, index_ol hi, Option.bind_some, load_ol, Option.bind_some, len_il, Option.bind_some, hx, List.drop_eq_getElem_cons hz, List.all_cons, List.getElem_zip]
    dsimp only
    unfold rowB
    by_cases c1 : L.es[i].ns.all oddB = true
    · rw [if_pos c1, K45_8_x2, len_il, Option.bind_some, index_il (by omega), Option.bind_some, load_il, Option.bind_some, binA_neq, Option.bind_some, ifA_dec, c1, Bool.true_and]
      by_cases c2 : (L.es[i].ns.length : Int) = arms.ns[i]
      · rw [if_neg (by omega), binA_eql, Option.bind_some, ifA_dec, decide_eq_true c2, Bool.true_and]
        by_cases c3 : L.es[i].ns.sum = 0
        · rw [if_pos c3, decide_eq_false (by omega)]; rfl
        · rw [if_neg c3, decide_eq_true c3, Bool.true_and, i_add1 (by omega), Option.bind_some, ih]; rfl
      · rw [if_pos c2, decide_eq_false c2]; rfl
    · rw [if_neg c1, K45_8_ret, Bool.eq_false_iff.2 c1]; rfl
theorem V45 (arms : IL) (L : OL) (h64 : ∀ l ∈ L.es, l.ns.length ≤ 64) (h40 : L.es.length ≤ 40) : AP cfg 45 [arms.av, L.av] = some (.bool (oddsB arms L)) := by
  refine AP_ofz _ _ (fz_bool _) rfl (m := []) ?_
  unfold oddsB
  rw [T45, len_ol, Option.bind_some, len_il, Option.bind_some, binA_neq, Option.bind_some, ifA_dec]
  by_cases h : L.es.length = arms.ns.length
  · rw [if_neg (by omega), Option.bind_some, show ((0 : Int)) = ((0 : Nat) : Int) from rfl, W45 arms L h h64 h40 [] _ L.es.length 0 (by omega), List.drop_zero, decide_eq_true h, Bool.true_and]
    by_cases h2 : (L.es.zip arms.ns).all (fun p => rowB p.1 p.2) = true
    · rw [if_pos h2, h2, K45_4_x0]
    · rw [if_neg h2, Bool.eq_false_iff.2 h2, K45_4_ret]
  · rw [if_pos (by omega), decide_eq_false h]; rfl
end Go.Ab

/- Lists of nodes, rows of weights, the shape of a certificate, in values. -/
set_option linter.unusedVariables false
set_option linter.unusedSimpArgs false
set_option maxRecDepth 100000
namespace Go.Ab
open Go.Proofs.Try

def allF (f : Nat → Bool) : Nat → Nat → Bool
  | 0, _ => true
  | j + 1, i => f i && allF f j (i + 1)
theorem allF_iff {f : Nat → Bool} : ∀ {j i : Nat}, allF f j i = true ↔ ∀ k, i ≤ k → k < i + j → f k = true
  | 0, i => by
    constructor
    · intro _ k h1 h2; omega
    · intro _; rfl
  | j + 1, i => by
    rw [allF, Bool.and_eq_true, allF_iff (j := j)]
    constructor
    · rintro ⟨h1, h2⟩ k h3 h4
      by_cases h : k = i
      · rw [h]; exact h1
      · exact h2 k (by omega) (by omega)
    · intro h
      exact ⟨h i (Nat.le_refl _) (by omega), fun k h1 h2 => h k (by omega) (by omega)⟩
def varAt (ns : List ND) (k : Nat) : Int := (ns.map ND.var).getD k 0
def kidB (ns : List ND) (i : Nat) (v k : Int) : Bool := decide (0 ≤ k ∧ k < i) && (decide (varAt ns k.toNat < 0) || decide (v < varAt ns k.toNat))
def nodeB (arms : IL) (ns : List ND) (i : Nat) (n : ND) : Bool :=
  if n.var = -1 then decide (n.kids.ns.length = 0 ∧ 0 ≤ n.leaf ∧ n.leaf ≤ 2147483647)
  else decide (0 ≤ n.var ∧ n.var < arms.ns.length ∧ n.leaf = 0 ∧ (n.kids.ns.length : Int) = arms.ns.getD n.var.toNat 0) && n.kids.ns.all (kidB ns i n.var)
def nodesB (arms : IL) (ns : List ND) : Bool := decide (0 < ns.length) && allF (fun i => nodeB arms ns i (ns.getD i zN)) ns.length 0
theorem varAt_get {ns : List ND} {k : Nat} (h : k < ns.length) : varAt ns k = ns[k].var := by
  unfold varAt
  rw [List.getD_eq_getElem?_getD, List.getElem?_map, List.getElem?_eq_getElem h]; rfl
theorem getD_nd {ns : List ND} {k : Nat} (h : k < ns.length) : ns.getD k zN = ns[k] := by
  rw [List.getD_eq_getElem?_getD, List.getElem?_eq_getElem h]; rfl
theorem nodeB_var {arms : IL} {ns : List ND} {i : Nat} {n : ND} (h : nodeB arms ns i n = true) : n.var = -1 ∨ 0 ≤ n.var := by
  unfold nodeB at h
  by_cases c : n.var = -1
  · exact .inl c
  · rw [if_neg c, Bool.and_eq_true, decide_eq_true_iff] at h
    exact .inr h.1.1
theorem pcIx {m : Mem} {d : Option Nat} {g : Nat} (a : Int) : pcall (AP cfg) d m g [.int .i64 a] = (AP cfg g [.int .i64 a]).map fun v => (v, m) := pcall1 (fz_int _ a)
theorem X29 (L : NL) (hs : L.sh = some 3 ∨ L.es = []) (i : Nat) (hi : i ≤ L.es.length) (hp : ∀ k, k < i → varAt L.es k = -1 ∨ 0 ≤ varAt L.es k) (n : ND) (b : Nat) (m : Mem) (hb : m[b]? = some (cN n)) (hk : n.kids.ns.length ≤ 64) (x0 x9 x10 x11 : AV) (K : Ex → St → Option (AV × Mem)) : ∀ j c : Nat, c + j = n.kids.ns.length →
    L29_10 x0 L.av (.int .i64 i) (.ptr b 0) x9 x10 x11 n.kids.av (.int .i64 n.kids.ns.length) (.int .i64 c) m K = if (n.kids.ns.drop c).all (kidB L.es i n.var) then K (.exit 2) (O29_10 x0 L.av x9 x10 x11 m) else K .ret (R29_10 (.bool false) m)
  | 0, c, h => by
    rw [L29_10_eq, n_lss, Option.bind_some, ifA_dec, if_neg (by omega), List.drop_eq_nil_of_le (by omega)]; rfl
  | j + 1, c, h => by
    have hc : c < n.kids.ns.length := by omega
    have ih := X29 L hs i hi hp n b m hb hk x0 x9 x10 x11 K j (c + 1) (by omega)
    rw [L29_10_eq, n_lss, Option.bind_some, ifA_dec, if_pos hc, index_il hc, Option.bind_some, load_il, Option.bind_some, binA_lss, Option.bind_some, ifA_dec, List.drop_eq_getElem_cons hc, List.all_cons]
    generalize n.kids.ns[c] = k
    unfold kidB
    by_cases c1 : k < 0
    · rw [if_pos c1, decide_eq_false (by omega : ¬ (0 ≤ k ∧ k < i))]; rfl
    · rw [if_neg c1, binA_geq, Option.bind_some, ifA_dec]
      by_cases c2 : k ≥ i
      · rw [if_pos c2, decide_eq_false (by omega : ¬ (0 ≤ k ∧ k < i))]; rfl
      · obtain ⟨q, rfl⟩ := Int.eq_ofNat_of_zero_le (by omega : 0 ≤ k)
        have hq : q < L.es.length := by omega
        have hpq := hp q (by omega)
        rw [varAt_get hq] at hpq
        rw [if_neg c2, index_nl hs hq, Option.bind_some, fld_nd, Option.bind_some, load_nd0, Option.bind_some, binA_geq, Option.bind_some, ifA_dec, decide_eq_true (by omega : (0 : Int) ≤ (q : Int) ∧ (q : Int) < i), Bool.true_and, Int.toNat_natCast, varAt_get hq]
        by_cases c3 : L.es[q].var ≥ 0
        · rw [if_pos c3, Option.bind_some, fld_nd, Option.bind_some, load_nd0, Option.bind_some, fld0, Option.bind_some, nld0 hb, Option.bind_some, binA_leq, Option.bind_some, ifA_dec, decide_eq_false (by omega : ¬ L.es[q].var < 0), Bool.false_or]
          by_cases c4 : L.es[q].var ≤ n.var
          · rw [if_pos c4, decide_eq_false (by omega)]; rfl
          · rw [if_neg c4, i_add1 (by omega), Option.bind_some, ih, decide_eq_true (by omega), Bool.true_and]; rfl
        · rw [if_neg c3, i_add1 (by omega), Option.bind_some, ih, decide_eq_true (by omega : L.es[q].var < 0), Bool.true_or, Bool.true_and]; rfl
theorem W29 (arms : IL) (ha : ∀ a ∈ arms.ns, a ≤ 64) (L : NL) (hs : L.sh = some 3 ∨ L.es = []) (hL : L.es.length ≤ 4000) (K : Ex → St → Option (AV × Mem)) : ∀ (j i : Nat) (m : Mem), i + j = L.es.length → (∀ k, k < i → varAt L.es k = -1 ∨ 0 ≤ varAt L.es k) →
    ∃ m', L29_2 arms.av L.av L.av (.int .i64 L.es.length) (.int .i64 i) m K = if allF (fun i => nodeB arms L.es i (L.es.getD i zN)) j i then K (.exit 0) (O29_2 L.av m') else K .ret (R29_2 (.bool false) m')
  | 0, i, m, h, hp => ⟨m, by rw [L29_2_eq, n_lss, Option.bind_some, ifA_dec, if_neg (by omega)]; rfl⟩
  | j + 1, i, m, h, hp => by
    have hi : i < L.es.length := by omega
    have nx : nodeB arms L.es i L.es[i] = true → ∃ m', L29_2 arms.av L.av L.av (.int .i64 L.es.length) (.int .i64 ((i + 1 : Nat) : Int)) (m ++ [cN L.es[i]]) K = if allF (fun i => nodeB arms L.es i (L.es.getD i zN)) j (i + 1) then K (.exit 0) (O29_2 L.av m') else K .ret (R29_2 (.bool false) m') := by
      intro hn
      refine W29 arms ha L hs hL K j (i + 1) _ (by omega) (fun k hk => ?_)
      by_cases c : k = i
      · rw [c, varAt_get hi]; exact nodeB_var hn
      · exact hp k (by omega)
    rw [allF, getD_nd hi, L29_2_eq, n_lss, Option.bind_some, ifA_dec, if_pos hi, index_nl hs hi, Option.bind_some, load_nd, Option.bind_some]
    simp only [new_n, new_r]
    rw [nst_last, Option.bind_some]
    have hb : (m ++ [cN L.es[i]])[m.length]? = some (cN L.es[i]) := get_last
    have hX := fun (hk : L.es[i].kids.ns.length ≤ 64) (K : Ex → St → Option (AV × Mem)) => X29 L hs i (by omega) hp L.es[i] m.length _ hb hk arms.av L.av (.int .i64 L.es.length) (.int .i64 i) K L.es[i].kids.ns.length 0 (by omega)
    rw [List.drop_zero] at hX
    generalize hne : L.es[i] = n at *
    simp only [fld0, fld1, fld2]
    rw [Option.bind_some, nld0 hb, Option.bind_some, binA_eql, Option.bind_some, ifA_dec]
    by_cases c1 : n.var = -1
    · rw [if_pos c1, Option.bind_some, nld1 hb, Option.bind_some, len_il, Option.bind_some, binA_gtr, Option.bind_some, ifA_dec]
      have e1 : nodeB arms L.es i n = decide (n.kids.ns.length = 0 ∧ 0 ≤ n.leaf ∧ n.leaf ≤ 2147483647) := by unfold nodeB; rw [if_pos c1]
      by_cases c2 : n.kids.ns.length = 0
      · rw [if_neg (by omega), Option.bind_some, nld2 hb, Option.bind_some]
        rw [pcIx, V64, Option.map_some, Option.bind_some, not_b, Option.bind_some]
        by_cases c3 : 0 ≤ n.leaf ∧ n.leaf ≤ 2147483647
        · obtain ⟨m', hm⟩ := nx (e1.trans (decide_eq_true ⟨c2, c3⟩))
          refine ⟨m', ?_⟩
          rw [decide_eq_true c3, Bool.not_true, ifA_false, i_add1 (by omega), Option.bind_some, hm, e1, decide_eq_true ⟨c2, c3⟩, Bool.true_and]
        · refine ⟨m ++ [cN n], ?_⟩
          rw [decide_eq_false c3, Bool.not_false, ifA_true, e1, decide_eq_false (fun h => c3 h.2)]; rfl
      · refine ⟨m ++ [cN n], ?_⟩
        rw [if_pos (by omega), e1, decide_eq_false (by omega)]; rfl
    · have e1 : nodeB arms L.es i n = (decide (0 ≤ n.var ∧ n.var < arms.ns.length ∧ n.leaf = 0 ∧ (n.kids.ns.length : Int) = arms.ns.getD n.var.toNat 0) && n.kids.ns.all (kidB L.es i n.var)) := by unfold nodeB; rw [if_neg c1]
      rw [if_neg c1, Option.bind_some, nld0 hb, Option.bind_some, binA_lss, Option.bind_some, ifA_dec]
      by_cases c2 : n.var < 0
      · refine ⟨m ++ [cN n], ?_⟩
        rw [if_pos c2, e1, decide_eq_false (by omega)]; rfl
      · rw [if_neg c2, Option.bind_some, nld0 hb, Option.bind_some, len_il, Option.bind_some, binA_geq, Option.bind_some, ifA_dec]
        by_cases c3 : n.var ≥ (arms.ns.length : Nat)
        · refine ⟨m ++ [cN n], ?_⟩
          rw [if_pos c3, e1, decide_eq_false (by omega)]; rfl
        · rw [if_neg c3, Option.bind_some, nld2 hb, Option.bind_some, binA_neq, Option.bind_some, ifA_dec]
          by_cases c4 : n.leaf = 0
          · obtain ⟨v, hv⟩ := Int.eq_ofNat_of_zero_le (by omega : 0 ≤ n.var)
            have hvl : v < arms.ns.length := by omega
            have hgd : arms.ns.getD n.var.toNat 0 = arms.ns[v] := by
              rw [hv, Int.toNat_natCast, List.getD_eq_getElem?_getD, List.getElem?_eq_getElem hvl]; rfl
            rw [if_neg (by omega), Option.bind_some, nld1 hb, Option.bind_some, len_il, Option.bind_some, Option.bind_some, nld0 hb, Option.bind_some, hv, index_il hvl, Option.bind_some, load_il, Option.bind_some, binA_neq, Option.bind_some, ifA_dec]
            rw [hgd] at e1
            by_cases c5 : (n.kids.ns.length : Int) = arms.ns[v]
            · have := ha _ (List.getElem_mem hvl)
              rw [if_neg (by omega), Option.bind_some, nld1 hb, Option.bind_some, len_il, Option.bind_some, show ((0 : Int)) = ((0 : Nat) : Int) from rfl, hX (by omega), e1, decide_eq_true (by omega), Bool.true_and]
              rw [decide_eq_true (by omega : 0 ≤ n.var ∧ n.var < arms.ns.length ∧ n.leaf = 0 ∧ (n.kids.ns.length : Int) = arms.ns[v]), Bool.true_and] at e1
              by_cases c6 : n.kids.ns.all (kidB L.es i n.var) = true
              · obtain ⟨m', hm⟩ := nx (e1.trans c6)
                refine ⟨m', ?_⟩
                rw [if_pos c6, K29_10_x2, i_add1 (by omega), Option.bind_some, hm, c6, Bool.true_and]
              · refine ⟨m ++ [cN n], ?_⟩
                rw [if_neg c6, K29_10_ret, Bool.eq_false_iff.2 c6]; rfl
            · refine ⟨m ++ [cN n], ?_⟩
              rw [if_pos (by omega), e1, decide_eq_false (by omega)]; rfl
          · refine ⟨m ++ [cN n], ?_⟩
            rw [if_pos (by omega), e1, decide_eq_false (by omega)]; rfl
theorem V29 (arms : IL) (ha : ∀ a ∈ arms.ns, a ≤ 64) (L : NL) (hs : L.sh = some 3 ∨ L.es = []) (hL : L.es.length ≤ 4000) : AP cfg 29 [arms.av, L.av] = some (.bool (nodesB arms L.es)) := by
  obtain ⟨m', h⟩ := W29 arms ha L hs hL (K29_2 (finK cfg.P f29.results.toList)) L.es.length 0 [] (by omega) (fun k hk => by omega)
  refine AP_ofz _ _ (fz_bool _) rfl (m := m') ?_
  unfold nodesB
  rw [T29, len_nl, Option.bind_some, show ((0 : Int)) = ((0 : Nat) : Int) from rfl, h]
  by_cases h2 : allF (fun i => nodeB arms L.es i (L.es.getD i zN)) L.es.length 0 = true
  · rw [if_pos h2, h2, K29_2_x0, len_nl, Option.bind_some, binA_gtr, Option.bind_some, Bool.and_true]
    congr 3
    exact decide_eq_decide.2 (by omega)
  · rw [if_neg h2, Bool.eq_false_iff.2 h2, K29_2_ret, Bool.and_false]
theorem X46 (L : NL) (hs : L.sh = some 3 ∨ L.es = []) (i : Nat) (hi : i ≤ L.es.length) (hp : ∀ k, k < i → varAt L.es k = -1 ∨ 0 ≤ varAt L.es k) (n : ND) (b : Nat) (m : Mem) (hb : m[b]? = some (cN n)) (hk : n.kids.ns.length ≤ 64) (x0 x9 x10 x11 : AV) (K : Ex → St → Option (AV × Mem)) : ∀ j c : Nat, c + j = n.kids.ns.length →
    L46_10 x0 L.av (.int .i64 i) (.ptr b 0) x9 x10 x11 n.kids.av (.int .i64 n.kids.ns.length) (.int .i64 c) m K = if (n.kids.ns.drop c).all (kidB L.es i n.var) then K (.exit 2) (O46_10 x0 L.av x9 x10 x11 m) else K .ret (R46_10 (.bool false) m)
  | 0, c, h => by
    rw [L46_10_eq, n_lss, Option.bind_some, ifA_dec, if_neg (by omega), List.drop_eq_nil_of_le (by omega)]; rfl
  | j + 1, c, h => by
    have hc : c < n.kids.ns.length := by omega
    have ih := X46 L hs i hi hp n b m hb hk x0 x9 x10 x11 K j (c + 1) (by omega)
    rw [L46_10_eq, n_lss, Option.bind_some, ifA_dec, if_pos hc, index_il hc, Option.bind_some, load_il, Option.bind_some, binA_lss, Option.bind_some, ifA_dec, List.drop_eq_getElem_cons hc, List.all_cons]
    generalize n.kids.ns[c] = k
    unfold kidB
    by_cases c1 : k < 0
    · rw [if_pos c1, decide_eq_false (by omega : ¬ (0 ≤ k ∧ k < i))]; rfl
    · rw [if_neg c1, binA_geq, Option.bind_some, ifA_dec]
      by_cases c2 : k ≥ i
      · rw [if_pos c2, decide_eq_false (by omega : ¬ (0 ≤ k ∧ k < i))]; rfl
      · obtain ⟨q, rfl⟩ := Int.eq_ofNat_of_zero_le (by omega : 0 ≤ k)
        have hq : q < L.es.length := by omega
        have hpq := hp q (by omega)
        rw [varAt_get hq] at hpq
        rw [if_neg c2, index_nl hs hq, Option.bind_some, fld_nd, Option.bind_some, load_nd0, Option.bind_some, binA_neq, Option.bind_some, ifA_dec, decide_eq_true (by omega : (0 : Int) ≤ (q : Int) ∧ (q : Int) < i), Bool.true_and, Int.toNat_natCast, varAt_get hq]
        by_cases c3 : L.es[q].var ≠ -1
        · rw [if_pos c3, Option.bind_some, fld_nd, Option.bind_some, load_nd0, Option.bind_some, fld0, Option.bind_some, nld0 hb, Option.bind_some, binA_leq, Option.bind_some, ifA_dec, decide_eq_false (by omega : ¬ L.es[q].var < 0), Bool.false_or]
          by_cases c4 : L.es[q].var ≤ n.var
          · rw [if_pos c4, decide_eq_false (by omega)]; rfl
          · rw [if_neg c4, i_add1 (by omega), Option.bind_some, ih, decide_eq_true (by omega), Bool.true_and]; rfl
        · rw [if_neg c3, i_add1 (by omega), Option.bind_some, ih, decide_eq_true (by omega : L.es[q].var < 0), Bool.true_or, Bool.true_and]; rfl
theorem W46 (arms : IL) (ha : ∀ a ∈ arms.ns, a ≤ 64) (L : NL) (hs : L.sh = some 3 ∨ L.es = []) (hL : L.es.length ≤ 4000) (K : Ex → St → Option (AV × Mem)) : ∀ (j i : Nat) (m : Mem), i + j = L.es.length → (∀ k, k < i → varAt L.es k = -1 ∨ 0 ≤ varAt L.es k) →
    ∃ m', L46_2 arms.av L.av L.av (.int .i64 L.es.length) (.int .i64 i) m K = if allF (fun i => nodeB arms L.es i (L.es.getD i zN)) j i then K (.exit 0) (O46_2 L.av m') else K .ret (R46_2 (.bool false) m')
  | 0, i, m, h, hp => ⟨m, by rw [L46_2_eq, n_lss, Option.bind_some, ifA_dec, if_neg (by omega)]; rfl⟩
  | j + 1, i, m, h, hp => by
    have hi : i < L.es.length := by omega
    have nx : nodeB arms L.es i L.es[i] = true → ∃ m', L46_2 arms.av L.av L.av (.int .i64 L.es.length) (.int .i64 ((i + 1 : Nat) : Int)) (m ++ [cN L.es[i]]) K = if allF (fun i => nodeB arms L.es i (L.es.getD i zN)) j (i + 1) then K (.exit 0) (O46_2 L.av m') else K .ret (R46_2 (.bool false) m') := by
      intro hn
      refine W46 arms ha L hs hL K j (i + 1) _ (by omega) (fun k hk => ?_)
      by_cases c : k = i
      · rw [c, varAt_get hi]; exact nodeB_var hn
      · exact hp k (by omega)
    rw [allF, getD_nd hi, L46_2_eq, n_lss, Option.bind_some, ifA_dec, if_pos hi, index_nl hs hi, Option.bind_some, load_nd, Option.bind_some]
    simp only [new_n, new_r]
    rw [nst_last, Option.bind_some]
    have hb : (m ++ [cN L.es[i]])[m.length]? = some (cN L.es[i]) := get_last
    have hX := fun (hk : L.es[i].kids.ns.length ≤ 64) (K : Ex → St → Option (AV × Mem)) => X46 L hs i (by omega) hp L.es[i] m.length _ hb hk arms.av L.av (.int .i64 L.es.length) (.int .i64 i) K L.es[i].kids.ns.length 0 (by omega)
    rw [List.drop_zero] at hX
    generalize hne : L.es[i] = n at *
    simp only [fld0, fld1, fld2]
    rw [Option.bind_some, nld0 hb, Option.bind_some, binA_eql, Option.bind_some, ifA_dec]
    by_cases c1 : n.var = -1
    · rw [if_pos c1, Option.bind_some, nld1 hb, Option.bind_some, len_il, Option.bind_some, binA_neq, Option.bind_some, ifA_dec]
      have e1 : nodeB arms L.es i n = decide (n.kids.ns.length = 0 ∧ 0 ≤ n.leaf ∧ n.leaf ≤ 2147483647) := by unfold nodeB; rw [if_pos c1]
      by_cases c2 : n.kids.ns.length = 0
      · rw [if_neg (by omega), Option.bind_some, nld2 hb, Option.bind_some]
        rw [binA_lss, Option.bind_some, ifA_dec]
        by_cases c3 : 0 ≤ n.leaf ∧ n.leaf ≤ 2147483647
        · obtain ⟨m', hm⟩ := nx (e1.trans (decide_eq_true ⟨c2, c3⟩))
          refine ⟨m', ?_⟩
          rw [if_neg (by omega), Option.bind_some, nld2 hb, Option.bind_some, binA_gtr, Option.bind_some, ifA_dec, if_neg (by omega), i_add1 (by omega), Option.bind_some, hm, e1, decide_eq_true ⟨c2, c3⟩, Bool.true_and]
        · refine ⟨m ++ [cN n], ?_⟩
          rw [e1, decide_eq_false (fun h => c3 h.2), Bool.false_and]
          by_cases c4 : n.leaf < 0
          · rw [if_pos c4]; rfl
          · rw [if_neg c4, Option.bind_some, nld2 hb, Option.bind_some, binA_gtr, Option.bind_some, ifA_dec, if_pos (by omega)]; rfl
      · refine ⟨m ++ [cN n], ?_⟩
        rw [if_pos (by omega), e1, decide_eq_false (by omega)]; rfl
    · have e1 : nodeB arms L.es i n = (decide (0 ≤ n.var ∧ n.var < arms.ns.length ∧ n.leaf = 0 ∧ (n.kids.ns.length : Int) = arms.ns.getD n.var.toNat 0) && n.kids.ns.all (kidB L.es i n.var)) := by unfold nodeB; rw [if_neg c1]
      rw [if_neg c1, Option.bind_some, nld0 hb, Option.bind_some, binA_lss, Option.bind_some, ifA_dec]
      by_cases c2 : n.var < 0
      · refine ⟨m ++ [cN n], ?_⟩
        rw [if_pos c2, e1, decide_eq_false (by omega)]; rfl
      · rw [if_neg c2, Option.bind_some, nld0 hb, Option.bind_some, len_il, Option.bind_some, binA_geq, Option.bind_some, ifA_dec]
        by_cases c3 : n.var ≥ (arms.ns.length : Nat)
        · refine ⟨m ++ [cN n], ?_⟩
          rw [if_pos c3, e1, decide_eq_false (by omega)]; rfl
        · rw [if_neg c3, Option.bind_some, nld2 hb, Option.bind_some, binA_neq, Option.bind_some, ifA_dec]
          by_cases c4 : n.leaf = 0
          · obtain ⟨v, hv⟩ := Int.eq_ofNat_of_zero_le (by omega : 0 ≤ n.var)
            have hvl : v < arms.ns.length := by omega
            have hgd : arms.ns.getD n.var.toNat 0 = arms.ns[v] := by
              rw [hv, Int.toNat_natCast, List.getD_eq_getElem?_getD, List.getElem?_eq_getElem hvl]; rfl
            rw [if_neg (by omega), Option.bind_some, nld1 hb, Option.bind_some, len_il, Option.bind_some, Option.bind_some, nld0 hb, Option.bind_some, hv, index_il hvl, Option.bind_some, load_il, Option.bind_some, binA_neq, Option.bind_some, ifA_dec]
            rw [hgd] at e1
            by_cases c5 : (n.kids.ns.length : Int) = arms.ns[v]
            · have := ha _ (List.getElem_mem hvl)
              rw [if_neg (by omega), Option.bind_some, nld1 hb, Option.bind_some, len_il, Option.bind_some, show ((0 : Int)) = ((0 : Nat) : Int) from rfl, hX (by omega), e1, decide_eq_true (by omega), Bool.true_and]
              rw [decide_eq_true (by omega : 0 ≤ n.var ∧ n.var < arms.ns.length ∧ n.leaf = 0 ∧ (n.kids.ns.length : Int) = arms.ns[v]), Bool.true_and] at e1
              by_cases c6 : n.kids.ns.all (kidB L.es i n.var) = true
              · obtain ⟨m', hm⟩ := nx (e1.trans c6)
                refine ⟨m', ?_⟩
                rw [if_pos c6, K46_10_x2, i_add1 (by omega), Option.bind_some, hm, c6, Bool.true_and]
              · refine ⟨m ++ [cN n], ?_⟩
                rw [if_neg c6, K46_10_ret, Bool.eq_false_iff.2 c6]; rfl
            · refine ⟨m ++ [cN n], ?_⟩
              rw [if_pos (by omega), e1, decide_eq_false (by omega)]; rfl
          · refine ⟨m ++ [cN n], ?_⟩
            rw [if_pos (by omega), e1, decide_eq_false (by omega)]; rfl
theorem V46 (arms : IL) (ha : ∀ a ∈ arms.ns, a ≤ 64) (L : NL) (hs : L.sh = some 3 ∨ L.es = []) (hL : L.es.length ≤ 4000) : AP cfg 46 [arms.av, L.av] = some (.bool (nodesB arms L.es)) := by
  obtain ⟨m', h⟩ := W46 arms ha L hs hL (K46_2 (finK cfg.P f46.results.toList)) L.es.length 0 [] (by omega) (fun k hk => by omega)
  refine AP_ofz _ _ (fz_bool _) rfl (m := m') ?_
  unfold nodesB
  rw [T46, len_nl, Option.bind_some, show ((0 : Int)) = ((0 : Nat) : Int) from rfl, h]
  by_cases h2 : allF (fun i => nodeB arms L.es i (L.es.getD i zN)) L.es.length 0 = true
  · rw [if_pos h2, h2, K46_2_x0, len_nl, Option.bind_some, binA_gtr, Option.bind_some, Bool.and_true]
    congr 3
    exact decide_eq_decide.2 (by omega)
  · rw [if_neg h2, Bool.eq_false_iff.2 h2, K46_2_ret, Bool.and_false]
end Go.Ab

/- The shape of a certificate, in values. -/
set_option linter.unusedVariables false
set_option linter.unusedSimpArgs false
set_option maxRecDepth 100000
namespace Go.Ab
open Go.Proofs.Try

theorem ifA_not {R : Type} (b : Bool) (x y : Option R) : ifA (.bool (!b)) x y = ifA (.bool b) y x := by cases b <;> rfl
theorem V31 {r : RV} {k : Nat} (h : ROk k r) : AP cfg 31 [r.av] = some (.bool (!rightR r)) := by
  refine AP_ofz _ _ (fz_bool _) rfl (m := [cR r]) ?_
  rw [T31, box_rv, Option.bind_some]
  simp only [List.length_nil, List.nil_append]
  rw [ld0all, Option.bind_some, pcR, V32 h.fr, Option.map_some, Option.bind_some, not_b, Option.bind_some]; rfl
theorem callK_q {fid g : Nat} {vs : List AV} {m : Mem} {d : Option Nat} {K : AV → Mem → Option (AV × Mem)} (hi : cfg.inl fid g = false) : callK cfg fid (AP cfg) (AC cfg) d g vs m K = (pcall (AP cfg) d m g vs).bind fun r => K r.1 r.2 := by
  unfold callK
  rw [show cfg.lib g = none from rfl]
  simp only []
  rw [hi]
theorem W65 {l : LV} {k : Nat} (hl : LOk k l) (hlen : l.es.length < 2 ^ 40) (m : Mem) (K : Ex → St → Option (AV × Mem)) : ∀ j i : Nat, i + j = l.es.length →
    ∃ r : Nat, L65_2 l.av (.fn 31 []) (.int .i64 l.es.length) (.int .i64 i) m K = if (l.es.drop i).all rightR then K (.exit 0) (O65_2 m) else K .ret (R65_2 (.int .i64 r) m)
  | 0, i, h => ⟨0, by rw [L65_2_eq, n_lss, Option.bind_some, ifA_dec, if_neg (by omega), List.drop_eq_nil_of_le (by omega)]; rfl⟩
  | j + 1, i, h => by
    have hi : i < l.es.length := by omega
    have hr := hl.ok _ (List.getElem_mem hi)
    obtain ⟨r, ih⟩ := W65 hl hlen m K j (i + 1) (by omega)
    have pre : ∀ r', (L65_2 l.av (.fn 31 []) (.int .i64 l.es.length) (.int .i64 i) m K = if (l.es.drop i).all rightR then K (.exit 0) (O65_2 m) else K .ret (R65_2 (.int .i64 r') m)) ↔ (ifA (.bool (!rightR l.es[i])) (K .ret (R65_2 (.int .i64 i) m)) (L65_2 l.av (.fn 31 []) (.int .i64 l.es.length) (.int .i64 ((i + 1 : Nat) : Int)) m K) = if rightR l.es[i] && (l.es.drop (i + 1)).all rightR then K (.exit 0) (O65_2 m) else K .ret (R65_2 (.int .i64 r') m)) := by
      intro r'
      rw [L65_2_eq, n_lss, Option.bind_some, ifA_dec, if_pos hi, index_lv hl hi, Option.bind_some, load_row, Option.bind_some, show fnOf (.fn 31 []) = some (31, []) from rfl, Option.bind_some, callK_q rfl, show ([l.es[i].av] ++ ([] : List AV)) = [l.es[i].av] from rfl, pcR, V31 hr.fr, Option.map_some, Option.bind_some, i_add1 (by omega), Option.bind_some, List.drop_eq_getElem_cons hi, List.all_cons]
      exact Iff.rfl
    cases hb : rightR l.es[i] with
    | false =>
      refine ⟨i, (pre i).2 ?_⟩
      rw [hb]; rfl
    | true =>
      refine ⟨r, (pre r).2 ?_⟩
      rw [hb, Bool.not_true, ifA_false, ih, Bool.true_and]
theorem V30 {l : LV} {k : Nat} (hl : LOk k l) (hlen : l.es.length < 2 ^ 40) : AP cfg 30 [l.av, .fn 31 []] = some (.bool (!l.es.all rightR)) := by
  have h65 : ∃ n : Int, AP cfg 65 [l.fr.av, .fn 31 []] = some (.int .i64 n) ∧ decide (n ≥ 0) = !l.es.all rightR := by
    obtain ⟨r, h⟩ := W65 hl.fr' hlen [] (K65_2 (finK cfg.P f65.results.toList)) l.fr.es.length 0 (by omega)
    rw [List.drop_zero] at h
    by_cases c : l.fr.es.all rightR = true
    · refine ⟨-1, AP_ofz _ _ (fz_int _ _) rfl (m := []) ?_, ?_⟩
      · rw [T65, len_lv, Option.bind_some, show ((0 : Int)) = ((0 : Nat) : Int) from rfl, h, if_pos c, K65_2_x0]
      · have c : l.es.all rightR = true := c
        rw [c]; rfl
    · refine ⟨r, AP_ofz _ _ (fz_int _ _) rfl (m := []) ?_, ?_⟩
      · rw [T65, len_lv, Option.bind_some, show ((0 : Int)) = ((0 : Nat) : Int) from rfl, h, if_neg c, K65_2_ret]
      · have c : ¬ l.es.all rightR = true := c
        rw [Bool.eq_false_iff.2 c, decide_eq_true (by omega)]; rfl
  obtain ⟨n, h1, h2⟩ := h65
  refine AP_ofz _ _ (fz_bool _) rfl (m := []) ?_
  rw [T30, pcall2 (fz_lv l) (fun _ => rfl), h1, Option.map_some, Option.bind_some, binA_geq, Option.bind_some, h2]
/-! ### Rows that grow -/
def rT (m : Mem) (e : Nat) (es : List AV) : AV := if es = [] then .lst none true .full [] else .lst none false (.tok m.length e) es
def mT (m : Mem) (es : List AV) : Mem := if es = [] then m else tokM m es.length
theorem app1 {m : Mem} {e b : Nat} {es : List AV} {z : Bool} {o : Own} {y : AV} (h : (es.length + 1) * b ≤ roomA) : appA none false e none b (mT m es) (rT m e es) (.lst none z o [y]) = some (rT m e (es ++ [y]), mT m (es ++ [y])) := by
  cases es with
  | nil =>
    simp [appA, rT, mT, tokM, newAt, Sh.size, h]
    simpa using h
  | cons a es =>
    have := app_tok (e := e) (b := b) (m := m) (es := a :: es) (z := z) (o := o) (y := y) h
    simp only [rT, mT, if_neg (List.cons_ne_nil a es)]
    rw [this]
    simp
theorem fz_rT (m : Mem) (e : Nat) (es : List AV) : Fz (rT m e es) (if es = [] then .lst none true .full [] else .lst none false .no es) := by
  intro m'
  unfold rT
  split <;> rfl
def lens (L : OL) : List Int := L.es.map fun l => (l.ns.length : Int)
def armsI (ns : List Int) : IL := if ns = [] then ⟨true, .full, []⟩ else ⟨false, .no, ns⟩
theorem armsI_ns (ns : List Int) : (armsI ns).ns = ns := by
  unfold armsI
  split
  · rename_i h; rw [h]
  · rfl
theorem armsI_fr (ns : List Int) : (armsI ns).fr = armsI ns := by unfold armsI; split <;> rfl
theorem fz_rI (m : Mem) (e : Nat) (ns : List Int) : Fz (rT m e (ns.map iA)) (armsI ns).av := by
  have := fz_rT m e (ns.map iA)
  unfold armsI
  cases ns with
  | nil => exact this
  | cons a l => exact this
theorem lens_len (L : OL) : (lens L).length = L.es.length := by simp [lens]
theorem lens_get {L : OL} {i : Nat} (h : i < L.es.length) : (lens L)[i]'(by rw [lens_len]; exact h) = (L.es[i].ns.length : Int) := by simp [lens]
theorem lens_take {L : OL} {i : Nat} (h : i < L.es.length) : ((lens L).take (i + 1)).map iA = ((lens L).take i).map iA ++ [.int .i64 (L.es[i].ns.length : Int)] := by
  rw [List.take_succ_eq_append_getElem (by rw [lens_len]; exact h), List.map_append, lens_get h]; rfl
theorem take_len (L : OL) {i : Nat} (h : i ≤ L.es.length) : (((lens L).take i).map iA).length = i := by
  rw [List.length_map, List.length_take, lens_len]; omega
def lenB (l : IL) : Bool := decide (1 ≤ l.ns.length ∧ l.ns.length ≤ 64)
theorem W43 (L : OL) (h40 : L.es.length ≤ 40) (K : Ex → St → Option (AV × Mem)) : ∀ j i : Nat, i + j = L.es.length →
    L43_3 (rT [] 3 (((lens L).take i).map iA)) L.av (.int .i64 L.es.length) (.int .i64 i) (mT [] (((lens L).take i).map iA)) K = K (.exit 0) (O43_3 (rT [] 3 ((lens L).map iA)) (mT [] ((lens L).map iA)))
  | 0, i, h => by
    rw [L43_3_eq, n_lss, Option.bind_some, ifA_dec, if_neg (by omega), List.take_of_length_le (by rw [lens_len]; omega)]
  | j + 1, i, h => by
    have hi : i < L.es.length := by omega
    have ih := W43 L h40 K j (i + 1) (by omega)
    rw [lens_take hi] at ih
    rw [L43_3_eq, n_lss, Option.bind_some, ifA_dec, if_pos hi, index_ol hi, Option.bind_some, load_ol, Option.bind_some, len_il, Option.bind_some, build_int, Option.bind_some, app1 (by rw [take_len L (by omega)]; simp only [roomA]; omega), Option.bind_some, i_add1 (by omega), Option.bind_some]
    exact ih
theorem V43 (L : OL) (h40 : L.es.length ≤ 40) : AP cfg 43 [L.av] = some (armsI (lens L)).av := by
  have h := W43 L h40 (K43_3 (finK cfg.P f43.results.toList)) L.es.length 0 (by omega)
  refine AP_ofz _ _ (fz_rI [] 3 (lens L)) (by unfold armsI; split <;> rfl) (m := mT [] ((lens L).map iA)) ?_
  rw [T43, len_ol, Option.bind_some]
  refine Eq.trans ?_ (h.trans ?_)
  · rfl
  · rw [K43_3_x0]
theorem W13 (x1 : AV) (m : Mem) (L : OL) (h40 : L.es.length ≤ 40) (K : Ex → St → Option (AV × Mem)) : ∀ j i : Nat, i + j = L.es.length →
    ∃ m', L13_5 x1 (rT m 3 (((lens L).take i).map iA)) L.av (.int .i64 L.es.length) (.int .i64 i) (mT m (((lens L).take i).map iA)) K = if (L.es.drop i).all lenB then K (.exit 0) (O13_5 x1 (rT m 3 ((lens L).map iA)) (mT m ((lens L).map iA))) else K .ret (R13_5 (.bool false) m')
  | 0, i, h => ⟨m, by
    rw [L13_5_eq, n_lss, Option.bind_some, ifA_dec, if_neg (by omega), List.take_of_length_le (by rw [lens_len]; omega), List.drop_eq_nil_of_le (by omega)]; rfl⟩
  | j + 1, i, h => by
    have hi : i < L.es.length := by omega
    obtain ⟨m', ih⟩ := W13 x1 m L h40 K j (i + 1) (by omega)
    rw [lens_take hi] at ih
    rw [L13_5_eq, n_lss, Option.bind_some, ifA_dec, if_pos hi, index_ol hi, Option.bind_some, load_ol, Option.bind_some, len_il, Option.bind_some, binA_lss, Option.bind_some, ifA_dec, List.drop_eq_getElem_cons hi, List.all_cons]
    unfold lenB
    by_cases c1 : (L.es[i].ns.length : Int) < 1
    · refine ⟨mT m (((lens L).take i).map iA), ?_⟩
      rw [if_pos c1, decide_eq_false (by omega)]; rfl
    · rw [if_neg c1, Option.bind_some, binA_gtr, Option.bind_some, ifA_dec]
      by_cases c2 : (L.es[i].ns.length : Int) > 64
      · refine ⟨mT m (((lens L).take i).map iA), ?_⟩
        rw [if_pos c2, decide_eq_false (by omega)]; rfl
      · refine ⟨m', ?_⟩
        rw [if_neg c2, Option.bind_some, build_int, Option.bind_some, app1 (by rw [take_len L (by omega)]; simp only [roomA]; omega), Option.bind_some, i_add1 (by omega), Option.bind_some, decide_eq_true (by omega), Bool.true_and]
        exact ih
end Go.Ab

/- Is a certificate in order? Both answers in values. -/
set_option linter.unusedVariables false
set_option linter.unusedSimpArgs false
set_option maxRecDepth 100000
namespace Go.Ab
open Go.Proofs.Try

structure COk (k : Nat) (c : CV) : Prop where
  odds : c.odds.es.length ≤ 40
  nsh : c.nodes.sh = some 3 ∨ c.nodes.es = []
  nlen : c.nodes.es.length ≤ 120
  ws : LOk k c.ws
  wlen : c.ws.es.length ≤ 120
theorem COk.fr {k : Nat} {c : CV} (h : COk k c) : COk k c.fr := ⟨h.odds, h.nsh, h.nlen, h.ws.fr', h.wlen⟩
def shapedB (c : CV) : Bool := decide (c.odds.es.length ≤ 16 ∧ 0 ≤ c.leaf ∧ c.leaf ≤ 2147483647 ∧ c.ws.es.length = c.nodes.es.length) && (c.odds.es.all lenB && (oddsB (armsI (lens c.odds)) c.odds && (nodesB (armsI (lens c.odds)) c.nodes.es && c.ws.es.all rightR)))
theorem mT_get {m : Mem} {n : Nat} {e : Option Ent} (h : m[n]? = some e) (es : List AV) : (mT m es)[n]? = some e := by
  unfold mT
  split
  · exact h
  · unfold tokM
    rw [List.getElem?_append_left]
    · exact h
    · exact (List.getElem?_eq_some_iff.1 h).1
theorem len64 {L : OL} (h : L.es.all lenB = true) : ∀ l ∈ L.es, l.ns.length ≤ 64 := fun l hl => (of_decide_eq_true (List.all_eq_true.1 h l hl)).2
theorem arms64 {L : OL} (h : L.es.all lenB = true) : ∀ a ∈ (armsI (lens L)).ns, a ≤ 64 := by
  rw [armsI_ns]
  intro a ha
  obtain ⟨l, hl, rfl⟩ := List.mem_map.1 ha
  have := len64 h l hl
  omega
theorem V13 {c : CV} {k : Nat} (hc : COk k c) : AP cfg 13 [c.av] = some (.bool (shapedB c)) := by
  have fin : ∀ (v : Bool) (m : Mem), AC cfg 13 [c.av] [] = some (.bool v, m) → AP cfg 13 [c.av] = some (.bool v) := fun v m h => AP_ofz _ _ (fz_bool _) rfl h
  have start : AC cfg 13 [c.av] [] = AC cfg 13 [c.av] [] := rfl
  have g0 : ([cC c] : Mem)[0]? = some (cC c) := rfl
  conv at start => rhs; rw [T13, box_cv, Option.bind_some]
  simp only [List.length_nil, List.nil_append, fld0, fld1, fld2, fld3] at start
  rw [Option.bind_some, cld0 g0, Option.bind_some, len_ol, Option.bind_some, binA_gtr, Option.bind_some, ifA_dec] at start
  unfold shapedB
  by_cases c1 : (c.odds.es.length : Int) > 16
  · rw [if_pos c1] at start
    rw [decide_eq_false (by omega), Bool.false_and]
    exact fin _ _ start
  rw [if_neg c1, Option.bind_some, cld3 g0, Option.bind_some, binA_lss, Option.bind_some, ifA_dec] at start
  by_cases c2 : c.leaf < 0
  · rw [if_pos c2] at start
    rw [decide_eq_false (by omega), Bool.false_and]
    exact fin _ _ start
  rw [if_neg c2, Option.bind_some, cld3 g0, Option.bind_some, binA_gtr, Option.bind_some, ifA_dec] at start
  by_cases c3 : c.leaf > 2147483647
  · rw [if_pos c3] at start
    rw [decide_eq_false (by omega), Bool.false_and]
    exact fin _ _ start
  have hn := hc.nlen
  rw [if_neg c3, Option.bind_some, cld1 g0, Option.bind_some, len_nl, Option.bind_some, binA_gtr, Option.bind_some, ifA_dec, if_neg (by omega)] at start
  rw [Option.bind_some, cld2 g0, Option.bind_some, len_lv, Option.bind_some, Option.bind_some, cld1 g0, Option.bind_some, len_nl, Option.bind_some, binA_neq, Option.bind_some, ifA_dec] at start
  by_cases c4 : c.ws.es.length = c.nodes.es.length
  case neg =>
    rw [if_pos (by omega)] at start
    rw [decide_eq_false (fun h => c4 h.2.2.2), Bool.false_and]
    exact fin _ _ start
  rw [decide_eq_true (by omega), Bool.true_and]
  rw [if_neg (by omega), Option.bind_some, cld0 g0, Option.bind_some, len_ol, Option.bind_some] at start
  obtain ⟨m', hW⟩ := W13 (.ptr 0 0) [cC c] c.odds (by omega) (K13_5 (finK cfg.P f13.results.toList)) c.odds.es.length 0 (by omega)
  have e0 : (.lst none true .full [] : AV) = rT [cC c] 3 (((lens c.odds).take 0).map iA) := rfl
  have e1 : ([cC c] : Mem) = mT [cC c] (((lens c.odds).take 0).map iA) := rfl
  have start2 := start.trans hW
  rw [List.drop_zero] at start2
  by_cases c5 : c.odds.es.all lenB = true
  case neg =>
    rw [if_neg c5, K13_5_ret] at start2
    rw [Bool.eq_false_iff.2 c5, Bool.false_and]
    exact fin _ _ start2
  rw [if_pos c5, K13_5_x0] at start2
  rw [c5, Bool.true_and]
  have g1 := mT_get g0 ((lens c.odds).map iA)
  have V1 := V28 (armsI (lens c.odds)) c.odds.fr (len64 c5) (by show c.odds.es.length ≤ 40; omega)
  have V2 := V29 (armsI (lens c.odds)) (arms64 c5) c.nodes.fr hc.nsh (by show c.nodes.es.length ≤ 4000; omega)
  have V3 := V30 hc.ws.fr' (by have := hc.wlen; show c.ws.es.length < _; omega)
  rw [fld0, Option.bind_some, cld0 g1, Option.bind_some, pcall2 (fz_rI _ _ _) (fz_ol _), V1, Option.map_some, Option.bind_some] at start2
  have o1 : oddsB (armsI (lens c.odds)) c.odds.fr = oddsB (armsI (lens c.odds)) c.odds := rfl
  rw [o1] at start2
  cases c6 : oddsB (armsI (lens c.odds)) c.odds with
  | false =>
    rw [c6, ifA_false] at start2
    exact fin _ _ start2
  | true =>
    rw [c6, ifA_true, fld1, Option.bind_some, cld1 g1, Option.bind_some, pcall2 (fz_rI _ _ _) (fz_nl _), V2, Option.map_some, Option.bind_some] at start2
    have o2 : nodesB (armsI (lens c.odds)) c.nodes.fr.es = nodesB (armsI (lens c.odds)) c.nodes.es := rfl
    rw [o2] at start2
    cases c7 : nodesB (armsI (lens c.odds)) c.nodes.es with
    | false =>
      rw [c7, ifA_false] at start2
      exact fin _ _ start2
    | true =>
      rw [c7, ifA_true, fld2, Option.bind_some, cld2 g1, Option.bind_some, pcall2 (fz_lv _) (fun _ => rfl), V3, Option.map_some, Option.bind_some, not_b, Option.bind_some, Bool.not_not] at start2
      exact fin _ _ start2
/-! ### The reference -/
theorem W18 {l : LV} {k : Nat} (hl : LOk k l) (hk : k < 2 ^ 38) (hlen : l.es.length < 2 ^ 40) (K : Ex → St → Option (AV × Mem)) : ∀ (j i : Nat) (m : Mem), i + j = l.es.length →
    ∃ m', L18_5 l.av (.int .i64 l.es.length) (.int .i64 i) m K = if (l.es.drop i).all rightR then K (.exit 0) (O18_5 m') else K .ret (R18_5 (.bool false) m')
  | 0, i, m, h => ⟨m, by rw [L18_5_eq, n_lss, Option.bind_some, ifA_dec, if_neg (by omega), List.drop_eq_nil_of_le (by omega)]; rfl⟩
  | j + 1, i, m, h => by
    have hi : i < l.es.length := by omega
    have hr := hl.ok _ (List.getElem_mem hi)
    obtain ⟨m', ih⟩ := W18 hl hk hlen K j (i + 1) (m ++ [cR l.es[i]]) (by omega)
    have hx : ∀ X : AV, ∀ Y, (X = .bool (rightR l.es[i])) → True := fun _ _ _ => trivial
    rw [L18_5_eq, n_lss, Option.bind_some, ifA_dec, if_pos hi, index_lv hl hi, Option.bind_some, load_row, Option.bind_some]
    simp only [new_z', new_r]
    rw [st_last, Option.bind_some, ld_last, Option.bind_some, pcR, V47 hr.fr hk, Option.map_some, Option.bind_some, not_b, Option.bind_some, List.drop_eq_getElem_cons hi, List.all_cons]
    have er : rightR l.es[i].fr = rightR l.es[i] := rfl
    rw [er]
    cases hb : rightR l.es[i] with
    | false => exact ⟨m ++ [cR l.es[i]], rfl⟩
    | true =>
      refine ⟨m', ?_⟩
      rw [Bool.not_true, ifA_false, i_add1 (by omega), Option.bind_some, ih, Bool.true_and]
theorem all_arm {L : OL} : (armsI (lens L)).ns.all armB = L.es.all lenB := by
  rw [armsI_ns, lens, List.all_map]
  congr 1
  funext l
  show armB (l.ns.length : Int) = lenB l
  unfold armB lenB
  exact decide_eq_decide.2 (by omega)
theorem V18 {c : CV} {k : Nat} (hc : COk k c) (hk : k < 2 ^ 38) : AP cfg 18 [c.av] = some (.bool (shapedB c)) := by
  have fin : ∀ (v : Bool) (m : Mem), AC cfg 18 [c.av] [] = some (.bool v, m) → AP cfg 18 [c.av] = some (.bool v) := fun v m h => AP_ofz _ _ (fz_bool _) rfl h
  have start : AC cfg 18 [c.av] [] = AC cfg 18 [c.av] [] := rfl
  have g0 : ([cC c] : Mem)[0]? = some (cC c) := rfl
  have ho := hc.odds
  have hn := hc.nlen
  have V1 := V43 c.odds.fr ho
  have V2 := V44 (armsI (lens c.odds))
  rw [all_arm] at V2
  have hl : (armsI (lens c.odds)).ns.length = c.odds.es.length := by rw [armsI_ns, lens_len]
  rw [hl] at V2
  have f1 : lens c.odds.fr = lens c.odds := rfl
  rw [f1] at V1
  have pa : ∀ (d : Option Nat) (m : Mem) (g : Nat), pcall (AP cfg) d m g [(armsI (lens c.odds)).av] = (AP cfg g [(armsI (lens c.odds)).av]).map fun v => (v, m) := fun d m g => by
    rw [pcall1 (fz_il _), armsI_fr]
  have pb : ∀ (d : Option Nat) (m : Mem) (g : Nat) (b b' : AV), Fz b b' → pcall (AP cfg) d m g [(armsI (lens c.odds)).av, b] = (AP cfg g [(armsI (lens c.odds)).av, b']).map fun v => (v, m) := fun d m g b b' hb => by
    rw [pcall2 (fz_il _) hb, armsI_fr]
  conv at start => rhs; rw [T18, box_cv, Option.bind_some]
  simp only [List.length_nil, List.nil_append, fld0, fld1, fld2, fld3] at start
  rw [Option.bind_some, cld0 g0, Option.bind_some, pcall1 (fz_ol _), V1, Option.map_some, Option.bind_some, pa, V2, Option.map_some, Option.bind_some, binA_neq, Option.bind_some, ifA_dec] at start
  unfold shapedB
  by_cases c1 : c.odds.es.length > 16
  · rw [if_pos c1, if_pos (by omega)] at start
    rw [decide_eq_false (by omega), Bool.false_and]
    exact fin _ _ start
  rw [if_neg c1] at start
  by_cases c5 : c.odds.es.all lenB = true
  case neg =>
    rw [if_neg c5, if_pos (by omega)] at start
    rw [Bool.eq_false_iff.2 c5, Bool.false_and, Bool.and_false]
    exact fin _ _ start
  have V3 := V45 (armsI (lens c.odds)) c.odds.fr (len64 c5) ho
  have V4 := V46 (armsI (lens c.odds)) (arms64 c5) c.nodes.fr hc.nsh (by show c.nodes.es.length ≤ 4000; omega)
  have o1 : oddsB (armsI (lens c.odds)) c.odds.fr = oddsB (armsI (lens c.odds)) c.odds := rfl
  have o2 : nodesB (armsI (lens c.odds)) c.nodes.fr.es = nodesB (armsI (lens c.odds)) c.nodes.es := rfl
  rw [o1] at V3
  rw [o2] at V4
  rw [if_pos c5, if_neg (by omega), Option.bind_some, cld0 g0, Option.bind_some, pb _ _ _ _ _ (fz_ol _), V3, Option.map_some, Option.bind_some, not_b, Option.bind_some, ifA_not] at start
  rw [c5, Bool.true_and]
  cases c6 : oddsB (armsI (lens c.odds)) c.odds with
  | false =>
    rw [c6, ifA_false] at start
    rw [Bool.false_and, Bool.and_false]
    exact fin _ _ start
  | true =>
  rw [c6, ifA_true, Option.bind_some, cld3 g0, Option.bind_some, binA_lss, Option.bind_some, ifA_dec] at start
  rw [Bool.true_and]
  by_cases c2 : c.leaf < 0
  · rw [if_pos c2] at start
    rw [decide_eq_false (by omega), Bool.false_and]
    exact fin _ _ start
  rw [if_neg c2, Option.bind_some, cld3 g0, Option.bind_some, binA_gtr, Option.bind_some, ifA_dec] at start
  by_cases c3 : c.leaf > 2147483647
  · rw [if_pos c3] at start
    rw [decide_eq_false (by omega), Bool.false_and]
    exact fin _ _ start
  rw [if_neg c3, Option.bind_some, cld1 g0, Option.bind_some, len_nl, Option.bind_some, binA_gtr, Option.bind_some, ifA_dec, if_neg (by omega)] at start
  rw [Option.bind_some, cld1 g0, Option.bind_some, pb _ _ _ _ _ (fz_nl _), V4, Option.map_some, Option.bind_some, not_b, Option.bind_some, ifA_not] at start
  cases c7 : nodesB (armsI (lens c.odds)) c.nodes.es with
  | false =>
    rw [c7, ifA_false] at start
    rw [Bool.false_and, Bool.and_false]
    exact fin _ _ start
  | true =>
  rw [c7, ifA_true, Option.bind_some, cld2 g0, Option.bind_some, len_lv, Option.bind_some, Option.bind_some, cld1 g0, Option.bind_some, len_nl, Option.bind_some, binA_neq, Option.bind_some, ifA_dec] at start
  rw [Bool.true_and]
  by_cases c4 : c.ws.es.length = c.nodes.es.length
  case neg =>
    rw [if_pos (by omega)] at start
    rw [decide_eq_false (fun h => c4 h.2.2.2), Bool.false_and]
    exact fin _ _ start
  rw [decide_eq_true (by omega), Bool.true_and]
  obtain ⟨m', hW⟩ := W18 hc.ws hk (by have := hc.wlen; omega) (K18_5 (finK cfg.P f18.results.toList)) c.ws.es.length 0 [cC c] (by omega)
  rw [List.drop_zero] at hW
  rw [if_neg (by omega), Option.bind_some, cld2 g0, Option.bind_some, len_lv, Option.bind_some] at start
  have start2 := start.trans hW
  by_cases c8 : c.ws.es.all rightR = true
  · rw [if_pos c8, K18_5_x0] at start2
    rw [c8]
    exact fin _ _ start2
  · rw [if_neg c8, K18_5_ret] at start2
    rw [Bool.eq_false_iff.2 c8]
    exact fin _ _ start2
end Go.Ab

/- What a node has to weigh, in values: the program. -/
set_option linter.unusedVariables false
set_option linter.unusedSimpArgs false
set_option maxRecDepth 100000
namespace Go.Ab
open Go.Proofs.Try

def natP (n : Nat) : NV := ⟨false, ownD n, digs n⟩
theorem natP_fr (n : Nat) : (natP n).fr = natP n := by
  unfold natP NV.fr ownD
  split <;> rfl
theorem V82 {n : Nat} (h : n < 9223372036854775808) : AP cfg 82 [.int .i64 (n : Int)] = some (natP n).av := by
  refine (AP_ofz _ _ (fz_nv (natP n)) (noV_nv _) (m := []) ?_).trans (by rw [natP_fr])
  rw [T82, n_lss0, Option.bind_some, ifA_false, c_up (by omega), Option.bind_some, pcI, V42 (by omega)]; rfl
theorem V69 {a b : Nat} (ha : a < 9223372036854775808) (hb : b < 9223372036854775808) (h0 : b ≠ 0) : ∃ r : RV, AP cfg 69 [.int .i64 (a : Int), .int .i64 (b : Int)] = some (.tup [r.av, .int .i64 0]) ∧ Can r (qOf false a b) ∧ r.fr = r := by
  have la : (digs a).length ≤ 2 := digs_length_le (by omega)
  have lb : (digs b).length ≤ 2 := digs_length_le (by omega)
  have va : (natP a).v = a := val_digs a
  have vb : (natP b).v = b := val_digs b
  rcases V70 (x := natP a) (y := natP b) false (nok_digs (by omega)) (nok_digs (by omega)) with ⟨h, _⟩ | ⟨_, r, e, h2, h3⟩
  · rw [vb] at h; exact absurd h h0
  · rw [va, vb] at h2
    refine ⟨r, (AP_ofz _ _ (fz_tupR2 r (fza_int .i64 0)) rfl (m := [cR r]) ?_).trans (by rw [h3]), h2, h3⟩
    rw [T69, n_lss0, Option.bind_some, n_lss0, Option.bind_some, bl_neq, Option.bind_some]
    simp only [new_z', new_r, List.length_nil, List.nil_append]
    rw [pcI, V82 ha, Option.map_some, Option.bind_some, pcI, V82 hb, Option.map_some, Option.bind_some, pcBNN, natP_fr, natP_fr, show (false != false) = false from rfl, e, Option.map_some, Option.bind_some, ex0, Option.bind_some, ex1, Option.bind_some, st0all, Option.bind_some, ld0all, Option.bind_some]
/-! ### A part -/
def RowOk (l : IL) : Prop := l.ns.length ≤ 64 ∧ (∀ o ∈ l.ns, 0 ≤ o ∧ o ≤ 1000) ∧ l.ns.sum ≠ 0
theorem sum_bd : ∀ {l : List Int}, (∀ o ∈ l, 0 ≤ o ∧ o ≤ 1000) → 0 ≤ l.sum ∧ l.sum ≤ 1000 * (l.length : Int)
  | [], _ => by simp
  | a :: l, h => by
    obtain ⟨h1, h2⟩ := h a List.mem_cons_self
    obtain ⟨h3, h4⟩ := sum_bd (fun o ho => h o (List.mem_cons_of_mem _ ho))
    rw [List.sum_cons, List.length_cons]
    omega
theorem RowOk.sum {l : IL} (h : RowOk l) : ∃ S : Nat, l.ns.sum = (S : Int) ∧ S ≠ 0 ∧ S ≤ 64000 := by
  obtain ⟨h1, h2⟩ := sum_bd h.2.1
  obtain ⟨S, hS⟩ := Int.eq_ofNat_of_zero_le h1
  have := h.1
  exact ⟨S, hS, fun e => h.2.2 (by rw [hS, e]; rfl), by omega⟩
theorem RowOk.get {l : IL} (h : RowOk l) {i : Nat} (hi : i < l.ns.length) : ∃ a : Nat, l.ns[i] = (a : Int) ∧ a ≤ 1000 := by
  obtain ⟨h1, h2⟩ := h.2.1 _ (List.getElem_mem hi)
  obtain ⟨a, ha⟩ := Int.eq_ofNat_of_zero_le h1
  exact ⟨a, ha, by omega⟩
def partQ (l : IL) (i : Nat) : Rat := qOf false (l.ns.getD i 0).toNat l.ns.sum.toNat
theorem partQ_eq {l : IL} {i a S : Nat} (hi : i < l.ns.length) (ha : l.ns[i] = (a : Int)) (hS : l.ns.sum = (S : Int)) : partQ l i = qOf false a S := by
  unfold partQ
  rw [List.getD_eq_getElem?_getD, List.getElem?_eq_getElem hi, hS]
  show qOf false (l.ns[i]).toNat _ = _
  rw [ha]; rfl
theorem partQ_bd {l : IL} (h : RowOk l) {i : Nat} (hi : i < l.ns.length) : Bd 1 (partQ l i) := by
  obtain ⟨S, hS, _, hS2⟩ := h.sum
  obtain ⟨a, ha, ha2⟩ := h.get hi
  rw [partQ_eq hi ha hS]
  exact Bd_qOf (digs_length_le (by omega)) (digs_length_le (by omega)) (by omega)
theorem take_sum {l : List Int} {i : Nat} (hi : i < l.length) : (l.take (i + 1)).sum = (l.take i).sum + l[i] := by
  rw [List.take_succ_eq_append_getElem hi, List.sum_append]; simp
theorem take_bd {l : IL} (h : RowOk l) (i : Nat) : 0 ≤ (l.ns.take i).sum ∧ (l.ns.take i).sum ≤ 64000 := by
  obtain ⟨h1, h2⟩ := sum_bd (l := l.ns.take i) (fun o ho => h.2.1 o (List.mem_of_mem_take ho))
  have := h.1
  rw [List.length_take] at h2
  omega
theorem W35 {l : IL} (h : RowOk l) (x1 x4 : AV) (m : Mem) (K : Ex → St → Option (AV × Mem)) : ∀ j i : Nat, i + j = l.ns.length →
    L35_3 l.av x1 x4 (.int .i64 (l.ns.take i).sum) l.av (.int .i64 l.ns.length) (.int .i64 i) m K = K (.exit 0) (O35_3 l.av x1 x4 (.int .i64 l.ns.sum) m)
  | 0, i, hij => by
    rw [L35_3_eq, n_lss, Option.bind_some, ifA_dec, if_neg (by omega), List.take_of_length_le (by omega)]
  | j + 1, i, hij => by
    have hi : i < l.ns.length := by omega
    have := h.1
    obtain ⟨b1, b2⟩ := take_bd h i
    obtain ⟨a, ha, ha2⟩ := h.get hi
    have ih := W35 h x1 x4 m K j (i + 1) (by omega)
    rw [take_sum hi] at ih
    rw [L35_3_eq, n_lss, Option.bind_some, ifA_dec, if_pos hi, index_il hi, Option.bind_some, load_il, Option.bind_some, binA_add, wrap_i64 (by omega) (by omega), Option.bind_some, i_add1 (by omega), Option.bind_some, ih]
theorem pcII' {m : Mem} {d : Option Nat} {g : Nat} (a b : Int) : pcall (AP cfg) d m g [.int .i64 a, .int .i64 b] = (AP cfg g [.int .i64 a, .int .i64 b]).map fun v => (v, m) := pcall2 (fz_int _ a) (fz_int _ b)
theorem V35 {l : IL} (h : RowOk l) {i : Nat} (hi : i < l.ns.length) : ∃ r : RV, AP cfg 35 [l.av, .int .i64 (i : Int)] = some r.av ∧ Can r (partQ l i) ∧ r.fr = r := by
  obtain ⟨S, hS, hS0, hS2⟩ := h.sum
  obtain ⟨a, ha, ha2⟩ := h.get hi
  obtain ⟨r, e1, e2, e3⟩ := V69 (a := a) (b := S) (by omega) (by omega) hS0
  refine ⟨r, (AP_ofz _ _ (fz_rv r) (noV_rv _) (m := [cR r, cR r]) ?_).trans (by rw [e3]), by rw [partQ_eq hi ha hS]; exact e2, e3⟩
  have hW := W35 h (.int .i64 (i : Int)) (.ptr 0 0) [cR zR] (K35_3 (finK cfg.P f35.results.toList)) l.ns.length 0 (by omega)
  rw [T35, len_il, Option.bind_some]
  refine (show _ = _ from hW).trans ?_
  rw [K35_3_x0, index_il hi, Option.bind_some, load_il, Option.bind_some, ha, hS, pcII', e1, Option.map_some, Option.bind_some, ex0, Option.bind_some, ex1, Option.bind_some]
  simp only [new_z', new_r, List.length_nil, List.nil_append, List.length_cons, List.cons_append, Nat.zero_add]
  rw [st1all, Option.bind_some, ld1all, Option.bind_some, st0all, Option.bind_some, ld0all, Option.bind_some]
/-! ### The weight -/
def sumR (F : Nat → Rat) : Nat → Rat
  | 0 => 0
  | j + 1 => sumR F j + F j
def wQ (ws : LV) (k : Nat) : Rat := (ws.es.map RV.q).getD k 0
theorem wQ_get {ws : LV} {k : Nat} (h : k < ws.es.length) : wQ ws k = ws.es[k].q := by
  unfold wQ
  rw [List.getD_eq_getElem?_getD, List.getElem?_map, List.getElem?_eq_getElem h]; rfl
def termQ (l : IL) (ws : LV) (n : ND) (i : Nat) : Rat := partQ l i * wQ ws (n.kids.ns.getD i 0).toNat
def hasQ (odds : OL) (ws : LV) (leaf : Int) (n : ND) : Rat :=
  if n.var < 0 then (if n.leaf = leaf then 1 else 0) else sumR (termQ (odds.es.getD n.var.toNat ⟨true, .full, []⟩) ws n) n.kids.ns.length
structure NodeOk (l : IL) (ws : LV) (n : ND) : Prop where
  row : RowOk l
  len : n.kids.ns.length = l.ns.length
  kids : ∀ k ∈ n.kids.ns, 0 ≤ k ∧ k < ws.es.length
theorem NodeOk.kid {l : IL} {ws : LV} {n : ND} (h : NodeOk l ws n) {i : Nat} (hi : i < n.kids.ns.length) : ∃ k : Nat, n.kids.ns[i] = (k : Int) ∧ k < ws.es.length ∧ n.kids.ns.getD i 0 = (k : Int) := by
  obtain ⟨h1, h2⟩ := h.kids _ (List.getElem_mem hi)
  obtain ⟨k, hk⟩ := Int.eq_ofNat_of_zero_le h1
  refine ⟨k, hk, by omega, ?_⟩
  rw [List.getD_eq_getElem?_getD, List.getElem?_eq_getElem hi]
  exact hk
theorem termQ_bd {l : IL} {ws : LV} {n : ND} (h : NodeOk l ws n) (hw : LOk 30 ws) {i : Nat} (hi : i < n.kids.ns.length) : Bd 31 (termQ l ws n i) := by
  obtain ⟨k, hk, hk2, hk3⟩ := h.kid hi
  unfold termQ
  rw [hk3, Int.toNat_natCast, wQ_get hk2]
  exact Bd_mul (partQ_bd h.row (by rw [← h.len]; exact hi)) ((hw.ok _ (List.getElem_mem hk2)).bd (by omega)) (by omega)
theorem sumR_bd {l : IL} {ws : LV} {n : ND} (h : NodeOk l ws n) (hw : LOk 30 ws) : ∀ {j : Nat}, j ≤ n.kids.ns.length → Bd (32 * j + 1) (sumR (termQ l ws n) j)
  | 0, _ => Bd_zero (by omega)
  | j + 1, hj => (Bd_add (sumR_bd h hw (by omega)) (termQ_bd h hw (by omega)) (by omega)).mono (by omega)
theorem sumR_bd2 {l : IL} {ws : LV} {n : ND} (h : NodeOk l ws n) (hw : LOk 30 ws) {j : Nat} (hj : j ≤ n.kids.ns.length) : Bd 4000 (sumR (termQ l ws n) j) := by
  have h1 := h.row.1
  have h2 := h.len
  exact (sumR_bd h hw hj).mono (by omega)
theorem W15 {odds : OL} {n : ND} {ws : LV} {v : Nat} (hw : LOk 30 ws) (hv : n.var = (v : Int)) (hvl : v < odds.es.length) (h : NodeOk odds.es[v] ws n) (K : Ex → St → Option (AV × Mem)) : ∀ (j i : Nat) (s : RV), i + j = n.kids.ns.length → Can s (sumR (termQ odds.es[v] ws n) i) → s.fr = s →
    ∃ t : RV, Can t (sumR (termQ odds.es[v] ws n) n.kids.ns.length) ∧ t.fr = t ∧ L15_7 odds.av ws.av (.ptr 0 0) (.ptr 1 0) (.ptr 2 0) n.kids.av (.int .i64 n.kids.ns.length) (.int .i64 i) [cN n, cR zR, cR s] K = K (.exit 0) (O15_7 (.ptr 1 0) (.ptr 2 0) [cN n, cR zR, cR t])
  | 0, i, s, hij, hs, hf => by
    obtain rfl : i = n.kids.ns.length := by omega
    exact ⟨s, hs, hf, by rw [L15_7_eq, n_lss, Option.bind_some, ifA_dec, if_neg (by omega)]⟩
  | j + 1, i, s, hij, hs, hf => by
    have hi : i < n.kids.ns.length := by omega
    have hlen := h.len
    have h64 := h.row.1
    obtain ⟨k, hk, hk2, hk3⟩ := h.kid hi
    obtain ⟨p, p1, p2, p3⟩ := V35 (l := odds.es[v].fr) h.row (i := i) (show i < odds.es[v].ns.length by omega)
    have p2 : Can p (partQ odds.es[v] i) := p2
    have okp := p2.ok ((partQ_bd h.row (by omega)).mono (by omega : 1 ≤ 4000)) (by omega)
    have okw := (hw.ok _ (List.getElem_mem hk2)).mono (by omega : 30 ≤ 4000)
    obtain ⟨q, q1, q2, q3⟩ := V34 okp okw (by omega) (by omega)
    have et : p.q * ws.es[k].q = termQ odds.es[v] ws n i := by
      unfold termQ
      rw [p2.q, hk3, Int.toNat_natCast, wQ_get hk2]
    rw [et] at q2
    have oks := hs.ok (sumR_bd2 h hw (by omega)) (by omega)
    have okq := q2.ok ((termQ_bd h hw hi).mono (by omega : 31 ≤ 4000)) (by omega)
    obtain ⟨t, t1, t2, t3⟩ := V16 oks okq (by omega) (by omega)
    have es : s.q + q.q = sumR (termQ odds.es[v] ws n) (i + 1) := by rw [hs.q, q2.q]; rfl
    rw [es] at t2
    obtain ⟨u, u1, u2, u3⟩ := W15 hw hv hvl h K j (i + 1) t (by omega) t2 t3
    refine ⟨u, u1, u2, ?_⟩
    have wfr := hw.fr _ (List.getElem_mem hk2)
    have rowfr : ∀ (d : Option Nat) (m : Mem), pcall (AP cfg) d m 35 [odds.es[v].av, .int .i64 (i : Int)] = some (p.av, m) := by
      intro d m
      rw [pcall2 (fz_il _) (fz_int _ _), p1]; rfl
    rw [L15_7_eq, n_lss, Option.bind_some, ifA_dec, if_pos hi, index_il hi, Option.bind_some, load_il, Option.bind_some, ld2all, Option.bind_some, fld0, Option.bind_some, nld0 (x := n) rfl, Option.bind_some, hv, index_ol hvl, Option.bind_some, load_ol, Option.bind_some, rowfr, Option.bind_some, hk, index_lv hw hk2, Option.bind_some, load_row, Option.bind_some, pcRR, p3, wfr, q1, Option.map_some, Option.bind_some, pcRR, hf, q3, t1, Option.map_some, Option.bind_some, st2all, Option.bind_some, i_add1 (by omega), Option.bind_some]
    exact u3
/-- The node is a leaf, or it has a row of odds and kids that have a weight. -/
def NodeAt (odds : OL) (ws : LV) (n : ND) : Prop := n.var < 0 ∨ ∃ (v : Nat) (hv : v < odds.es.length), n.var = (v : Int) ∧ NodeOk odds.es[v] ws n
theorem hasQ_leaf {odds : OL} {ws : LV} {leaf : Int} {n : ND} (h : n.var < 0) : hasQ odds ws leaf n = if n.leaf = leaf then 1 else 0 := by unfold hasQ; rw [if_pos h]
theorem hasQ_node {odds : OL} {ws : LV} {leaf : Int} {n : ND} {v : Nat} (hv : v < odds.es.length) (h : n.var = (v : Int)) : hasQ odds ws leaf n = sumR (termQ odds.es[v] ws n) n.kids.ns.length := by
  unfold hasQ
  rw [if_neg (by omega), h, Int.toNat_natCast, List.getD_eq_getElem?_getD, List.getElem?_eq_getElem hv]; rfl
theorem V15 {odds : OL} {n : ND} {ws : LV} (leaf : Int) (hw : LOk 30 ws) (h : NodeAt odds ws n) : ∃ s : RV, AP cfg 15 [odds.av, n.av, .int .i64 leaf, ws.av] = some s.av ∧ Can s (hasQ odds ws leaf n) ∧ s.fr = s := by
  have fin : ∀ (s : RV) (m : Mem), s.fr = s → AC cfg 15 [odds.av, n.av, .int .i64 leaf, ws.av] [] = some (s.av, m) → AP cfg 15 [odds.av, n.av, .int .i64 leaf, ws.av] = some s.av := fun s m hs h => (AP_ofz _ _ (fz_rv s) (noV_rv _) h).trans (by rw [hs])
  have start : AC cfg 15 [odds.av, n.av, .int .i64 leaf, ws.av] [] = AC cfg 15 [odds.av, n.av, .int .i64 leaf, ws.av] [] := rfl
  have gn : ∀ M : Mem, (cN n :: M)[0]? = some (cN n) := fun _ => rfl
  conv at start => rhs; rw [T15, box_nd, Option.bind_some]
  simp only [new_z', new_r, List.length_nil, List.nil_append, List.length_cons, List.cons_append, Nat.zero_add] at start
  rw [fld0, Option.bind_some, nld0 (gn _), Option.bind_some, binA_lss, Option.bind_some, ifA_dec] at start
  rcases h with h | ⟨v, hv, hn, h⟩
  · rw [if_pos h, fld2, Option.bind_some, nld2 (gn _), Option.bind_some, binA_eql, Option.bind_some, ifA_dec] at start
    rw [hasQ_leaf h]
    by_cases c : n.leaf = leaf
    · rw [if_pos c, pc0, V23, Option.map_some, Option.bind_some, st1all, Option.bind_some, ld1all, Option.bind_some] at start
      refine ⟨oneR, fin _ _ oneR_fr start, ?_, oneR_fr⟩
      rw [if_pos c]; exact can_one
    · rw [if_neg c, pc0, V17, Option.map_some, Option.bind_some, st1all, Option.bind_some, ld1all, Option.bind_some] at start
      refine ⟨zeroR, fin _ _ zeroR_fr start, ?_, zeroR_fr⟩
      rw [if_neg c]; exact can_zero
  · obtain ⟨t, t1, t2, t3⟩ := W15 hw hn hv h (K15_7 (finK cfg.P f15.results.toList)) n.kids.ns.length 0 zeroR (by omega) can_zero zeroR_fr
    rw [show (((0 : Nat) : Int)) = (0 : Int) from rfl] at t3
    rw [if_neg (by omega), pc0, V17, Option.map_some, Option.bind_some] at start
    simp only [new_z', new_r, List.length_nil, List.nil_append, List.length_cons, List.cons_append, Nat.zero_add, Nat.reduceAdd] at start
    rw [st2all, Option.bind_some, fld1, Option.bind_some, nld1 (gn _), Option.bind_some, len_il, Option.bind_some, t3, K15_7_x0, ld2all, Option.bind_some, st1all, Option.bind_some, ld1all, Option.bind_some] at start
    exact ⟨t, fin _ _ t2 start, by rw [hasQ_node hv hn]; exact t1, t2⟩
end Go.Ab

/- What a node has to weigh, in values: the reference. -/
set_option linter.unusedVariables false
set_option linter.unusedSimpArgs false
set_option maxRecDepth 100000
namespace Go.Ab
open Go.Proofs.Try

structure HI (c : CV) (n : ND) (s : RV) (m : Mem) : Prop where
  g0 : m[0]? = some (cC c)
  g1 : m[1]? = some (cR zR)
  g2 : m[2]? = some (cN n)
  g3 : m[3]? = some (cR s)
theorem get_app {m : Mem} {k : Nat} {e : Option Ent} (h : m[k]? = some e) (x : Option Ent) : (m ++ [x])[k]? = some e := by
  rw [List.getElem?_append_left (List.getElem?_eq_some_iff.1 h).1]; exact h
theorem HI.app {c : CV} {n : ND} {s : RV} {m : Mem} (h : HI c n s m) (e : Option Ent) : HI c n s (m ++ [e]) := ⟨get_app h.g0 e, get_app h.g1 e, get_app h.g2 e, get_app h.g3 e⟩
theorem HI.put {c : CV} {n : ND} {s : RV} {m : Mem} (h : HI c n s m) (t : RV) : HI c n t (m.set 3 (cR t)) := by
  have hl : 3 < m.length := (List.getElem?_eq_some_iff.1 h.g3).1
  refine ⟨?_, ?_, ?_, ?_⟩
  · rw [List.getElem?_set_ne (by omega)]; exact h.g0
  · rw [List.getElem?_set_ne (by omega)]; exact h.g1
  · rw [List.getElem?_set_ne (by omega)]; exact h.g2
  · rw [List.getElem?_set_self hl]
theorem ext0'' (a b : AV) : extractA (.tup [a, b]) 0 = some a := rfl
theorem ext1'' (a b : AV) : extractA (.tup [a, b]) 1 = some b := rfl
theorem st3' {c0 c1 c2 : Option Ent} {r r' : RV} : storeA (some 3) [c0, c1, c2, cR r] (.ptr 3 0) r'.av = some [c0, c1, c2, cR r'] := rfl
theorem W19s {l : IL} (h : RowOk l) (x2 x4 x5 x7 : AV) (m : Mem) (K : Ex → St → Option (AV × Mem)) : ∀ j i : Nat, i + j = l.ns.length →
    L19_8 x2 x4 x5 (.int .i64 (l.ns.take i).sum) x7 l.av (.int .i64 l.ns.length) (.int .i64 i) m K = K (.exit 0) (O19_8 x2 x4 x5 (.int .i64 l.ns.sum) x7 m)
  | 0, i, hij => by
    rw [L19_8_eq, n_lss, Option.bind_some, ifA_dec, if_neg (by omega), List.take_of_length_le (by omega)]
  | j + 1, i, hij => by
    have hi : i < l.ns.length := by omega
    have := h.1
    obtain ⟨b1, b2⟩ := take_bd h i
    obtain ⟨a, ha, ha2⟩ := h.get hi
    have ih := W19s h x2 x4 x5 x7 m K j (i + 1) (by omega)
    rw [take_sum hi] at ih
    rw [L19_8_eq, n_lss, Option.bind_some, ifA_dec, if_pos hi, index_il hi, Option.bind_some, load_il, Option.bind_some, binA_add, wrap_i64 (by omega) (by omega), Option.bind_some, i_add1 (by omega), Option.bind_some, ih]
theorem W19 {c : CV} {n : ND} {v S : Nat} (hw : LOk 30 c.ws) (hv : n.var = (v : Int)) (hvl : v < c.odds.es.length) (h : NodeOk c.odds.es[v] c.ws n) (hS : c.odds.es[v].ns.sum = (S : Int)) (hS0 : S ≠ 0) (hS2 : S ≤ 64000) (K : Ex → St → Option (AV × Mem)) : ∀ (j i : Nat) (s : RV) (m : Mem), i + j = n.kids.ns.length → Can s (sumR (termQ c.odds.es[v] c.ws n) i) → s.fr = s → HI c n s m →
    ∃ (t : RV) (m' : Mem), Can t (sumR (termQ c.odds.es[v] c.ws n) n.kids.ns.length) ∧ t.fr = t ∧ HI c n t m' ∧ L19_13 (.ptr 0 0) (.ptr 1 0) (.ptr 2 0) (.int .i64 (S : Int)) (.ptr 3 0) n.kids.av (.int .i64 n.kids.ns.length) (.int .i64 i) m K = K (.exit 2) (O19_13 (.ptr 1 0) (.ptr 3 0) m')
  | 0, i, s, m, hij, hs, hf, hm => by
    obtain rfl : i = n.kids.ns.length := by omega
    exact ⟨s, m, hs, hf, hm, by rw [L19_13_eq, n_lss, Option.bind_some, ifA_dec, if_neg (by omega)]⟩
  | j + 1, i, s, m, hij, hs, hf, hm => by
    have hi : i < n.kids.ns.length := by omega
    have hlen := h.len
    have h64 := h.row.1
    obtain ⟨k, hk, hk2, hk3⟩ := h.kid hi
    obtain ⟨a, ha, ha2⟩ := h.row.get (i := i) (by omega)
    obtain ⟨p, p1, p2, p3⟩ := V48 (a := a) (b := S) (by omega) (by omega) hS0
    rw [← partQ_eq (l := c.odds.es[v]) (by omega) ha hS] at p2
    have okp := p2.ok ((partQ_bd h.row (by omega)).mono (by omega : 1 ≤ 4000)) (by omega)
    have okw := (hw.ok _ (List.getElem_mem hk2)).mono (by omega : 30 ≤ 4000)
    obtain ⟨q, q1, q2, q3⟩ := V49 okp okw (by omega) (by omega)
    have et : p.q * c.ws.es[k].q = termQ c.odds.es[v] c.ws n i := by
      unfold termQ
      rw [p2.q, hk3, Int.toNat_natCast, wQ_get hk2]
    rw [et] at q2
    have oks := hs.ok (sumR_bd2 h hw (by omega)) (by omega)
    have okq := q2.ok ((termQ_bd h hw hi).mono (by omega : 31 ≤ 4000)) (by omega)
    obtain ⟨t, t1, t2, t3⟩ := V27 oks okq (by omega) (by omega)
    have es : s.q + q.q = sumR (termQ c.odds.es[v] c.ws n) (i + 1) := by rw [hs.q, q2.q]; rfl
    rw [es] at t2
    obtain ⟨u, m', u1, u2, u3, u4⟩ := W19 hw hv hvl h hS hS0 hS2 K j (i + 1) t _ (by omega) t2 t3 ((hm.app (cR p)).put t)
    refine ⟨u, m', u1, u2, u3, ?_⟩
    have wfr := hw.fr _ (List.getElem_mem hk2)
    have hm2 := hm.app (cR p)
    rw [L19_13_eq, n_lss, Option.bind_some, ifA_dec, if_pos hi, index_il hi, Option.bind_some, load_il, Option.bind_some, fld0, Option.bind_some, cld0 hm.g0, Option.bind_some, fld0, Option.bind_some, nld0 hm.g2, Option.bind_some, hv, index_ol hvl, Option.bind_some, load_ol, Option.bind_some, index_il (by omega), Option.bind_some, load_il, Option.bind_some, ha, pcII', p1, Option.map_some, Option.bind_some, ext0'', Option.bind_some, ext1'', Option.bind_some]
    simp only [new_z', new_r]
    rw [st_last, Option.bind_some, rldA hm2.g3, Option.bind_some, ld_last, Option.bind_some, fld2, Option.bind_some, cld2 hm2.g0, Option.bind_some, hk, index_lv hw hk2, Option.bind_some, load_row, Option.bind_some, pcRR, p3, wfr, q1, Option.map_some, Option.bind_some, pcRR, hf, q3, t1, Option.map_some, Option.bind_some, rstA hm2.g3, Option.bind_some, i_add1 (by omega), Option.bind_some]
    exact u4
theorem V19 {c : CV} (hw : LOk 30 c.ws) (hs : c.nodes.sh = some 3 ∨ c.nodes.es = []) {i : Nat} (hi : i < c.nodes.es.length) (h1 : c.nodes.es[i].var = -1 ∨ 0 ≤ c.nodes.es[i].var) (h : NodeAt c.odds c.ws c.nodes.es[i]) : ∃ s : RV, AP cfg 19 [c.av, .int .i64 (i : Int)] = some s.av ∧ Can s (hasQ c.odds c.ws c.leaf c.nodes.es[i]) ∧ s.fr = s := by
  have fin : ∀ (s : RV) (m : Mem), s.fr = s → AC cfg 19 [c.av, .int .i64 (i : Int)] [] = some (s.av, m) → AP cfg 19 [c.av, .int .i64 (i : Int)] = some s.av := fun s m hs h => (AP_ofz _ _ (fz_rv s) (noV_rv _) h).trans (by rw [hs])
  have start : AC cfg 19 [c.av, .int .i64 (i : Int)] [] = AC cfg 19 [c.av, .int .i64 (i : Int)] [] := rfl
  have gc : ∀ M : Mem, (cC c :: M)[0]? = some (cC c) := fun _ => rfl
  generalize hne : c.nodes.es[i] = n at *
  have gn : ∀ (a b : Option Ent) (M : Mem), (a :: b :: cN n :: M)[2]? = some (cN n) := fun _ _ _ => rfl
  conv at start => rhs; rw [T19, box_cv, Option.bind_some]
  simp only [new_z', new_r, new_n, List.length_nil, List.nil_append, List.length_cons, List.cons_append, Nat.zero_add, Nat.reduceAdd] at start
  rw [fld1, Option.bind_some, cld1 (gc _), Option.bind_some, index_nl hs hi, Option.bind_some, load_nd, Option.bind_some, hne] at start
  have st2 := nst_last (m := [cC c, cR zR]) (x := zN) (y := n)
  simp only [List.length_nil, List.nil_append, List.length_cons, List.cons_append, Nat.zero_add, Nat.reduceAdd] at st2
  rw [st2, Option.bind_some, fld0, Option.bind_some, nld0 (gn _ _ _), Option.bind_some, binA_eql, Option.bind_some, ifA_dec] at start
  by_cases c1 : n.var = -1
  · rw [if_pos c1, fld2, Option.bind_some, nld2 (gn _ _ _), Option.bind_some, fld3, Option.bind_some, cld3 (gc _), Option.bind_some, binA_eql, Option.bind_some, ifA_dec] at start
    rw [hasQ_leaf (by omega)]
    by_cases c2 : n.leaf = c.leaf
    · rw [if_pos c2, pc0, V21, Option.map_some, Option.bind_some, st1all, Option.bind_some, ld1all, Option.bind_some] at start
      refine ⟨oneF, fin _ _ oneF_fr start, ?_, oneF_fr⟩
      rw [if_pos c2]; exact canF_one
    · rw [if_neg c2, pc0, V24, Option.map_some, Option.bind_some, st1all, Option.bind_some, ld1all, Option.bind_some] at start
      refine ⟨zeroF, fin _ _ zeroF_fr start, ?_, zeroF_fr⟩
      rw [if_neg c2]; exact canF_zero
  · rcases h with h | ⟨v, hv, hn, h⟩
    · omega
    obtain ⟨S, hS, hS0, hS2⟩ := h.row.sum
    have hs1 := fun K => W19s h.row (.ptr 0 0) (.ptr 1 0) (.ptr 2 0) (.ptr 3 0) [cC c, cR zR, cN n, cR zeroF] K c.odds.es[v].ns.length 0 (by omega)
    rw [List.take_zero, List.sum_nil, hS, show (((0 : Nat) : Int)) = (0 : Int) from rfl] at hs1
    obtain ⟨t, m', t1, t2, t3, t4⟩ := W19 hw hn hv h hS hS0 hS2 (K19_13 (finK cfg.P f19.results.toList)) n.kids.ns.length 0 zeroF [cC c, cR zR, cN n, cR zeroF] (by omega) canF_zero zeroF_fr ⟨rfl, rfl, rfl, rfl⟩
    rw [show (((0 : Nat) : Int)) = (0 : Int) from rfl] at t4
    rw [if_neg c1, pc0, V24, Option.map_some, Option.bind_some] at start
    simp only [new_z', new_r, List.length_nil, List.nil_append, List.length_cons, List.cons_append, Nat.zero_add, Nat.reduceAdd] at start
    rw [st3', Option.bind_some, fld0, Option.bind_some, cld0 (gc _), Option.bind_some, Option.bind_some, nld0 (gn _ _ _), Option.bind_some, hn, index_ol hv, Option.bind_some, load_ol, Option.bind_some, len_il, Option.bind_some, hs1, K19_8_x0, fld1, Option.bind_some, nld1 (gn _ _ _), Option.bind_some, len_il, Option.bind_some, t4, K19_13_x2, rldA t3.g3, Option.bind_some, rstA t3.g1, Option.bind_some, rldA (x := t) (by rw [List.getElem?_set_self (List.getElem?_eq_some_iff.1 t3.g1).1]), Option.bind_some] at start
    exact ⟨t, fin _ _ t2 start, by rw [hasQ_node hv hn]; exact t1, t2⟩
end Go.Ab

/- Check, in values: the program's and the reference's. -/
set_option linter.unusedVariables false
set_option linter.unusedSimpArgs false
set_option maxRecDepth 100000
namespace Go.Ab
open Go.Proofs.Try

/-! ### Of a certificate in order every node can be weighed -/
theorem zip_all {L : OL} {ns : List Int} (hl : L.es.length = ns.length) (h : (L.es.zip ns).all (fun p => rowB p.1 p.2) = true) {v : Nat} (hv : v < L.es.length) : rowB L.es[v] (ns[v]'(by omega)) = true := by
  have hz : v < (L.es.zip ns).length := by rw [List.length_zip]; omega
  have := List.all_eq_true.1 h _ (List.getElem_mem hz)
  rw [List.getElem_zip] at this
  exact this
theorem shaped_row {c : CV} (h : shapedB c = true) {v : Nat} (hv : v < c.odds.es.length) : RowOk c.odds.es[v] := by
  unfold shapedB at h
  simp only [Bool.and_eq_true] at h
  obtain ⟨_, h1, h2, _⟩ := h
  unfold oddsB at h2
  rw [Bool.and_eq_true, decide_eq_true_iff] at h2
  have h3 := zip_all h2.1 h2.2 hv
  unfold rowB at h3
  simp only [Bool.and_eq_true, decide_eq_true_iff] at h3
  exact ⟨len64 h1 _ (List.getElem_mem hv), fun o ho => oddB_iff.1 (List.all_eq_true.1 h3.1 o ho), h3.2.2⟩
theorem shaped_lens {c : CV} (h : shapedB c = true) : c.ws.es.length = c.nodes.es.length ∧ 0 < c.nodes.es.length := by
  unfold shapedB at h
  simp only [Bool.and_eq_true, decide_eq_true_iff] at h
  obtain ⟨h0, _, _, h1, _⟩ := h
  unfold nodesB at h1
  rw [Bool.and_eq_true, decide_eq_true_iff] at h1
  exact ⟨h0.2.2.2, h1.1⟩
theorem shaped_nodeB {c : CV} (h : shapedB c = true) {i : Nat} (hi : i < c.nodes.es.length) : nodeB (armsI (lens c.odds)) c.nodes.es i c.nodes.es[i] = true := by
  unfold shapedB at h
  simp only [Bool.and_eq_true] at h
  obtain ⟨_, _, _, h1, _⟩ := h
  unfold nodesB at h1
  rw [Bool.and_eq_true] at h1
  have := allF_iff.1 h1.2 i (by omega) (by omega)
  rwa [getD_nd hi] at this
theorem shaped_node {c : CV} (h : shapedB c = true) {i : Nat} (hi : i < c.nodes.es.length) : NodeAt c.odds c.ws c.nodes.es[i] ∧ (c.nodes.es[i].var = -1 ∨ 0 ≤ c.nodes.es[i].var) := by
  have hn := shaped_nodeB h hi
  have hl := (shaped_lens h).1
  refine ⟨?_, nodeB_var hn⟩
  unfold nodeB at hn
  by_cases c1 : c.nodes.es[i].var = -1
  · exact .inl (by omega)
  · rw [if_neg c1, Bool.and_eq_true, decide_eq_true_iff] at hn
    obtain ⟨⟨h0, h1, h2, h3⟩, h4⟩ := hn
    obtain ⟨v, hv⟩ := Int.eq_ofNat_of_zero_le h0
    rw [armsI_ns, lens_len] at h1
    have hvl : v < c.odds.es.length := by omega
    have hvl2 : v < (lens c.odds).length := by rw [lens_len]; exact hvl
    rw [armsI_ns, hv, Int.toNat_natCast, List.getD_eq_getElem?_getD, List.getElem?_eq_getElem hvl2] at h3
    have h3 : (c.nodes.es[i].kids.ns.length : Int) = (lens c.odds)[v] := h3
    rw [lens_get hvl] at h3
    refine .inr ⟨v, hvl, hv, shaped_row h hvl, by omega, fun k hk => ?_⟩
    have := List.all_eq_true.1 h4 k hk
    unfold kidB at this
    rw [Bool.and_eq_true, decide_eq_true_iff] at this
    omega
/-! ### The first node that is wrong -/
def okAt (c : CV) (i : Nat) : Bool := decide (wQ c.ws i = hasQ c.odds c.ws c.leaf (c.nodes.es.getD i zN))
def firstF (f : Nat → Bool) : Nat → Nat → Option Nat
  | 0, _ => none
  | j + 1, i => if f i then firstF f j (i + 1) else some i
def checkE (c : CV) : Int := if shapedB c = true then (match firstF (okAt c) c.nodes.es.length 0 with | none => 0 | some _ => 32) else 1
def checkI (c : CV) : Int := if shapedB c = true then (match firstF (okAt c) c.nodes.es.length 0 with | none => 0 | some i => i) else 0
def checkQ (c : CV) : Rat := if checkE c = 0 then wQ c.ws (c.nodes.es.length - 1) else 0
theorem fz_tupR3 (r : RV) (a b : Int) : Fz (.tup [r.av, .int .i64 a, .int .i64 b]) (.tup [r.fr.av, .int .i64 a, .int .i64 b]) := by
  intro m
  have e : frz m fuelF (.tup [r.av, .int .i64 a, .int .i64 b]) = (mapF (frz m 8) [r.av, .int .i64 a, .int .i64 b]).map fun r => (.tup r.1, r.2) := rfl
  rw [e]
  simp [mapF, frz_rv, fza_int _ _ m 7]
theorem bld0' : buildA (.agg [.bool false, .lst none true .full [], .lst none true .full []]) [] = some zR.av := rfl
theorem NodeAt.fr {odds : OL} {ws : LV} {n : ND} (h : NodeAt odds ws n) : NodeAt odds.fr ws.fr ⟨n.var, n.kids.fr, n.leaf⟩ := by
  rcases h with h | ⟨v, hv, hn, h⟩
  · exact .inl h
  · exact .inr ⟨v, hv, hn, h.row, h.len, h.kids⟩
theorem NodeAt.fr2 {odds : OL} {ws : LV} {n : ND} (h : NodeAt odds ws n) : NodeAt odds.fr ws.fr n := by
  rcases h with h | ⟨v, hv, hn, h⟩
  · exact .inl h
  · exact .inr ⟨v, hv, hn, h.row, h.len, h.kids⟩
theorem zR_q : zR.q = 0 := qOf_den0 _ _
theorem zR_ok : ROk 1 zR := ⟨⟨by simp [zR, nilV, Dg], by simp [zR, nilV], fun _ => rfl⟩, ⟨by simp [zR, nilV, Dg], by simp [zR, nilV], fun _ => rfl⟩, by simp [zR, nilV], by simp [zR, nilV]⟩
structure CI (c : CV) (m : Mem) : Prop where
  g0 : m[0]? = some (cC c)
  g1 : m[1]? = some (cR zR)
theorem CI.app {c : CV} {m : Mem} (h : CI c m) (e : Option Ent) : CI c (m ++ [e]) := ⟨get_app h.g0 e, get_app h.g1 e⟩
theorem W7 {c : CV} (hc : COk 30 c) (hs : shapedB c = true) (K : Ex → St → Option (AV × Mem)) : ∀ (j i : Nat) (m : Mem), i + j = c.nodes.es.length → CI c m →
    ∃ m', CI c m' ∧ L7_4 (.ptr 0 0) (.ptr 1 0) c.nodes.av (.int .i64 c.nodes.es.length) (.int .i64 i) m K = match firstF (okAt c) j i with
      | none => K (.exit 0) (O7_4 (.ptr 0 0) (.ptr 1 0) m')
      | some p => K .ret (R7_4 (.ptr 1 0) (.int .i64 p) (.int .i64 32) m')
  | 0, i, m, hij, hm => ⟨m, hm, by rw [L7_4_eq, n_lss, Option.bind_some, ifA_dec, if_neg (by omega)]; rfl⟩
  | j + 1, i, m, hij, hm => by
    have hi : i < c.nodes.es.length := by omega
    have hl := (shaped_lens hs).1
    have hn := hc.nlen
    have hw : i < c.ws.es.length := by omega
    obtain ⟨hna, _⟩ := shaped_node hs hi
    obtain ⟨m', hm', ih⟩ := W7 hc hs K j (i + 1) (m ++ [cN c.nodes.es[i]]) (by omega) (hm.app _)
    obtain ⟨s, s1, s2, s3⟩ := V15 (odds := c.odds.fr) (n := ⟨c.nodes.es[i].var, c.nodes.es[i].kids.fr, c.nodes.es[i].leaf⟩) (ws := c.ws.fr) c.leaf hc.ws.fr' hna.fr
    have s2 : Can s (hasQ c.odds c.ws c.leaf c.nodes.es[i]) := s2
    have okw := hc.ws.ok _ (List.getElem_mem hw)
    have hb : Bd 4000 (hasQ c.odds c.ws c.leaf c.nodes.es[i]) := by
      rcases hna with h | ⟨v, hv, hv2, h⟩
      · rw [hasQ_leaf h]
        split
        · exact Bd_one (by omega)
        · exact Bd_zero (by omega)
      · rw [hasQ_node hv hv2]
        exact sumR_bd2 h hc.ws (Nat.le_refl _)
    have wfr := hc.ws.fr _ (List.getElem_mem hw)
    have e14 := V14 (okw.mono (by omega : 30 ≤ 4000)) (s2.ok hb (by omega)) wfr s3 (by omega) (by omega)
    have hm2 := hm.app (cN c.nodes.es[i])
    have eok : decide (c.ws.es[i].q = s.q) = okAt c i := by
      unfold okAt
      rw [wQ_get hw, getD_nd hi, s2.q]
    rw [eok] at e14
    have key : L7_4 (.ptr 0 0) (.ptr 1 0) c.nodes.av (.int .i64 c.nodes.es.length) (.int .i64 i) m K = ifA (.bool (okAt c i)) (L7_4 (.ptr 0 0) (.ptr 1 0) c.nodes.av (.int .i64 c.nodes.es.length) (.int .i64 ((i + 1 : Nat) : Int)) (m ++ [cN c.nodes.es[i]]) K) (K .ret (R7_4 (.ptr 1 0) (.int .i64 i) (.int .i64 32) ((m ++ [cN c.nodes.es[i]]).set 1 (cR zR)))) := by
      rw [L7_4_eq, n_lss, Option.bind_some, ifA_dec, if_pos hi, index_nl hc.nsh hi, Option.bind_some, load_nd, Option.bind_some]
      simp only [new_n, new_r]
      rw [nst_last, Option.bind_some, fld2, Option.bind_some, cld2 hm2.g0, Option.bind_some, index_lv hc.ws hw, Option.bind_some, load_row, Option.bind_some, fld0, Option.bind_some, cld0 hm2.g0, Option.bind_some, nldA (x := c.nodes.es[i]) get_last, Option.bind_some, fld3, Option.bind_some, cld3 hm2.g0, Option.bind_some, Option.bind_some, cld2 hm2.g0, Option.bind_some, pcall4 (fz_ol _) (fz_nd _) (fz_int _ _) (fz_lv _), s1, Option.map_some, Option.bind_some, pcRR, wfr, s3, e14, Option.map_some, Option.bind_some, not_b, Option.bind_some, ifA_not, i_add1 (by omega), Option.bind_some, bld0', Option.bind_some, rstA hm2.g1, Option.bind_some]
    rw [key, firstF]
    cases okAt c i with
    | true =>
      refine ⟨m', hm', ?_⟩
      rw [ifA_true, ih]; rfl
    | false =>
      refine ⟨(m ++ [cN c.nodes.es[i]]).set 1 (cR zR), ⟨?_, ?_⟩, rfl⟩
      · rw [List.getElem?_set_ne (by omega)]; exact hm2.g0
      · rw [List.getElem?_set_self (List.getElem?_eq_some_iff.1 hm2.g1).1]
theorem V7 {c : CV} (hc : COk 30 c) : ∃ r : RV, AP cfg 7 [c.av] = some (.tup [r.av, .int .i64 (checkI c), .int .i64 (checkE c)]) ∧ r.q = checkQ c ∧ r.fr = r ∧ ROk 4000 r := by
  have fin : ∀ (r : RV) (a b : Int) (m : Mem), r.fr = r → AC cfg 7 [c.av] [] = some (.tup [r.av, .int .i64 a, .int .i64 b], m) → AP cfg 7 [c.av] = some (.tup [r.av, .int .i64 a, .int .i64 b]) := fun r a b m hr h => (AP_ofz _ _ (fz_tupR3 r a b) rfl h).trans (by rw [hr])
  have start : AC cfg 7 [c.av] [] = AC cfg 7 [c.av] [] := rfl
  have g0 : ([cC c, cR zR] : Mem)[0]? = some (cC c) := rfl
  have e13 : AP cfg 13 [c.fr.av] = some (.bool (shapedB c)) := V13 hc.fr
  have hl := hc.nlen
  conv at start => rhs; rw [T7, box_cv, Option.bind_some]
  simp only [new_z', new_r, List.length_nil, List.nil_append, List.length_cons, List.cons_append, Nat.zero_add] at start
  rw [cldA g0, Option.bind_some, pcall1 (fz_cv _), e13, Option.map_some, Option.bind_some, not_b, Option.bind_some, ifA_not] at start
  unfold checkI checkE checkQ checkE
  cases hs : shapedB c with
  | false =>
    rw [hs, ifA_false, bld0', Option.bind_some, st1all, Option.bind_some, ld1all, Option.bind_some] at start
    exact ⟨zR, fin _ _ _ _ zR_fr start, by simp [zR_q], zR_fr, zR_ok.mono (by omega)⟩
  | true =>
    obtain ⟨hl2, hl3⟩ := shaped_lens hs
    obtain ⟨m', hm', hW⟩ := W7 hc hs (K7_4 (finK cfg.P f7.results.toList)) c.nodes.es.length 0 [cC c, cR zR] (by omega) ⟨rfl, rfl⟩
    rw [show (((0 : Nat) : Int)) = (0 : Int) from rfl] at hW
    rw [hs, ifA_true, fld1, Option.bind_some, cld1 g0, Option.bind_some, len_nl, Option.bind_some, hW] at start
    simp only [if_true]
    cases hf : firstF (okAt c) c.nodes.es.length 0 with
    | some p =>
      rw [hf] at start
      dsimp only at start
      rw [K7_4_ret, rldA hm'.g1, Option.bind_some] at start
      exact ⟨zR, fin _ _ _ _ zR_fr start, by simp [zR_q], zR_fr, zR_ok.mono (by omega)⟩
    | none =>
      rw [hf] at start
      dsimp only at start
      have hlast : c.nodes.es.length - 1 < c.ws.es.length := by omega
      have okw := (hc.ws.ok _ (List.getElem_mem hlast)).mono (by omega : 30 ≤ 100)
      have wfr := hc.ws.fr _ (List.getElem_mem hlast)
      obtain ⟨t, t1, t2, t3⟩ := V16 okw (can_zero.ok (Bd_zero (by omega : 1 ≤ 100)) (by omega)) (by omega) (by omega)
      have hsub : binA .other .sub (.int .i64 (c.ws.es.length : Int)) (.int .i64 1) = some (.int .i64 ((c.nodes.es.length - 1 : Nat) : Int)) := by
        rw [binA_sub, wrap_i64 (by omega) (by omega)]
        congr 2
        omega
      rw [K7_4_x0, fld2, Option.bind_some, cld2 hm'.g0, Option.bind_some, Option.bind_some, cld2 hm'.g0, Option.bind_some, len_lv, Option.bind_some, hsub, Option.bind_some, index_lv hc.ws hlast, Option.bind_some, load_row, Option.bind_some, pc0, V17, Option.map_some, Option.bind_some, pcRR, wfr, zeroR_fr, t1, Option.map_some, Option.bind_some, rstA hm'.g1, Option.bind_some, rldA (x := t) (by rw [List.getElem?_set_self (List.getElem?_eq_some_iff.1 hm'.g1).1]), Option.bind_some] at start
      have hq : t.q = wQ c.ws (c.nodes.es.length - 1) := by rw [t2.q, can_zero.q, Rat.add_zero, wQ_get hlast]
      refine ⟨t, fin _ _ _ _ t3 start, by rw [if_pos rfl, hq], t3, ?_⟩
      have : t.q = c.ws.es[c.nodes.es.length - 1].q := by rw [hq, wQ_get hlast]
      have hcan := t2
      rw [can_zero.q, Rat.add_zero] at hcan
      exact hcan.ok ((okw.bd (by omega)).mono (by omega)) (by omega)
/-! ### The reference -/
theorem W8 {c : CV} (hc : COk 30 c) (hs : shapedB c = true) (K : Ex → St → Option (AV × Mem)) : ∀ (j i : Nat), i + j = c.nodes.es.length →
    L8_4 (.ptr 0 0) (.ptr 1 0) (.int .i64 c.nodes.es.length) (.int .i64 i) [cC c, cR zR] K = match firstF (okAt c) j i with
      | none => K (.exit 0) (O8_4 (.ptr 0 0) (.ptr 1 0) [cC c, cR zR])
      | some p => K .ret (R8_4 (.ptr 1 0) (.int .i64 p) (.int .i64 32) [cC c, cR zR])
  | 0, i, hij => by rw [L8_4_eq, n_lss, Option.bind_some, ifA_dec, if_neg (by omega)]; rfl
  | j + 1, i, hij => by
    have hi : i < c.nodes.es.length := by omega
    have hl := (shaped_lens hs).1
    have hn := hc.nlen
    have hw : i < c.ws.es.length := by omega
    have g0 : ([cC c, cR zR] : Mem)[0]? = some (cC c) := rfl
    obtain ⟨hna, hvar⟩ := shaped_node hs hi
    have ih := W8 hc hs K j (i + 1) (by omega)
    obtain ⟨s, s1, s2, s3⟩ := V19 (c := c.fr) hc.ws.fr' hc.nsh (i := i) hi hvar hna.fr2
    have s2 : Can s (hasQ c.odds c.ws c.leaf c.nodes.es[i]) := s2
    have okw := hc.ws.ok _ (List.getElem_mem hw)
    have hb : Bd 4000 (hasQ c.odds c.ws c.leaf c.nodes.es[i]) := by
      rcases hna with h | ⟨v, hv, hv2, h⟩
      · rw [hasQ_leaf h]
        split
        · exact Bd_one (by omega)
        · exact Bd_zero (by omega)
      · rw [hasQ_node hv hv2]
        exact sumR_bd2 h hc.ws (Nat.le_refl _)
    have wfr := hc.ws.fr _ (List.getElem_mem hw)
    have e9 := V9 (okw.mono (by omega : 30 ≤ 4000)) (s2.ok hb (by omega)) (by omega) (by omega)
    have eok : decide (c.ws.es[i].q = s.q) = okAt c i := by
      unfold okAt
      rw [wQ_get hw, getD_nd hi, s2.q]
    rw [eok] at e9
    have key : L8_4 (.ptr 0 0) (.ptr 1 0) (.int .i64 c.nodes.es.length) (.int .i64 i) [cC c, cR zR] K = ifA (.bool (okAt c i)) (L8_4 (.ptr 0 0) (.ptr 1 0) (.int .i64 c.nodes.es.length) (.int .i64 ((i + 1 : Nat) : Int)) [cC c, cR zR] K) (K .ret (R8_4 (.ptr 1 0) (.int .i64 i) (.int .i64 32) [cC c, cR zR])) := by
      rw [L8_4_eq, n_lss, Option.bind_some, ifA_dec, if_pos hi, fld2, Option.bind_some, cld2 g0, Option.bind_some, index_lv hc.ws hw, Option.bind_some, load_row, Option.bind_some, cldA g0, Option.bind_some, pcall2 (fz_cv _) (fz_int _ _), s1, Option.map_some, Option.bind_some, pcRR, wfr, s3, e9, Option.map_some, Option.bind_some, not_b, Option.bind_some, ifA_not, i_add1 (by omega), Option.bind_some, bld0', Option.bind_some, st1all, Option.bind_some]
    rw [key, firstF]
    cases okAt c i with
    | true => rw [ifA_true, ih]; rfl
    | false => rfl
theorem V8 {c : CV} (hc : COk 30 c) : ∃ r : RV, AP cfg 8 [c.av] = some (.tup [r.av, .int .i64 (checkI c), .int .i64 (checkE c)]) ∧ r.q = checkQ c ∧ r.fr = r ∧ ROk 4000 r := by
  have fin : ∀ (r : RV) (a b : Int) (m : Mem), r.fr = r → AC cfg 8 [c.av] [] = some (.tup [r.av, .int .i64 a, .int .i64 b], m) → AP cfg 8 [c.av] = some (.tup [r.av, .int .i64 a, .int .i64 b]) := fun r a b m hr h => (AP_ofz _ _ (fz_tupR3 r a b) rfl h).trans (by rw [hr])
  have start : AC cfg 8 [c.av] [] = AC cfg 8 [c.av] [] := rfl
  have g0 : ([cC c, cR zR] : Mem)[0]? = some (cC c) := rfl
  have e18 : AP cfg 18 [c.fr.av] = some (.bool (shapedB c)) := V18 hc.fr (by omega)
  have hl := hc.nlen
  conv at start => rhs; rw [T8, box_cv, Option.bind_some]
  simp only [new_z', new_r, List.length_nil, List.nil_append, List.length_cons, List.cons_append, Nat.zero_add] at start
  rw [cldA g0, Option.bind_some, pcall1 (fz_cv _), e18, Option.map_some, Option.bind_some, not_b, Option.bind_some, ifA_not] at start
  unfold checkI checkE checkQ checkE
  cases hs : shapedB c with
  | false =>
    rw [hs, ifA_false, bld0', Option.bind_some, st1all, Option.bind_some, ld1all, Option.bind_some] at start
    exact ⟨zR, fin _ _ _ _ zR_fr start, by simp [zR_q], zR_fr, zR_ok.mono (by omega)⟩
  | true =>
    obtain ⟨hl2, hl3⟩ := shaped_lens hs
    have hW := W8 hc hs (K8_4 (finK cfg.P f8.results.toList)) c.nodes.es.length 0 (by omega)
    rw [show (((0 : Nat) : Int)) = (0 : Int) from rfl] at hW
    rw [hs, ifA_true, fld1, Option.bind_some, cld1 g0, Option.bind_some, len_nl, Option.bind_some, hW] at start
    simp only [if_true]
    cases hf : firstF (okAt c) c.nodes.es.length 0 with
    | some p =>
      rw [hf] at start
      dsimp only at start
      rw [K8_4_ret, ld1all, Option.bind_some] at start
      exact ⟨zR, fin _ _ _ _ zR_fr start, by simp [zR_q], zR_fr, zR_ok.mono (by omega)⟩
    | none =>
      rw [hf] at start
      dsimp only at start
      have hlast : c.nodes.es.length - 1 < c.ws.es.length := by omega
      have okw := hc.ws.ok _ (List.getElem_mem hlast)
      have wfr := hc.ws.fr _ (List.getElem_mem hlast)
      have hsub : binA .other .sub (.int .i64 (c.ws.es.length : Int)) (.int .i64 1) = some (.int .i64 ((c.nodes.es.length - 1 : Nat) : Int)) := by
        rw [binA_sub, wrap_i64 (by omega) (by omega)]
        congr 2
        omega
      rw [K8_4_x0, fld2, Option.bind_some, cld2 g0, Option.bind_some, Option.bind_some, cld2 g0, Option.bind_some, len_lv, Option.bind_some, hsub, Option.bind_some, index_lv hc.ws hlast, Option.bind_some, load_row, Option.bind_some, st1all, Option.bind_some, ld1all, Option.bind_some] at start
      exact ⟨_, fin _ _ _ _ wfr start, by rw [if_pos rfl, wQ_get hlast], wfr, okw.mono (by omega)⟩
end Go.Ab
