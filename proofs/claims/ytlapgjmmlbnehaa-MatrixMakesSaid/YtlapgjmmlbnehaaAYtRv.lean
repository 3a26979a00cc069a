/- Lowest terms in the reference; sums and products of ratio, in values. -/
import Derived.Test.YtlapgjmmlbnehaaAYtRu
set_option linter.unusedVariables false
set_option linter.unusedSimpArgs false
set_option maxRecDepth 100000
namespace Go.Ab
open Go.Proofs.Try

theorem V65 {r : RV} {k : Nat} (h : ROk k r) (hk : k < 2 ^ 38) : AP cfg 65 [r.av] = some (.bool (rightR r)) := by
  have ln := Nat.le_trans h.num.v_len h.ln
  have ld := Nat.le_trans h.den.v_len h.ld
  have e1 := V97 h.num.fr
  have e2 := V97 h.den.fr
  have e3 := V99 h.num.fr h.den.fr (by show (digs r.num.v).length < _; omega) (by show (digs r.den.v).length < _; omega)
  have v1 : r.num.fr.v = r.num.v := rfl
  have v2 : r.den.fr.v = r.den.v := rfl
  rw [v1, v2] at e3
  have lg : (digs (Nat.gcd r.num.v r.den.v)).length < 2 ^ 40 := digs_gcd_len (by omega) (by omega)
  have o1 : NOk (refN 1) := refN_ok ln1'
  have e5 := V98 (refN_ok lg) o1
  have e6 := V98 h.den.fr o1
  rw [refN_v, refN_v] at e5
  rw [refN_v, v2] at e6
  have d1 : r.num.fr.ds = r.num.ds := rfl
  have d2 : r.den.fr.ds = r.den.ds := rfl
  rw [d1] at e1
  rw [d2] at e2
  have cm : ∀ n : Nat, (binA .other .eql (.int .i64 (cmpV n 1)) (.int .i64 0)) = some (.bool (decide (n = 1))) := by
    intro n
    rw [binA_eql]
    congr 2
    refine decide_eq_decide.2 ?_
    unfold cmpV
    constructor <;> intro h <;> (repeat' split at *) <;> omega
  refine AP_ofz _ _ (fz_bool _) rfl (m := [cR r]) ?_
  rw [T65]
  simp only [Nat.reduceAdd, Option.bind_some, Option.map_some, box_rv, new_z, new_r, new_zs, new_rs, fld0, fld1, fld2, res1, res2, ld0neg, ld0num, ld0den, ld0all, st0all, st0neg, ld1neg, ld1num, ld1den, ld1all, st1all, st1neg, ld2neg, ld2num, ld2den, ld2all, st2all, st2neg, ld3neg, ld3num, ld3den, ld3all, st3all, st3neg, ld4neg, ld4num, ld4den, ld4all, st4all, st4neg, ex0, ex1, ex2, bld0, bld2, bld12, bld012, nil_av, not_b, bl_neq, bl_eql, List.length_cons, List.length_nil, List.length_append, List.nil_append, List.cons_append, List.append_nil, Nat.zero_add, List.set_cons_zero, List.set_cons_succ, List.set_nil, pcN, pcI, pcNN, pcBNN, pcR, pcRR, pc0, e1]
  unfold rightR
  cases h1 : canB r.num.ds with
  | false => rfl
  | true =>
    simp only [Nat.reduceAdd, Option.bind_some, Option.map_some, box_rv, new_z, new_r, new_zs, new_rs, fld0, fld1, fld2, res1, res2, ld0neg, ld0num, ld0den, ld0all, st0all, st0neg, ld1neg, ld1num, ld1den, ld1all, st1all, st1neg, ld2neg, ld2num, ld2den, ld2all, st2all, st2neg, ld3neg, ld3num, ld3den, ld3all, st3all, st3neg, ld4neg, ld4num, ld4den, ld4all, st4all, st4neg, ex0, ex1, ex2, bld0, bld2, bld12, bld012, nil_av, not_b, bl_neq, bl_eql, List.length_cons, List.length_nil, List.length_append, List.nil_append, List.cons_append, List.append_nil, Nat.zero_add, List.set_cons_zero, List.set_cons_succ, List.set_nil, pcN, pcI, pcNN, pcBNN, pcR, pcRR, pc0, Bool.not_true, ifA_false, e2, Bool.true_and]
    cases h2 : canB r.den.ds with
    | false => rfl
    | true =>
      simp only [Nat.reduceAdd, Option.bind_some, Option.map_some, box_rv, new_z, new_r, new_zs, new_rs, fld0, fld1, fld2, res1, res2, ld0neg, ld0num, ld0den, ld0all, st0all, st0neg, ld1neg, ld1num, ld1den, ld1all, st1all, st1neg, ld2neg, ld2num, ld2den, ld2all, st2all, st2neg, ld3neg, ld3num, ld3den, ld3all, st3all, st3neg, ld4neg, ld4num, ld4den, ld4all, st4all, st4neg, ex0, ex1, ex2, bld0, bld2, bld12, bld012, nil_av, not_b, bl_neq, bl_eql, List.length_cons, List.length_nil, List.length_append, List.nil_append, List.cons_append, List.append_nil, Nat.zero_add, List.set_cons_zero, List.set_cons_succ, List.set_nil, pcN, pcI, pcNN, pcBNN, pcR, pcRR, pc0, Bool.not_true, ifA_false, len_nv, n_eql0, Bool.true_and, canB_len h2]
      rw [ifA_dec]
      by_cases h3 : r.den.v = 0
      · rw [if_pos h3]; simp [h3]
      · rw [if_neg h3]
        simp only [Nat.reduceAdd, Option.bind_some, Option.map_some, box_rv, new_z, new_r, new_zs, new_rs, fld0, fld1, fld2, res1, res2, ld0neg, ld0num, ld0den, ld0all, st0all, st0neg, ld1neg, ld1num, ld1den, ld1all, st1all, st1neg, ld2neg, ld2num, ld2den, ld2all, st2all, st2neg, ld3neg, ld3num, ld3den, ld3all, st3all, st3neg, ld4neg, ld4num, ld4den, ld4all, st4all, st4neg, ex0, ex1, ex2, bld0, bld2, bld12, bld012, nil_av, not_b, bl_neq, bl_eql, List.length_cons, List.length_nil, List.length_append, List.nil_append, List.cons_append, List.append_nil, Nat.zero_add, List.set_cons_zero, List.set_cons_succ, List.set_nil, pcN, pcI, pcNN, pcBNN, pcR, pcRR, pc0, len_nv, n_eql0, canB_len h1]
        rw [ifA_dec]
        by_cases h4 : r.num.v = 0
        · rw [if_pos h4]
          cases hn : r.neg with
          | true => simp only [Nat.reduceAdd, Option.bind_some, Option.map_some, box_rv, new_z, new_r, new_zs, new_rs, fld0, fld1, fld2, res1, res2, ld0neg, ld0num, ld0den, ld0all, st0all, st0neg, ld1neg, ld1num, ld1den, ld1all, st1all, st1neg, ld2neg, ld2num, ld2den, ld2all, st2all, st2neg, ld3neg, ld3num, ld3den, ld3all, st3all, st3neg, ld4neg, ld4num, ld4den, ld4all, st4all, st4neg, ex0, ex1, ex2, bld0, bld2, bld12, bld012, nil_av, not_b, bl_neq, bl_eql, List.length_cons, List.length_nil, List.length_append, List.nil_append, List.cons_append, List.append_nil, Nat.zero_add, List.set_cons_zero, List.set_cons_succ, List.set_nil, pcN, pcI, pcNN, pcBNN, pcR, pcRR, pc0, Bool.not_true, ifA_false]; simp [h4]
          | false =>
            simp only [Nat.reduceAdd, Option.bind_some, Option.map_some, box_rv, new_z, new_r, new_zs, new_rs, fld0, fld1, fld2, res1, res2, ld0neg, ld0num, ld0den, ld0all, st0all, st0neg, ld1neg, ld1num, ld1den, ld1all, st1all, st1neg, ld2neg, ld2num, ld2den, ld2all, st2all, st2neg, ld3neg, ld3num, ld3den, ld3all, st3all, st3neg, ld4neg, ld4num, ld4den, ld4all, st4all, st4neg, ex0, ex1, ex2, bld0, bld2, bld12, bld012, nil_av, not_b, bl_neq, bl_eql, List.length_cons, List.length_nil, List.length_append, List.nil_append, List.cons_append, List.append_nil, Nat.zero_add, List.set_cons_zero, List.set_cons_succ, List.set_nil, pcN, pcI, pcNN, pcBNN, pcR, pcRR, pc0, Bool.not_false, ifA_true, V70one, refN_fr, e6, cm]
            simp [h3, h4]
        · rw [if_neg h4]
          simp only [Nat.reduceAdd, Option.bind_some, Option.map_some, box_rv, new_z, new_r, new_zs, new_rs, fld0, fld1, fld2, res1, res2, ld0neg, ld0num, ld0den, ld0all, st0all, st0neg, ld1neg, ld1num, ld1den, ld1all, st1all, st1neg, ld2neg, ld2num, ld2den, ld2all, st2all, st2neg, ld3neg, ld3num, ld3den, ld3all, st3all, st3neg, ld4neg, ld4num, ld4den, ld4all, st4all, st4neg, ex0, ex1, ex2, bld0, bld2, bld12, bld012, nil_av, not_b, bl_neq, bl_eql, List.length_cons, List.length_nil, List.length_append, List.nil_append, List.cons_append, List.append_nil, Nat.zero_add, List.set_cons_zero, List.set_cons_succ, List.set_nil, pcN, pcI, pcNN, pcBNN, pcR, pcRR, pc0, V70one, e3, refN_fr, e5, cm]
          simp [h3, h4]
/-! ### The program's -/
end Go.Ab
