/- Right of ratio; the reference's fractions, in values. -/
import Derived.Test.YtlapgjmmlbnehaaAYtRs
import Derived.Test.YtlapgjmmlbnehaaAYtRb
set_option linter.unusedVariables false
set_option linter.unusedSimpArgs false
set_option maxRecDepth 100000
namespace Go.Ab
open Go.Proofs.Try

theorem canB_len {x : NV} (h : canB x.ds = true) : decide (x.ds.length = 0) = decide (x.v = 0) := by
  have : x.ds = digs x.v := of_decide_eq_true h
  rw [this]
  exact decide_eq_decide.2 digs_len0
theorem V64 {r : RV} {k : Nat} (h : ROk k r) : AP cfg 64 [r.av] = some (.bool (rightR r)) := by
  have e1 := V94 h.num.fr
  have e2 := V94 h.den.fr
  have e3 := V96 h.num.fr h.den.fr
  have hg := gcdV_ok h.num.fr h.den.fr
  have e4 := V95 hg.fr
  have v4 : (gcdV r.num.fr r.den.fr).fr.v = Nat.gcd r.num.v r.den.v := gcdV_v _ _
  rw [v4] at e4
  have d1 : r.num.fr.ds = r.num.ds := rfl
  have d2 : r.den.fr.ds = r.den.ds := rfl
  rw [d1] at e1
  rw [d2] at e2
  refine AP_ofz _ _ (fz_bool _) rfl (m := [cR r]) ?_
  have one : ∀ n : Nat, binA .other .eql (.int .u64 n) (.int .u64 1) = some (.bool (decide (n = 1))) := fun n => n_eql1
  have tail : ∀ m : Mem, ((some (smallV (Nat.gcd r.num.v r.den.v), m)).bind fun r25 => (extractA r25.1 0).bind fun v26 => (extractA r25.1 1).bind fun v27 =>
      ifA v27 ((binA .other .eql v26 (.int .u64 1)).bind fun v28 => some (v28, r25.2)) (some ((.bool false), r25.2))) = some (.bool (decide (Nat.gcd r.num.v r.den.v = 1)), m) := by
    intro m
    unfold smallV
    split
    · simp only [Nat.reduceAdd, Option.bind_some, Option.map_some, box_rv, new_z, new_r, new_zs, new_rs, fld0, fld1, fld2, res1, res2, ld0neg, ld0num, ld0den, ld0all, st0all, st0neg, ld1neg, ld1num, ld1den, ld1all, st1all, st1neg, ld2neg, ld2num, ld2den, ld2all, st2all, st2neg, ld3neg, ld3num, ld3den, ld3all, st3all, st3neg, ld4neg, ld4num, ld4den, ld4all, st4all, st4neg, ex0, ex1, ex2, bld0, bld2, bld12, bld012, nil_av, not_b, bl_neq, bl_eql, List.length_cons, List.length_nil, List.length_append, List.nil_append, List.cons_append, List.append_nil, Nat.zero_add, List.set_cons_zero, List.set_cons_succ, List.set_nil, pcN, pcI, pcNN, pcBNN, pcR, pcRR, pc0, ifA_true, one]
    · rename_i hb
      simp only [Nat.reduceAdd, Option.bind_some, Option.map_some, box_rv, new_z, new_r, new_zs, new_rs, fld0, fld1, fld2, res1, res2, ld0neg, ld0num, ld0den, ld0all, st0all, st0neg, ld1neg, ld1num, ld1den, ld1all, st1all, st1neg, ld2neg, ld2num, ld2den, ld2all, st2all, st2neg, ld3neg, ld3num, ld3den, ld3all, st3all, st3neg, ld4neg, ld4num, ld4den, ld4all, st4all, st4neg, ex0, ex1, ex2, bld0, bld2, bld12, bld012, nil_av, not_b, bl_neq, bl_eql, List.length_cons, List.length_nil, List.length_append, List.nil_append, List.cons_append, List.append_nil, Nat.zero_add, List.set_cons_zero, List.set_cons_succ, List.set_nil, pcN, pcI, pcNN, pcBNN, pcR, pcRR, pc0, ifA_false]
      rw [decide_eq_false (by omega : ¬ Nat.gcd r.num.v r.den.v = 1)]
  rw [T64]
  simp only [Nat.reduceAdd, Option.bind_some, Option.map_some, box_rv, new_z, new_r, new_zs, new_rs, fld0, fld1, fld2, res1, res2, ld0neg, ld0num, ld0den, ld0all, st0all, st0neg, ld1neg, ld1num, ld1den, ld1all, st1all, st1neg, ld2neg, ld2num, ld2den, ld2all, st2all, st2neg, ld3neg, ld3num, ld3den, ld3all, st3all, st3neg, ld4neg, ld4num, ld4den, ld4all, st4all, st4neg, ex0, ex1, ex2, bld0, bld2, bld12, bld012, nil_av, not_b, bl_neq, bl_eql, List.length_cons, List.length_nil, List.length_append, List.nil_append, List.cons_append, List.append_nil, Nat.zero_add, List.set_cons_zero, List.set_cons_succ, List.set_nil, pcN, pcI, pcNN, pcBNN, pcR, pcRR, pc0, e1]
  unfold rightR
  cases h1 : canB r.num.ds with
  | false => rfl
  | true =>
    simp only [Nat.reduceAdd, Option.bind_some, Option.map_some, box_rv, new_z, new_r, new_zs, new_rs, fld0, fld1, fld2, res1, res2, ld0neg, ld0num, ld0den, ld0all, st0all, st0neg, ld1neg, ld1num, ld1den, ld1all, st1all, st1neg, ld2neg, ld2num, ld2den, ld2all, st2all, st2neg, ld3neg, ld3num, ld3den, ld3all, st3all, st3neg, ld4neg, ld4num, ld4den, ld4all, st4all, st4neg, ex0, ex1, ex2, bld0, bld2, bld12, bld012, nil_av, not_b, bl_neq, bl_eql, List.length_cons, List.length_nil, List.length_append, List.nil_append, List.cons_append, List.append_nil, Nat.zero_add, List.set_cons_zero, List.set_cons_succ, List.set_nil, pcN, pcI, pcNN, pcBNN, pcR, pcRR, pc0, Bool.not_true, ifA_false, e2, Bool.true_and]
    cases h2 : canB r.den.ds with
    | false => rfl
    | true =>
      simp only [Nat.reduceAdd, Option.bind_some, Option.map_some, box_rv, new_z, new_r, new_zs, new_rs, fld0, fld1, fld2, res1, res2, ld0neg, ld0num, ld0den, ld0all, st0all, st0neg, ld1neg, ld1num, ld1den, ld1all, st1all, st1neg, ld2neg, ld2num, ld2den, ld2all, st2all, st2neg, ld3neg, ld3num, ld3den, ld3all, st3all, st3neg, ld4neg, ld4num, ld4den, ld4all, st4all, st4neg, ex0, ex1, ex2, bld0, bld2, bld12, bld012, nil_av, not_b, bl_neq, bl_eql, List.length_cons, List.length_nil, List.length_append, List.nil_append, List.cons_append, List.append_nil, Nat.zero_add, List.set_cons_zero, List.set_cons_succ, List.set_nil, pcN, pcI, pcNN, pcBNN, pcR, pcRR, pc0, Bool.not_true, ifA_false, len_nv, n_eql0, Bool.true_and, canB_len h2]
      rw [ifA_dec]
      by_cases h3 : r.den.v = 0
      · rw [if_pos h3]; simp [h3]
      · rw [if_neg h3]
        simp only [Nat.reduceAdd, Option.bind_some, Option.map_some, box_rv, new_z, new_r, new_zs, new_rs, fld0, fld1, fld2, res1, res2, ld0neg, ld0num, ld0den, ld0all, st0all, st0neg, ld1neg, ld1num, ld1den, ld1all, st1all, st1neg, ld2neg, ld2num, ld2den, ld2all, st2all, st2neg, ld3neg, ld3num, ld3den, ld3all, st3all, st3neg, ld4neg, ld4num, ld4den, ld4all, st4all, st4neg, ex0, ex1, ex2, bld0, bld2, bld12, bld012, nil_av, not_b, bl_neq, bl_eql, List.length_cons, List.length_nil, List.length_append, List.nil_append, List.cons_append, List.append_nil, Nat.zero_add, List.set_cons_zero, List.set_cons_succ, List.set_nil, pcN, pcI, pcNN, pcBNN, pcR, pcRR, pc0, len_nv, n_eql0, canB_len h1]
        rw [ifA_dec]
        by_cases h4 : r.num.v = 0
        · rw [if_pos h4]
          cases hn : r.neg with
          | true => rw [ifA_true]; simp [h4]
          | false =>
            rw [ifA_false]
            simp only [Nat.reduceAdd, Option.bind_some, Option.map_some, box_rv, new_z, new_r, new_zs, new_rs, fld0, fld1, fld2, res1, res2, ld0neg, ld0num, ld0den, ld0all, st0all, st0neg, ld1neg, ld1num, ld1den, ld1all, st1all, st1neg, ld2neg, ld2num, ld2den, ld2all, st2all, st2neg, ld3neg, ld3num, ld3den, ld3all, st3all, st3neg, ld4neg, ld4num, ld4den, ld4all, st4all, st4neg, ex0, ex1, ex2, bld0, bld2, bld12, bld012, nil_av, not_b, bl_neq, bl_eql, List.length_cons, List.length_nil, List.length_append, List.nil_append, List.cons_append, List.append_nil, Nat.zero_add, List.set_cons_zero, List.set_cons_succ, List.set_nil, pcN, pcI, pcNN, pcBNN, pcR, pcRR, pc0, e3, e4]
            refine (tail _).trans ?_
            simp [h3]
        · rw [if_neg h4]
          simp only [Nat.reduceAdd, Option.bind_some, Option.map_some, box_rv, new_z, new_r, new_zs, new_rs, fld0, fld1, fld2, res1, res2, ld0neg, ld0num, ld0den, ld0all, st0all, st0neg, ld1neg, ld1num, ld1den, ld1all, st1all, st1neg, ld2neg, ld2num, ld2den, ld2all, st2all, st2neg, ld3neg, ld3num, ld3den, ld3all, st3all, st3neg, ld4neg, ld4num, ld4den, ld4all, st4all, st4neg, ex0, ex1, ex2, bld0, bld2, bld12, bld012, nil_av, not_b, bl_neq, bl_eql, List.length_cons, List.length_nil, List.length_append, List.nil_append, List.cons_append, List.append_nil, Nat.zero_add, List.set_cons_zero, List.set_cons_succ, List.set_nil, pcN, pcI, pcNN, pcBNN, pcR, pcRR, pc0, e3, e4]
          refine (tail _).trans ?_
          simp [h3, h4]

/-! ### The reference -/
theorem V70one : AP cfg 70 [.int .u64 1] = some (refN 1).av := V70 (n := 1) (by omega)
def zeroF : RV := ⟨false, nilV, refN 1⟩
def oneF : RV := ⟨false, refN 1, refN 1⟩
theorem refN_can (n : Nat) : (refN n).z = true → (refN n).ds = [] := by
  intro h
  unfold refN rowN at h ⊢
  split at h
  · split <;> first | rfl | (rename_i h1 h2; exact absurd h1 h2)
  · cases h
theorem canF_zero : Can zeroF 0 := ⟨rfl, digs_zero.symm, refN_ds 1, fun _ => rfl, refN_can 1⟩
theorem canF_one : Can oneF 1 := ⟨rfl, refN_ds 1, refN_ds 1, refN_can 1, refN_can 1⟩
theorem zeroF_fr : zeroF.fr = zeroF := by simp only [zeroF, RV.fr, refN_fr]; rfl
theorem oneF_fr : oneF.fr = oneF := by simp only [oneF, RV.fr, refN_fr]
theorem V31 : AP cfg 31 [] = some zeroF.av := by
  refine (AP_ofz _ _ (fz_rv zeroF) (noV_rv _) (m := [cR zeroF]) ?_).trans (by rw [zeroF_fr])
  rw [T31]
  simp only [Nat.reduceAdd, Option.bind_some, Option.map_some, box_rv, new_z, new_r, new_zs, new_rs, fld0, fld1, fld2, res1, res2, ld0neg, ld0num, ld0den, ld0all, st0all, st0neg, ld1neg, ld1num, ld1den, ld1all, st1all, st1neg, ld2neg, ld2num, ld2den, ld2all, st2all, st2neg, ld3neg, ld3num, ld3den, ld3all, st3all, st3neg, ld4neg, ld4num, ld4den, ld4all, st4all, st4neg, ex0, ex1, ex2, bld0, bld2, bld12, bld012, nil_av, not_b, bl_neq, bl_eql, List.length_cons, List.length_nil, List.length_append, List.nil_append, List.cons_append, List.append_nil, Nat.zero_add, List.set_cons_zero, List.set_cons_succ, List.set_nil, pcN, pcI, pcNN, pcBNN, pcR, pcRR, pc0, V70one]
  rfl
theorem V28 : AP cfg 28 [] = some oneF.av := by
  refine (AP_ofz _ _ (fz_rv oneF) (noV_rv _) (m := [cR oneF]) ?_).trans (by rw [oneF_fr])
  rw [T28]
  simp only [Nat.reduceAdd, Option.bind_some, Option.map_some, box_rv, new_z, new_r, new_zs, new_rs, fld0, fld1, fld2, res1, res2, ld0neg, ld0num, ld0den, ld0all, st0all, st0neg, ld1neg, ld1num, ld1den, ld1all, st1all, st1neg, ld2neg, ld2num, ld2den, ld2all, st2all, st2neg, ld3neg, ld3num, ld3den, ld3all, st3all, st3neg, ld4neg, ld4num, ld4den, ld4all, st4all, st4neg, ex0, ex1, ex2, bld0, bld2, bld12, bld012, nil_av, not_b, bl_neq, bl_eql, List.length_cons, List.length_nil, List.length_append, List.nil_append, List.cons_append, List.append_nil, Nat.zero_add, List.set_cons_zero, List.set_cons_succ, List.set_nil, pcN, pcI, pcNN, pcBNN, pcR, pcRR, pc0, V70one]
  rfl
theorem eq0' (k : Nat) : binA .other .eql (.int .i64 k) (.int .i64 0) = some (.bool (decide (k = 0))) := n_eql0
theorem V69 {x y : NV} (neg : Bool) (hx : NOk x) (hy : NOk y) (lx : (digs x.v).length < 2 ^ 38) (ly : (digs y.v).length < 2 ^ 38) : (y.v = 0 ∧ AP cfg 69 [.bool neg, x.av, y.av] = some (.tup [zR.av, .int .i64 31])) ∨
    (y.v ≠ 0 ∧ ∃ r : RV, AP cfg 69 [.bool neg, x.av, y.av] = some (.tup [r.av, .int .i64 0]) ∧ Can r (qOf neg x.v y.v) ∧ r.fr = r) := by
  obtain ⟨kb, e0, e0'⟩ := V101 hy.fr
  have e1 := V99 hx.fr hy.fr lx ly
  have v1 : x.fr.v = x.v := rfl
  have v2 : y.fr.v = y.v := rfl
  rw [v1, v2] at e1
  rw [v2] at e0'
  have lg : (digs (Nat.gcd x.v y.v)).length < 2 ^ 38 := by
    by_cases h0 : x.v = 0
    · rw [h0, Nat.gcd_zero_left]; exact ly
    · exact Nat.lt_of_le_of_lt (digs_mono (Nat.gcd_le_left _ (Nat.pos_of_ne_zero h0))) lx
  have hg : NOk (refN (Nat.gcd x.v y.v)) := refN_ok (by omega)
  have e3 := V102 hx.fr hg (by rw [v1]; omega) (by rw [refN_v]; omega)
  have e4 := V102 hy.fr hg (by rw [v2]; omega) (by rw [refN_v]; omega)
  by_cases h0 : y.v = 0
  · refine .inl ⟨h0, AP_ofz _ _ (fz_tupR2 zR (fza_int _ _)) rfl (m := [cR zR]) ?_⟩
    rw [T69]
    simp only [Nat.reduceAdd, Option.bind_some, Option.map_some, box_rv, new_z, new_r, new_zs, new_rs, fld0, fld1, fld2, res1, res2, ld0neg, ld0num, ld0den, ld0all, st0all, st0neg, ld1neg, ld1num, ld1den, ld1all, st1all, st1neg, ld2neg, ld2num, ld2den, ld2all, st2all, st2neg, ld3neg, ld3num, ld3den, ld3all, st3all, st3neg, ld4neg, ld4num, ld4den, ld4all, st4all, st4neg, ex0, ex1, ex2, bld0, bld2, bld12, bld012, nil_av, not_b, bl_neq, bl_eql, List.length_cons, List.length_nil, List.length_append, List.nil_append, List.cons_append, List.append_nil, Nat.zero_add, List.set_cons_zero, List.set_cons_succ, List.set_nil, pcN, pcI, pcNN, pcBNN, pcR, pcRR, pc0, e0, eq0', ifA_dec]
    rw [if_pos (e0'.2 h0)]
  · refine .inr ⟨h0, ?_⟩
    have hgp : Nat.gcd x.v y.v ≠ 0 := by
      have := Nat.gcd_pos_of_pos_right x.v (Nat.pos_of_ne_zero h0)
      omega
    unfold divR2 at e3 e4
    rw [refN_v, if_neg hgp, v1] at e3
    rw [refN_v, if_neg hgp, v2] at e4
    refine ⟨⟨neg && decide (x.v / Nat.gcd x.v y.v > 0), refN (x.v / Nat.gcd x.v y.v), refN (y.v / Nat.gcd x.v y.v)⟩, ?_, ⟨(qOf_neg h0).symm, ?_, ?_, refN_can _, refN_can _⟩, ?_⟩
    · refine (AP_ofz _ _ (fz_tupR2 ⟨neg && decide (x.v / Nat.gcd x.v y.v > 0), refN (x.v / Nat.gcd x.v y.v), refN (y.v / Nat.gcd x.v y.v)⟩ (fza_int .i64 0)) rfl (m := [cR ⟨neg && decide (x.v / Nat.gcd x.v y.v > 0), refN (x.v / Nat.gcd x.v y.v), refN (y.v / Nat.gcd x.v y.v)⟩]) ?_).trans (by simp only [RV.fr, refN_fr])
      rw [T69]
      simp only [Nat.reduceAdd, Option.bind_some, Option.map_some, box_rv, new_z, new_r, new_zs, new_rs, fld0, fld1, fld2, res1, res2, ld0neg, ld0num, ld0den, ld0all, st0all, st0neg, ld1neg, ld1num, ld1den, ld1all, st1all, st1neg, ld2neg, ld2num, ld2den, ld2all, st2all, st2neg, ld3neg, ld3num, ld3den, ld3all, st3all, st3neg, ld4neg, ld4num, ld4den, ld4all, st4all, st4neg, ex0, ex1, ex2, bld0, bld2, bld12, bld012, nil_av, not_b, bl_neq, bl_eql, List.length_cons, List.length_nil, List.length_append, List.nil_append, List.cons_append, List.append_nil, Nat.zero_add, List.set_cons_zero, List.set_cons_succ, List.set_nil, pcN, pcI, pcNN, pcBNN, pcR, pcRR, pc0, e0, eq0', ifA_dec]
      rw [if_neg (fun h => h0 (e0'.1 h))]
      simp only [Nat.reduceAdd, Option.bind_some, Option.map_some, box_rv, new_z, new_r, new_zs, new_rs, fld0, fld1, fld2, res1, res2, ld0neg, ld0num, ld0den, ld0all, st0all, st0neg, ld1neg, ld1num, ld1den, ld1all, st1all, st1neg, ld2neg, ld2num, ld2den, ld2all, st2all, st2neg, ld3neg, ld3num, ld3den, ld3all, st3all, st3neg, ld4neg, ld4num, ld4den, ld4all, st4all, st4neg, ex0, ex1, ex2, bld0, bld2, bld12, bld012, nil_av, not_b, bl_neq, bl_eql, List.length_cons, List.length_nil, List.length_append, List.nil_append, List.cons_append, List.append_nil, Nat.zero_add, List.set_cons_zero, List.set_cons_succ, List.set_nil, pcN, pcI, pcNN, pcBNN, pcR, pcRR, pc0, e1, refN_fr, e3, e4, refN_len, n_gtr0]
      have hlen : decide ((digs (x.v / Nat.gcd x.v y.v)).length > 0) = decide (x.v / Nat.gcd x.v y.v > 0) := decide_eq_decide.2 (by
        constructor
        · intro h
          apply Nat.pos_of_ne_zero
          intro e
          rw [e, digs_zero] at h
          simp at h
        · intro h
          have : (digs (x.v / Nat.gcd x.v y.v)).length ≠ 0 := fun e => by have := digs_len0.1 e; omega
          omega)
      cases neg with
      | false => rfl
      | true =>
        rw [ifA_true, hlen]
        simp only [Nat.reduceAdd, Option.bind_some, Option.map_some, box_rv, new_z, new_r, new_zs, new_rs, fld0, fld1, fld2, res1, res2, ld0neg, ld0num, ld0den, ld0all, st0all, st0neg, ld1neg, ld1num, ld1den, ld1all, st1all, st1neg, ld2neg, ld2num, ld2den, ld2all, st2all, st2neg, ld3neg, ld3num, ld3den, ld3all, st3all, st3neg, ld4neg, ld4num, ld4den, ld4all, st4all, st4neg, ex0, ex1, ex2, bld0, bld2, bld12, bld012, nil_av, not_b, bl_neq, bl_eql, List.length_cons, List.length_nil, List.length_append, List.nil_append, List.cons_append, List.append_nil, Nat.zero_add, List.set_cons_zero, List.set_cons_succ, List.set_nil, pcN, pcI, pcNN, pcBNN, pcR, pcRR, pc0, Bool.true_and]
    · rw [qOf_abs h0]; exact refN_ds _
    · rw [qOf_den h0]; exact refN_ds _
    · simp only [RV.fr, refN_fr]
theorem V71 {r : RV} {k : Nat} (h : ROk k r) (hk : k < 2 ^ 38) : ∃ s : RV, AP cfg 71 [r.av] = some s.av ∧ Can s r.q ∧ s.fr = s := by
  have ln := Nat.le_trans h.num.v_len h.ln
  have ld := Nat.le_trans h.den.v_len h.ld
  rcases V69 r.neg h.num.fr h.den.fr (by show (digs r.num.v).length < _; omega) (by show (digs r.den.v).length < _; omega) with ⟨h0, h1⟩ | ⟨h0, s, h1, h2, h3⟩
  · refine ⟨zeroF, (AP_ofz _ _ (fz_rv zeroF) (noV_rv _) (m := [cR r, cR zeroF, cR zR]) ?_).trans (by rw [zeroF_fr]), ?_, zeroF_fr⟩
    · rw [T71]
      simp only [Nat.reduceAdd, Option.bind_some, Option.map_some, box_rv, new_z, new_r, new_zs, new_rs, fld0, fld1, fld2, res1, res2, ld0neg, ld0num, ld0den, ld0all, st0all, st0neg, ld1neg, ld1num, ld1den, ld1all, st1all, st1neg, ld2neg, ld2num, ld2den, ld2all, st2all, st2neg, ld3neg, ld3num, ld3den, ld3all, st3all, st3neg, ld4neg, ld4num, ld4den, ld4all, st4all, st4neg, ex0, ex1, ex2, bld0, bld2, bld12, bld012, nil_av, not_b, bl_neq, bl_eql, List.length_cons, List.length_nil, List.length_append, List.nil_append, List.cons_append, List.append_nil, Nat.zero_add, List.set_cons_zero, List.set_cons_succ, List.set_nil, pcN, pcI, pcNN, pcBNN, pcR, pcRR, pc0, h1, binA_neq, ifA_dec]
      rw [if_pos (by decide)]
      simp only [Nat.reduceAdd, Option.bind_some, Option.map_some, box_rv, new_z, new_r, new_zs, new_rs, fld0, fld1, fld2, res1, res2, ld0neg, ld0num, ld0den, ld0all, st0all, st0neg, ld1neg, ld1num, ld1den, ld1all, st1all, st1neg, ld2neg, ld2num, ld2den, ld2all, st2all, st2neg, ld3neg, ld3num, ld3den, ld3all, st3all, st3neg, ld4neg, ld4num, ld4den, ld4all, st4all, st4neg, ex0, ex1, ex2, bld0, bld2, bld12, bld012, nil_av, not_b, bl_neq, bl_eql, List.length_cons, List.length_nil, List.length_append, List.nil_append, List.cons_append, List.append_nil, Nat.zero_add, List.set_cons_zero, List.set_cons_succ, List.set_nil, pcN, pcI, pcNN, pcBNN, pcR, pcRR, pc0, V31]
    · have : r.den.v = 0 := h0
      rw [RV.q, this, qOf_den0]; exact canF_zero
  · refine ⟨s, (AP_ofz _ _ (fz_rv s) (noV_rv _) (m := [cR r, cR s, cR s]) ?_).trans (by rw [h3]), h2, h3⟩
    rw [T71]
    simp only [Nat.reduceAdd, Option.bind_some, Option.map_some, box_rv, new_z, new_r, new_zs, new_rs, fld0, fld1, fld2, res1, res2, ld0neg, ld0num, ld0den, ld0all, st0all, st0neg, ld1neg, ld1num, ld1den, ld1all, st1all, st1neg, ld2neg, ld2num, ld2den, ld2all, st2all, st2neg, ld3neg, ld3num, ld3den, ld3all, st3all, st3neg, ld4neg, ld4num, ld4den, ld4all, st4all, st4neg, ex0, ex1, ex2, bld0, bld2, bld12, bld012, nil_av, not_b, bl_neq, bl_eql, List.length_cons, List.length_nil, List.length_append, List.nil_append, List.cons_append, List.append_nil, Nat.zero_add, List.set_cons_zero, List.set_cons_succ, List.set_nil, pcN, pcI, pcNN, pcBNN, pcR, pcRR, pc0, h1, binA_neq, ifA_dec]
    rw [if_neg (by decide)]
end Go.Ab
