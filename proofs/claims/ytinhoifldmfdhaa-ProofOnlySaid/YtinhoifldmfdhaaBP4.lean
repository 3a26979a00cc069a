/- Lowest terms in the reference; sums and products of ratio, in values. -/
import Derived.Test.YtinhoifldmfdhaaBP3
import Derived.Test.YtinhoifldmfdhaaBP1
import Derived.Test.YtinhoifldmfdhaaBP2
import Derived.Test.YtinhoifldmfdhaaBP0
import Derived.ProofKit
import Derived.OpenShut
import Derived.ChangeArms
import Derived.KernelRfl
set_option linter.unusedVariables false
set_option linter.unusedSimpArgs false
set_option maxRecDepth 100000
namespace Go.Ab
open Go.Proofs.Try

/-! ### The program's -/
theorem V34 {a b : RV} {k : Nat} (ha : ROk k a) (hb : ROk k b) (hk1 : 1 ≤ k) (hk : k < 2 ^ 36) : ∃ s : RV, AP cfg 34 [a.av, b.av] = some s.av ∧ Can s (a.q * b.q) ∧ s.fr = s := by
  have g1 := V38 ha.num.fr hb.num.fr
  have g2 := V38 ha.den.fr hb.den.fr
  have v1 : a.num.fr.v = a.num.v := rfl
  have v2 : a.den.fr.v = a.den.v := rfl
  have v3 : b.num.fr.v = b.num.v := rfl
  have v4 : b.den.fr.v = b.den.v := rfl
  rw [v1, v3] at g1
  rw [v2, v4] at g2
  have ln := ln_mul (Nat.le_trans ha.num.v_len ha.ln) (Nat.le_trans hb.num.v_len hb.ln)
  have ld := ln_mul (Nat.le_trans ha.den.v_len ha.ld) (Nat.le_trans hb.den.v_len hb.ld)
  have on : NOk ⟨false, .no, digs (a.num.v * b.num.v)⟩ := nok_digs (by omega)
  have od : NOk ⟨false, .no, digs (a.den.v * b.den.v)⟩ := nok_digs (by omega)
  have nf : ∀ n : Nat, (NV.mk false .no (digs n)).fr = ⟨false, .no, digs n⟩ := fun _ => rfl
  have nv : ∀ n : Nat, (NV.mk false .no (digs n)).v = n := fun n => val_digs n
  obtain ⟨r, h1, h2, h3⟩ := V37 (a.neg != b.neg) on od
  rw [nv, nv, ← qOf_mul] at h2
  refine ⟨r, (AP_ofz _ _ (fz_rv r) (noV_rv _) (m := [cR a, cR b, cR r]) ?_).trans (by rw [h3]), h2, h3⟩
  rw [T34]
  simp only [Nat.reduceAdd, Option.bind_some, Option.map_some, box_rv, new_z, new_r, new_zs, new_rs, fld0, fld1, fld2, res1, res2, ld0neg, ld0num, ld0den, ld0all, st0all, st0neg, ld1neg, ld1num, ld1den, ld1all, st1all, st1neg, ld2neg, ld2num, ld2den, ld2all, st2all, st2neg, ld3neg, ld3num, ld3den, ld3all, st3all, st3neg, ld4neg, ld4num, ld4den, ld4all, st4all, st4neg, ex0, ex1, ex2, bld0, bld2, bld12, bld012, nil_av, not_b, bl_neq, bl_eql, List.length_cons, List.length_nil, List.length_append, List.nil_append, List.cons_append, List.append_nil, Nat.zero_add, List.set_cons_zero, List.set_cons_succ, List.set_nil, pcN, pcI, pcNN, pcBNN, pcR, pcRR, pc0, g1, g2, nf, h1]
theorem signR_zero {r : RV} : signR r = 0 ↔ r.q = 0 := by
  unfold signR
  by_cases h : r.num.v = 0 ∨ r.den.v = 0
  · rw [if_pos h]
    refine ⟨fun _ => ?_, fun _ => rfl⟩
    rcases h with h | h
    · rw [RV.q, h, qOf_num0]
    · rw [RV.q, h, qOf_den0]
  · rw [if_neg h]
    constructor
    · intro h'; split at h' <;> omega
    · intro h'
      have hd : r.den.v ≠ 0 := fun e => h (.inr e)
      exact absurd (.inl ((qOf_eq0 hd).1 h')) h
theorem V16 {a b : RV} {k : Nat} (ha : ROk k a) (hb : ROk k b) (hk1 : 1 ≤ k) (hk : k < 2 ^ 36) : ∃ s : RV, AP cfg 16 [a.av, b.av] = some s.av ∧ Can s (a.q + b.q) ∧ s.fr = s := by
  have e1 := V36 ha.fr
  have e2 := V36 hb.fr
  have s1 : signR a.fr = signR a := rfl
  have s2 : signR b.fr = signR b := rfl
  rw [s1] at e1
  rw [s2] at e2
  have v1 : a.num.fr.v = a.num.v := rfl
  have v2 : a.den.fr.v = a.den.v := rfl
  have v3 : b.num.fr.v = b.num.v := rfl
  have v4 : b.den.fr.v = b.den.v := rfl
  by_cases ha0 : signR a = 0
  · obtain ⟨r, h1, h2, h3⟩ := V37 b.neg hb.num.fr hb.den.fr
    rw [v3, v4] at h2
    refine ⟨r, (AP_ofz _ _ (fz_rv r) (noV_rv _) (m := [cR a, cR b, cR r]) ?_).trans (by rw [h3]), ?_, h3⟩
    · rw [T16]
      simp only [Nat.reduceAdd, Option.bind_some, Option.map_some, box_rv, new_z, new_r, new_zs, new_rs, fld0, fld1, fld2, res1, res2, ld0neg, ld0num, ld0den, ld0all, st0all, st0neg, ld1neg, ld1num, ld1den, ld1all, st1all, st1neg, ld2neg, ld2num, ld2den, ld2all, st2all, st2neg, ld3neg, ld3num, ld3den, ld3all, st3all, st3neg, ld4neg, ld4num, ld4den, ld4all, st4all, st4neg, ex0, ex1, ex2, bld0, bld2, bld12, bld012, nil_av, not_b, bl_neq, bl_eql, List.length_cons, List.length_nil, List.length_append, List.nil_append, List.cons_append, List.append_nil, Nat.zero_add, List.set_cons_zero, List.set_cons_succ, List.set_nil, pcN, pcI, pcNN, pcBNN, pcR, pcRR, pc0, e1, binA_eql, ifA_dec]
      rw [if_pos ha0]
      simp only [Nat.reduceAdd, Option.bind_some, Option.map_some, box_rv, new_z, new_r, new_zs, new_rs, fld0, fld1, fld2, res1, res2, ld0neg, ld0num, ld0den, ld0all, st0all, st0neg, ld1neg, ld1num, ld1den, ld1all, st1all, st1neg, ld2neg, ld2num, ld2den, ld2all, st2all, st2neg, ld3neg, ld3num, ld3den, ld3all, st3all, st3neg, ld4neg, ld4num, ld4den, ld4all, st4all, st4neg, ex0, ex1, ex2, bld0, bld2, bld12, bld012, nil_av, not_b, bl_neq, bl_eql, List.length_cons, List.length_nil, List.length_append, List.nil_append, List.cons_append, List.append_nil, Nat.zero_add, List.set_cons_zero, List.set_cons_succ, List.set_nil, pcN, pcI, pcNN, pcBNN, pcR, pcRR, pc0, h1]
    · rw [signR_zero.1 ha0, Rat.zero_add]; exact h2
  · by_cases hb0 : signR b = 0
    · obtain ⟨r, h1, h2, h3⟩ := V37 a.neg ha.num.fr ha.den.fr
      rw [v1, v2] at h2
      refine ⟨r, (AP_ofz _ _ (fz_rv r) (noV_rv _) (m := [cR a, cR b, cR r]) ?_).trans (by rw [h3]), ?_, h3⟩
      · rw [T16]
        simp only [Nat.reduceAdd, Option.bind_some, Option.map_some, box_rv, new_z, new_r, new_zs, new_rs, fld0, fld1, fld2, res1, res2, ld0neg, ld0num, ld0den, ld0all, st0all, st0neg, ld1neg, ld1num, ld1den, ld1all, st1all, st1neg, ld2neg, ld2num, ld2den, ld2all, st2all, st2neg, ld3neg, ld3num, ld3den, ld3all, st3all, st3neg, ld4neg, ld4num, ld4den, ld4all, st4all, st4neg, ex0, ex1, ex2, bld0, bld2, bld12, bld012, nil_av, not_b, bl_neq, bl_eql, List.length_cons, List.length_nil, List.length_append, List.nil_append, List.cons_append, List.append_nil, Nat.zero_add, List.set_cons_zero, List.set_cons_succ, List.set_nil, pcN, pcI, pcNN, pcBNN, pcR, pcRR, pc0, e1, binA_eql, ifA_dec]
        rw [if_neg ha0]
        simp only [Nat.reduceAdd, Option.bind_some, Option.map_some, box_rv, new_z, new_r, new_zs, new_rs, fld0, fld1, fld2, res1, res2, ld0neg, ld0num, ld0den, ld0all, st0all, st0neg, ld1neg, ld1num, ld1den, ld1all, st1all, st1neg, ld2neg, ld2num, ld2den, ld2all, st2all, st2neg, ld3neg, ld3num, ld3den, ld3all, st3all, st3neg, ld4neg, ld4num, ld4den, ld4all, st4all, st4neg, ex0, ex1, ex2, bld0, bld2, bld12, bld012, nil_av, not_b, bl_neq, bl_eql, List.length_cons, List.length_nil, List.length_append, List.nil_append, List.cons_append, List.append_nil, Nat.zero_add, List.set_cons_zero, List.set_cons_succ, List.set_nil, pcN, pcI, pcNN, pcBNN, pcR, pcRR, pc0, e2, binA_eql, ifA_dec]
        rw [if_pos hb0]
        simp only [Nat.reduceAdd, Option.bind_some, Option.map_some, box_rv, new_z, new_r, new_zs, new_rs, fld0, fld1, fld2, res1, res2, ld0neg, ld0num, ld0den, ld0all, st0all, st0neg, ld1neg, ld1num, ld1den, ld1all, st1all, st1neg, ld2neg, ld2num, ld2den, ld2all, st2all, st2neg, ld3neg, ld3num, ld3den, ld3all, st3all, st3neg, ld4neg, ld4num, ld4den, ld4all, st4all, st4neg, ex0, ex1, ex2, bld0, bld2, bld12, bld012, nil_av, not_b, bl_neq, bl_eql, List.length_cons, List.length_nil, List.length_append, List.nil_append, List.cons_append, List.append_nil, Nat.zero_add, List.set_cons_zero, List.set_cons_succ, List.set_nil, pcN, pcI, pcNN, pcBNN, pcR, pcRR, pc0, h1]
      · rw [signR_zero.1 hb0, Rat.add_zero]; exact h2
    · have da : a.den.v ≠ 0 := fun e => ha0 (by unfold signR; rw [if_pos (.inr e)])
      have db : b.den.v ≠ 0 := fun e => hb0 (by unfold signR; rw [if_pos (.inr e)])
      have g1 := V38 ha.num.fr hb.den.fr
      have g2 := V38 hb.num.fr ha.den.fr
      have g3 := V38 ha.den.fr hb.den.fr
      rw [v1, v4] at g1
      rw [v3, v2] at g2
      rw [v2, v4] at g3
      have lx := ln_mul (Nat.le_trans ha.num.v_len ha.ln) (Nat.le_trans hb.den.v_len hb.ld)
      have ly := ln_mul (Nat.le_trans hb.num.v_len hb.ln) (Nat.le_trans ha.den.v_len ha.ld)
      have ld := ln_mul (Nat.le_trans ha.den.v_len ha.ld) (Nat.le_trans hb.den.v_len hb.ld)
      have lxy := ln_add lx ly
      have ox : NOk ⟨false, .no, digs (a.num.v * b.den.v)⟩ := nok_digs (by omega)
      have oy : NOk ⟨false, .no, digs (b.num.v * a.den.v)⟩ := nok_digs (by omega)
      have od : NOk ⟨false, .no, digs (a.den.v * b.den.v)⟩ := nok_digs (by omega)
      have nf : ∀ n : Nat, (NV.mk false .no (digs n)).fr = ⟨false, .no, digs n⟩ := fun _ => rfl
      have nv : ∀ n : Nat, (NV.mk false .no (digs n)).v = n := fun n => val_digs n
      have g4 := V39 ox oy
      have g5 := V40 ox oy
      have g6 := V41 ox oy
      have g7 := V41 oy ox
      rw [nv, nv] at g4 g5
      unfold subV at g6 g7
      rw [nv, nv] at g6 g7
      have hsum : a.q + b.q = mkRat (sgn a.neg (a.num.v * b.den.v) + sgn b.neg (b.num.v * a.den.v)) (a.den.v * b.den.v) := qOf_add da db
      have fin : ∀ (neg : Bool) (n : Nat), (digs n).length < 2 ^ 38 → mkRat (sgn a.neg (a.num.v * b.den.v) + sgn b.neg (b.num.v * a.den.v)) (a.den.v * b.den.v) = qOf neg n (a.den.v * b.den.v) → ∃ r : RV, AP cfg 37 [.bool neg, (NV.mk false .no (digs n)).av, (NV.mk false .no (digs (a.den.v * b.den.v))).av] = some r.av ∧ Can r (a.q + b.q) ∧ r.fr = r := by
        intro neg n hn he
        obtain ⟨r, h1, h2, h3⟩ := V37 neg (x := ⟨false, .no, digs n⟩) (nok_digs (by omega)) od
        rw [nv, nv, ← he, ← hsum] at h2
        exact ⟨r, h1, h2, h3⟩
      by_cases hn : a.neg = b.neg
      · obtain ⟨r, h1, h2, h3⟩ := fin a.neg (a.num.v * b.den.v + b.num.v * a.den.v) (by omega) (by rw [← hn, sgn_same]; rfl)
        refine ⟨r, (AP_ofz _ _ (fz_rv r) (noV_rv _) (m := [cR a, cR b, cR r]) ?_).trans (by rw [h3]), h2, h3⟩
        rw [T16]
        simp only [Nat.reduceAdd, Option.bind_some, Option.map_some, box_rv, new_z, new_r, new_zs, new_rs, fld0, fld1, fld2, res1, res2, ld0neg, ld0num, ld0den, ld0all, st0all, st0neg, ld1neg, ld1num, ld1den, ld1all, st1all, st1neg, ld2neg, ld2num, ld2den, ld2all, st2all, st2neg, ld3neg, ld3num, ld3den, ld3all, st3all, st3neg, ld4neg, ld4num, ld4den, ld4all, st4all, st4neg, ex0, ex1, ex2, bld0, bld2, bld12, bld012, nil_av, not_b, bl_neq, bl_eql, List.length_cons, List.length_nil, List.length_append, List.nil_append, List.cons_append, List.append_nil, Nat.zero_add, List.set_cons_zero, List.set_cons_succ, List.set_nil, pcN, pcI, pcNN, pcBNN, pcR, pcRR, pc0, e1, binA_eql, ifA_dec]
        rw [if_neg ha0]
        simp only [Nat.reduceAdd, Option.bind_some, Option.map_some, box_rv, new_z, new_r, new_zs, new_rs, fld0, fld1, fld2, res1, res2, ld0neg, ld0num, ld0den, ld0all, st0all, st0neg, ld1neg, ld1num, ld1den, ld1all, st1all, st1neg, ld2neg, ld2num, ld2den, ld2all, st2all, st2neg, ld3neg, ld3num, ld3den, ld3all, st3all, st3neg, ld4neg, ld4num, ld4den, ld4all, st4all, st4neg, ex0, ex1, ex2, bld0, bld2, bld12, bld012, nil_av, not_b, bl_neq, bl_eql, List.length_cons, List.length_nil, List.length_append, List.nil_append, List.cons_append, List.append_nil, Nat.zero_add, List.set_cons_zero, List.set_cons_succ, List.set_nil, pcN, pcI, pcNN, pcBNN, pcR, pcRR, pc0, e2, binA_eql, ifA_dec]
        rw [if_neg hb0]
        rw [hn] at h1
        simp only [Nat.reduceAdd, Option.bind_some, Option.map_some, box_rv, new_z, new_r, new_zs, new_rs, fld0, fld1, fld2, res1, res2, ld0neg, ld0num, ld0den, ld0all, st0all, st0neg, ld1neg, ld1num, ld1den, ld1all, st1all, st1neg, ld2neg, ld2num, ld2den, ld2all, st2all, st2neg, ld3neg, ld3num, ld3den, ld3all, st3all, st3neg, ld4neg, ld4num, ld4den, ld4all, st4all, st4neg, ex0, ex1, ex2, bld0, bld2, bld12, bld012, nil_av, not_b, bl_neq, bl_eql, List.length_cons, List.length_nil, List.length_append, List.nil_append, List.cons_append, List.append_nil, Nat.zero_add, List.set_cons_zero, List.set_cons_succ, List.set_nil, pcN, pcI, pcNN, pcBNN, pcR, pcRR, pc0, g1, g2, g3, nf, hn, BEq.rfl, ifA_true, g4, h1]
      · have hne : (a.neg == b.neg) = false := by simpa using hn
        by_cases hlt : a.num.v * b.den.v < b.num.v * a.den.v
        · obtain ⟨r, h1, h2, h3⟩ := fin b.neg (b.num.v * a.den.v - a.num.v * b.den.v) (Nat.lt_of_le_of_lt (digs_mono (Nat.sub_le _ _)) (by omega)) (by rw [sgn_lt hn hlt]; rfl)
          refine ⟨r, (AP_ofz _ _ (fz_rv r) (noV_rv _) (m := [cR b, cR b, cR r]) ?_).trans (by rw [h3]), h2, h3⟩
          have hc : cmpV (a.num.v * b.den.v) (b.num.v * a.den.v) < 0 := by unfold cmpV; rw [if_pos hlt]; omega
          rw [if_neg (by omega)] at g7
          rw [T16]
          simp only [Nat.reduceAdd, Option.bind_some, Option.map_some, box_rv, new_z, new_r, new_zs, new_rs, fld0, fld1, fld2, res1, res2, ld0neg, ld0num, ld0den, ld0all, st0all, st0neg, ld1neg, ld1num, ld1den, ld1all, st1all, st1neg, ld2neg, ld2num, ld2den, ld2all, st2all, st2neg, ld3neg, ld3num, ld3den, ld3all, st3all, st3neg, ld4neg, ld4num, ld4den, ld4all, st4all, st4neg, ex0, ex1, ex2, bld0, bld2, bld12, bld012, nil_av, not_b, bl_neq, bl_eql, List.length_cons, List.length_nil, List.length_append, List.nil_append, List.cons_append, List.append_nil, Nat.zero_add, List.set_cons_zero, List.set_cons_succ, List.set_nil, pcN, pcI, pcNN, pcBNN, pcR, pcRR, pc0, e1, binA_eql, ifA_dec]
          rw [if_neg ha0]
          simp only [Nat.reduceAdd, Option.bind_some, Option.map_some, box_rv, new_z, new_r, new_zs, new_rs, fld0, fld1, fld2, res1, res2, ld0neg, ld0num, ld0den, ld0all, st0all, st0neg, ld1neg, ld1num, ld1den, ld1all, st1all, st1neg, ld2neg, ld2num, ld2den, ld2all, st2all, st2neg, ld3neg, ld3num, ld3den, ld3all, st3all, st3neg, ld4neg, ld4num, ld4den, ld4all, st4all, st4neg, ex0, ex1, ex2, bld0, bld2, bld12, bld012, nil_av, not_b, bl_neq, bl_eql, List.length_cons, List.length_nil, List.length_append, List.nil_append, List.cons_append, List.append_nil, Nat.zero_add, List.set_cons_zero, List.set_cons_succ, List.set_nil, pcN, pcI, pcNN, pcBNN, pcR, pcRR, pc0, e2, binA_eql, ifA_dec]
          rw [if_neg hb0]
          simp only [Nat.reduceAdd, Option.bind_some, Option.map_some, box_rv, new_z, new_r, new_zs, new_rs, fld0, fld1, fld2, res1, res2, ld0neg, ld0num, ld0den, ld0all, st0all, st0neg, ld1neg, ld1num, ld1den, ld1all, st1all, st1neg, ld2neg, ld2num, ld2den, ld2all, st2all, st2neg, ld3neg, ld3num, ld3den, ld3all, st3all, st3neg, ld4neg, ld4num, ld4den, ld4all, st4all, st4neg, ex0, ex1, ex2, bld0, bld2, bld12, bld012, nil_av, not_b, bl_neq, bl_eql, List.length_cons, List.length_nil, List.length_append, List.nil_append, List.cons_append, List.append_nil, Nat.zero_add, List.set_cons_zero, List.set_cons_succ, List.set_nil, pcN, pcI, pcNN, pcBNN, pcR, pcRR, pc0, g1, g2, g3, nf, hne, ifA_false, g5, binA_lss, ifA_dec]
          rw [if_pos hc]
          simp only [Nat.reduceAdd, Option.bind_some, Option.map_some, box_rv, new_z, new_r, new_zs, new_rs, fld0, fld1, fld2, res1, res2, ld0neg, ld0num, ld0den, ld0all, st0all, st0neg, ld1neg, ld1num, ld1den, ld1all, st1all, st1neg, ld2neg, ld2num, ld2den, ld2all, st2all, st2neg, ld3neg, ld3num, ld3den, ld3all, st3all, st3neg, ld4neg, ld4num, ld4den, ld4all, st4all, st4neg, ex0, ex1, ex2, bld0, bld2, bld12, bld012, nil_av, not_b, bl_neq, bl_eql, List.length_cons, List.length_nil, List.length_append, List.nil_append, List.cons_append, List.append_nil, Nat.zero_add, List.set_cons_zero, List.set_cons_succ, List.set_nil, pcN, pcI, pcNN, pcBNN, pcR, pcRR, pc0, nf, g7, h1]
        · obtain ⟨r, h1, h2, h3⟩ := fin a.neg (a.num.v * b.den.v - b.num.v * a.den.v) (Nat.lt_of_le_of_lt (digs_mono (Nat.sub_le _ _)) (by omega)) (by rw [sgn_gt hn hlt]; rfl)
          refine ⟨r, (AP_ofz _ _ (fz_rv r) (noV_rv _) (m := [cR a, cR b, cR r]) ?_).trans (by rw [h3]), h2, h3⟩
          have hc : ¬ cmpV (a.num.v * b.den.v) (b.num.v * a.den.v) < 0 := by unfold cmpV; rw [if_neg hlt]; split <;> omega
          rw [if_neg hlt] at g6
          rw [T16]
          simp only [Nat.reduceAdd, Option.bind_some, Option.map_some, box_rv, new_z, new_r, new_zs, new_rs, fld0, fld1, fld2, res1, res2, ld0neg, ld0num, ld0den, ld0all, st0all, st0neg, ld1neg, ld1num, ld1den, ld1all, st1all, st1neg, ld2neg, ld2num, ld2den, ld2all, st2all, st2neg, ld3neg, ld3num, ld3den, ld3all, st3all, st3neg, ld4neg, ld4num, ld4den, ld4all, st4all, st4neg, ex0, ex1, ex2, bld0, bld2, bld12, bld012, nil_av, not_b, bl_neq, bl_eql, List.length_cons, List.length_nil, List.length_append, List.nil_append, List.cons_append, List.append_nil, Nat.zero_add, List.set_cons_zero, List.set_cons_succ, List.set_nil, pcN, pcI, pcNN, pcBNN, pcR, pcRR, pc0, e1, binA_eql, ifA_dec]
          rw [if_neg ha0]
          simp only [Nat.reduceAdd, Option.bind_some, Option.map_some, box_rv, new_z, new_r, new_zs, new_rs, fld0, fld1, fld2, res1, res2, ld0neg, ld0num, ld0den, ld0all, st0all, st0neg, ld1neg, ld1num, ld1den, ld1all, st1all, st1neg, ld2neg, ld2num, ld2den, ld2all, st2all, st2neg, ld3neg, ld3num, ld3den, ld3all, st3all, st3neg, ld4neg, ld4num, ld4den, ld4all, st4all, st4neg, ex0, ex1, ex2, bld0, bld2, bld12, bld012, nil_av, not_b, bl_neq, bl_eql, List.length_cons, List.length_nil, List.length_append, List.nil_append, List.cons_append, List.append_nil, Nat.zero_add, List.set_cons_zero, List.set_cons_succ, List.set_nil, pcN, pcI, pcNN, pcBNN, pcR, pcRR, pc0, e2, binA_eql, ifA_dec]
          rw [if_neg hb0]
          simp only [Nat.reduceAdd, Option.bind_some, Option.map_some, box_rv, new_z, new_r, new_zs, new_rs, fld0, fld1, fld2, res1, res2, ld0neg, ld0num, ld0den, ld0all, st0all, st0neg, ld1neg, ld1num, ld1den, ld1all, st1all, st1neg, ld2neg, ld2num, ld2den, ld2all, st2all, st2neg, ld3neg, ld3num, ld3den, ld3all, st3all, st3neg, ld4neg, ld4num, ld4den, ld4all, st4all, st4neg, ex0, ex1, ex2, bld0, bld2, bld12, bld012, nil_av, not_b, bl_neq, bl_eql, List.length_cons, List.length_nil, List.length_append, List.nil_append, List.cons_append, List.append_nil, Nat.zero_add, List.set_cons_zero, List.set_cons_succ, List.set_nil, pcN, pcI, pcNN, pcBNN, pcR, pcRR, pc0, g1, g2, g3, nf, hne, ifA_false, g5, binA_lss, ifA_dec]
          rw [if_neg hc]
          simp only [Nat.reduceAdd, Option.bind_some, Option.map_some, box_rv, new_z, new_r, new_zs, new_rs, fld0, fld1, fld2, res1, res2, ld0neg, ld0num, ld0den, ld0all, st0all, st0neg, ld1neg, ld1num, ld1den, ld1all, st1all, st1neg, ld2neg, ld2num, ld2den, ld2all, st2all, st2neg, ld3neg, ld3num, ld3den, ld3all, st3all, st3neg, ld4neg, ld4num, ld4den, ld4all, st4all, st4neg, ex0, ex1, ex2, bld0, bld2, bld12, bld012, nil_av, not_b, bl_neq, bl_eql, List.length_cons, List.length_nil, List.length_append, List.nil_append, List.cons_append, List.append_nil, Nat.zero_add, List.set_cons_zero, List.set_cons_succ, List.set_nil, pcN, pcI, pcNN, pcBNN, pcR, pcRR, pc0, nf, g6, h1]
end Go.Ab

/- Comparing, and fractions of two whole numbers. -/
set_option linter.unusedVariables false
set_option linter.unusedSimpArgs false
set_option maxRecDepth 100000
namespace Go.Ab
open Go.Proofs.Try

def cmpR (a b : RV) : Int := if signR a < signR b then -1 else if signR a > signR b then 1 else signR a * cmpV (a.num.v * b.den.v) (b.num.v * a.den.v)
theorem signR_vals (r : RV) : signR r = -1 ∨ signR r = 0 ∨ signR r = 1 := by
  unfold signR
  split
  · exact .inr (.inl rfl)
  · split
    · exact .inl rfl
    · exact .inr (.inr rfl)
theorem cmpV_vals (a b : Nat) : cmpV a b = -1 ∨ cmpV a b = 0 ∨ cmpV a b = 1 := by
  unfold cmpV
  split
  · exact .inl rfl
  · split
    · exact .inr (.inr rfl)
    · exact .inr (.inl rfl)
theorem cmpV_zero (a b : Nat) : cmpV a b = 0 ↔ a = b := by
  unfold cmpV
  split
  · constructor
    · intro h; cases h
    · intro h; omega
  · split
    · constructor
      · intro h; cases h
      · intro h; omega
    · constructor
      · intro _; omega
      · intro _; rfl
theorem i_mul1 {a b : Int} (ha : a = -1 ∨ a = 0 ∨ a = 1) (hb : b = -1 ∨ b = 0 ∨ b = 1) : binA .other .mul (.int .i64 a) (.int .i64 b) = some (.int .i64 (a * b)) := by
  rcases ha with rfl | rfl | rfl <;> rcases hb with rfl | rfl | rfl <;> rfl
theorem V33 {a b : RV} {k : Nat} (ha : ROk k a) (hb : ROk k b) (fa : a.fr = a) (fb : b.fr = b) (hk1 : 1 ≤ k) (hk : k < 2 ^ 36) : AP cfg 33 [a.av, b.av] = some (.int .i64 (cmpR a b)) := by
  have fan : a.num.fr = a.num := congrArg RV.num fa
  have fad : a.den.fr = a.den := congrArg RV.den fa
  have fbn : b.num.fr = b.num := congrArg RV.num fb
  have fbd : b.den.fr = b.den := congrArg RV.den fb
  have l1 : (digs (a.num.v * b.den.v)).length < 2 ^ 40 := Nat.lt_of_le_of_lt (ln_mul (Nat.le_trans ha.num.v_len ha.ln) (Nat.le_trans hb.den.v_len hb.ld)) (by omega)
  have l2 : (digs (b.num.v * a.den.v)).length < 2 ^ 40 := Nat.lt_of_le_of_lt (ln_mul (Nat.le_trans hb.num.v_len hb.ln) (Nat.le_trans ha.den.v_len ha.ld)) (by omega)
  have e1 := V38 ha.num hb.den
  have e2 := V38 hb.num ha.den
  have e3 := V40 (x := ⟨false, .no, digs (a.num.v * b.den.v)⟩) (y := ⟨false, .no, digs (b.num.v * a.den.v)⟩) (nok_digs l1) (nok_digs l2)
  have v1 : NV.v ⟨false, .no, digs (a.num.v * b.den.v)⟩ = a.num.v * b.den.v := val_digs _
  have v2 : NV.v ⟨false, .no, digs (b.num.v * a.den.v)⟩ = b.num.v * a.den.v := val_digs _
  rw [v1, v2] at e3
  have q1 : ∀ (d : Option Nat) (mm : Mem), pcall (AP cfg) d mm 36 [a.av] = some (.int .i64 (signR a), mm) := fun d mm => by rw [pcR, fa, V36 ha]; rfl
  have q2 : ∀ (d : Option Nat) (mm : Mem), pcall (AP cfg) d mm 36 [b.av] = some (.int .i64 (signR b), mm) := fun d mm => by rw [pcR, fb, V36 hb]; rfl
  have q3 : ∀ (d : Option Nat) (mm : Mem), pcall (AP cfg) d mm 38 [a.num.av, b.den.av] = some (NV.av ⟨false, .no, digs (a.num.v * b.den.v)⟩, mm) := fun d mm => by rw [pcNN, fan, fbd, e1]; rfl
  have q4 : ∀ (d : Option Nat) (mm : Mem), pcall (AP cfg) d mm 38 [b.num.av, a.den.av] = some (NV.av ⟨false, .no, digs (b.num.v * a.den.v)⟩, mm) := fun d mm => by rw [pcNN, fbn, fad, e2]; rfl
  have q5 : ∀ (d : Option Nat) (mm : Mem), pcall (AP cfg) d mm 40 [NV.av ⟨false, .no, digs (a.num.v * b.den.v)⟩, NV.av ⟨false, .no, digs (b.num.v * a.den.v)⟩] = some (.int .i64 (cmpV (a.num.v * b.den.v) (b.num.v * a.den.v)), mm) := fun d mm => by
    rw [pcNN, show NV.fr ⟨false, .no, digs (a.num.v * b.den.v)⟩ = ⟨false, .no, digs (a.num.v * b.den.v)⟩ from rfl, show NV.fr ⟨false, .no, digs (b.num.v * a.den.v)⟩ = ⟨false, .no, digs (b.num.v * a.den.v)⟩ from rfl, e3]; rfl
  refine AP_ofz _ _ (fz_int _ _) rfl (m := [cR a, cR b]) ?_
  rw [T33, box_rv, Option.bind_some, box_rv, Option.bind_some]
  simp only [List.length_nil, List.nil_append, List.length_cons, List.cons_append, Nat.zero_add]
  rw [rldA (x := a) rfl, Option.bind_some, q1, Option.bind_some, rldA (x := b) rfl, Option.bind_some, q2, Option.bind_some, binA_lss, Option.bind_some, ifA_dec]
  unfold cmpR
  by_cases c1 : signR a < signR b
  · rw [if_pos c1, if_pos c1]
  · rw [if_neg c1, if_neg c1, binA_gtr, Option.bind_some, ifA_dec]
    by_cases c2 : signR a > signR b
    · rw [if_pos c2, if_pos c2]
    · rw [if_neg c2, if_neg c2, fld1, Option.bind_some, rld1 (x := a) rfl, Option.bind_some, fld2, Option.bind_some, rld2 (x := b) rfl, Option.bind_some, q3, Option.bind_some, fld1, Option.bind_some, rld1 (x := b) rfl, Option.bind_some, fld2, Option.bind_some, rld2 (x := a) rfl, Option.bind_some, q4, Option.bind_some, q5, Option.bind_some, i_mul1 (signR_vals a) (cmpV_vals _ _), Option.bind_some]
theorem sgn_nat (neg : Bool) (n : Nat) : sgn neg n = if neg then -(n : Int) else n := by cases neg <;> rfl
theorem cmpR_zero (a b : RV) : cmpR a b = 0 ↔ a.q = b.q := by
  have key : ∀ r : RV, (signR r = 0 ∧ r.q = 0) ∨ (r.num.v ≠ 0 ∧ r.den.v ≠ 0 ∧ r.q ≠ 0 ∧ signR r = if r.neg then -1 else 1) := by
    intro r
    by_cases h : r.num.v = 0 ∨ r.den.v = 0
    · left
      refine ⟨by unfold signR; rw [if_pos h], ?_⟩
      rcases h with h | h
      · rw [RV.q, h, qOf_num0]
      · rw [RV.q, h, qOf_den0]
    · right
      refine ⟨fun e => h (.inl e), fun e => h (.inr e), ?_, by unfold signR; rw [if_neg h]⟩
      intro e
      have hd : r.den.v ≠ 0 := fun e => h (.inr e)
      have : sgn r.neg r.num.v = 0 := by
        have e' : mkRat (sgn r.neg r.num.v) r.den.v = 0 := e
        exact (Rat.mkRat_eq_zero hd).1 e'
      have h2 : (sgn r.neg r.num.v).natAbs = 0 := by rw [this]; rfl
      rw [sgn_abs] at h2
      exact h (.inl h2)
  unfold cmpR
  rcases key a with ⟨a1, a2⟩ | ⟨a1, a2, a3, a4⟩
  · rcases key b with ⟨b1, b2⟩ | ⟨b1, b2, b3, b4⟩
    · rw [a1, b1, a2, b2]; simp
    · rw [a1, a2]
      constructor
      · intro h
        rw [b4] at h
        by_cases hb : b.neg = true <;> simp [hb] at h
      · intro h; exact absurd h.symm b3
  · rcases key b with ⟨b1, b2⟩ | ⟨b1, b2, b3, b4⟩
    · rw [b1, b2]
      constructor
      · intro h
        rw [a4] at h
        by_cases hb : a.neg = true <;> simp [hb] at h
      · intro h; exact absurd h a3
    · have hq : a.q = b.q ↔ sgn a.neg a.num.v * (b.den.v : Int) = sgn b.neg b.num.v * (a.den.v : Int) := Rat.mkRat_eq_iff a2 b2
      rw [hq, a4, b4, sgn_nat, sgn_nat]
      have p1 : 0 < a.num.v * b.den.v := Nat.mul_pos (by omega) (by omega)
      have p2 : 0 < b.num.v * a.den.v := Nat.mul_pos (by omega) (by omega)
      have p1' : (a.num.v : Int) * (b.den.v : Int) = ((a.num.v * b.den.v : Nat) : Int) := (Int.natCast_mul _ _).symm
      have p2' : (b.num.v : Int) * (a.den.v : Int) = ((b.num.v * a.den.v : Nat) : Int) := (Int.natCast_mul _ _).symm
      cases a.neg <;> cases b.neg
      · simp only [Bool.false_eq_true, if_false, p1', p2']
        rw [if_neg (by omega), if_neg (by omega), Int.one_mul, cmpV_zero]
        omega
      · simp only [Bool.false_eq_true, if_false, if_true, Int.neg_mul, p1', p2']
        rw [if_neg (by omega), if_pos (by omega)]
        omega
      · simp only [Bool.false_eq_true, if_false, if_true, Int.neg_mul, p1', p2']
        rw [if_pos (by omega)]
        omega
      · simp only [if_true, Int.neg_mul, p1', p2']
        rw [if_neg (by omega), if_neg (by omega), Int.one_mul, Int.neg_eq_zero, cmpV_zero]
        omega
theorem V14 {a b : RV} {k : Nat} (ha : ROk k a) (hb : ROk k b) (fa : a.fr = a) (fb : b.fr = b) (hk1 : 1 ≤ k) (hk : k < 2 ^ 36) : AP cfg 14 [a.av, b.av] = some (.bool (decide (a.q = b.q))) := by
  have e := V33 ha hb fa fb hk1 hk
  refine AP_ofz (.bool (decide (a.q = b.q))) (.bool (decide (a.q = b.q))) (fun _ => rfl) rfl (m := [cR a, cR b]) ?_
  rw [T14, box_rv, Option.bind_some, box_rv, Option.bind_some]
  simp only [List.length_nil, List.nil_append, List.length_cons, List.cons_append, Nat.zero_add]
  rw [rldA (x := a) rfl, Option.bind_some, rldA (x := b) rfl, Option.bind_some, pcRR, fa, fb, e, Option.map_some, Option.bind_some, binA_eql, Option.bind_some]
  rw [decide_eq_decide.2 (cmpR_zero a b)]
theorem st_last {m : Mem} {x r : RV} : storeA (some 3) (m ++ [cR x]) (.ptr m.length 0) r.av = some (m ++ [cR r]) := by
  rw [rstA (get_last : (m ++ [cR x])[m.length]? = some (cR x)), List.set_append_right _ _ (Nat.le_refl _), Nat.sub_self, List.set_cons_zero]
theorem ld_last {m : Mem} {r : RV} : loadA (some 3) (m ++ [cR r]) (.ptr m.length 0) = some r.av := rldA get_last
theorem new_z' (m : Mem) : newAt none m (.obj true [.bool false, .lst none true .full [], .lst none true .full []]) = (m.length, m ++ [cR zR]) := rfl
end Go.Ab

/- What the interpreter does, function by function. -/
set_option maxRecDepth 100000
set_option linter.unusedVariables false
namespace Go.Ab
open Go.Proofs.Try
/-! ### sortilege/proof.shaped -/
def O13_5 (x1 x3 : AV) (m : Mem) : St := ⟨[.any, x1, .any, x3, .any, .any, .any, .any, .any, .any, .any, .any, .any, .any, .any, .any, .any, .any, .any, .any, .any, .any, .any, .any, .any, .any, .any, .any, .any, .any, .any, .any, .any, .any, .any, .any, .any, .any, .any, .any, .any, .any, .any, .any, .any, .any, .any, .any, .any, .any, .any, .any, .any, .any, .any, .any, .any, .any, .any, .any, .any, .any, .any, .any, .any, .any, .any, .any, .any, .any, .any, .any], m⟩
def R13_5 (x2 : AV) (m : Mem) : St := ⟨[.any, .any, x2, .any, .any, .any, .any, .any, .any, .any, .any, .any, .any, .any, .any, .any, .any, .any, .any, .any, .any, .any, .any, .any, .any, .any, .any, .any, .any, .any, .any, .any, .any, .any, .any, .any, .any, .any, .any, .any, .any, .any, .any, .any, .any, .any, .any, .any, .any, .any, .any, .any, .any, .any, .any, .any, .any, .any, .any, .any, .any, .any, .any, .any, .any, .any, .any, .any, .any, .any, .any, .any], m⟩
noncomputable def L13_5 (x1 x3 x36 x37 x38 : AV) (m : Mem) (K : Ex → St → Option (AV × Mem)) : Option (AV × Mem) := loopW (execW cfg 13 (AP cfg) (AC cfg) (c1 (c1 (c2 (c1 (c2 (c2 (c2 (bodyOf f13))))))))) (cfg.mask 13 (some 5)) ⟨[.any, x1, .any, x3, .any, .any, .any, .any, .any, .any, .any, .any, .any, .any, .any, .any, .any, .any, .any, .any, .any, .any, .any, .any, .any, .any, .any, .any, .any, .any, .any, .any, .any, .any, .any, .any, x36, x37, x38, .any, .any, .any, .any, .any, .any, .any, .any, .any, .any, .any, .any, .any, .any, .any, .any, .any, .any, .any, .any, .any, .any, .any, .any, .any, .any, .any, .any, .any, .any, .any, .any, .any], m⟩ K
noncomputable abbrev K13_5_0 (K : Ex → St → Option (AV × Mem)) : Ex → St → Option (AV × Mem) := seqK (fun st => execW cfg 13 (AP cfg) (AC cfg) (c2 (c2 (c2 (c2 (bodyOf f13))))) st K) K
noncomputable abbrev K13_5_1 (K : Ex → St → Option (AV × Mem)) : Ex → St → Option (AV × Mem) := blockK 0 (K13_5_0 K)
noncomputable abbrev K13_5 (K : Ex → St → Option (AV × Mem)) : Ex → St → Option (AV × Mem) := (K13_5_1 K)
theorem T13 (a0 : AV) (m : Mem) : AC cfg 13 [a0] m =
  (boxA none (some 4) m a0).bind fun r1 =>
  (fieldAddrA 0 r1.1).bind fun v2 =>
  (loadA none r1.2 v2).bind fun v3 =>
  (lenA false v3).bind fun v4 =>
  (binA .other .gtr v4 (.int .i64 16)).bind fun v5 =>
  ifA v5 (
  some ((.bool false), r1.2)) (
  (fieldAddrA 3 r1.1).bind fun v6 =>
  (loadA none r1.2 v6).bind fun v7 =>
  (binA .other .lss v7 (.int .i64 0)).bind fun v8 =>
  ifA v8 (
  some ((.bool false), r1.2)) (
  (fieldAddrA 3 r1.1).bind fun v9 =>
  (loadA none r1.2 v9).bind fun v10 =>
  (binA .other .gtr v10 (.int .i64 2147483647)).bind fun v11 =>
  ifA v11 (
  some ((.bool false), r1.2)) (
  (fieldAddrA 1 r1.1).bind fun v12 =>
  (loadA none r1.2 v12).bind fun v13 =>
  (lenA false v13).bind fun v14 =>
  (binA .other .gtr v14 (.int .i64 4000)).bind fun v15 =>
  ifA v15 (
  some ((.bool false), r1.2)) (
  (fieldAddrA 2 r1.1).bind fun v16 =>
  (loadA none r1.2 v16).bind fun v17 =>
  (lenA false v17).bind fun v18 =>
  (fieldAddrA 1 r1.1).bind fun v19 =>
  (loadA none r1.2 v19).bind fun v20 =>
  (lenA false v20).bind fun v21 =>
  (binA .other .neq v18 v21).bind fun v22 =>
  ifA v22 (
  some ((.bool false), r1.2)) (
  (fieldAddrA 0 r1.1).bind fun v23 =>
  (loadA none r1.2 v23).bind fun v24 =>
  (lenA false v24).bind fun v25 =>
  L13_5 r1.1 (.lst none true .full []) v24 v25 (.int .i64 0) r1.2 (K13_5 (finK cfg.P f13.results.toList))))))) :=
(AC_eq cfg 13 [a0] m (fn := f13) (c := bodyOf f13) at13 rfl).trans (by kernel_rfl)
theorem L13_5_eq (x1 x3 x36 x37 x38 : AV) (m : Mem) (K : Ex → St → Option (AV × Mem)) : L13_5 x1 x3 x36 x37 x38 m K =
  (binA .other .lss x38 x37).bind fun v1 =>
  ifA v1 (
  (indexAddrA none x36 x38).bind fun v2 =>
  (loadA none m v2).bind fun v3 =>
  (lenA false v3).bind fun v4 =>
  (binA .other .lss v4 (.int .i64 1)).bind fun v5 =>
  ifA v5 (
  K .ret (R13_5 (.bool false) m)) (
  (lenA false v3).bind fun v6 =>
  (binA .other .gtr v6 (.int .i64 64)).bind fun v7 =>
  ifA v7 (
  K .ret (R13_5 (.bool false) m)) (
  (lenA false v3).bind fun v8 =>
  (buildSliceA none [v8]).bind fun v9 =>
  (appA none false 3 none 8 m x3 v9).bind fun r10 =>
  (binA .other .add x38 (.int .i64 1)).bind fun v11 =>
  L13_5 x1 r10.1 x36 x37 v11 r10.2 K))) (
  K (.exit 0) (O13_5 x1 x3 m)) :=
(loopW_eq (execW_lin _) _ _ _).trans (by kernel_rfl)
theorem K13_5_x0 (x1 x3 : AV) (m : Mem) : K13_5 (finK cfg.P f13.results.toList) (.exit 0) (O13_5 x1 x3 m) =
  (fieldAddrA 0 x1).bind fun v1 =>
  (loadA none m v1).bind fun v2 =>
  (pcall (AP cfg) none m 28 [x3, v2]).bind fun r3 =>
  ifA r3.1 (
  (fieldAddrA 1 x1).bind fun v4 =>
  (loadA none r3.2 v4).bind fun v5 =>
  (pcall (AP cfg) none r3.2 29 [x3, v5]).bind fun r6 =>
  ifA r6.1 (
  (fieldAddrA 2 x1).bind fun v7 =>
  (loadA none r6.2 v7).bind fun v8 =>
  (pcall (AP cfg) none r6.2 30 [v8, (.fn 31 [])]).bind fun r9 =>
  (unA .not r9.1).bind fun v10 =>
  some (v10, r9.2)) (
  some ((.bool false), r6.2))) (
  some ((.bool false), r3.2)) := by kernel_rfl
theorem K13_5_ret (x2 : AV) (m : Mem) : K13_5 (finK cfg.P f13.results.toList) .ret (R13_5 x2 m) =
  some (x2, m) := by kernel_rfl
/-! ### sortilege/proof.weigh -/
def O15_7 (x8 x9 : AV) (m : Mem) : St := ⟨[.any, .any, .any, .any, .any, .any, .any, .any, x8, x9, .any, .any, .any, .any, .any, .any, .any, .any, .any, .any, .any, .any, .any, .any, .any, .any, .any, .any, .any, .any, .any, .any, .any, .any, .any, .any, .any, .any, .any, .any, .any, .any, .any, .any, .any, .any], m⟩
noncomputable def L15_7 (x0 x3 x5 x8 x9 x23 x24 x25 : AV) (m : Mem) (K : Ex → St → Option (AV × Mem)) : Option (AV × Mem) := loopW (execW cfg 15 (AP cfg) (AC cfg) (c1 (c1 (c2 (c1 (c2 (c2 (c2 (bodyOf f15))))))))) (cfg.mask 15 (some 7)) ⟨[x0, .any, .any, x3, .any, x5, .any, .any, x8, x9, .any, .any, .any, .any, .any, .any, .any, .any, .any, .any, .any, .any, .any, x23, x24, x25, .any, .any, .any, .any, .any, .any, .any, .any, .any, .any, .any, .any, .any, .any, .any, .any, .any, .any, .any, .any], m⟩ K
noncomputable abbrev K15_7_0 (K : Ex → St → Option (AV × Mem)) : Ex → St → Option (AV × Mem) := seqK (fun st => execW cfg 15 (AP cfg) (AC cfg) (c2 (c2 (c2 (c2 (bodyOf f15))))) st K) K
noncomputable abbrev K15_7_1 (K : Ex → St → Option (AV × Mem)) : Ex → St → Option (AV × Mem) := blockK 0 (K15_7_0 K)
noncomputable abbrev K15_7 (K : Ex → St → Option (AV × Mem)) : Ex → St → Option (AV × Mem) := (K15_7_1 K)
theorem T15 (a0 a1 a2 a3 : AV) (m : Mem) : AC cfg 15 [a0, a1, a2, a3] m =
  (boxA none (some 3) m a1).bind fun r1 =>
  (fieldAddrA 0 r1.1).bind fun v2 =>
  (loadA none (newAt none r1.2 (.obj true [(.bool false), (.lst none true .full []), (.lst none true .full [])])).2 v2).bind fun v3 =>
  (binA .other .lss v3 (.int .i64 0)).bind fun v4 =>
  ifA v4 (
  (fieldAddrA 2 r1.1).bind fun v5 =>
  (loadA none (newAt none r1.2 (.obj true [(.bool false), (.lst none true .full []), (.lst none true .full [])])).2 v5).bind fun v6 =>
  (binA .other .eql v6 a2).bind fun v7 =>
  ifA v7 (
  (pcall (AP cfg) none (newAt none r1.2 (.obj true [(.bool false), (.lst none true .full []), (.lst none true .full [])])).2 23 []).bind fun r8 =>
  (storeA (some 3) r8.2 (.ptr (newAt none r1.2 .resv).1 0) r8.1).bind fun m9 =>
  (loadA (some 3) m9 (.ptr (newAt none r1.2 .resv).1 0)).bind fun v10 =>
  some (v10, m9)) (
  (pcall (AP cfg) none (newAt none r1.2 (.obj true [(.bool false), (.lst none true .full []), (.lst none true .full [])])).2 17 []).bind fun r11 =>
  (storeA (some 3) r11.2 (.ptr (newAt none r1.2 .resv).1 0) r11.1).bind fun m12 =>
  (loadA (some 3) m12 (.ptr (newAt none r1.2 .resv).1 0)).bind fun v13 =>
  some (v13, m12))) (
  (pcall (AP cfg) none (newAt none r1.2 (.obj true [(.bool false), (.lst none true .full []), (.lst none true .full [])])).2 17 []).bind fun r14 =>
  (storeA (some 3) (newAt none r14.2 (.obj true [(.bool false), (.lst none true .full []), (.lst none true .full [])])).2 (.ptr (newAt none r14.2 .resv).1 0) r14.1).bind fun m15 =>
  (fieldAddrA 1 r1.1).bind fun v16 =>
  (loadA none m15 v16).bind fun v17 =>
  (lenA false v17).bind fun v18 =>
  L15_7 a0 a3 r1.1 (.ptr (newAt none r1.2 .resv).1 0) (.ptr (newAt none r14.2 .resv).1 0) v17 v18 (.int .i64 0) m15 (K15_7 (finK cfg.P f15.results.toList))) :=
(AC_eq cfg 15 [a0, a1, a2, a3] m (fn := f15) (c := bodyOf f15) at15 rfl).trans (by kernel_rfl)
theorem L15_7_eq (x0 x3 x5 x8 x9 x23 x24 x25 : AV) (m : Mem) (K : Ex → St → Option (AV × Mem)) : L15_7 x0 x3 x5 x8 x9 x23 x24 x25 m K =
  (binA .other .lss x25 x24).bind fun v1 =>
  ifA v1 (
  (indexAddrA none x23 x25).bind fun v2 =>
  (loadA none m v2).bind fun v3 =>
  (loadA (some 3) m x9).bind fun v4 =>
  (fieldAddrA 0 x5).bind fun v5 =>
  (loadA none m v5).bind fun v6 =>
  (indexAddrA none x0 v6).bind fun v7 =>
  (loadA none m v7).bind fun v8 =>
  (pcall (AP cfg) (some m.length) m 35 [v8, x25]).bind fun r9 =>
  (indexAddrA (some 3) x3 v3).bind fun v10 =>
  (loadA (some 3) r9.2 v10).bind fun v11 =>
  (pcall (AP cfg) (some m.length) r9.2 34 [r9.1, v11]).bind fun r12 =>
  (pcall (AP cfg) (some m.length) r12.2 16 [v4, r12.1]).bind fun r13 =>
  (storeA (some 3) r13.2 x9 r13.1).bind fun m14 =>
  (binA .other .add x25 (.int .i64 1)).bind fun v15 =>
  L15_7 x0 x3 x5 x8 x9 x23 x24 v15 m14 K) (
  K (.exit 0) (O15_7 x8 x9 m)) :=
(loopW_eq (execW_lin _) _ _ _).trans (by kernel_rfl)
theorem K15_7_x0 (x8 x9 : AV) (m : Mem) : K15_7 (finK cfg.P f15.results.toList) (.exit 0) (O15_7 x8 x9 m) =
  (loadA (some 3) m x9).bind fun v1 =>
  (storeA (some 3) m x8 v1).bind fun m2 =>
  (loadA (some 3) m2 x8).bind fun v3 =>
  some (v3, m2) := by kernel_rfl
/-! ### sortilege/diagram.Odds -/
def O28_4 (m : Mem) : St := ⟨[.any, .any, .any, .any, .any, .any, .any, .any, .any, .any, .any, .any, .any, .any, .any, .any, .any, .any, .any, .any, .any, .any, .any, .any, .any, .any, .any, .any, .any, .any, .any, .any, .any, .any, .any, .any, .any, .any, .any, .any, .any, .any, .any, .any, .any, .any, .any, .any, .any, .any], m⟩
def R28_4 (x4 : AV) (m : Mem) : St := ⟨[.any, .any, .any, .any, x4, .any, .any, .any, .any, .any, .any, .any, .any, .any, .any, .any, .any, .any, .any, .any, .any, .any, .any, .any, .any, .any, .any, .any, .any, .any, .any, .any, .any, .any, .any, .any, .any, .any, .any, .any, .any, .any, .any, .any, .any, .any, .any, .any, .any, .any], m⟩
noncomputable def L28_4 (x0 x15 x16 x17 : AV) (m : Mem) (K : Ex → St → Option (AV × Mem)) : Option (AV × Mem) := loopW (execW cfg 28 (AP cfg) (AC cfg) (c1 (c1 (c2 (c1 (c2 (c2 (bodyOf f28)))))))) (cfg.mask 28 (some 4)) ⟨[x0, .any, .any, .any, .any, .any, .any, .any, .any, .any, .any, .any, .any, .any, .any, x15, x16, x17, .any, .any, .any, .any, .any, .any, .any, .any, .any, .any, .any, .any, .any, .any, .any, .any, .any, .any, .any, .any, .any, .any, .any, .any, .any, .any, .any, .any, .any, .any, .any, .any], m⟩ K
def O28_8 (x0 x5 x6 x7 x15 x16 x17 : AV) (m : Mem) : St := ⟨[x0, .any, .any, .any, .any, x5, x6, x7, .any, .any, .any, .any, .any, .any, .any, x15, x16, x17, .any, .any, .any, .any, .any, .any, .any, .any, .any, .any, .any, .any, .any, .any, .any, .any, .any, .any, .any, .any, .any, .any, .any, .any, .any, .any, .any, .any, .any, .any, .any, .any], m⟩
def R28_8 (x4 : AV) (m : Mem) : St := ⟨[.any, .any, .any, .any, x4, .any, .any, .any, .any, .any, .any, .any, .any, .any, .any, .any, .any, .any, .any, .any, .any, .any, .any, .any, .any, .any, .any, .any, .any, .any, .any, .any, .any, .any, .any, .any, .any, .any, .any, .any, .any, .any, .any, .any, .any, .any, .any, .any, .any, .any], m⟩
noncomputable def L28_8 (x0 x5 x6 x7 x15 x16 x17 x22 x23 x24 : AV) (m : Mem) (K : Ex → St → Option (AV × Mem)) : Option (AV × Mem) := loopW (execW cfg 28 (AP cfg) (AC cfg) (c1 (c1 (c2 (c1 (c2 (c2 (c1 (c1 (c2 (c2 (c1 (c1 (c2 (c1 (c2 (c2 (bodyOf f28)))))))))))))))))) (cfg.mask 28 (some 8)) ⟨[x0, .any, .any, .any, .any, x5, x6, x7, .any, .any, .any, .any, .any, .any, .any, x15, x16, x17, .any, .any, .any, .any, x22, x23, x24, .any, .any, .any, .any, .any, .any, .any, .any, .any, .any, .any, .any, .any, .any, .any, .any, .any, .any, .any, .any, .any, .any, .any, .any, .any], m⟩ K
noncomputable abbrev K28_4_0 (K : Ex → St → Option (AV × Mem)) : Ex → St → Option (AV × Mem) := seqK (fun st => execW cfg 28 (AP cfg) (AC cfg) (c2 (c2 (c2 (bodyOf f28)))) st K) K
noncomputable abbrev K28_4_1 (K : Ex → St → Option (AV × Mem)) : Ex → St → Option (AV × Mem) := blockK 0 (K28_4_0 K)
noncomputable abbrev K28_4 (K : Ex → St → Option (AV × Mem)) : Ex → St → Option (AV × Mem) := (K28_4_1 K)
noncomputable abbrev K28_8_0 (K : Ex → St → Option (AV × Mem)) : Ex → St → Option (AV × Mem) := seqK (fun st => execW cfg 28 (AP cfg) (AC cfg) (c2 (c2 (c2 (c1 (c1 (c2 (c1 (c2 (c2 (bodyOf f28)))))))))) st (roundG (fun st => loopW (execW cfg 28 (AP cfg) (AC cfg) (c1 (c1 (c2 (c1 (c2 (c2 (bodyOf f28)))))))) (cfg.mask 28 (some 4)) st K) (cfg.mask 28 (some 4)) K)) (roundG (fun st => loopW (execW cfg 28 (AP cfg) (AC cfg) (c1 (c1 (c2 (c1 (c2 (c2 (bodyOf f28)))))))) (cfg.mask 28 (some 4)) st K) (cfg.mask 28 (some 4)) K)
noncomputable abbrev K28_8_1 (K : Ex → St → Option (AV × Mem)) : Ex → St → Option (AV × Mem) := blockK 1 (K28_8_0 K)
noncomputable abbrev K28_8_2 (K : Ex → St → Option (AV × Mem)) : Ex → St → Option (AV × Mem) := seqK (fun st => execW cfg 28 (AP cfg) (AC cfg) (c2 (c2 (c2 (c1 (c1 (c2 (c2 (c1 (c1 (c2 (c1 (c2 (c2 (bodyOf f28)))))))))))))) st (K28_8_1 K)) (K28_8_1 K)
noncomputable abbrev K28_8_3 (K : Ex → St → Option (AV × Mem)) : Ex → St → Option (AV × Mem) := blockK 2 (K28_8_2 K)
noncomputable abbrev K28_8 (K : Ex → St → Option (AV × Mem)) : Ex → St → Option (AV × Mem) := (K28_8_3 K)
theorem T28 (a0 a1 : AV) (m : Mem) : AC cfg 28 [a0, a1] m =
  (lenA false a1).bind fun v1 =>
  (lenA false a0).bind fun v2 =>
  (binA .other .neq v1 v2).bind fun v3 =>
  ifA v3 (
  some ((.bool false), m)) (
  (lenA false a1).bind fun v4 =>
  L28_4 a0 a1 v4 (.int .i64 0) m (K28_4 (finK cfg.P f28.results.toList))) :=
(AC_eq cfg 28 [a0, a1] m (fn := f28) (c := bodyOf f28) at28 rfl).trans (by kernel_rfl)
theorem L28_4_eq (x0 x15 x16 x17 : AV) (m : Mem) (K : Ex → St → Option (AV × Mem)) : L28_4 x0 x15 x16 x17 m K =
  (binA .other .lss x17 x16).bind fun v1 =>
  ifA v1 (
  (indexAddrA none x15 x17).bind fun v2 =>
  (loadA none m v2).bind fun v3 =>
  (lenA false v3).bind fun v4 =>
  L28_8 x0 x17 v3 (.int .i64 0) x15 x16 x17 v3 v4 (.int .i64 0) m (K28_8 K)) (
  K (.exit 0) (O28_4 m)) :=
(loopW_eq (execW_lin _) _ _ _).trans (by kernel_rfl)
theorem L28_8_eq (x0 x5 x6 x7 x15 x16 x17 x22 x23 x24 : AV) (m : Mem) (K : Ex → St → Option (AV × Mem)) : L28_8 x0 x5 x6 x7 x15 x16 x17 x22 x23 x24 m K =
  (binA .other .lss x24 x23).bind fun v1 =>
  ifA v1 (
  (indexAddrA none x22 x24).bind fun v2 =>
  (loadA none m v2).bind fun v3 =>
  (binA .other .lss v3 (.int .i64 0)).bind fun v4 =>
  ifA v4 (
  K .ret (R28_8 (.bool false) m)) (
  (binA .other .gtr v3 (.int .i64 1000)).bind fun v5 =>
  ifA v5 (
  K .ret (R28_8 (.bool false) m)) (
  (binA .other .add x7 v3).bind fun v6 =>
  (binA .other .add x24 (.int .i64 1)).bind fun v7 =>
  L28_8 x0 x5 x6 v6 x15 x16 x17 x22 x23 v7 m K))) (
  K (.exit 2) (O28_8 x0 x5 x6 x7 x15 x16 x17 m)) :=
(loopW_eq (execW_lin _) _ _ _).trans (by kernel_rfl)
theorem K28_4_x0 (m : Mem) : K28_4 (finK cfg.P f28.results.toList) (.exit 0) (O28_4  m) =
  some ((.bool true), m) := by kernel_rfl
theorem K28_4_ret (x4 : AV) (m : Mem) : K28_4 (finK cfg.P f28.results.toList) .ret (R28_4 x4 m) =
  some (x4, m) := by kernel_rfl
theorem K28_8_x2 (x0 x5 x6 x7 x15 x16 x17 : AV) (m : Mem) (K : Ex → St → Option (AV × Mem)) : K28_8 K (.exit 2) (O28_8 x0 x5 x6 x7 x15 x16 x17 m) =
  (lenA false x6).bind fun v1 =>
  (indexAddrA none x0 x5).bind fun v2 =>
  (loadA none m v2).bind fun v3 =>
  (binA .other .neq v1 v3).bind fun v4 =>
  ifA v4 (
  K .ret (R28_4 (.bool false) m)) (
  (binA .other .eql x7 (.int .i64 0)).bind fun v5 =>
  ifA v5 (
  K .ret (R28_4 (.bool false) m)) (
  (binA .other .add x17 (.int .i64 1)).bind fun v6 =>
  L28_4 x0 x15 x16 v6 m K)) := by kernel_rfl
theorem K28_8_ret (x4 : AV) (m : Mem) (K : Ex → St → Option (AV × Mem)) : K28_8 K .ret (R28_8 x4 m) =
  K .ret (R28_4 x4 m) := by kernel_rfl
/-! ### sortilege/diagram.Listed -/
def O29_2 (x1 : AV) (m : Mem) : St := ⟨[.any, x1, .any, .any, .any, .any, .any, .any, .any, .any, .any, .any, .any, .any, .any, .any, .any, .any, .any, .any, .any, .any, .any, .any, .any, .any, .any, .any, .any, .any, .any, .any, .any, .any, .any, .any, .any, .any, .any, .any, .any, .any, .any, .any, .any, .any, .any, .any, .any, .any, .any, .any, .any, .any, .any, .any, .any, .any, .any, .any, .any, .any, .any, .any, .any, .any, .any, .any, .any, .any, .any, .any, .any, .any, .any, .any, .any, .any, .any, .any, .any, .any, .any, .any, .any, .any, .any, .any, .any, .any, .any, .any], m⟩
def R29_2 (x4 : AV) (m : Mem) : St := ⟨[.any, .any, .any, .any, x4, .any, .any, .any, .any, .any, .any, .any, .any, .any, .any, .any, .any, .any, .any, .any, .any, .any, .any, .any, .any, .any, .any, .any, .any, .any, .any, .any, .any, .any, .any, .any, .any, .any, .any, .any, .any, .any, .any, .any, .any, .any, .any, .any, .any, .any, .any, .any, .any, .any, .any, .any, .any, .any, .any, .any, .any, .any, .any, .any, .any, .any, .any, .any, .any, .any, .any, .any, .any, .any, .any, .any, .any, .any, .any, .any, .any, .any, .any, .any, .any, .any, .any, .any, .any, .any, .any, .any], m⟩
noncomputable def L29_2 (x0 x1 x9 x10 x11 : AV) (m : Mem) (K : Ex → St → Option (AV × Mem)) : Option (AV × Mem) := loopW (execW cfg 29 (AP cfg) (AC cfg) (c1 (c1 (c2 (c1 (c2 (bodyOf f29))))))) (cfg.mask 29 (some 2)) ⟨[x0, x1, .any, .any, .any, .any, .any, .any, .any, x9, x10, x11, .any, .any, .any, .any, .any, .any, .any, .any, .any, .any, .any, .any, .any, .any, .any, .any, .any, .any, .any, .any, .any, .any, .any, .any, .any, .any, .any, .any, .any, .any, .any, .any, .any, .any, .any, .any, .any, .any, .any, .any, .any, .any, .any, .any, .any, .any, .any, .any, .any, .any, .any, .any, .any, .any, .any, .any, .any, .any, .any, .any, .any, .any, .any, .any, .any, .any, .any, .any, .any, .any, .any, .any, .any, .any, .any, .any, .any, .any, .any, .any], m⟩ K
def O29_10 (x0 x1 x9 x10 x11 : AV) (m : Mem) : St := ⟨[x0, x1, .any, .any, .any, .any, .any, .any, .any, x9, x10, x11, .any, .any, .any, .any, .any, .any, .any, .any, .any, .any, .any, .any, .any, .any, .any, .any, .any, .any, .any, .any, .any, .any, .any, .any, .any, .any, .any, .any, .any, .any, .any, .any, .any, .any, .any, .any, .any, .any, .any, .any, .any, .any, .any, .any, .any, .any, .any, .any, .any, .any, .any, .any, .any, .any, .any, .any, .any, .any, .any, .any, .any, .any, .any, .any, .any, .any, .any, .any, .any, .any, .any, .any, .any, .any, .any, .any, .any, .any, .any, .any], m⟩
def R29_10 (x4 : AV) (m : Mem) : St := ⟨[.any, .any, .any, .any, x4, .any, .any, .any, .any, .any, .any, .any, .any, .any, .any, .any, .any, .any, .any, .any, .any, .any, .any, .any, .any, .any, .any, .any, .any, .any, .any, .any, .any, .any, .any, .any, .any, .any, .any, .any, .any, .any, .any, .any, .any, .any, .any, .any, .any, .any, .any, .any, .any, .any, .any, .any, .any, .any, .any, .any, .any, .any, .any, .any, .any, .any, .any, .any, .any, .any, .any, .any, .any, .any, .any, .any, .any, .any, .any, .any, .any, .any, .any, .any, .any, .any, .any, .any, .any, .any, .any, .any], m⟩
noncomputable def L29_10 (x0 x1 x5 x6 x9 x10 x11 x56 x57 x58 : AV) (m : Mem) (K : Ex → St → Option (AV × Mem)) : Option (AV × Mem) := loopW (execW cfg 29 (AP cfg) (AC cfg) (c1 (c1 (c2 (c2 (c2 (c2 (c1 (c1 (c2 (c2 (c1 (c1 (c2 (c1 (c2 (bodyOf f29))))))))))))))))) (cfg.mask 29 (some 10)) ⟨[x0, x1, .any, .any, .any, x5, x6, .any, .any, x9, x10, x11, .any, .any, .any, .any, .any, .any, .any, .any, .any, .any, .any, .any, .any, .any, .any, .any, .any, .any, .any, .any, .any, .any, .any, .any, .any, .any, .any, .any, .any, .any, .any, .any, .any, .any, .any, .any, .any, .any, .any, .any, .any, .any, .any, .any, x56, x57, x58, .any, .any, .any, .any, .any, .any, .any, .any, .any, .any, .any, .any, .any, .any, .any, .any, .any, .any, .any, .any, .any, .any, .any, .any, .any, .any, .any, .any, .any, .any, .any, .any, .any], m⟩ K
noncomputable abbrev K29_2_0 (K : Ex → St → Option (AV × Mem)) : Ex → St → Option (AV × Mem) := seqK (fun st => execW cfg 29 (AP cfg) (AC cfg) (c2 (c2 (bodyOf f29))) st K) K
noncomputable abbrev K29_2_1 (K : Ex → St → Option (AV × Mem)) : Ex → St → Option (AV × Mem) := blockK 0 (K29_2_0 K)
noncomputable abbrev K29_2 (K : Ex → St → Option (AV × Mem)) : Ex → St → Option (AV × Mem) := (K29_2_1 K)
noncomputable abbrev K29_10_0 (K : Ex → St → Option (AV × Mem)) : Ex → St → Option (AV × Mem) := seqK (fun st => execW cfg 29 (AP cfg) (AC cfg) (c2 (c2 (c2 (c1 (c1 (c2 (c1 (c2 (bodyOf f29))))))))) st (roundG (fun st => loopW (execW cfg 29 (AP cfg) (AC cfg) (c1 (c1 (c2 (c1 (c2 (bodyOf f29))))))) (cfg.mask 29 (some 2)) st K) (cfg.mask 29 (some 2)) K)) (roundG (fun st => loopW (execW cfg 29 (AP cfg) (AC cfg) (c1 (c1 (c2 (c1 (c2 (bodyOf f29))))))) (cfg.mask 29 (some 2)) st K) (cfg.mask 29 (some 2)) K)
noncomputable abbrev K29_10_1 (K : Ex → St → Option (AV × Mem)) : Ex → St → Option (AV × Mem) := blockK 1 (K29_10_0 K)
noncomputable abbrev K29_10_2 (K : Ex → St → Option (AV × Mem)) : Ex → St → Option (AV × Mem) := blockK 2 (K29_10_1 K)
noncomputable abbrev K29_10 (K : Ex → St → Option (AV × Mem)) : Ex → St → Option (AV × Mem) := (K29_10_2 K)
theorem T29 (a0 a1 : AV) (m : Mem) : AC cfg 29 [a0, a1] m =
  (lenA false a1).bind fun v1 =>
  L29_2 a0 a1 a1 v1 (.int .i64 0) m (K29_2 (finK cfg.P f29.results.toList)) :=
(AC_eq cfg 29 [a0, a1] m (fn := f29) (c := bodyOf f29) at29 rfl).trans (by kernel_rfl)
theorem L29_2_eq (x0 x1 x9 x10 x11 : AV) (m : Mem) (K : Ex → St → Option (AV × Mem)) : L29_2 x0 x1 x9 x10 x11 m K =
  (binA .other .lss x11 x10).bind fun v1 =>
  ifA v1 (
  (indexAddrA (some 3) x9 x11).bind fun v2 =>
  (loadA (some 3) m v2).bind fun v3 =>
  (storeA (some 3) (newAt none m (.obj true [(.int .i64 0), (.lst none true .full []), (.int .i64 0)])).2 (.ptr (newAt none m .resv).1 0) v3).bind fun m4 =>
  (fieldAddrA 0 (.ptr (newAt none m .resv).1 0)).bind fun v5 =>
  (loadA none m4 v5).bind fun v6 =>
  (binA .other .eql v6 (.int .i64 (-1))).bind fun v7 =>
  ifA v7 (
  (fieldAddrA 1 (.ptr (newAt none m .resv).1 0)).bind fun v8 =>
  (loadA none m4 v8).bind fun v9 =>
  (lenA false v9).bind fun v10 =>
  (binA .other .gtr v10 (.int .i64 0)).bind fun v11 =>
  ifA v11 (
  K .ret (R29_2 (.bool false) m4)) (
  (fieldAddrA 2 (.ptr (newAt none m .resv).1 0)).bind fun v12 =>
  (loadA none m4 v12).bind fun v13 =>
  (pcall (AP cfg) none m4 64 [v13]).bind fun r14 =>
  (unA .not r14.1).bind fun v15 =>
  ifA v15 (
  K .ret (R29_2 (.bool false) r14.2)) (
  (binA .other .add x11 (.int .i64 1)).bind fun v16 =>
  L29_2 x0 x1 x9 x10 v16 r14.2 K))) (
  (fieldAddrA 0 (.ptr (newAt none m .resv).1 0)).bind fun v17 =>
  (loadA none m4 v17).bind fun v18 =>
  (binA .other .lss v18 (.int .i64 0)).bind fun v19 =>
  ifA v19 (
  K .ret (R29_2 (.bool false) m4)) (
  (fieldAddrA 0 (.ptr (newAt none m .resv).1 0)).bind fun v20 =>
  (loadA none m4 v20).bind fun v21 =>
  (lenA false x0).bind fun v22 =>
  (binA .other .geq v21 v22).bind fun v23 =>
  ifA v23 (
  K .ret (R29_2 (.bool false) m4)) (
  (fieldAddrA 2 (.ptr (newAt none m .resv).1 0)).bind fun v24 =>
  (loadA none m4 v24).bind fun v25 =>
  (binA .other .neq v25 (.int .i64 0)).bind fun v26 =>
  ifA v26 (
  K .ret (R29_2 (.bool false) m4)) (
  (fieldAddrA 1 (.ptr (newAt none m .resv).1 0)).bind fun v27 =>
  (loadA none m4 v27).bind fun v28 =>
  (lenA false v28).bind fun v29 =>
  (fieldAddrA 0 (.ptr (newAt none m .resv).1 0)).bind fun v30 =>
  (loadA none m4 v30).bind fun v31 =>
  (indexAddrA none x0 v31).bind fun v32 =>
  (loadA none m4 v32).bind fun v33 =>
  (binA .other .neq v29 v33).bind fun v34 =>
  ifA v34 (
  K .ret (R29_2 (.bool false) m4)) (
  (fieldAddrA 1 (.ptr (newAt none m .resv).1 0)).bind fun v35 =>
  (loadA none m4 v35).bind fun v36 =>
  (lenA false v36).bind fun v37 =>
  L29_10 x0 x1 x11 (.ptr (newAt none m .resv).1 0) x9 x10 x11 v36 v37 (.int .i64 0) m4 (K29_10 K))))))) (
  K (.exit 0) (O29_2 x1 m)) :=
(loopW_eq (execW_lin _) _ _ _).trans (by kernel_rfl)
theorem L29_10_eq (x0 x1 x5 x6 x9 x10 x11 x56 x57 x58 : AV) (m : Mem) (K : Ex → St → Option (AV × Mem)) : L29_10 x0 x1 x5 x6 x9 x10 x11 x56 x57 x58 m K =
  (binA .other .lss x58 x57).bind fun v1 =>
  ifA v1 (
  (indexAddrA none x56 x58).bind fun v2 =>
  (loadA none m v2).bind fun v3 =>
  (binA .other .lss v3 (.int .i64 0)).bind fun v4 =>
  ifA v4 (
  K .ret (R29_10 (.bool false) m)) (
  (binA .other .geq v3 x5).bind fun v5 =>
  ifA v5 (
  K .ret (R29_10 (.bool false) m)) (
  (indexAddrA (some 3) x1 v3).bind fun v6 =>
  (fieldAddrA 0 v6).bind fun v7 =>
  (loadA none m v7).bind fun v8 =>
  (binA .other .geq v8 (.int .i64 0)).bind fun v9 =>
  ifA v9 (
  (indexAddrA (some 3) x1 v3).bind fun v10 =>
  (fieldAddrA 0 v10).bind fun v11 =>
  (loadA none m v11).bind fun v12 =>
  (fieldAddrA 0 x6).bind fun v13 =>
  (loadA none m v13).bind fun v14 =>
  (binA .other .leq v12 v14).bind fun v15 =>
  ifA v15 (
  K .ret (R29_10 (.bool false) m)) (
  (binA .other .add x58 (.int .i64 1)).bind fun v16 =>
  L29_10 x0 x1 x5 x6 x9 x10 x11 x56 x57 v16 m K)) (
  (binA .other .add x58 (.int .i64 1)).bind fun v17 =>
  L29_10 x0 x1 x5 x6 x9 x10 x11 x56 x57 v17 m K)))) (
  K (.exit 2) (O29_10 x0 x1 x9 x10 x11 m)) :=
(loopW_eq (execW_lin _) _ _ _).trans (by kernel_rfl)
theorem K29_2_x0 (x1 : AV) (m : Mem) : K29_2 (finK cfg.P f29.results.toList) (.exit 0) (O29_2 x1 m) =
  (lenA false x1).bind fun v1 =>
  (binA .other .gtr v1 (.int .i64 0)).bind fun v2 =>
  some (v2, m) := by kernel_rfl
theorem K29_2_ret (x4 : AV) (m : Mem) : K29_2 (finK cfg.P f29.results.toList) .ret (R29_2 x4 m) =
  some (x4, m) := by kernel_rfl
theorem K29_10_x2 (x0 x1 x9 x10 x11 : AV) (m : Mem) (K : Ex → St → Option (AV × Mem)) : K29_10 K (.exit 2) (O29_10 x0 x1 x9 x10 x11 m) =
  (binA .other .add x11 (.int .i64 1)).bind fun v1 =>
  L29_2 x0 x1 x9 x10 v1 m K := by kernel_rfl
theorem K29_10_ret (x4 : AV) (m : Mem) (K : Ex → St → Option (AV × Mem)) : K29_10 K .ret (R29_10 x4 m) =
  K .ret (R29_2 x4 m) := by kernel_rfl
/-! ### slices.ContainsFunc[[]sortilege/api.Ratio,sortilege/api.Ratio] -/
theorem T30 (a0 a1 : AV) (m : Mem) : AC cfg 30 [a0, a1] m =
  (pcall (AP cfg) none m 65 [a0, a1]).bind fun r1 =>
  (binA .other .geq r1.1 (.int .i64 0)).bind fun v2 =>
  some (v2, r1.2) :=
(AC_eq cfg 30 [a0, a1] m (fn := f30) (c := bodyOf f30) at30 rfl).trans (by kernel_rfl)
/-! ### sortilege/proof.shaped$1 -/
theorem T31 (a0 : AV) (m : Mem) : AC cfg 31 [a0] m =
  (boxA none (some 3) m a0).bind fun r1 =>
  (loadA (some 3) r1.2 r1.1).bind fun v2 =>
  (pcall (AP cfg) none r1.2 32 [v2]).bind fun r3 =>
  (unA .not r3.1).bind fun v4 =>
  some (v4, r3.2) :=
(AC_eq cfg 31 [a0] m (fn := f31) (c := bodyOf f31) at31 rfl).trans (by kernel_rfl)
/-! ### sortilege/diagram.number -/
theorem T64 (a0 : AV) (m : Mem) : AC cfg 64 [a0] m =
  (binA .other .geq a0 (.int .i64 0)).bind fun v1 =>
  ifA v1 (
  (binA .other .leq a0 (.int .i64 2147483647)).bind fun v2 =>
  some (v2, m)) (
  some ((.bool false), m)) :=
(AC_eq cfg 64 [a0] m (fn := f64) (c := bodyOf f64) at64 rfl).trans (by kernel_rfl)
/-! ### slices.IndexFunc[[]sortilege/api.Ratio,sortilege/api.Ratio] -/
def O65_2 (m : Mem) : St := ⟨[.any, .any, .any, .any, .any, .any, .any, .any, .any, .any, .any, .any, .any, .any, .any, .any, .any, .any, .any], m⟩
def R65_2 (x4 : AV) (m : Mem) : St := ⟨[.any, .any, .any, .any, x4, .any, .any, .any, .any, .any, .any, .any, .any, .any, .any, .any, .any, .any, .any], m⟩
noncomputable def L65_2 (x0 x1 x7 x8 : AV) (m : Mem) (K : Ex → St → Option (AV × Mem)) : Option (AV × Mem) := loopW (execW cfg 65 (AP cfg) (AC cfg) (c1 (c1 (c2 (c1 (c2 (bodyOf f65))))))) (cfg.mask 65 (some 2)) ⟨[x0, x1, .any, .any, .any, .any, .any, x7, x8, .any, .any, .any, .any, .any, .any, .any, .any, .any, .any], m⟩ K
noncomputable abbrev K65_2_0 (K : Ex → St → Option (AV × Mem)) : Ex → St → Option (AV × Mem) := seqK (fun st => execW cfg 65 (AP cfg) (AC cfg) (c2 (c2 (bodyOf f65))) st K) K
noncomputable abbrev K65_2_1 (K : Ex → St → Option (AV × Mem)) : Ex → St → Option (AV × Mem) := blockK 0 (K65_2_0 K)
noncomputable abbrev K65_2 (K : Ex → St → Option (AV × Mem)) : Ex → St → Option (AV × Mem) := (K65_2_1 K)
theorem T65 (a0 a1 : AV) (m : Mem) : AC cfg 65 [a0, a1] m =
  (lenA false a0).bind fun v1 =>
  L65_2 a0 a1 v1 (.int .i64 0) m (K65_2 (finK cfg.P f65.results.toList)) :=
(AC_eq cfg 65 [a0, a1] m (fn := f65) (c := bodyOf f65) at65 rfl).trans (by kernel_rfl)
theorem L65_2_eq (x0 x1 x7 x8 : AV) (m : Mem) (K : Ex → St → Option (AV × Mem)) : L65_2 x0 x1 x7 x8 m K =
  (binA .other .lss x8 x7).bind fun v1 =>
  ifA v1 (
  (indexAddrA (some 3) x0 x8).bind fun v2 =>
  (loadA (some 3) m v2).bind fun v3 =>
  (fnOf x1).bind fun g4 =>
  callK cfg 65 (AP cfg) (AC cfg) none g4.1 ([v3] ++ g4.2) m fun v5 m6 =>
  ifA v5 (
  K .ret (R65_2 x8 m6)) (
  (binA .other .add x8 (.int .i64 1)).bind fun v7 =>
  L65_2 x0 x1 x7 v7 m6 K)) (
  K (.exit 0) (O65_2 m)) :=
(loopW_eq (execW_lin _) _ _ _).trans (by kernel_rfl)
theorem K65_2_x0 (m : Mem) : K65_2 (finK cfg.P f65.results.toList) (.exit 0) (O65_2  m) =
  some ((.int .i64 (-1)), m) := by kernel_rfl
theorem K65_2_ret (x4 : AV) (m : Mem) : K65_2 (finK cfg.P f65.results.toList) .ret (R65_2 x4 m) =
  some (x4, m) := by kernel_rfl
/-! ### sortilege/diagram.Part -/
def O35_3 (x0 x1 x4 x5 : AV) (m : Mem) : St := ⟨[x0, x1, .any, .any, x4, x5, .any, .any, .any, .any, .any, .any, .any, .any, .any, .any, .any, .any, .any, .any, .any, .any, .any, .any, .any, .any, .any, .any, .any, .any], m⟩
noncomputable def L35_3 (x0 x1 x4 x5 x10 x11 x12 : AV) (m : Mem) (K : Ex → St → Option (AV × Mem)) : Option (AV × Mem) := loopW (execW cfg 35 (AP cfg) (AC cfg) (c1 (c1 (c2 (c1 (c2 (c2 (bodyOf f35)))))))) (cfg.mask 35 (some 3)) ⟨[x0, x1, .any, .any, x4, x5, .any, .any, .any, .any, x10, x11, x12, .any, .any, .any, .any, .any, .any, .any, .any, .any, .any, .any, .any, .any, .any, .any, .any, .any], m⟩ K
noncomputable abbrev K35_3_0 (K : Ex → St → Option (AV × Mem)) : Ex → St → Option (AV × Mem) := seqK (fun st => execW cfg 35 (AP cfg) (AC cfg) (c2 (c2 (c2 (bodyOf f35)))) st K) K
noncomputable abbrev K35_3_1 (K : Ex → St → Option (AV × Mem)) : Ex → St → Option (AV × Mem) := blockK 0 (K35_3_0 K)
noncomputable abbrev K35_3 (K : Ex → St → Option (AV × Mem)) : Ex → St → Option (AV × Mem) := (K35_3_1 K)
theorem T35 (a0 a1 : AV) (m : Mem) : AC cfg 35 [a0, a1] m =
  (lenA false a0).bind fun v1 =>
  L35_3 a0 a1 (.ptr (newAt none m .resv).1 0) (.int .i64 0) a0 v1 (.int .i64 0) (newAt none m (.obj true [(.bool false), (.lst none true .full []), (.lst none true .full [])])).2 (K35_3 (finK cfg.P f35.results.toList)) :=
(AC_eq cfg 35 [a0, a1] m (fn := f35) (c := bodyOf f35) at35 rfl).trans (by kernel_rfl)
theorem L35_3_eq (x0 x1 x4 x5 x10 x11 x12 : AV) (m : Mem) (K : Ex → St → Option (AV × Mem)) : L35_3 x0 x1 x4 x5 x10 x11 x12 m K =
  (binA .other .lss x12 x11).bind fun v1 =>
  ifA v1 (
  (indexAddrA none x10 x12).bind fun v2 =>
  (loadA none m v2).bind fun v3 =>
  (binA .other .add x5 v3).bind fun v4 =>
  (binA .other .add x12 (.int .i64 1)).bind fun v5 =>
  L35_3 x0 x1 x4 v4 x10 x11 v5 m K) (
  K (.exit 0) (O35_3 x0 x1 x4 x5 m)) :=
(loopW_eq (execW_lin _) _ _ _).trans (by kernel_rfl)
theorem K35_3_x0 (x0 x1 x4 x5 : AV) (m : Mem) : K35_3 (finK cfg.P f35.results.toList) (.exit 0) (O35_3 x0 x1 x4 x5 m) =
  (indexAddrA none x0 x1).bind fun v1 =>
  (loadA none m v1).bind fun v2 =>
  (pcall (AP cfg) none m 69 [v2, x5]).bind fun r3 =>
  (extractA r3.1 0).bind fun v4 =>
  (extractA r3.1 1).bind fun v5 =>
  (storeA (some 3) (newAt none r3.2 (.obj true [(.bool false), (.lst none true .full []), (.lst none true .full [])])).2 (.ptr (newAt none r3.2 .resv).1 0) v4).bind fun m6 =>
  (loadA (some 3) m6 (.ptr (newAt none r3.2 .resv).1 0)).bind fun v7 =>
  (storeA (some 3) m6 x4 v7).bind fun m8 =>
  (loadA (some 3) m8 x4).bind fun v9 =>
  some (v9, m8) := by kernel_rfl
/-! ### sortilege/ratio.Make -/
theorem T69 (a0 a1 : AV) (m : Mem) : AC cfg 69 [a0, a1] m =
  (binA .other .lss a0 (.int .i64 0)).bind fun v1 =>
  (binA .other .lss a1 (.int .i64 0)).bind fun v2 =>
  (binA .bl .neq v1 v2).bind fun v3 =>
  (pcall (AP cfg) none (newAt none m (.obj true [(.bool false), (.lst none true .full []), (.lst none true .full [])])).2 82 [a0]).bind fun r4 =>
  (pcall (AP cfg) none r4.2 82 [a1]).bind fun r5 =>
  (pcall (AP cfg) none r5.2 70 [v3, r4.1, r5.1]).bind fun r6 =>
  (extractA r6.1 0).bind fun v7 =>
  (extractA r6.1 1).bind fun v8 =>
  (storeA (some 3) r6.2 (.ptr (newAt none m .resv).1 0) v7).bind fun m9 =>
  (loadA (some 3) m9 (.ptr (newAt none m .resv).1 0)).bind fun v10 =>
  some ((.tup [v10, v8]), m9) :=
(AC_eq cfg 69 [a0, a1] m (fn := f69) (c := bodyOf f69) at69 rfl).trans (by kernel_rfl)
/-! ### sortilege/proof.Check -/
def O7_4 (x1 x2 : AV) (m : Mem) : St := ⟨[.any, x1, x2, .any, .any, .any, .any, .any, .any, .any, .any, .any, .any, .any, .any, .any, .any, .any, .any, .any, .any, .any, .any, .any, .any, .any, .any, .any, .any, .any, .any, .any, .any, .any, .any, .any, .any, .any, .any, .any, .any, .any, .any, .any, .any, .any, .any], m⟩
def R7_4 (x2 x3 x4 : AV) (m : Mem) : St := ⟨[.any, .any, x2, x3, x4, .any, .any, .any, .any, .any, .any, .any, .any, .any, .any, .any, .any, .any, .any, .any, .any, .any, .any, .any, .any, .any, .any, .any, .any, .any, .any, .any, .any, .any, .any, .any, .any, .any, .any, .any, .any, .any, .any, .any, .any, .any, .any], m⟩
noncomputable def L7_4 (x1 x2 x12 x13 x14 : AV) (m : Mem) (K : Ex → St → Option (AV × Mem)) : Option (AV × Mem) := loopW (execW cfg 7 (AP cfg) (AC cfg) (c1 (c1 (c2 (c1 (c2 (c2 (bodyOf f7)))))))) (cfg.mask 7 (some 4)) ⟨[.any, x1, x2, .any, .any, .any, .any, .any, .any, .any, .any, .any, x12, x13, x14, .any, .any, .any, .any, .any, .any, .any, .any, .any, .any, .any, .any, .any, .any, .any, .any, .any, .any, .any, .any, .any, .any, .any, .any, .any, .any, .any, .any, .any, .any, .any, .any], m⟩ K
noncomputable abbrev K7_4_0 (K : Ex → St → Option (AV × Mem)) : Ex → St → Option (AV × Mem) := seqK (fun st => execW cfg 7 (AP cfg) (AC cfg) (c2 (c2 (c2 (bodyOf f7)))) st K) K
noncomputable abbrev K7_4_1 (K : Ex → St → Option (AV × Mem)) : Ex → St → Option (AV × Mem) := blockK 0 (K7_4_0 K)
noncomputable abbrev K7_4 (K : Ex → St → Option (AV × Mem)) : Ex → St → Option (AV × Mem) := (K7_4_1 K)
theorem T7 (a0 : AV) (m : Mem) : AC cfg 7 [a0] m =
  (boxA none (some 4) m a0).bind fun r1 =>
  (loadA (some 4) (newAt none r1.2 (.obj true [(.bool false), (.lst none true .full []), (.lst none true .full [])])).2 r1.1).bind fun v2 =>
  (pcall (AP cfg) none (newAt none r1.2 (.obj true [(.bool false), (.lst none true .full []), (.lst none true .full [])])).2 13 [v2]).bind fun r3 =>
  (unA .not r3.1).bind fun v4 =>
  ifA v4 (
  (buildA (.agg [(.bool false), (.lst none true .full []), (.lst none true .full [])]) []).bind fun v5 =>
  (storeA (some 3) r3.2 (.ptr (newAt none r1.2 .resv).1 0) v5).bind fun m6 =>
  (loadA (some 3) m6 (.ptr (newAt none r1.2 .resv).1 0)).bind fun v7 =>
  some ((.tup [v7, (.int .i64 0), (.int .i64 1)]), m6)) (
  (fieldAddrA 1 r1.1).bind fun v8 =>
  (loadA none r3.2 v8).bind fun v9 =>
  (lenA false v9).bind fun v10 =>
  L7_4 r1.1 (.ptr (newAt none r1.2 .resv).1 0) v9 v10 (.int .i64 0) r3.2 (K7_4 (finK cfg.P f7.results.toList))) :=
(AC_eq cfg 7 [a0] m (fn := f7) (c := bodyOf f7) at7 rfl).trans (by kernel_rfl)
theorem L7_4_eq (x1 x2 x12 x13 x14 : AV) (m : Mem) (K : Ex → St → Option (AV × Mem)) : L7_4 x1 x2 x12 x13 x14 m K =
  (binA .other .lss x14 x13).bind fun v1 =>
  ifA v1 (
  (indexAddrA (some 3) x12 x14).bind fun v2 =>
  (loadA (some 3) m v2).bind fun v3 =>
  (storeA (some 3) (newAt none m (.obj true [(.int .i64 0), (.lst none true .full []), (.int .i64 0)])).2 (.ptr (newAt none m .resv).1 0) v3).bind fun m4 =>
  (fieldAddrA 2 x1).bind fun v5 =>
  (loadA none m4 v5).bind fun v6 =>
  (indexAddrA (some 3) v6 x14).bind fun v7 =>
  (loadA (some 3) m4 v7).bind fun v8 =>
  (fieldAddrA 0 x1).bind fun v9 =>
  (loadA none m4 v9).bind fun v10 =>
  (loadA (some 3) m4 (.ptr (newAt none m .resv).1 0)).bind fun v11 =>
  (fieldAddrA 3 x1).bind fun v12 =>
  (loadA none m4 v12).bind fun v13 =>
  (fieldAddrA 2 x1).bind fun v14 =>
  (loadA none m4 v14).bind fun v15 =>
  (pcall (AP cfg) (some m4.length) m4 15 [v10, v11, v13, v15]).bind fun r16 =>
  (pcall (AP cfg) (some m4.length) r16.2 14 [v8, r16.1]).bind fun r17 =>
  (unA .not r17.1).bind fun v18 =>
  ifA v18 (
  (buildA (.agg [(.bool false), (.lst none true .full []), (.lst none true .full [])]) []).bind fun v19 =>
  (storeA (some 3) r17.2 x2 v19).bind fun m20 =>
  K .ret (R7_4 x2 x14 (.int .i64 32) m20)) (
  (binA .other .add x14 (.int .i64 1)).bind fun v21 =>
  L7_4 x1 x2 x12 x13 v21 r17.2 K)) (
  K (.exit 0) (O7_4 x1 x2 m)) :=
(loopW_eq (execW_lin _) _ _ _).trans (by kernel_rfl)
theorem K7_4_x0 (x1 x2 : AV) (m : Mem) : K7_4 (finK cfg.P f7.results.toList) (.exit 0) (O7_4 x1 x2 m) =
  (fieldAddrA 2 x1).bind fun v1 =>
  (loadA none m v1).bind fun v2 =>
  (fieldAddrA 2 x1).bind fun v3 =>
  (loadA none m v3).bind fun v4 =>
  (lenA false v4).bind fun v5 =>
  (binA .other .sub v5 (.int .i64 1)).bind fun v6 =>
  (indexAddrA (some 3) v2 v6).bind fun v7 =>
  (loadA (some 3) m v7).bind fun v8 =>
  (pcall (AP cfg) (some m.length) m 17 []).bind fun r9 =>
  (pcall (AP cfg) (some m.length) r9.2 16 [v8, r9.1]).bind fun r10 =>
  (storeA (some 3) r10.2 x2 r10.1).bind fun m11 =>
  (loadA (some 3) m11 x2).bind fun v12 =>
  some ((.tup [v12, (.int .i64 0), (.int .i64 0)]), m11) := by kernel_rfl
theorem K7_4_ret (x2 x3 x4 : AV) (m : Mem) : K7_4 (finK cfg.P f7.results.toList) .ret (R7_4 x2 x3 x4 m) =
  (loadA (some 3) m x2).bind fun v1 =>
  some ((.tup [v1, x3, x4]), m) := by kernel_rfl
end Go.Ab

/- What the interpreter does, function by function. -/
set_option maxRecDepth 100000
set_option linter.unusedVariables false
namespace Go.Ab
open Go.Proofs.Try
/-! ### sortilege/sortilegeref25.arms -/
/-! ### sortilege/sortilegeref23.Arms -/
/-! ### sortilege/sortilegeref23.Odds -/
/-! ### sortilege/sortilegeref23.Right -/
/-! ### sortilege/sortilegeref25.form -/
/-! ### sortilege/sortilegeref25.Has -/
/-! ### sortilege/sortilegeref25.Check -/
end Go.Ab

/- Certificates in values: rows of whole numbers, nodes, odds; boxes of nodes and certificates; numbers, arms and odds. -/
set_option linter.unusedVariables false
set_option linter.unusedSimpArgs false
set_option maxRecDepth 100000
namespace Go.Ab
open Go.Proofs.Try

structure IL where
  z : Bool
  o : Own
  ns : List Int
def iA (n : Int) : AV := .int .i64 n
def IL.av (l : IL) : AV := .lst none l.z l.o (l.ns.map iA)
def IL.fr (l : IL) : IL := ⟨l.z, l.o.fr, l.ns⟩
structure ND where
  var : Int
  kids : IL
  leaf : Int
def ND.av (n : ND) : AV := .agg [.int .i64 n.var, n.kids.av, .int .i64 n.leaf]
structure OL where
  z : Bool
  o : Own
  es : List IL
def OL.av (l : OL) : AV := .lst none l.z l.o (l.es.map IL.av)
def OL.fr (l : OL) : OL := ⟨l.z, l.o.fr, l.es⟩
structure NL where
  sh : Sh
  z : Bool
  o : Own
  es : List ND
def NL.av (l : NL) : AV := .lst l.sh l.z l.o (l.es.map ND.av)
def NL.fr (l : NL) : NL := ⟨l.sh, l.z, l.o.fr, l.es⟩
structure CV where
  odds : OL
  nodes : NL
  ws : LV
  leaf : Int
def CV.av (c : CV) : AV := .agg [c.odds.av, c.nodes.av, c.ws.av, .int .i64 c.leaf]
def CV.fr (c : CV) : CV := ⟨c.odds.fr, c.nodes.fr, c.ws.fr, c.leaf⟩
theorem fz_il (l : IL) : Fz l.av l.fr.av := fun m => fza_lst none l.z l.o (l.ns.map iA) m 8
theorem fz_ol (l : OL) : Fz l.av l.fr.av := fun m => fza_lst none l.z l.o (l.es.map IL.av) m 8
theorem fz_nl (l : NL) : Fz l.av l.fr.av := fun m => fza_lst l.sh l.z l.o (l.es.map ND.av) m 8
theorem fza_il (l : IL) : ∀ m k, frz m (k + 1) l.av = some (l.fr.av, []) := fza_lst none l.z l.o (l.ns.map iA)
theorem fza_ol (l : OL) : ∀ m k, frz m (k + 1) l.av = some (l.fr.av, []) := fza_lst none l.z l.o (l.es.map IL.av)
theorem fza_nl (l : NL) : ∀ m k, frz m (k + 1) l.av = some (l.fr.av, []) := fza_lst l.sh l.z l.o (l.es.map ND.av)
theorem fza_lv (l : LV) : ∀ m k, frz m (k + 1) l.av = some (l.fr.av, []) := fza_lst l.sh l.z l.o (l.es.map RV.av)
theorem fza_nd (n : ND) : ∀ m k, frz m (k + 2) n.av = some (ND.av ⟨n.var, n.kids.fr, n.leaf⟩, []) := by
  intro m k
  have e : frz m (k + 2) n.av = (mapF (frz m (k + 1)) [.int .i64 n.var, n.kids.av, .int .i64 n.leaf]).map fun r => (.agg r.1, r.2) := rfl
  rw [e]
  simp [mapF, fza_int _ _ m k, fza_il n.kids m k, ND.av]
theorem fza_cv (c : CV) : ∀ m k, frz m (k + 2) c.av = some (c.fr.av, []) := by
  intro m k
  have e : frz m (k + 2) c.av = (mapF (frz m (k + 1)) [c.odds.av, c.nodes.av, c.ws.av, .int .i64 c.leaf]).map fun r => (.agg r.1, r.2) := rfl
  rw [e]
  simp [mapF, fza_int _ _ m k, fza_ol _ m k, fza_nl _ m k, fza_lv _ m k, CV.av, CV.fr]
theorem fz_nd (n : ND) : Fz n.av (ND.av ⟨n.var, n.kids.fr, n.leaf⟩) := fun m => fza_nd n m 7
theorem fz_cv (c : CV) : Fz c.av c.fr.av := fun m => fza_cv c m 7
/-! ### What the operations do -/
theorem len_il (l : IL) : lenA false l.av = some (.int .i64 l.ns.length) := by simp [IL.av, lenA]
theorem len_ol (l : OL) : lenA false l.av = some (.int .i64 l.es.length) := by simp [OL.av, lenA]
theorem len_nl (l : NL) : lenA false l.av = some (.int .i64 l.es.length) := by simp [NL.av, lenA]
theorem index_il {l : IL} {k : Nat} {kk : IntKind} (hk : k < l.ns.length) : indexAddrA none l.av (.int kk k) = some (.vptr [iA l.ns[k]]) := by
  simp [IL.av, indexAddrA, hk, iA, AV.cells]
theorem load_il (m : Mem) (n : Int) : loadA none m (.vptr [iA n]) = some (.int .i64 n) := rfl
theorem index_ol {l : OL} {k : Nat} {kk : IntKind} (hk : k < l.es.length) : indexAddrA none l.av (.int kk k) = some (.vptr [l.es[k].av]) := by
  simp [OL.av, indexAddrA, hk, IL.av, AV.cells]
theorem load_ol (m : Mem) (n : IL) : loadA none m (.vptr [n.av]) = some n.av := rfl
theorem index_nl {l : NL} {k : Nat} {kk : IntKind} (hs : l.sh = some 3 ∨ l.es = []) (hk : k < l.es.length) : indexAddrA (some 3) l.av (.int kk k) = some (.vptr (l.es[k].av).cells) := by
  have hs : l.sh = some 3 := hs.resolve_right (fun e => by rw [e] at hk; simp at hk)
  simp [NL.av, indexAddrA, hs, hk]
theorem load_nd (m : Mem) (n : ND) : loadA (some 3) m (.vptr n.av.cells) = some n.av := rfl
theorem fld_nd (n : ND) : fieldAddrA 0 (.vptr n.av.cells) = some (.vptr n.av.cells) := rfl
theorem load_nd0 (m : Mem) (n : ND) : loadA none m (.vptr n.av.cells) = some (.int .i64 n.var) := rfl
/-! ### Boxes -/
def cN (n : ND) : Option Ent := some (.obj true [.int .i64 n.var, n.kids.av, .int .i64 n.leaf])
def nilI : IL := ⟨true, .full, []⟩
def zN : ND := ⟨0, nilI, 0⟩
theorem new_n (m : Mem) : newAt none m (.obj true [.int .i64 0, .lst none true .full [], .int .i64 0]) = (m.length, m ++ [cN zN]) := rfl
theorem nld0 {m : Mem} {k : Nat} {x : ND} (h : m[k]? = some (cN x)) : loadA none m (.ptr k 0) = some (.int .i64 x.var) := by simp [loadA, mobj h, cutSh]
theorem nld1 {m : Mem} {k : Nat} {x : ND} (h : m[k]? = some (cN x)) : loadA none m (.ptr k 1) = some x.kids.av := by simp [loadA, mobj h, cutSh]
theorem nld2 {m : Mem} {k : Nat} {x : ND} (h : m[k]? = some (cN x)) : loadA none m (.ptr k 2) = some (.int .i64 x.leaf) := by simp [loadA, mobj h, cutSh]
theorem nldA {m : Mem} {k : Nat} {x : ND} (h : m[k]? = some (cN x)) : loadA (some 3) m (.ptr k 0) = some x.av := by simp [loadA, mobj h, cutSh, ND.av]
theorem nst_last {m : Mem} {x y : ND} : storeA (some 3) (m ++ [cN x]) (.ptr m.length 0) y.av = some (m ++ [cN y]) := by
  simp only [storeA, mobj (get_last (m := m) (e := cN x)), Option.bind_some]
  simp [ND.av, IL.av, Sh.size, shOk, atomOk, putAt, AV.cells, cN]
theorem box_nd (m : Mem) (x : ND) : boxA none (some 3) m x.av = some (.ptr m.length 0, m ++ [cN x]) := rfl
def cC (c : CV) : Option Ent := some (.obj true [c.odds.av, c.nodes.av, c.ws.av, .int .i64 c.leaf])
def zC : CV := ⟨⟨true, .full, []⟩, ⟨none, true, .full, []⟩, nilL, 0⟩
theorem box_cv (m : Mem) (x : CV) : boxA none (some 4) m x.av = some (.ptr m.length 0, m ++ [cC x]) := rfl
theorem new_cv (m : Mem) : newAt none m (.obj true [.lst none true .full [], .lst none true .full [], .lst none true .full [], .int .i64 0]) = (m.length, m ++ [cC zC]) := rfl
theorem cld0 {m : Mem} {k : Nat} {x : CV} (h : m[k]? = some (cC x)) : loadA none m (.ptr k 0) = some x.odds.av := by simp [loadA, mobj h, cutSh]
theorem cld1 {m : Mem} {k : Nat} {x : CV} (h : m[k]? = some (cC x)) : loadA none m (.ptr k 1) = some x.nodes.av := by simp [loadA, mobj h, cutSh]
theorem cld2 {m : Mem} {k : Nat} {x : CV} (h : m[k]? = some (cC x)) : loadA none m (.ptr k 2) = some x.ws.av := by simp [loadA, mobj h, cutSh]
theorem cld3 {m : Mem} {k : Nat} {x : CV} (h : m[k]? = some (cC x)) : loadA none m (.ptr k 3) = some (.int .i64 x.leaf) := by simp [loadA, mobj h, cutSh]
theorem cldA {m : Mem} {k : Nat} {x : CV} (h : m[k]? = some (cC x)) : loadA (some 4) m (.ptr k 0) = some x.av := by simp [loadA, mobj h, cutSh, CV.av]
theorem cstA {m : Mem} {k : Nat} {x y : CV} (h : m[k]? = some (cC x)) : storeA (some 4) m (.ptr k 0) y.av = some (m.set k (cC y)) := by
  simp only [storeA, mobj h, Option.bind_some]
  rfl
theorem fld3 (n : Nat) : fieldAddrA 3 (.ptr n 0) = some (.ptr n 3) := rfl
/-! ### Numbers -/
theorem V64 (n : Int) : AP cfg 64 [.int .i64 n] = some (.bool (decide (0 ≤ n ∧ n ≤ 2147483647))) := by
  refine AP_ofz _ _ (fz_bool _) rfl (m := []) ?_
  rw [T64, binA_geq, Option.bind_some, ifA_dec]
  by_cases h : n ≥ 0
  · rw [if_pos h, binA_leq, Option.bind_some]
    congr 3
    exact decide_eq_decide.2 (by omega)
  · rw [if_neg h]
    congr 3
    exact (decide_eq_false (by omega)).symm
/-! ### Arms -/
/-! ### Odds -/
def oddB (o : Int) : Bool := decide (0 ≤ o ∧ o ≤ 1000)
def rowB (l : IL) (a : Int) : Bool := l.ns.all oddB && (decide ((l.ns.length : Int) = a) && decide (l.ns.sum ≠ 0))
def oddsB (arms : IL) (L : OL) : Bool := decide (L.es.length = arms.ns.length) && (L.es.zip arms.ns).all fun p => rowB p.1 p.2
theorem oddB_iff {o : Int} : oddB o = true ↔ 0 ≤ o ∧ o ≤ 1000 := by unfold oddB; exact decide_eq_true_iff
theorem X28 (l : IL) (hl : l.ns.length ≤ 64) (x0 x5 x6 x15 x16 x17 : AV) (m : Mem) (K : Ex → St → Option (AV × Mem)) : ∀ (j i : Nat) (s : Int), i + j = l.ns.length → 0 ≤ s → s ≤ 1000 * i →
    L28_8 x0 x5 x6 (.int .i64 s) x15 x16 x17 l.av (.int .i64 l.ns.length) (.int .i64 i) m K = if (l.ns.drop i).all oddB then K (.exit 2) (O28_8 x0 x5 x6 (.int .i64 (s + (l.ns.drop i).sum)) x15 x16 x17 m) else K .ret (R28_8 (.bool false) m)
  | 0, i, s, h, h0, h1 => by
    rw [L28_8_eq, n_lss, Option.bind_some, ifA_dec, if_neg (by omega), List.drop_eq_nil_of_le (by omega), List.sum_nil, Int.add_zero]; rfl
  | j + 1, i, s, h, h0, h1 => by
    have hi : i < l.ns.length := by omega
    rw [L28_8_eq, n_lss, Option.bind_some, ifA_dec, if_pos hi, index_il hi, Option.bind_some, load_il, Option.bind_some, binA_lss, Option.bind_some, ifA_dec, List.drop_eq_getElem_cons hi, List.all_cons, List.sum_cons]
    by_cases c1 : l.ns[i] < 0
    · rw [if_pos c1, show oddB l.ns[i] = false from decide_eq_false (by omega)]; rfl
    · rw [if_neg c1, binA_gtr, Option.bind_some, ifA_dec]
      by_cases c2 : l.ns[i] > 1000
      · rw [if_pos c2, show oddB l.ns[i] = false from decide_eq_false (by omega)]; rfl
      · have ih := X28 l hl x0 x5 x6 x15 x16 x17 m K j (i + 1) (s + l.ns[i]) (by omega) (by omega) (by omega)
        rw [if_neg c2, binA_add, wrap_i64 (by omega) (by omega), Option.bind_some, i_add1 (by omega), Option.bind_some, ih, show oddB l.ns[i] = true from decide_eq_true (by omega), Bool.true_and, Int.add_assoc]
theorem W28 (arms : IL) (L : OL) (hlen : L.es.length = arms.ns.length) (h64 : ∀ l ∈ L.es, l.ns.length ≤ 64) (h40 : L.es.length ≤ 40) (m : Mem) (K : Ex → St → Option (AV × Mem)) : ∀ j i : Nat, i + j = L.es.length →
    L28_4 arms.av L.av (.int .i64 L.es.length) (.int .i64 i) m K = if ((L.es.zip arms.ns).drop i).all (fun p => rowB p.1 p.2) then K (.exit 0) (O28_4 m) else K .ret (R28_4 (.bool false) m)
  | 0, i, h => by
    rw [L28_4_eq, n_lss, Option.bind_some, ifA_dec, if_neg (by omega), List.drop_eq_nil_of_le (by rw [List.length_zip]; omega)]; rfl
  | j + 1, i, h => by
    have hi : i < L.es.length := by omega
    have hz : i < (L.es.zip arms.ns).length := by rw [List.length_zip]; omega
    have ih := W28 arms L hlen h64 h40 m K j (i + 1) (by omega)
    have hx := X28 L.es[i] (h64 _ (List.getElem_mem hi)) arms.av (.int .i64 i) L.es[i].av L.av (.int .i64 L.es.length) (.int .i64 i) m (K28_8 K) L.es[i].ns.length 0 0 (by omega) (by omega) (by omega)
    rw [List.drop_zero, Int.zero_add, show (((0 : Nat) : Int)) = (0 : Int) from rfl] at hx
    rw [L28_4_eq, n_lss, Option.bind_some, ifA_dec, if_pos hi, index_ol hi, Option.bind_some, load_ol, Option.bind_some, len_il, Option.bind_some, hx, List.drop_eq_getElem_cons hz, List.all_cons, List.getElem_zip]
    dsimp only
    unfold rowB
    by_cases c1 : L.es[i].ns.all oddB = true
    · rw [if_pos c1, K28_8_x2, len_il, Option.bind_some, index_il (by omega), Option.bind_some, load_il, Option.bind_some, binA_neq, Option.bind_some, ifA_dec, c1, Bool.true_and]
      by_cases c2 : (L.es[i].ns.length : Int) = arms.ns[i]
      · rw [if_neg (by omega), binA_eql, Option.bind_some, ifA_dec, decide_eq_true c2, Bool.true_and]
        by_cases c3 : L.es[i].ns.sum = 0
        · rw [if_pos c3, decide_eq_false (by omega)]; rfl
        · rw [if_neg c3, decide_eq_true c3, Bool.true_and, i_add1 (by omega), Option.bind_some, ih]; rfl
      · rw [if_pos c2, decide_eq_false c2]; rfl
    · rw [if_neg c1, K28_8_ret, Bool.eq_false_iff.2 c1]; rfl
theorem V28 (arms : IL) (L : OL) (h64 : ∀ l ∈ L.es, l.ns.length ≤ 64) (h40 : L.es.length ≤ 40) : AP cfg 28 [arms.av, L.av] = some (.bool (oddsB arms L)) := by
  refine AP_ofz _ _ (fz_bool _) rfl (m := []) ?_
  unfold oddsB
  rw [T28, len_ol, Option.bind_some, len_il, Option.bind_some, binA_neq, Option.bind_some, ifA_dec]
  by_cases h : L.es.length = arms.ns.length
  · rw [if_neg (by omega), Option.bind_some, show ((0 : Int)) = ((0 : Nat) : Int) from rfl, W28 arms L h h64 h40 [] _ L.es.length 0 (by omega), List.drop_zero, decide_eq_true h, Bool.true_and]
    by_cases h2 : (L.es.zip arms.ns).all (fun p => rowB p.1 p.2) = true
    · rw [if_pos h2, h2, K28_4_x0]
    · rw [if_neg h2, Bool.eq_false_iff.2 h2, K28_4_ret]
  · rw [if_pos (by omega), decide_eq_false h]; rfl
end Go.Ab

/- Lists of nodes, rows of weights, the shape of a certificate, in values. -/
set_option linter.unusedVariables false
set_option linter.unusedSimpArgs false
set_option maxRecDepth 100000
namespace Go.Ab
open Go.Proofs.Try

def allF (f : Nat → Bool) : Nat → Nat → Bool
  | 0, _ => true
  | j + 1, i => f i && allF f j (i + 1)
theorem allF_iff {f : Nat → Bool} : ∀ {j i : Nat}, allF f j i = true ↔ ∀ k, i ≤ k → k < i + j → f k = true
  | 0, i => by
    constructor
    · intro _ k h1 h2; omega
    · intro _; rfl
  | j + 1, i => by
    rw [allF, Bool.and_eq_true, allF_iff (j := j)]
    constructor
    · rintro ⟨h1, h2⟩ k h3 h4
      by_cases h : k = i
      · rw [h]; exact h1
      · exact h2 k (by omega) (by omega)
    · intro h
      exact ⟨h i (Nat.le_refl _) (by omega), fun k h1 h2 => h k (by omega) (by omega)⟩
def varAt (ns : List ND) (k : Nat) : Int := (ns.map ND.var).getD k 0
def kidB (ns : List ND) (i : Nat) (v k : Int) : Bool := decide (0 ≤ k ∧ k < i) && (decide (varAt ns k.toNat < 0) || decide (v < varAt ns k.toNat))
def nodeB (arms : IL) (ns : List ND) (i : Nat) (n : ND) : Bool :=
  if n.var = -1 then decide (n.kids.ns.length = 0 ∧ 0 ≤ n.leaf ∧ n.leaf ≤ 2147483647)
  else decide (0 ≤ n.var ∧ n.var < arms.ns.length ∧ n.leaf = 0 ∧ (n.kids.ns.length : Int) = arms.ns.getD n.var.toNat 0) && n.kids.ns.all (kidB ns i n.var)
def nodesB (arms : IL) (ns : List ND) : Bool := decide (0 < ns.length) && allF (fun i => nodeB arms ns i (ns.getD i zN)) ns.length 0
theorem varAt_get {ns : List ND} {k : Nat} (h : k < ns.length) : varAt ns k = ns[k].var := by
  unfold varAt
  rw [List.getD_eq_getElem?_getD, List.getElem?_map, List.getElem?_eq_getElem h]; rfl
theorem getD_nd {ns : List ND} {k : Nat} (h : k < ns.length) : ns.getD k zN = ns[k] := by
  rw [List.getD_eq_getElem?_getD, List.getElem?_eq_getElem h]; rfl
theorem nodeB_var {arms : IL} {ns : List ND} {i : Nat} {n : ND} (h : nodeB arms ns i n = true) : n.var = -1 ∨ 0 ≤ n.var := by
  unfold nodeB at h
  by_cases c : n.var = -1
  · exact .inl c
  · rw [if_neg c, Bool.and_eq_true, decide_eq_true_iff] at h
    exact .inr h.1.1
theorem pcIx {m : Mem} {d : Option Nat} {g : Nat} (a : Int) : pcall (AP cfg) d m g [.int .i64 a] = (AP cfg g [.int .i64 a]).map fun v => (v, m) := pcall1 (fz_int _ a)
theorem X29 (L : NL) (hs : L.sh = some 3 ∨ L.es = []) (i : Nat) (hi : i ≤ L.es.length) (hp : ∀ k, k < i → varAt L.es k = -1 ∨ 0 ≤ varAt L.es k) (n : ND) (b : Nat) (m : Mem) (hb : m[b]? = some (cN n)) (hk : n.kids.ns.length ≤ 64) (x0 x9 x10 x11 : AV) (K : Ex → St → Option (AV × Mem)) : ∀ j c : Nat, c + j = n.kids.ns.length →
    L29_10 x0 L.av (.int .i64 i) (.ptr b 0) x9 x10 x11 n.kids.av (.int .i64 n.kids.ns.length) (.int .i64 c) m K = if (n.kids.ns.drop c).all (kidB L.es i n.var) then K (.exit 2) (O29_10 x0 L.av x9 x10 x11 m) else K .ret (R29_10 (.bool false) m)
  | 0, c, h => by
    rw [L29_10_eq, n_lss, Option.bind_some, ifA_dec, if_neg (by omega), List.drop_eq_nil_of_le (by omega)]; rfl
  | j + 1, c, h => by
    have hc : c < n.kids.ns.length := by omega
    have ih := X29 L hs i hi hp n b m hb hk x0 x9 x10 x11 K j (c + 1) (by omega)
    rw [L29_10_eq, n_lss, Option.bind_some, ifA_dec, if_pos hc, index_il hc, Option.bind_some, load_il, Option.bind_some, binA_lss, Option.bind_some, ifA_dec, List.drop_eq_getElem_cons hc, List.all_cons]
    generalize n.kids.ns[c] = k
    unfold kidB
    by_cases c1 : k < 0
    · rw [if_pos c1, decide_eq_false (by omega : ¬ (0 ≤ k ∧ k < i))]; rfl
    · rw [if_neg c1, binA_geq, Option.bind_some, ifA_dec]
      by_cases c2 : k ≥ i
      · rw [if_pos c2, decide_eq_false (by omega : ¬ (0 ≤ k ∧ k < i))]; rfl
      · obtain ⟨q, rfl⟩ := Int.eq_ofNat_of_zero_le (by omega : 0 ≤ k)
        have hq : q < L.es.length := by omega
        have hpq := hp q (by omega)
        rw [varAt_get hq] at hpq
        rw [if_neg c2, index_nl hs hq, Option.bind_some, fld_nd, Option.bind_some, load_nd0, Option.bind_some, binA_geq, Option.bind_some, ifA_dec, decide_eq_true (by omega : (0 : Int) ≤ (q : Int) ∧ (q : Int) < i), Bool.true_and, Int.toNat_natCast, varAt_get hq]
        by_cases c3 : L.es[q].var ≥ 0
        · rw [if_pos c3, Option.bind_some, fld_nd, Option.bind_some, load_nd0, Option.bind_some, fld0, Option.bind_some, nld0 hb, Option.bind_some, binA_leq, Option.bind_some, ifA_dec, decide_eq_false (by omega : ¬ L.es[q].var < 0), Bool.false_or]
          by_cases c4 : L.es[q].var ≤ n.var
          · rw [if_pos c4, decide_eq_false (by omega)]; rfl
          · rw [if_neg c4, i_add1 (by omega), Option.bind_some, ih, decide_eq_true (by omega), Bool.true_and]; rfl
        · rw [if_neg c3, i_add1 (by omega), Option.bind_some, ih, decide_eq_true (by omega : L.es[q].var < 0), Bool.true_or, Bool.true_and]; rfl
theorem W29 (arms : IL) (ha : ∀ a ∈ arms.ns, a ≤ 64) (L : NL) (hs : L.sh = some 3 ∨ L.es = []) (hL : L.es.length ≤ 4000) (K : Ex → St → Option (AV × Mem)) : ∀ (j i : Nat) (m : Mem), i + j = L.es.length → (∀ k, k < i → varAt L.es k = -1 ∨ 0 ≤ varAt L.es k) →
    ∃ m', L29_2 arms.av L.av L.av (.int .i64 L.es.length) (.int .i64 i) m K = if allF (fun i => nodeB arms L.es i (L.es.getD i zN)) j i then K (.exit 0) (O29_2 L.av m') else K .ret (R29_2 (.bool false) m')
  | 0, i, m, h, hp => ⟨m, by rw [L29_2_eq, n_lss, Option.bind_some, ifA_dec, if_neg (by omega)]; rfl⟩
  | j + 1, i, m, h, hp => by
    have hi : i < L.es.length := by omega
    have nx : nodeB arms L.es i L.es[i] = true → ∃ m', L29_2 arms.av L.av L.av (.int .i64 L.es.length) (.int .i64 ((i + 1 : Nat) : Int)) (m ++ [cN L.es[i]]) K = if allF (fun i => nodeB arms L.es i (L.es.getD i zN)) j (i + 1) then K (.exit 0) (O29_2 L.av m') else K .ret (R29_2 (.bool false) m') := by
      intro hn
      refine W29 arms ha L hs hL K j (i + 1) _ (by omega) (fun k hk => ?_)
      by_cases c : k = i
      · rw [c, varAt_get hi]; exact nodeB_var hn
      · exact hp k (by omega)
    rw [allF, getD_nd hi, L29_2_eq, n_lss, Option.bind_some, ifA_dec, if_pos hi, index_nl hs hi, Option.bind_some, load_nd, Option.bind_some]
    simp only [new_n, new_r]
    rw [nst_last, Option.bind_some]
    have hb : (m ++ [cN L.es[i]])[m.length]? = some (cN L.es[i]) := get_last
    have hX := fun (hk : L.es[i].kids.ns.length ≤ 64) (K : Ex → St → Option (AV × Mem)) => X29 L hs i (by omega) hp L.es[i] m.length _ hb hk arms.av L.av (.int .i64 L.es.length) (.int .i64 i) K L.es[i].kids.ns.length 0 (by omega)
    rw [List.drop_zero] at hX
    generalize hne : L.es[i] = n at *
    simp only [fld0, fld1, fld2]
    rw [Option.bind_some, nld0 hb, Option.bind_some, binA_eql, Option.bind_some, ifA_dec]
    by_cases c1 : n.var = -1
    · rw [if_pos c1, Option.bind_some, nld1 hb, Option.bind_some, len_il, Option.bind_some, binA_gtr, Option.bind_some, ifA_dec]
      have e1 : nodeB arms L.es i n = decide (n.kids.ns.length = 0 ∧ 0 ≤ n.leaf ∧ n.leaf ≤ 2147483647) := by unfold nodeB; rw [if_pos c1]
      by_cases c2 : n.kids.ns.length = 0
      · rw [if_neg (by omega), Option.bind_some, nld2 hb, Option.bind_some]
        rw [pcIx, V64, Option.map_some, Option.bind_some, not_b, Option.bind_some]
        by_cases c3 : 0 ≤ n.leaf ∧ n.leaf ≤ 2147483647
        · obtain ⟨m', hm⟩ := nx (e1.trans (decide_eq_true ⟨c2, c3⟩))
          refine ⟨m', ?_⟩
          rw [decide_eq_true c3, Bool.not_true, ifA_false, i_add1 (by omega), Option.bind_some, hm, e1, decide_eq_true ⟨c2, c3⟩, Bool.true_and]
        · refine ⟨m ++ [cN n], ?_⟩
          rw [decide_eq_false c3, Bool.not_false, ifA_true, e1, decide_eq_false (fun h => c3 h.2)]; rfl
      · refine ⟨m ++ [cN n], ?_⟩
        rw [if_pos (by omega), e1, decide_eq_false (by omega)]; rfl
    · have e1 : nodeB arms L.es i n = (decide (0 ≤ n.var ∧ n.var < arms.ns.length ∧ n.leaf = 0 ∧ (n.kids.ns.length : Int) = arms.ns.getD n.var.toNat 0) && n.kids.ns.all (kidB L.es i n.var)) := by unfold nodeB; rw [if_neg c1]
      rw [if_neg c1, Option.bind_some, nld0 hb, Option.bind_some, binA_lss, Option.bind_some, ifA_dec]
      by_cases c2 : n.var < 0
      · refine ⟨m ++ [cN n], ?_⟩
        rw [if_pos c2, e1, decide_eq_false (by omega)]; rfl
      · rw [if_neg c2, Option.bind_some, nld0 hb, Option.bind_some, len_il, Option.bind_some, binA_geq, Option.bind_some, ifA_dec]
        by_cases c3 : n.var ≥ (arms.ns.length : Nat)
        · refine ⟨m ++ [cN n], ?_⟩
          rw [if_pos c3, e1, decide_eq_false (by omega)]; rfl
        · rw [if_neg c3, Option.bind_some, nld2 hb, Option.bind_some, binA_neq, Option.bind_some, ifA_dec]
          by_cases c4 : n.leaf = 0
          · obtain ⟨v, hv⟩ := Int.eq_ofNat_of_zero_le (by omega : 0 ≤ n.var)
            have hvl : v < arms.ns.length := by omega
            have hgd : arms.ns.getD n.var.toNat 0 = arms.ns[v] := by
              rw [hv, Int.toNat_natCast, List.getD_eq_getElem?_getD, List.getElem?_eq_getElem hvl]; rfl
            rw [if_neg (by omega), Option.bind_some, nld1 hb, Option.bind_some, len_il, Option.bind_some, Option.bind_some, nld0 hb, Option.bind_some, hv, index_il hvl, Option.bind_some, load_il, Option.bind_some, binA_neq, Option.bind_some, ifA_dec]
            rw [hgd] at e1
            by_cases c5 : (n.kids.ns.length : Int) = arms.ns[v]
            · have := ha _ (List.getElem_mem hvl)
              rw [if_neg (by omega), Option.bind_some, nld1 hb, Option.bind_some, len_il, Option.bind_some, show ((0 : Int)) = ((0 : Nat) : Int) from rfl, hX (by omega), e1, decide_eq_true (by omega), Bool.true_and]
              rw [decide_eq_true (by omega : 0 ≤ n.var ∧ n.var < arms.ns.length ∧ n.leaf = 0 ∧ (n.kids.ns.length : Int) = arms.ns[v]), Bool.true_and] at e1
              by_cases c6 : n.kids.ns.all (kidB L.es i n.var) = true
              · obtain ⟨m', hm⟩ := nx (e1.trans c6)
                refine ⟨m', ?_⟩
                rw [if_pos c6, K29_10_x2, i_add1 (by omega), Option.bind_some, hm, c6, Bool.true_and]
              · refine ⟨m ++ [cN n], ?_⟩
                rw [if_neg c6, K29_10_ret, Bool.eq_false_iff.2 c6]; rfl
            · refine ⟨m ++ [cN n], ?_⟩
              rw [if_pos (by omega), e1, decide_eq_false (by omega)]; rfl
          · refine ⟨m ++ [cN n], ?_⟩
            rw [if_pos (by omega), e1, decide_eq_false (by omega)]; rfl
theorem V29 (arms : IL) (ha : ∀ a ∈ arms.ns, a ≤ 64) (L : NL) (hs : L.sh = some 3 ∨ L.es = []) (hL : L.es.length ≤ 4000) : AP cfg 29 [arms.av, L.av] = some (.bool (nodesB arms L.es)) := by
  obtain ⟨m', h⟩ := W29 arms ha L hs hL (K29_2 (finK cfg.P f29.results.toList)) L.es.length 0 [] (by omega) (fun k hk => by omega)
  refine AP_ofz _ _ (fz_bool _) rfl (m := m') ?_
  unfold nodesB
  rw [T29, len_nl, Option.bind_some, show ((0 : Int)) = ((0 : Nat) : Int) from rfl, h]
  by_cases h2 : allF (fun i => nodeB arms L.es i (L.es.getD i zN)) L.es.length 0 = true
  · rw [if_pos h2, h2, K29_2_x0, len_nl, Option.bind_some, binA_gtr, Option.bind_some, Bool.and_true]
    congr 3
    exact decide_eq_decide.2 (by omega)
  · rw [if_neg h2, Bool.eq_false_iff.2 h2, K29_2_ret, Bool.and_false]
end Go.Ab

/- The shape of a certificate, in values. -/
set_option linter.unusedVariables false
set_option linter.unusedSimpArgs false
set_option maxRecDepth 100000
namespace Go.Ab
open Go.Proofs.Try

theorem ifA_not {R : Type} (b : Bool) (x y : Option R) : ifA (.bool (!b)) x y = ifA (.bool b) y x := by cases b <;> rfl
theorem V31 {r : RV} {k : Nat} (h : ROk k r) : AP cfg 31 [r.av] = some (.bool (!rightR r)) := by
  refine AP_ofz _ _ (fz_bool _) rfl (m := [cR r]) ?_
  rw [T31, box_rv, Option.bind_some]
  simp only [List.length_nil, List.nil_append]
  rw [ld0all, Option.bind_some, pcR, V32 h.fr, Option.map_some, Option.bind_some, not_b, Option.bind_some]; rfl
theorem callK_q {fid g : Nat} {vs : List AV} {m : Mem} {d : Option Nat} {K : AV → Mem → Option (AV × Mem)} (hi : cfg.inl fid g = false) : callK cfg fid (AP cfg) (AC cfg) d g vs m K = (pcall (AP cfg) d m g vs).bind fun r => K r.1 r.2 := by
  unfold callK
  rw [show cfg.lib g = none from rfl]
  simp only []
  rw [hi]
theorem W65 {l : LV} {k : Nat} (hl : LOk k l) (hlen : l.es.length < 2 ^ 40) (m : Mem) (K : Ex → St → Option (AV × Mem)) : ∀ j i : Nat, i + j = l.es.length →
    ∃ r : Nat, L65_2 l.av (.fn 31 []) (.int .i64 l.es.length) (.int .i64 i) m K = if (l.es.drop i).all rightR then K (.exit 0) (O65_2 m) else K .ret (R65_2 (.int .i64 r) m)
  | 0, i, h => ⟨0, by rw [L65_2_eq, n_lss, Option.bind_some, ifA_dec, if_neg (by omega), List.drop_eq_nil_of_le (by omega)]; rfl⟩
  | j + 1, i, h => by
    have hi : i < l.es.length := by omega
    have hr := hl.ok _ (List.getElem_mem hi)
    obtain ⟨r, ih⟩ := W65 hl hlen m K j (i + 1) (by omega)
    have pre : ∀ r', (L65_2 l.av (.fn 31 []) (.int .i64 l.es.length) (.int .i64 i) m K = if (l.es.drop i).all rightR then K (.exit 0) (O65_2 m) else K .ret (R65_2 (.int .i64 r') m)) ↔ (ifA (.bool (!rightR l.es[i])) (K .ret (R65_2 (.int .i64 i) m)) (L65_2 l.av (.fn 31 []) (.int .i64 l.es.length) (.int .i64 ((i + 1 : Nat) : Int)) m K) = if rightR l.es[i] && (l.es.drop (i + 1)).all rightR then K (.exit 0) (O65_2 m) else K .ret (R65_2 (.int .i64 r') m)) := by
      intro r'
      rw [L65_2_eq, n_lss, Option.bind_some, ifA_dec, if_pos hi, index_lv hl hi, Option.bind_some, load_row, Option.bind_some, show fnOf (.fn 31 []) = some (31, []) from rfl, Option.bind_some, callK_q rfl, show ([l.es[i].av] ++ ([] : List AV)) = [l.es[i].av] from rfl, pcR, V31 hr.fr, Option.map_some, Option.bind_some, i_add1 (by omega), Option.bind_some, List.drop_eq_getElem_cons hi, List.all_cons]
      exact Iff.rfl
    cases hb : rightR l.es[i] with
    | false =>
      refine ⟨i, (pre i).2 ?_⟩
      rw [hb]; rfl
    | true =>
      refine ⟨r, (pre r).2 ?_⟩
      rw [hb, Bool.not_true, ifA_false, ih, Bool.true_and]
theorem V30 {l : LV} {k : Nat} (hl : LOk k l) (hlen : l.es.length < 2 ^ 40) : AP cfg 30 [l.av, .fn 31 []] = some (.bool (!l.es.all rightR)) := by
  have h65 : ∃ n : Int, AP cfg 65 [l.fr.av, .fn 31 []] = some (.int .i64 n) ∧ decide (n ≥ 0) = !l.es.all rightR := by
    obtain ⟨r, h⟩ := W65 hl.fr' hlen [] (K65_2 (finK cfg.P f65.results.toList)) l.fr.es.length 0 (by omega)
    rw [List.drop_zero] at h
    by_cases c : l.fr.es.all rightR = true
    · refine ⟨-1, AP_ofz _ _ (fz_int _ _) rfl (m := []) ?_, ?_⟩
      · rw [T65, len_lv, Option.bind_some, show ((0 : Int)) = ((0 : Nat) : Int) from rfl, h, if_pos c, K65_2_x0]
      · have c : l.es.all rightR = true := c
        rw [c]; rfl
    · refine ⟨r, AP_ofz _ _ (fz_int _ _) rfl (m := []) ?_, ?_⟩
      · rw [T65, len_lv, Option.bind_some, show ((0 : Int)) = ((0 : Nat) : Int) from rfl, h, if_neg c, K65_2_ret]
      · have c : ¬ l.es.all rightR = true := c
        rw [Bool.eq_false_iff.2 c, decide_eq_true (by omega)]; rfl
  obtain ⟨n, h1, h2⟩ := h65
  refine AP_ofz _ _ (fz_bool _) rfl (m := []) ?_
  rw [T30, pcall2 (fz_lv l) (fun _ => rfl), h1, Option.map_some, Option.bind_some, binA_geq, Option.bind_some, h2]
/-! ### Rows that grow -/
def rT (m : Mem) (e : Nat) (es : List AV) : AV := if es = [] then .lst none true .full [] else .lst none false (.tok m.length e) es
def mT (m : Mem) (es : List AV) : Mem := if es = [] then m else tokM m es.length
theorem app1 {m : Mem} {e b : Nat} {es : List AV} {z : Bool} {o : Own} {y : AV} (h : (es.length + 1) * b ≤ roomA) : appA none false e none b (mT m es) (rT m e es) (.lst none z o [y]) = some (rT m e (es ++ [y]), mT m (es ++ [y])) := by
  cases es with
  | nil =>
    simp [appA, rT, mT, tokM, newAt, Sh.size, h]
    simpa using h
  | cons a es =>
    have := app_tok (e := e) (b := b) (m := m) (es := a :: es) (z := z) (o := o) (y := y) h
    simp only [rT, mT, if_neg (List.cons_ne_nil a es)]
    rw [this]
    simp
theorem fz_rT (m : Mem) (e : Nat) (es : List AV) : Fz (rT m e es) (if es = [] then .lst none true .full [] else .lst none false .no es) := by
  intro m'
  unfold rT
  split <;> rfl
def lens (L : OL) : List Int := L.es.map fun l => (l.ns.length : Int)
def armsI (ns : List Int) : IL := if ns = [] then ⟨true, .full, []⟩ else ⟨false, .no, ns⟩
theorem armsI_ns (ns : List Int) : (armsI ns).ns = ns := by
  unfold armsI
  split
  · rename_i h; rw [h]
  · rfl
theorem fz_rI (m : Mem) (e : Nat) (ns : List Int) : Fz (rT m e (ns.map iA)) (armsI ns).av := by
  have := fz_rT m e (ns.map iA)
  unfold armsI
  cases ns with
  | nil => exact this
  | cons a l => exact this
theorem lens_len (L : OL) : (lens L).length = L.es.length := by simp [lens]
theorem lens_get {L : OL} {i : Nat} (h : i < L.es.length) : (lens L)[i]'(by rw [lens_len]; exact h) = (L.es[i].ns.length : Int) := by simp [lens]
theorem lens_take {L : OL} {i : Nat} (h : i < L.es.length) : ((lens L).take (i + 1)).map iA = ((lens L).take i).map iA ++ [.int .i64 (L.es[i].ns.length : Int)] := by
  rw [List.take_succ_eq_append_getElem (by rw [lens_len]; exact h), List.map_append, lens_get h]; rfl
theorem take_len (L : OL) {i : Nat} (h : i ≤ L.es.length) : (((lens L).take i).map iA).length = i := by
  rw [List.length_map, List.length_take, lens_len]; omega
def lenB (l : IL) : Bool := decide (1 ≤ l.ns.length ∧ l.ns.length ≤ 64)
theorem W13 (x1 : AV) (m : Mem) (L : OL) (h40 : L.es.length ≤ 40) (K : Ex → St → Option (AV × Mem)) : ∀ j i : Nat, i + j = L.es.length →
    ∃ m', L13_5 x1 (rT m 3 (((lens L).take i).map iA)) L.av (.int .i64 L.es.length) (.int .i64 i) (mT m (((lens L).take i).map iA)) K = if (L.es.drop i).all lenB then K (.exit 0) (O13_5 x1 (rT m 3 ((lens L).map iA)) (mT m ((lens L).map iA))) else K .ret (R13_5 (.bool false) m')
  | 0, i, h => ⟨m, by
    rw [L13_5_eq, n_lss, Option.bind_some, ifA_dec, if_neg (by omega), List.take_of_length_le (by rw [lens_len]; omega), List.drop_eq_nil_of_le (by omega)]; rfl⟩
  | j + 1, i, h => by
    have hi : i < L.es.length := by omega
    obtain ⟨m', ih⟩ := W13 x1 m L h40 K j (i + 1) (by omega)
    rw [lens_take hi] at ih
    rw [L13_5_eq, n_lss, Option.bind_some, ifA_dec, if_pos hi, index_ol hi, Option.bind_some, load_ol, Option.bind_some, len_il, Option.bind_some, binA_lss, Option.bind_some, ifA_dec, List.drop_eq_getElem_cons hi, List.all_cons]
    unfold lenB
    by_cases c1 : (L.es[i].ns.length : Int) < 1
    · refine ⟨mT m (((lens L).take i).map iA), ?_⟩
      rw [if_pos c1, decide_eq_false (by omega)]; rfl
    · rw [if_neg c1, Option.bind_some, binA_gtr, Option.bind_some, ifA_dec]
      by_cases c2 : (L.es[i].ns.length : Int) > 64
      · refine ⟨mT m (((lens L).take i).map iA), ?_⟩
        rw [if_pos c2, decide_eq_false (by omega)]; rfl
      · refine ⟨m', ?_⟩
        rw [if_neg c2, Option.bind_some, build_int, Option.bind_some, app1 (by rw [take_len L (by omega)]; simp only [roomA]; omega), Option.bind_some, i_add1 (by omega), Option.bind_some, decide_eq_true (by omega), Bool.true_and]
        exact ih
end Go.Ab

/- Is a certificate in order? Both answers in values. -/
set_option linter.unusedVariables false
set_option linter.unusedSimpArgs false
set_option maxRecDepth 100000
namespace Go.Ab
open Go.Proofs.Try

structure COk (k : Nat) (c : CV) : Prop where
  odds : c.odds.es.length ≤ 40
  nsh : c.nodes.sh = some 3 ∨ c.nodes.es = []
  nlen : c.nodes.es.length ≤ 120
  ws : LOk k c.ws
  wlen : c.ws.es.length ≤ 120
theorem COk.fr {k : Nat} {c : CV} (h : COk k c) : COk k c.fr := ⟨h.odds, h.nsh, h.nlen, h.ws.fr', h.wlen⟩
def shapedB (c : CV) : Bool := decide (c.odds.es.length ≤ 16 ∧ 0 ≤ c.leaf ∧ c.leaf ≤ 2147483647 ∧ c.ws.es.length = c.nodes.es.length) && (c.odds.es.all lenB && (oddsB (armsI (lens c.odds)) c.odds && (nodesB (armsI (lens c.odds)) c.nodes.es && c.ws.es.all rightR)))
theorem mT_get {m : Mem} {n : Nat} {e : Option Ent} (h : m[n]? = some e) (es : List AV) : (mT m es)[n]? = some e := by
  unfold mT
  split
  · exact h
  · unfold tokM
    rw [List.getElem?_append_left]
    · exact h
    · exact (List.getElem?_eq_some_iff.1 h).1
theorem len64 {L : OL} (h : L.es.all lenB = true) : ∀ l ∈ L.es, l.ns.length ≤ 64 := fun l hl => (of_decide_eq_true (List.all_eq_true.1 h l hl)).2
theorem arms64 {L : OL} (h : L.es.all lenB = true) : ∀ a ∈ (armsI (lens L)).ns, a ≤ 64 := by
  rw [armsI_ns]
  intro a ha
  obtain ⟨l, hl, rfl⟩ := List.mem_map.1 ha
  have := len64 h l hl
  omega
theorem V13 {c : CV} {k : Nat} (hc : COk k c) : AP cfg 13 [c.av] = some (.bool (shapedB c)) := by
  have fin : ∀ (v : Bool) (m : Mem), AC cfg 13 [c.av] [] = some (.bool v, m) → AP cfg 13 [c.av] = some (.bool v) := fun v m h => AP_ofz _ _ (fz_bool _) rfl h
  have start : AC cfg 13 [c.av] [] = AC cfg 13 [c.av] [] := rfl
  have g0 : ([cC c] : Mem)[0]? = some (cC c) := rfl
  conv at start => rhs; rw [T13, box_cv, Option.bind_some]
  simp only [List.length_nil, List.nil_append, fld0, fld1, fld2, fld3] at start
  rw [Option.bind_some, cld0 g0, Option.bind_some, len_ol, Option.bind_some, binA_gtr, Option.bind_some, ifA_dec] at start
  unfold shapedB
  by_cases c1 : (c.odds.es.length : Int) > 16
  · rw [if_pos c1] at start
    rw [decide_eq_false (by omega), Bool.false_and]
    exact fin _ _ start
  rw [if_neg c1, Option.bind_some, cld3 g0, Option.bind_some, binA_lss, Option.bind_some, ifA_dec] at start
  by_cases c2 : c.leaf < 0
  · rw [if_pos c2] at start
    rw [decide_eq_false (by omega), Bool.false_and]
    exact fin _ _ start
  rw [if_neg c2, Option.bind_some, cld3 g0, Option.bind_some, binA_gtr, Option.bind_some, ifA_dec] at start
  by_cases c3 : c.leaf > 2147483647
  · rw [if_pos c3] at start
    rw [decide_eq_false (by omega), Bool.false_and]
    exact fin _ _ start
  have hn := hc.nlen
  rw [if_neg c3, Option.bind_some, cld1 g0, Option.bind_some, len_nl, Option.bind_some, binA_gtr, Option.bind_some, ifA_dec, if_neg (by omega)] at start
  rw [Option.bind_some, cld2 g0, Option.bind_some, len_lv, Option.bind_some, Option.bind_some, cld1 g0, Option.bind_some, len_nl, Option.bind_some, binA_neq, Option.bind_some, ifA_dec] at start
  by_cases c4 : c.ws.es.length = c.nodes.es.length
  case neg =>
    rw [if_pos (by omega)] at start
    rw [decide_eq_false (fun h => c4 h.2.2.2), Bool.false_and]
    exact fin _ _ start
  rw [decide_eq_true (by omega), Bool.true_and]
  rw [if_neg (by omega), Option.bind_some, cld0 g0, Option.bind_some, len_ol, Option.bind_some] at start
  obtain ⟨m', hW⟩ := W13 (.ptr 0 0) [cC c] c.odds (by omega) (K13_5 (finK cfg.P f13.results.toList)) c.odds.es.length 0 (by omega)
  have e0 : (.lst none true .full [] : AV) = rT [cC c] 3 (((lens c.odds).take 0).map iA) := rfl
  have e1 : ([cC c] : Mem) = mT [cC c] (((lens c.odds).take 0).map iA) := rfl
  have start2 := start.trans hW
  rw [List.drop_zero] at start2
  by_cases c5 : c.odds.es.all lenB = true
  case neg =>
    rw [if_neg c5, K13_5_ret] at start2
    rw [Bool.eq_false_iff.2 c5, Bool.false_and]
    exact fin _ _ start2
  rw [if_pos c5, K13_5_x0] at start2
  rw [c5, Bool.true_and]
  have g1 := mT_get g0 ((lens c.odds).map iA)
  have V1 := V28 (armsI (lens c.odds)) c.odds.fr (len64 c5) (by show c.odds.es.length ≤ 40; omega)
  have V2 := V29 (armsI (lens c.odds)) (arms64 c5) c.nodes.fr hc.nsh (by show c.nodes.es.length ≤ 4000; omega)
  have V3 := V30 hc.ws.fr' (by have := hc.wlen; show c.ws.es.length < _; omega)
  rw [fld0, Option.bind_some, cld0 g1, Option.bind_some, pcall2 (fz_rI _ _ _) (fz_ol _), V1, Option.map_some, Option.bind_some] at start2
  have o1 : oddsB (armsI (lens c.odds)) c.odds.fr = oddsB (armsI (lens c.odds)) c.odds := rfl
  rw [o1] at start2
  cases c6 : oddsB (armsI (lens c.odds)) c.odds with
  | false =>
    rw [c6, ifA_false] at start2
    exact fin _ _ start2
  | true =>
    rw [c6, ifA_true, fld1, Option.bind_some, cld1 g1, Option.bind_some, pcall2 (fz_rI _ _ _) (fz_nl _), V2, Option.map_some, Option.bind_some] at start2
    have o2 : nodesB (armsI (lens c.odds)) c.nodes.fr.es = nodesB (armsI (lens c.odds)) c.nodes.es := rfl
    rw [o2] at start2
    cases c7 : nodesB (armsI (lens c.odds)) c.nodes.es with
    | false =>
      rw [c7, ifA_false] at start2
      exact fin _ _ start2
    | true =>
      rw [c7, ifA_true, fld2, Option.bind_some, cld2 g1, Option.bind_some, pcall2 (fz_lv _) (fun _ => rfl), V3, Option.map_some, Option.bind_some, not_b, Option.bind_some, Bool.not_not] at start2
      exact fin _ _ start2
/-! ### The reference -/
end Go.Ab

/- What a node has to weigh, in values: the program. -/
set_option linter.unusedVariables false
set_option linter.unusedSimpArgs false
set_option maxRecDepth 100000
namespace Go.Ab
open Go.Proofs.Try

def natP (n : Nat) : NV := ⟨false, ownD n, digs n⟩
theorem natP_fr (n : Nat) : (natP n).fr = natP n := by
  unfold natP NV.fr ownD
  split <;> rfl
theorem V82 {n : Nat} (h : n < 9223372036854775808) : AP cfg 82 [.int .i64 (n : Int)] = some (natP n).av := by
  refine (AP_ofz _ _ (fz_nv (natP n)) (noV_nv _) (m := []) ?_).trans (by rw [natP_fr])
  rw [T82, n_lss0, Option.bind_some, ifA_false, c_up (by omega), Option.bind_some, pcI, V42 (by omega)]; rfl
theorem V69 {a b : Nat} (ha : a < 9223372036854775808) (hb : b < 9223372036854775808) (h0 : b ≠ 0) : ∃ r : RV, AP cfg 69 [.int .i64 (a : Int), .int .i64 (b : Int)] = some (.tup [r.av, .int .i64 0]) ∧ Can r (qOf false a b) ∧ r.fr = r := by
  have la : (digs a).length ≤ 2 := digs_length_le (by omega)
  have lb : (digs b).length ≤ 2 := digs_length_le (by omega)
  have va : (natP a).v = a := val_digs a
  have vb : (natP b).v = b := val_digs b
  rcases V70 (x := natP a) (y := natP b) false (nok_digs (by omega)) (nok_digs (by omega)) with ⟨h, _⟩ | ⟨_, r, e, h2, h3⟩
  · rw [vb] at h; exact absurd h h0
  · rw [va, vb] at h2
    refine ⟨r, (AP_ofz _ _ (fz_tupR2 r (fza_int .i64 0)) rfl (m := [cR r]) ?_).trans (by rw [h3]), h2, h3⟩
    rw [T69, n_lss0, Option.bind_some, n_lss0, Option.bind_some, bl_neq, Option.bind_some]
    simp only [new_z', new_r, List.length_nil, List.nil_append]
    rw [pcI, V82 ha, Option.map_some, Option.bind_some, pcI, V82 hb, Option.map_some, Option.bind_some, pcBNN, natP_fr, natP_fr, show (false != false) = false from rfl, e, Option.map_some, Option.bind_some, ex0, Option.bind_some, ex1, Option.bind_some, st0all, Option.bind_some, ld0all, Option.bind_some]
/-! ### A part -/
def RowOk (l : IL) : Prop := l.ns.length ≤ 64 ∧ (∀ o ∈ l.ns, 0 ≤ o ∧ o ≤ 1000) ∧ l.ns.sum ≠ 0
theorem sum_bd : ∀ {l : List Int}, (∀ o ∈ l, 0 ≤ o ∧ o ≤ 1000) → 0 ≤ l.sum ∧ l.sum ≤ 1000 * (l.length : Int)
  | [], _ => by simp
  | a :: l, h => by
    obtain ⟨h1, h2⟩ := h a List.mem_cons_self
    obtain ⟨h3, h4⟩ := sum_bd (fun o ho => h o (List.mem_cons_of_mem _ ho))
    rw [List.sum_cons, List.length_cons]
    omega
theorem RowOk.sum {l : IL} (h : RowOk l) : ∃ S : Nat, l.ns.sum = (S : Int) ∧ S ≠ 0 ∧ S ≤ 64000 := by
  obtain ⟨h1, h2⟩ := sum_bd h.2.1
  obtain ⟨S, hS⟩ := Int.eq_ofNat_of_zero_le h1
  have := h.1
  exact ⟨S, hS, fun e => h.2.2 (by rw [hS, e]; rfl), by omega⟩
theorem RowOk.get {l : IL} (h : RowOk l) {i : Nat} (hi : i < l.ns.length) : ∃ a : Nat, l.ns[i] = (a : Int) ∧ a ≤ 1000 := by
  obtain ⟨h1, h2⟩ := h.2.1 _ (List.getElem_mem hi)
  obtain ⟨a, ha⟩ := Int.eq_ofNat_of_zero_le h1
  exact ⟨a, ha, by omega⟩
def partQ (l : IL) (i : Nat) : Rat := qOf false (l.ns.getD i 0).toNat l.ns.sum.toNat
theorem partQ_eq {l : IL} {i a S : Nat} (hi : i < l.ns.length) (ha : l.ns[i] = (a : Int)) (hS : l.ns.sum = (S : Int)) : partQ l i = qOf false a S := by
  unfold partQ
  rw [List.getD_eq_getElem?_getD, List.getElem?_eq_getElem hi, hS]
  show qOf false (l.ns[i]).toNat _ = _
  rw [ha]; rfl
theorem partQ_bd {l : IL} (h : RowOk l) {i : Nat} (hi : i < l.ns.length) : Bd 1 (partQ l i) := by
  obtain ⟨S, hS, _, hS2⟩ := h.sum
  obtain ⟨a, ha, ha2⟩ := h.get hi
  rw [partQ_eq hi ha hS]
  exact Bd_qOf (digs_length_le (by omega)) (digs_length_le (by omega)) (by omega)
theorem take_sum {l : List Int} {i : Nat} (hi : i < l.length) : (l.take (i + 1)).sum = (l.take i).sum + l[i] := by
  rw [List.take_succ_eq_append_getElem hi, List.sum_append]; simp
theorem take_bd {l : IL} (h : RowOk l) (i : Nat) : 0 ≤ (l.ns.take i).sum ∧ (l.ns.take i).sum ≤ 64000 := by
  obtain ⟨h1, h2⟩ := sum_bd (l := l.ns.take i) (fun o ho => h.2.1 o (List.mem_of_mem_take ho))
  have := h.1
  rw [List.length_take] at h2
  omega
theorem W35 {l : IL} (h : RowOk l) (x1 x4 : AV) (m : Mem) (K : Ex → St → Option (AV × Mem)) : ∀ j i : Nat, i + j = l.ns.length →
    L35_3 l.av x1 x4 (.int .i64 (l.ns.take i).sum) l.av (.int .i64 l.ns.length) (.int .i64 i) m K = K (.exit 0) (O35_3 l.av x1 x4 (.int .i64 l.ns.sum) m)
  | 0, i, hij => by
    rw [L35_3_eq, n_lss, Option.bind_some, ifA_dec, if_neg (by omega), List.take_of_length_le (by omega)]
  | j + 1, i, hij => by
    have hi : i < l.ns.length := by omega
    have := h.1
    obtain ⟨b1, b2⟩ := take_bd h i
    obtain ⟨a, ha, ha2⟩ := h.get hi
    have ih := W35 h x1 x4 m K j (i + 1) (by omega)
    rw [take_sum hi] at ih
    rw [L35_3_eq, n_lss, Option.bind_some, ifA_dec, if_pos hi, index_il hi, Option.bind_some, load_il, Option.bind_some, binA_add, wrap_i64 (by omega) (by omega), Option.bind_some, i_add1 (by omega), Option.bind_some, ih]
theorem pcII' {m : Mem} {d : Option Nat} {g : Nat} (a b : Int) : pcall (AP cfg) d m g [.int .i64 a, .int .i64 b] = (AP cfg g [.int .i64 a, .int .i64 b]).map fun v => (v, m) := pcall2 (fz_int _ a) (fz_int _ b)
theorem V35 {l : IL} (h : RowOk l) {i : Nat} (hi : i < l.ns.length) : ∃ r : RV, AP cfg 35 [l.av, .int .i64 (i : Int)] = some r.av ∧ Can r (partQ l i) ∧ r.fr = r := by
  obtain ⟨S, hS, hS0, hS2⟩ := h.sum
  obtain ⟨a, ha, ha2⟩ := h.get hi
  obtain ⟨r, e1, e2, e3⟩ := V69 (a := a) (b := S) (by omega) (by omega) hS0
  refine ⟨r, (AP_ofz _ _ (fz_rv r) (noV_rv _) (m := [cR r, cR r]) ?_).trans (by rw [e3]), by rw [partQ_eq hi ha hS]; exact e2, e3⟩
  have hW := W35 h (.int .i64 (i : Int)) (.ptr 0 0) [cR zR] (K35_3 (finK cfg.P f35.results.toList)) l.ns.length 0 (by omega)
  rw [T35, len_il, Option.bind_some]
  refine (show _ = _ from hW).trans ?_
  rw [K35_3_x0, index_il hi, Option.bind_some, load_il, Option.bind_some, ha, hS, pcII', e1, Option.map_some, Option.bind_some, ex0, Option.bind_some, ex1, Option.bind_some]
  simp only [new_z', new_r, List.length_nil, List.nil_append, List.length_cons, List.cons_append, Nat.zero_add]
  rw [st1all, Option.bind_some, ld1all, Option.bind_some, st0all, Option.bind_some, ld0all, Option.bind_some]
/-! ### The weight -/
def sumR (F : Nat → Rat) : Nat → Rat
  | 0 => 0
  | j + 1 => sumR F j + F j
def wQ (ws : LV) (k : Nat) : Rat := (ws.es.map RV.q).getD k 0
theorem wQ_get {ws : LV} {k : Nat} (h : k < ws.es.length) : wQ ws k = ws.es[k].q := by
  unfold wQ
  rw [List.getD_eq_getElem?_getD, List.getElem?_map, List.getElem?_eq_getElem h]; rfl
def termQ (l : IL) (ws : LV) (n : ND) (i : Nat) : Rat := partQ l i * wQ ws (n.kids.ns.getD i 0).toNat
def hasQ (odds : OL) (ws : LV) (leaf : Int) (n : ND) : Rat :=
  if n.var < 0 then (if n.leaf = leaf then 1 else 0) else sumR (termQ (odds.es.getD n.var.toNat ⟨true, .full, []⟩) ws n) n.kids.ns.length
structure NodeOk (l : IL) (ws : LV) (n : ND) : Prop where
  row : RowOk l
  len : n.kids.ns.length = l.ns.length
  kids : ∀ k ∈ n.kids.ns, 0 ≤ k ∧ k < ws.es.length
theorem NodeOk.kid {l : IL} {ws : LV} {n : ND} (h : NodeOk l ws n) {i : Nat} (hi : i < n.kids.ns.length) : ∃ k : Nat, n.kids.ns[i] = (k : Int) ∧ k < ws.es.length ∧ n.kids.ns.getD i 0 = (k : Int) := by
  obtain ⟨h1, h2⟩ := h.kids _ (List.getElem_mem hi)
  obtain ⟨k, hk⟩ := Int.eq_ofNat_of_zero_le h1
  refine ⟨k, hk, by omega, ?_⟩
  rw [List.getD_eq_getElem?_getD, List.getElem?_eq_getElem hi]
  exact hk
theorem termQ_bd {l : IL} {ws : LV} {n : ND} (h : NodeOk l ws n) (hw : LOk 30 ws) {i : Nat} (hi : i < n.kids.ns.length) : Bd 31 (termQ l ws n i) := by
  obtain ⟨k, hk, hk2, hk3⟩ := h.kid hi
  unfold termQ
  rw [hk3, Int.toNat_natCast, wQ_get hk2]
  exact Bd_mul (partQ_bd h.row (by rw [← h.len]; exact hi)) ((hw.ok _ (List.getElem_mem hk2)).bd (by omega)) (by omega)
theorem sumR_bd {l : IL} {ws : LV} {n : ND} (h : NodeOk l ws n) (hw : LOk 30 ws) : ∀ {j : Nat}, j ≤ n.kids.ns.length → Bd (32 * j + 1) (sumR (termQ l ws n) j)
  | 0, _ => Bd_zero (by omega)
  | j + 1, hj => (Bd_add (sumR_bd h hw (by omega)) (termQ_bd h hw (by omega)) (by omega)).mono (by omega)
theorem sumR_bd2 {l : IL} {ws : LV} {n : ND} (h : NodeOk l ws n) (hw : LOk 30 ws) {j : Nat} (hj : j ≤ n.kids.ns.length) : Bd 4000 (sumR (termQ l ws n) j) := by
  have h1 := h.row.1
  have h2 := h.len
  exact (sumR_bd h hw hj).mono (by omega)
theorem W15 {odds : OL} {n : ND} {ws : LV} {v : Nat} (hw : LOk 30 ws) (hv : n.var = (v : Int)) (hvl : v < odds.es.length) (h : NodeOk odds.es[v] ws n) (K : Ex → St → Option (AV × Mem)) : ∀ (j i : Nat) (s : RV), i + j = n.kids.ns.length → Can s (sumR (termQ odds.es[v] ws n) i) → s.fr = s →
    ∃ t : RV, Can t (sumR (termQ odds.es[v] ws n) n.kids.ns.length) ∧ t.fr = t ∧ L15_7 odds.av ws.av (.ptr 0 0) (.ptr 1 0) (.ptr 2 0) n.kids.av (.int .i64 n.kids.ns.length) (.int .i64 i) [cN n, cR zR, cR s] K = K (.exit 0) (O15_7 (.ptr 1 0) (.ptr 2 0) [cN n, cR zR, cR t])
  | 0, i, s, hij, hs, hf => by
    obtain rfl : i = n.kids.ns.length := by omega
    exact ⟨s, hs, hf, by rw [L15_7_eq, n_lss, Option.bind_some, ifA_dec, if_neg (by omega)]⟩
  | j + 1, i, s, hij, hs, hf => by
    have hi : i < n.kids.ns.length := by omega
    have hlen := h.len
    have h64 := h.row.1
    obtain ⟨k, hk, hk2, hk3⟩ := h.kid hi
    obtain ⟨p, p1, p2, p3⟩ := V35 (l := odds.es[v].fr) h.row (i := i) (show i < odds.es[v].ns.length by omega)
    have p2 : Can p (partQ odds.es[v] i) := p2
    have okp := p2.ok ((partQ_bd h.row (by omega)).mono (by omega : 1 ≤ 4000)) (by omega)
    have okw := (hw.ok _ (List.getElem_mem hk2)).mono (by omega : 30 ≤ 4000)
    obtain ⟨q, q1, q2, q3⟩ := V34 okp okw (by omega) (by omega)
    have et : p.q * ws.es[k].q = termQ odds.es[v] ws n i := by
      unfold termQ
      rw [p2.q, hk3, Int.toNat_natCast, wQ_get hk2]
    rw [et] at q2
    have oks := hs.ok (sumR_bd2 h hw (by omega)) (by omega)
    have okq := q2.ok ((termQ_bd h hw hi).mono (by omega : 31 ≤ 4000)) (by omega)
    obtain ⟨t, t1, t2, t3⟩ := V16 oks okq (by omega) (by omega)
    have es : s.q + q.q = sumR (termQ odds.es[v] ws n) (i + 1) := by rw [hs.q, q2.q]; rfl
    rw [es] at t2
    obtain ⟨u, u1, u2, u3⟩ := W15 hw hv hvl h K j (i + 1) t (by omega) t2 t3
    refine ⟨u, u1, u2, ?_⟩
    have wfr := hw.fr _ (List.getElem_mem hk2)
    have rowfr : ∀ (d : Option Nat) (m : Mem), pcall (AP cfg) d m 35 [odds.es[v].av, .int .i64 (i : Int)] = some (p.av, m) := by
      intro d m
      rw [pcall2 (fz_il _) (fz_int _ _), p1]; rfl
    rw [L15_7_eq, n_lss, Option.bind_some, ifA_dec, if_pos hi, index_il hi, Option.bind_some, load_il, Option.bind_some, ld2all, Option.bind_some, fld0, Option.bind_some, nld0 (x := n) rfl, Option.bind_some, hv, index_ol hvl, Option.bind_some, load_ol, Option.bind_some, rowfr, Option.bind_some, hk, index_lv hw hk2, Option.bind_some, load_row, Option.bind_some, pcRR, p3, wfr, q1, Option.map_some, Option.bind_some, pcRR, hf, q3, t1, Option.map_some, Option.bind_some, st2all, Option.bind_some, i_add1 (by omega), Option.bind_some]
    exact u3
/-- The node is a leaf, or it has a row of odds and kids that have a weight. -/
def NodeAt (odds : OL) (ws : LV) (n : ND) : Prop := n.var < 0 ∨ ∃ (v : Nat) (hv : v < odds.es.length), n.var = (v : Int) ∧ NodeOk odds.es[v] ws n
theorem hasQ_leaf {odds : OL} {ws : LV} {leaf : Int} {n : ND} (h : n.var < 0) : hasQ odds ws leaf n = if n.leaf = leaf then 1 else 0 := by unfold hasQ; rw [if_pos h]
theorem hasQ_node {odds : OL} {ws : LV} {leaf : Int} {n : ND} {v : Nat} (hv : v < odds.es.length) (h : n.var = (v : Int)) : hasQ odds ws leaf n = sumR (termQ odds.es[v] ws n) n.kids.ns.length := by
  unfold hasQ
  rw [if_neg (by omega), h, Int.toNat_natCast, List.getD_eq_getElem?_getD, List.getElem?_eq_getElem hv]; rfl
theorem V15 {odds : OL} {n : ND} {ws : LV} (leaf : Int) (hw : LOk 30 ws) (h : NodeAt odds ws n) : ∃ s : RV, AP cfg 15 [odds.av, n.av, .int .i64 leaf, ws.av] = some s.av ∧ Can s (hasQ odds ws leaf n) ∧ s.fr = s := by
  have fin : ∀ (s : RV) (m : Mem), s.fr = s → AC cfg 15 [odds.av, n.av, .int .i64 leaf, ws.av] [] = some (s.av, m) → AP cfg 15 [odds.av, n.av, .int .i64 leaf, ws.av] = some s.av := fun s m hs h => (AP_ofz _ _ (fz_rv s) (noV_rv _) h).trans (by rw [hs])
  have start : AC cfg 15 [odds.av, n.av, .int .i64 leaf, ws.av] [] = AC cfg 15 [odds.av, n.av, .int .i64 leaf, ws.av] [] := rfl
  have gn : ∀ M : Mem, (cN n :: M)[0]? = some (cN n) := fun _ => rfl
  conv at start => rhs; rw [T15, box_nd, Option.bind_some]
  simp only [new_z', new_r, List.length_nil, List.nil_append, List.length_cons, List.cons_append, Nat.zero_add] at start
  rw [fld0, Option.bind_some, nld0 (gn _), Option.bind_some, binA_lss, Option.bind_some, ifA_dec] at start
  rcases h with h | ⟨v, hv, hn, h⟩
  · rw [if_pos h, fld2, Option.bind_some, nld2 (gn _), Option.bind_some, binA_eql, Option.bind_some, ifA_dec] at start
    rw [hasQ_leaf h]
    by_cases c : n.leaf = leaf
    · rw [if_pos c, pc0, V23, Option.map_some, Option.bind_some, st1all, Option.bind_some, ld1all, Option.bind_some] at start
      refine ⟨oneR, fin _ _ oneR_fr start, ?_, oneR_fr⟩
      rw [if_pos c]; exact can_one
    · rw [if_neg c, pc0, V17, Option.map_some, Option.bind_some, st1all, Option.bind_some, ld1all, Option.bind_some] at start
      refine ⟨zeroR, fin _ _ zeroR_fr start, ?_, zeroR_fr⟩
      rw [if_neg c]; exact can_zero
  · obtain ⟨t, t1, t2, t3⟩ := W15 hw hn hv h (K15_7 (finK cfg.P f15.results.toList)) n.kids.ns.length 0 zeroR (by omega) can_zero zeroR_fr
    rw [show (((0 : Nat) : Int)) = (0 : Int) from rfl] at t3
    rw [if_neg (by omega), pc0, V17, Option.map_some, Option.bind_some] at start
    simp only [new_z', new_r, List.length_nil, List.nil_append, List.length_cons, List.cons_append, Nat.zero_add, Nat.reduceAdd] at start
    rw [st2all, Option.bind_some, fld1, Option.bind_some, nld1 (gn _), Option.bind_some, len_il, Option.bind_some, t3, K15_7_x0, ld2all, Option.bind_some, st1all, Option.bind_some, ld1all, Option.bind_some] at start
    exact ⟨t, fin _ _ t2 start, by rw [hasQ_node hv hn]; exact t1, t2⟩
end Go.Ab

/- What a node has to weigh, in values: the reference. -/
set_option linter.unusedVariables false
set_option linter.unusedSimpArgs false
set_option maxRecDepth 100000
namespace Go.Ab
open Go.Proofs.Try

structure HI (c : CV) (n : ND) (s : RV) (m : Mem) : Prop where
  g0 : m[0]? = some (cC c)
  g1 : m[1]? = some (cR zR)
  g2 : m[2]? = some (cN n)
  g3 : m[3]? = some (cR s)
theorem get_app {m : Mem} {k : Nat} {e : Option Ent} (h : m[k]? = some e) (x : Option Ent) : (m ++ [x])[k]? = some e := by
  rw [List.getElem?_append_left (List.getElem?_eq_some_iff.1 h).1]; exact h
theorem HI.app {c : CV} {n : ND} {s : RV} {m : Mem} (h : HI c n s m) (e : Option Ent) : HI c n s (m ++ [e]) := ⟨get_app h.g0 e, get_app h.g1 e, get_app h.g2 e, get_app h.g3 e⟩
theorem HI.put {c : CV} {n : ND} {s : RV} {m : Mem} (h : HI c n s m) (t : RV) : HI c n t (m.set 3 (cR t)) := by
  have hl : 3 < m.length := (List.getElem?_eq_some_iff.1 h.g3).1
  refine ⟨?_, ?_, ?_, ?_⟩
  · rw [List.getElem?_set_ne (by omega)]; exact h.g0
  · rw [List.getElem?_set_ne (by omega)]; exact h.g1
  · rw [List.getElem?_set_ne (by omega)]; exact h.g2
  · rw [List.getElem?_set_self hl]
theorem ext0'' (a b : AV) : extractA (.tup [a, b]) 0 = some a := rfl
theorem ext1'' (a b : AV) : extractA (.tup [a, b]) 1 = some b := rfl
end Go.Ab

/- Check, in values: the program's and the reference's. -/
set_option linter.unusedVariables false
set_option linter.unusedSimpArgs false
set_option maxRecDepth 100000
namespace Go.Ab
open Go.Proofs.Try

/-! ### Of a certificate in order every node can be weighed -/
theorem zip_all {L : OL} {ns : List Int} (hl : L.es.length = ns.length) (h : (L.es.zip ns).all (fun p => rowB p.1 p.2) = true) {v : Nat} (hv : v < L.es.length) : rowB L.es[v] (ns[v]'(by omega)) = true := by
  have hz : v < (L.es.zip ns).length := by rw [List.length_zip]; omega
  have := List.all_eq_true.1 h _ (List.getElem_mem hz)
  rw [List.getElem_zip] at this
  exact this
theorem shaped_row {c : CV} (h : shapedB c = true) {v : Nat} (hv : v < c.odds.es.length) : RowOk c.odds.es[v] := by
  unfold shapedB at h
  simp only [Bool.and_eq_true] at h
  obtain ⟨_, h1, h2, _⟩ := h
  unfold oddsB at h2
  rw [Bool.and_eq_true, decide_eq_true_iff] at h2
  have h3 := zip_all h2.1 h2.2 hv
  unfold rowB at h3
  simp only [Bool.and_eq_true, decide_eq_true_iff] at h3
  exact ⟨len64 h1 _ (List.getElem_mem hv), fun o ho => oddB_iff.1 (List.all_eq_true.1 h3.1 o ho), h3.2.2⟩
theorem shaped_lens {c : CV} (h : shapedB c = true) : c.ws.es.length = c.nodes.es.length ∧ 0 < c.nodes.es.length := by
  unfold shapedB at h
  simp only [Bool.and_eq_true, decide_eq_true_iff] at h
  obtain ⟨h0, _, _, h1, _⟩ := h
  unfold nodesB at h1
  rw [Bool.and_eq_true, decide_eq_true_iff] at h1
  exact ⟨h0.2.2.2, h1.1⟩
theorem shaped_nodeB {c : CV} (h : shapedB c = true) {i : Nat} (hi : i < c.nodes.es.length) : nodeB (armsI (lens c.odds)) c.nodes.es i c.nodes.es[i] = true := by
  unfold shapedB at h
  simp only [Bool.and_eq_true] at h
  obtain ⟨_, _, _, h1, _⟩ := h
  unfold nodesB at h1
  rw [Bool.and_eq_true] at h1
  have := allF_iff.1 h1.2 i (by omega) (by omega)
  rwa [getD_nd hi] at this
theorem shaped_node {c : CV} (h : shapedB c = true) {i : Nat} (hi : i < c.nodes.es.length) : NodeAt c.odds c.ws c.nodes.es[i] ∧ (c.nodes.es[i].var = -1 ∨ 0 ≤ c.nodes.es[i].var) := by
  have hn := shaped_nodeB h hi
  have hl := (shaped_lens h).1
  refine ⟨?_, nodeB_var hn⟩
  unfold nodeB at hn
  by_cases c1 : c.nodes.es[i].var = -1
  · exact .inl (by omega)
  · rw [if_neg c1, Bool.and_eq_true, decide_eq_true_iff] at hn
    obtain ⟨⟨h0, h1, h2, h3⟩, h4⟩ := hn
    obtain ⟨v, hv⟩ := Int.eq_ofNat_of_zero_le h0
    rw [armsI_ns, lens_len] at h1
    have hvl : v < c.odds.es.length := by omega
    have hvl2 : v < (lens c.odds).length := by rw [lens_len]; exact hvl
    rw [armsI_ns, hv, Int.toNat_natCast, List.getD_eq_getElem?_getD, List.getElem?_eq_getElem hvl2] at h3
    have h3 : (c.nodes.es[i].kids.ns.length : Int) = (lens c.odds)[v] := h3
    rw [lens_get hvl] at h3
    refine .inr ⟨v, hvl, hv, shaped_row h hvl, by omega, fun k hk => ?_⟩
    have := List.all_eq_true.1 h4 k hk
    unfold kidB at this
    rw [Bool.and_eq_true, decide_eq_true_iff] at this
    omega
/-! ### The first node that is wrong -/
def okAt (c : CV) (i : Nat) : Bool := decide (wQ c.ws i = hasQ c.odds c.ws c.leaf (c.nodes.es.getD i zN))
def firstF (f : Nat → Bool) : Nat → Nat → Option Nat
  | 0, _ => none
  | j + 1, i => if f i then firstF f j (i + 1) else some i
def checkE (c : CV) : Int := if shapedB c = true then (match firstF (okAt c) c.nodes.es.length 0 with | none => 0 | some _ => 32) else 1
def checkI (c : CV) : Int := if shapedB c = true then (match firstF (okAt c) c.nodes.es.length 0 with | none => 0 | some i => i) else 0
def checkQ (c : CV) : Rat := if checkE c = 0 then wQ c.ws (c.nodes.es.length - 1) else 0
theorem fz_tupR3 (r : RV) (a b : Int) : Fz (.tup [r.av, .int .i64 a, .int .i64 b]) (.tup [r.fr.av, .int .i64 a, .int .i64 b]) := by
  intro m
  have e : frz m fuelF (.tup [r.av, .int .i64 a, .int .i64 b]) = (mapF (frz m 8) [r.av, .int .i64 a, .int .i64 b]).map fun r => (.tup r.1, r.2) := rfl
  rw [e]
  simp [mapF, frz_rv, fza_int _ _ m 7]
theorem bld0' : buildA (.agg [.bool false, .lst none true .full [], .lst none true .full []]) [] = some zR.av := rfl
theorem NodeAt.fr {odds : OL} {ws : LV} {n : ND} (h : NodeAt odds ws n) : NodeAt odds.fr ws.fr ⟨n.var, n.kids.fr, n.leaf⟩ := by
  rcases h with h | ⟨v, hv, hn, h⟩
  · exact .inl h
  · exact .inr ⟨v, hv, hn, h.row, h.len, h.kids⟩
theorem zR_q : zR.q = 0 := qOf_den0 _ _
theorem zR_ok : ROk 1 zR := ⟨⟨by simp [zR, nilV, Dg], by simp [zR, nilV], fun _ => rfl⟩, ⟨by simp [zR, nilV, Dg], by simp [zR, nilV], fun _ => rfl⟩, by simp [zR, nilV], by simp [zR, nilV]⟩
structure CI (c : CV) (m : Mem) : Prop where
  g0 : m[0]? = some (cC c)
  g1 : m[1]? = some (cR zR)
theorem CI.app {c : CV} {m : Mem} (h : CI c m) (e : Option Ent) : CI c (m ++ [e]) := ⟨get_app h.g0 e, get_app h.g1 e⟩
theorem W7 {c : CV} (hc : COk 30 c) (hs : shapedB c = true) (K : Ex → St → Option (AV × Mem)) : ∀ (j i : Nat) (m : Mem), i + j = c.nodes.es.length → CI c m →
    ∃ m', CI c m' ∧ L7_4 (.ptr 0 0) (.ptr 1 0) c.nodes.av (.int .i64 c.nodes.es.length) (.int .i64 i) m K = match firstF (okAt c) j i with
      | none => K (.exit 0) (O7_4 (.ptr 0 0) (.ptr 1 0) m')
      | some p => K .ret (R7_4 (.ptr 1 0) (.int .i64 p) (.int .i64 32) m')
  | 0, i, m, hij, hm => ⟨m, hm, by rw [L7_4_eq, n_lss, Option.bind_some, ifA_dec, if_neg (by omega)]; rfl⟩
  | j + 1, i, m, hij, hm => by
    have hi : i < c.nodes.es.length := by omega
    have hl := (shaped_lens hs).1
    have hn := hc.nlen
    have hw : i < c.ws.es.length := by omega
    obtain ⟨hna, _⟩ := shaped_node hs hi
    obtain ⟨m', hm', ih⟩ := W7 hc hs K j (i + 1) (m ++ [cN c.nodes.es[i]]) (by omega) (hm.app _)
    obtain ⟨s, s1, s2, s3⟩ := V15 (odds := c.odds.fr) (n := ⟨c.nodes.es[i].var, c.nodes.es[i].kids.fr, c.nodes.es[i].leaf⟩) (ws := c.ws.fr) c.leaf hc.ws.fr' hna.fr
    have s2 : Can s (hasQ c.odds c.ws c.leaf c.nodes.es[i]) := s2
    have okw := hc.ws.ok _ (List.getElem_mem hw)
    have hb : Bd 4000 (hasQ c.odds c.ws c.leaf c.nodes.es[i]) := by
      rcases hna with h | ⟨v, hv, hv2, h⟩
      · rw [hasQ_leaf h]
        split
        · exact Bd_one (by omega)
        · exact Bd_zero (by omega)
      · rw [hasQ_node hv hv2]
        exact sumR_bd2 h hc.ws (Nat.le_refl _)
    have wfr := hc.ws.fr _ (List.getElem_mem hw)
    have e14 := V14 (okw.mono (by omega : 30 ≤ 4000)) (s2.ok hb (by omega)) wfr s3 (by omega) (by omega)
    have hm2 := hm.app (cN c.nodes.es[i])
    have eok : decide (c.ws.es[i].q = s.q) = okAt c i := by
      unfold okAt
      rw [wQ_get hw, getD_nd hi, s2.q]
    rw [eok] at e14
    have key : L7_4 (.ptr 0 0) (.ptr 1 0) c.nodes.av (.int .i64 c.nodes.es.length) (.int .i64 i) m K = ifA (.bool (okAt c i)) (L7_4 (.ptr 0 0) (.ptr 1 0) c.nodes.av (.int .i64 c.nodes.es.length) (.int .i64 ((i + 1 : Nat) : Int)) (m ++ [cN c.nodes.es[i]]) K) (K .ret (R7_4 (.ptr 1 0) (.int .i64 i) (.int .i64 32) ((m ++ [cN c.nodes.es[i]]).set 1 (cR zR)))) := by
      rw [L7_4_eq, n_lss, Option.bind_some, ifA_dec, if_pos hi, index_nl hc.nsh hi, Option.bind_some, load_nd, Option.bind_some]
      simp only [new_n, new_r]
      rw [nst_last, Option.bind_some, fld2, Option.bind_some, cld2 hm2.g0, Option.bind_some, index_lv hc.ws hw, Option.bind_some, load_row, Option.bind_some, fld0, Option.bind_some, cld0 hm2.g0, Option.bind_some, nldA (x := c.nodes.es[i]) get_last, Option.bind_some, fld3, Option.bind_some, cld3 hm2.g0, Option.bind_some, Option.bind_some, cld2 hm2.g0, Option.bind_some, pcall4 (fz_ol _) (fz_nd _) (fz_int _ _) (fz_lv _), s1, Option.map_some, Option.bind_some, pcRR, wfr, s3, e14, Option.map_some, Option.bind_some, not_b, Option.bind_some, ifA_not, i_add1 (by omega), Option.bind_some, bld0', Option.bind_some, rstA hm2.g1, Option.bind_some]
    rw [key, firstF]
    cases okAt c i with
    | true =>
      refine ⟨m', hm', ?_⟩
      rw [ifA_true, ih]; rfl
    | false =>
      refine ⟨(m ++ [cN c.nodes.es[i]]).set 1 (cR zR), ⟨?_, ?_⟩, rfl⟩
      · rw [List.getElem?_set_ne (by omega)]; exact hm2.g0
      · rw [List.getElem?_set_self (List.getElem?_eq_some_iff.1 hm2.g1).1]
theorem V7 {c : CV} (hc : COk 30 c) : ∃ r : RV, AP cfg 7 [c.av] = some (.tup [r.av, .int .i64 (checkI c), .int .i64 (checkE c)]) ∧ r.q = checkQ c ∧ r.fr = r ∧ ROk 4000 r := by
  have fin : ∀ (r : RV) (a b : Int) (m : Mem), r.fr = r → AC cfg 7 [c.av] [] = some (.tup [r.av, .int .i64 a, .int .i64 b], m) → AP cfg 7 [c.av] = some (.tup [r.av, .int .i64 a, .int .i64 b]) := fun r a b m hr h => (AP_ofz _ _ (fz_tupR3 r a b) rfl h).trans (by rw [hr])
  have start : AC cfg 7 [c.av] [] = AC cfg 7 [c.av] [] := rfl
  have g0 : ([cC c, cR zR] : Mem)[0]? = some (cC c) := rfl
  have e13 : AP cfg 13 [c.fr.av] = some (.bool (shapedB c)) := V13 hc.fr
  have hl := hc.nlen
  conv at start => rhs; rw [T7, box_cv, Option.bind_some]
  simp only [new_z', new_r, List.length_nil, List.nil_append, List.length_cons, List.cons_append, Nat.zero_add] at start
  rw [cldA g0, Option.bind_some, pcall1 (fz_cv _), e13, Option.map_some, Option.bind_some, not_b, Option.bind_some, ifA_not] at start
  unfold checkI checkE checkQ checkE
  cases hs : shapedB c with
  | false =>
    rw [hs, ifA_false, bld0', Option.bind_some, st1all, Option.bind_some, ld1all, Option.bind_some] at start
    exact ⟨zR, fin _ _ _ _ zR_fr start, by simp [zR_q], zR_fr, zR_ok.mono (by omega)⟩
  | true =>
    obtain ⟨hl2, hl3⟩ := shaped_lens hs
    obtain ⟨m', hm', hW⟩ := W7 hc hs (K7_4 (finK cfg.P f7.results.toList)) c.nodes.es.length 0 [cC c, cR zR] (by omega) ⟨rfl, rfl⟩
    rw [show (((0 : Nat) : Int)) = (0 : Int) from rfl] at hW
    rw [hs, ifA_true, fld1, Option.bind_some, cld1 g0, Option.bind_some, len_nl, Option.bind_some, hW] at start
    simp only [if_true]
    cases hf : firstF (okAt c) c.nodes.es.length 0 with
    | some p =>
      rw [hf] at start
      dsimp only at start
      rw [K7_4_ret, rldA hm'.g1, Option.bind_some] at start
      exact ⟨zR, fin _ _ _ _ zR_fr start, by simp [zR_q], zR_fr, zR_ok.mono (by omega)⟩
    | none =>
      rw [hf] at start
      dsimp only at start
      have hlast : c.nodes.es.length - 1 < c.ws.es.length := by omega
      have okw := (hc.ws.ok _ (List.getElem_mem hlast)).mono (by omega : 30 ≤ 100)
      have wfr := hc.ws.fr _ (List.getElem_mem hlast)
      obtain ⟨t, t1, t2, t3⟩ := V16 okw (can_zero.ok (Bd_zero (by omega : 1 ≤ 100)) (by omega)) (by omega) (by omega)
      have hsub : binA .other .sub (.int .i64 (c.ws.es.length : Int)) (.int .i64 1) = some (.int .i64 ((c.nodes.es.length - 1 : Nat) : Int)) := by
        rw [binA_sub, wrap_i64 (by omega) (by omega)]
        congr 2
        omega
      rw [K7_4_x0, fld2, Option.bind_some, cld2 hm'.g0, Option.bind_some, Option.bind_some, cld2 hm'.g0, Option.bind_some, len_lv, Option.bind_some, hsub, Option.bind_some, index_lv hc.ws hlast, Option.bind_some, load_row, Option.bind_some, pc0, V17, Option.map_some, Option.bind_some, pcRR, wfr, zeroR_fr, t1, Option.map_some, Option.bind_some, rstA hm'.g1, Option.bind_some, rldA (x := t) (by rw [List.getElem?_set_self (List.getElem?_eq_some_iff.1 hm'.g1).1]), Option.bind_some] at start
      have hq : t.q = wQ c.ws (c.nodes.es.length - 1) := by rw [t2.q, can_zero.q, Rat.add_zero, wQ_get hlast]
      refine ⟨t, fin _ _ _ _ t3 start, by rw [if_pos rfl, hq], t3, ?_⟩
      have : t.q = c.ws.es[c.nodes.es.length - 1].q := by rw [hq, wQ_get hlast]
      have hcan := t2
      rw [can_zero.q, Rat.add_zero] at hcan
      exact hcan.ok ((okw.bd (by omega)).mono (by omega)) (by omega)
/-! ### The reference -/
end Go.Ab

/- What the interpreter does, function by function. -/
set_option maxRecDepth 100000
set_option linter.unusedVariables false
namespace Go.Ab
open Go.Proofs.Try
/-! ### sortilege/sortilegelaw25.of -/
def O6_3 (x1 x2 x3 x4 : AV) (m : Mem) : St := ⟨[.any, x1, x2, x3, x4, .any, .any, .any, .any, .any, .any, .any, .any, .any, .any, .any, .any, .any, .any, .any, .any, .any, .any, .any, .any, .any, .any, .any, .any, .any, .any, .any, .any, .any, .any, .any, .any, .any, .any, .any, .any, .any, .any, .any, .any, .any, .any, .any, .any, .any, .any, .any, .any, .any, .any, .any, .any, .any, .any, .any, .any, .any, .any, .any, .any, .any, .any, .any, .any, .any, .any, .any, .any, .any, .any, .any, .any, .any, .any, .any, .any, .any, .any, .any, .any, .any, .any, .any], m⟩
noncomputable def L6_3 (x1 x2 x3 x4 x25 x26 x27 : AV) (m : Mem) (K : Ex → St → Option (AV × Mem)) : Option (AV × Mem) := loopW (execW cfg 6 (AP cfg) (AC cfg) (c1 (c1 (c2 (c1 (c2 (c2 (bodyOf f6)))))))) (cfg.mask 6 (some 3)) ⟨[.any, x1, x2, x3, x4, .any, .any, .any, .any, .any, .any, .any, .any, .any, .any, .any, .any, .any, .any, .any, .any, .any, .any, .any, .any, x25, x26, x27, .any, .any, .any, .any, .any, .any, .any, .any, .any, .any, .any, .any, .any, .any, .any, .any, .any, .any, .any, .any, .any, .any, .any, .any, .any, .any, .any, .any, .any, .any, .any, .any, .any, .any, .any, .any, .any, .any, .any, .any, .any, .any, .any, .any, .any, .any, .any, .any, .any, .any, .any, .any, .any, .any, .any, .any, .any, .any, .any, .any], m⟩ K
def O6_8 (x1 x2 x3 x4 : AV) (m : Mem) : St := ⟨[.any, x1, x2, x3, x4, .any, .any, .any, .any, .any, .any, .any, .any, .any, .any, .any, .any, .any, .any, .any, .any, .any, .any, .any, .any, .any, .any, .any, .any, .any, .any, .any, .any, .any, .any, .any, .any, .any, .any, .any, .any, .any, .any, .any, .any, .any, .any, .any, .any, .any, .any, .any, .any, .any, .any, .any, .any, .any, .any, .any, .any, .any, .any, .any, .any, .any, .any, .any, .any, .any, .any, .any, .any, .any, .any, .any, .any, .any, .any, .any, .any, .any, .any, .any, .any, .any, .any, .any], m⟩
noncomputable def L6_8 (x1 x2 x3 x4 x44 x45 x46 : AV) (m : Mem) (K : Ex → St → Option (AV × Mem)) : Option (AV × Mem) := loopW (execW cfg 6 (AP cfg) (AC cfg) (c1 (c1 (c2 (c1 (c2 (c2 (c2 (bodyOf f6))))))))) (cfg.mask 6 (some 8)) ⟨[.any, x1, x2, x3, x4, .any, .any, .any, .any, .any, .any, .any, .any, .any, .any, .any, .any, .any, .any, .any, .any, .any, .any, .any, .any, .any, .any, .any, .any, .any, .any, .any, .any, .any, .any, .any, .any, .any, .any, .any, .any, .any, .any, .any, x44, x45, x46, .any, .any, .any, .any, .any, .any, .any, .any, .any, .any, .any, .any, .any, .any, .any, .any, .any, .any, .any, .any, .any, .any, .any, .any, .any, .any, .any, .any, .any, .any, .any, .any, .any, .any, .any, .any, .any, .any, .any, .any, .any], m⟩ K
noncomputable abbrev K6_3_0 (K : Ex → St → Option (AV × Mem)) : Ex → St → Option (AV × Mem) := seqK (fun st => execW cfg 6 (AP cfg) (AC cfg) (c2 (c2 (c2 (bodyOf f6)))) st K) K
noncomputable abbrev K6_3_1 (K : Ex → St → Option (AV × Mem)) : Ex → St → Option (AV × Mem) := blockK 0 (K6_3_0 K)
noncomputable abbrev K6_3 (K : Ex → St → Option (AV × Mem)) : Ex → St → Option (AV × Mem) := (K6_3_1 K)
noncomputable abbrev K6_8_0 (K : Ex → St → Option (AV × Mem)) : Ex → St → Option (AV × Mem) := seqK (fun st => execW cfg 6 (AP cfg) (AC cfg) (c2 (c2 (c2 (c2 (bodyOf f6))))) st K) K
noncomputable abbrev K6_8_1 (K : Ex → St → Option (AV × Mem)) : Ex → St → Option (AV × Mem) := blockK 2 (K6_8_0 K)
noncomputable abbrev K6_8 (K : Ex → St → Option (AV × Mem)) : Ex → St → Option (AV × Mem) := (K6_8_1 K)
theorem T6 (a0 : AV) (m : Mem) : AC cfg 6 [a0] m =
  (boxA none (some 4) m a0).bind fun r1 =>
  (fieldAddrA 0 r1.1).bind fun v2 =>
  (loadA none (reserve (newAt none (newAt none r1.2 (.obj true [(.lst none true .full []), (.lst none true .full []), (.lst none true .full []), (.int .i64 0)])).2 (.obj true [(.lst none true .full []), (.lst none true .full []), (.lst none true .full []), (.int .i64 0)])).2 1) v2).bind fun v3 =>
  (fieldAddrA 0 r1.1).bind fun v4 =>
  (loadA none (reserve (newAt none (newAt none r1.2 (.obj true [(.lst none true .full []), (.lst none true .full []), (.lst none true .full []), (.int .i64 0)])).2 (.obj true [(.lst none true .full []), (.lst none true .full []), (.lst none true .full []), (.int .i64 0)])).2 1) v4).bind fun v5 =>
  (lenA false v5).bind fun v6 =>
  (maxA false v6 (.int .i64 40)).bind fun v7 =>
  (sliceT none v3 none (some v7) none).bind fun v8 =>
  (fieldAddrA 3 r1.1).bind fun v9 =>
  (loadA none (reserve (newAt none (newAt none r1.2 (.obj true [(.lst none true .full []), (.lst none true .full []), (.lst none true .full []), (.int .i64 0)])).2 (.obj true [(.lst none true .full []), (.lst none true .full []), (.lst none true .full []), (.int .i64 0)])).2 1) v9).bind fun v10 =>
  (buildA (.agg [(.lst none true .full []), (.lst none true .full []), (.lst none true .full []), (.int .i64 0)]) [(0, none, v8), (3, none, v10)]).bind fun v11 =>
  (storeA (some 4) (newAt (some (newAt none (newAt none r1.2 (.obj true [(.lst none true .full []), (.lst none true .full []), (.lst none true .full []), (.int .i64 0)])).2 (.obj true [(.lst none true .full []), (.lst none true .full []), (.lst none true .full []), (.int .i64 0)])).2.length) (reserve (newAt none (newAt none r1.2 (.obj true [(.lst none true .full []), (.lst none true .full []), (.lst none true .full []), (.int .i64 0)])).2 (.obj true [(.lst none true .full []), (.lst none true .full []), (.lst none true .full []), (.int .i64 0)])).2 1) (.obj true [(.lst none true .full []), (.lst none true .full []), (.lst none true .full []), (.int .i64 0)])).2 (.ptr (newAt (some (newAt none (newAt none r1.2 (.obj true [(.lst none true .full []), (.lst none true .full []), (.lst none true .full []), (.int .i64 0)])).2 (.obj true [(.lst none true .full []), (.lst none true .full []), (.lst none true .full []), (.int .i64 0)])).2.length) (reserve (newAt none (newAt none r1.2 (.obj true [(.lst none true .full []), (.lst none true .full []), (.lst none true .full []), (.int .i64 0)])).2 (.obj true [(.lst none true .full []), (.lst none true .full []), (.lst none true .full []), (.int .i64 0)])).2 1) .resv).1 0) v11).bind fun m12 =>
  (fieldAddrA 1 r1.1).bind fun v13 =>
  (loadA none m12 v13).bind fun v14 =>
  (fieldAddrA 1 r1.1).bind fun v15 =>
  (loadA none m12 v15).bind fun v16 =>
  (lenA false v16).bind fun v17 =>
  (maxA false v17 (.int .i64 120)).bind fun v18 =>
  (sliceT (some 3) v14 none (some v18) none).bind fun v19 =>
  (lenA false v19).bind fun v20 =>
  L6_3 r1.1 (.ptr (newAt none r1.2 .resv).1 0) (.ptr (newAt none (newAt none r1.2 (.obj true [(.lst none true .full []), (.lst none true .full []), (.lst none true .full []), (.int .i64 0)])).2 .resv).1 0) (.ptr (newAt (some (newAt none (newAt none r1.2 (.obj true [(.lst none true .full []), (.lst none true .full []), (.lst none true .full []), (.int .i64 0)])).2 (.obj true [(.lst none true .full []), (.lst none true .full []), (.lst none true .full []), (.int .i64 0)])).2.length) (reserve (newAt none (newAt none r1.2 (.obj true [(.lst none true .full []), (.lst none true .full []), (.lst none true .full []), (.int .i64 0)])).2 (.obj true [(.lst none true .full []), (.lst none true .full []), (.lst none true .full []), (.int .i64 0)])).2 1) .resv).1 0) v19 v20 (.int .i64 0) m12 (K6_3 (finK cfg.P f6.results.toList)) :=
(AC_eq cfg 6 [a0] m (fn := f6) (c := bodyOf f6) at6 rfl).trans (by kernel_rfl)
theorem L6_3_eq (x1 x2 x3 x4 x25 x26 x27 : AV) (m : Mem) (K : Ex → St → Option (AV × Mem)) : L6_3 x1 x2 x3 x4 x25 x26 x27 m K =
  (binA .other .lss x27 x26).bind fun v1 =>
  ifA v1 (
  (indexAddrA (some 3) x25 x27).bind fun v2 =>
  (loadA (some 3) m v2).bind fun v3 =>
  (storeA (some 3) (newAt none m (.obj true [(.int .i64 0), (.lst none true .full []), (.int .i64 0)])).2 (.ptr (newAt none m .resv).1 0) v3).bind fun m4 =>
  (fieldAddrA 1 x4).bind fun v5 =>
  (loadA none m4 v5).bind fun v6 =>
  (loadA (some 3) m4 (.ptr (newAt none m .resv).1 0)).bind fun v7 =>
  (buildSliceA (some 3) [v7]).bind fun v8 =>
  (appA none false 51 (some 3) 40 m4 v6 v8).bind fun r9 =>
  (fieldAddrA 1 x4).bind fun v10 =>
  (storeA none r9.2 v10 r9.1).bind fun m11 =>
  (binA .other .add x27 (.int .i64 1)).bind fun v12 =>
  L6_3 x1 x2 x3 x4 x25 x26 v12 m11 K) (
  K (.exit 0) (O6_3 x1 x2 x3 x4 m)) :=
(loopW_eq (execW_lin _) _ _ _).trans (by kernel_rfl)
theorem L6_8_eq (x1 x2 x3 x4 x44 x45 x46 : AV) (m : Mem) (K : Ex → St → Option (AV × Mem)) : L6_8 x1 x2 x3 x4 x44 x45 x46 m K =
  (binA .other .lss x46 x45).bind fun v1 =>
  ifA v1 (
  (indexAddrA (some 3) x44 x46).bind fun v2 =>
  (loadA (some 3) m v2).bind fun v3 =>
  (storeA (some 3) (newAt none m (.obj true [(.bool false), (.lst none true .full []), (.lst none true .full [])])).2 (.ptr (newAt none m .resv).1 0) v3).bind fun m4 =>
  (fieldAddrA 2 x4).bind fun v5 =>
  (loadA none (reserve m4 1) v5).bind fun v6 =>
  (fieldAddrA 0 (.ptr (newAt none m .resv).1 0)).bind fun v7 =>
  (loadA none (reserve m4 1) v7).bind fun v8 =>
  (fieldAddrA 1 (.ptr (newAt none m .resv).1 0)).bind fun v9 =>
  (loadA none (reserve m4 1) v9).bind fun v10 =>
  (fieldAddrA 1 (.ptr (newAt none m .resv).1 0)).bind fun v11 =>
  (loadA none (reserve m4 1) v11).bind fun v12 =>
  (lenA false v12).bind fun v13 =>
  (maxA false v13 (.int .i64 30)).bind fun v14 =>
  (sliceT none v10 none (some v14) none).bind fun v15 =>
  (fieldAddrA 2 (.ptr (newAt none m .resv).1 0)).bind fun v16 =>
  (loadA none (reserve m4 1) v16).bind fun v17 =>
  (fieldAddrA 2 (.ptr (newAt none m .resv).1 0)).bind fun v18 =>
  (loadA none (reserve m4 1) v18).bind fun v19 =>
  (lenA false v19).bind fun v20 =>
  (maxA false v20 (.int .i64 30)).bind fun v21 =>
  (sliceT none v17 none (some v21) none).bind fun v22 =>
  (buildA (.agg [(.bool false), (.lst none true .full []), (.lst none true .full [])]) [(0, none, v8), (1, none, v15), (2, none, v22)]).bind fun v23 =>
  (buildSliceA (some 3) [v23]).bind fun v24 =>
  (appA (some m4.length) false 35 (some 3) 56 (reserve m4 1) v6 v24).bind fun r25 =>
  (fieldAddrA 2 x4).bind fun v26 =>
  (storeA none r25.2 v26 r25.1).bind fun m27 =>
  (binA .other .add x46 (.int .i64 1)).bind fun v28 =>
  L6_8 x1 x2 x3 x4 x44 x45 v28 m27 K) (
  K (.exit 2) (O6_8 x1 x2 x3 x4 m)) :=
(loopW_eq (execW_lin _) _ _ _).trans (by kernel_rfl)
theorem K6_3_x0 (x1 x2 x3 x4 : AV) (m : Mem) : K6_3 (finK cfg.P f6.results.toList) (.exit 0) (O6_3 x1 x2 x3 x4 m) =
  (fieldAddrA 2 x1).bind fun v1 =>
  (loadA none m v1).bind fun v2 =>
  (fieldAddrA 2 x1).bind fun v3 =>
  (loadA none m v3).bind fun v4 =>
  (lenA false v4).bind fun v5 =>
  (maxA false v5 (.int .i64 120)).bind fun v6 =>
  (sliceT (some 3) v2 none (some v6) none).bind fun v7 =>
  (lenA false v7).bind fun v8 =>
  L6_8 x1 x2 x3 x4 v7 v8 (.int .i64 0) m (K6_8 (finK cfg.P f6.results.toList)) := by kernel_rfl
theorem K6_8_x2 (x1 x2 x3 x4 : AV) (m : Mem) : K6_8 (finK cfg.P f6.results.toList) (.exit 2) (O6_8 x1 x2 x3 x4 m) =
  (fieldAddrA 0 x4).bind fun v1 =>
  (loadA none m v1).bind fun v2 =>
  (fieldAddrA 1 x1).bind fun v3 =>
  (loadA none m v3).bind fun v4 =>
  (fieldAddrA 1 x1).bind fun v5 =>
  (loadA none m v5).bind fun v6 =>
  (lenA false v6).bind fun v7 =>
  (maxA false v7 (.int .i64 120)).bind fun v8 =>
  (sliceT (some 3) v4 none (some v8) none).bind fun v9 =>
  (fieldAddrA 2 x4).bind fun v10 =>
  (loadA none m v10).bind fun v11 =>
  (fieldAddrA 3 x1).bind fun v12 =>
  (loadA none m v12).bind fun v13 =>
  (buildA (.agg [(.lst none true .full []), (.lst none true .full []), (.lst none true .full []), (.int .i64 0)]) [(0, none, v2), (1, none, v9), (2, none, v11), (3, none, v13)]).bind fun v14 =>
  (loadA (some 4) m x4).bind fun v15 =>
  (storeA (some 4) m x2 v14).bind fun m16 =>
  (storeA (some 4) m16 x3 v15).bind fun m17 =>
  ifB (namesV x4 x2) (
  (loadA (some 4) m17 x2).bind fun v18 =>
  (loadA (some 4) m17 x3).bind fun v19 =>
  some ((.tup [v18, v19]), m17)) := by kernel_rfl
/-! ### sortilege/sortilegelaw25.alive -/
theorem T10 (m : Mem) : AC cfg 10 [] m =
  (buildA (.agg [(.int .i64 0), (.lst none true .full []), (.int .i64 0)]) [(0, none, (.int .i64 (-1))), (2, none, (.int .i64 4))]).bind fun v1 =>
  (buildSliceA (some 3) [v1]).bind fun v2 =>
  (pcall (AP cfg) none m 21 []).bind fun r3 =>
  (buildSliceA (some 3) [r3.1]).bind fun v4 =>
  (buildA (.agg [(.lst none true .full []), (.lst none true .full []), (.lst none true .full []), (.int .i64 0)]) [(1, none, v2), (2, none, v4), (3, none, (.int .i64 4))]).bind fun v5 =>
  (storeA (some 4) (newAt none r3.2 (.obj true [(.lst none true .full []), (.lst none true .full []), (.lst none true .full []), (.int .i64 0)])).2 (.ptr (newAt none r3.2 .resv).1 0) v5).bind fun m6 =>
  (loadA (some 4) m6 (.ptr (newAt none r3.2 .resv).1 0)).bind fun v7 =>
  (pcall (AP cfg) none m6 7 [v7]).bind fun r8 =>
  (extractA r8.1 0).bind fun v9 =>
  (extractA r8.1 1).bind fun v10 =>
  (extractA r8.1 2).bind fun v11 =>
  (storeA (some 3) (newAt none r8.2 (.obj true [(.bool false), (.lst none true .full []), (.lst none true .full [])])).2 (.ptr (newAt none r8.2 .resv).1 0) v9).bind fun m12 =>
  (binA .other .eql v11 (.int .i64 0)).bind fun v13 =>
  ifA v13 (
  (loadA (some 3) m12 (.ptr (newAt none r8.2 .resv).1 0)).bind fun v14 =>
  (pcall (AP cfg) (some m12.length) m12 21 []).bind fun r15 =>
  (pcall (AP cfg) (some m12.length) r15.2 9 [v14, r15.1]).bind fun r16 =>
  some (r16.1, r16.2)) (
  some ((.bool false), m12)) :=
(AC_eq cfg 10 [] m (fn := f10) (c := bodyOf f10) at10 rfl).trans (by kernel_rfl)
/-! ### sortilege/sortilegelaw25.ProofChecks -/
/-! ### sortilege/sortilegelaw25.ProofOnly -/
def O4_5 (x2 x5 : AV) (m : Mem) : St := ⟨[.any, .any, x2, .any, .any, x5, .any, .any, .any, .any, .any, .any, .any, .any, .any, .any, .any, .any, .any, .any, .any, .any, .any, .any, .any, .any, .any, .any, .any, .any, .any, .any, .any, .any, .any, .any, .any, .any, .any, .any, .any, .any, .any, .any, .any, .any, .any, .any, .any, .any, .any, .any, .any, .any, .any, .any, .any, .any, .any, .any, .any, .any, .any, .any, .any, .any, .any, .any, .any, .any, .any, .any, .any, .any, .any, .any, .any, .any, .any, .any, .any, .any, .any, .any, .any, .any, .any, .any, .any], m⟩
noncomputable def L4_5 (x1 x2 x5 x23 x24 x25 : AV) (m : Mem) (K : Ex → St → Option (AV × Mem)) : Option (AV × Mem) := loopW (execW cfg 4 (AP cfg) (AC cfg) (c1 (c1 (c2 (c1 (c2 (c2 (c2 (c2 (bodyOf f4)))))))))) (cfg.mask 4 (some 5)) ⟨[.any, x1, x2, .any, .any, x5, .any, .any, .any, .any, .any, .any, .any, .any, .any, .any, .any, .any, .any, .any, .any, .any, .any, x23, x24, x25, .any, .any, .any, .any, .any, .any, .any, .any, .any, .any, .any, .any, .any, .any, .any, .any, .any, .any, .any, .any, .any, .any, .any, .any, .any, .any, .any, .any, .any, .any, .any, .any, .any, .any, .any, .any, .any, .any, .any, .any, .any, .any, .any, .any, .any, .any, .any, .any, .any, .any, .any, .any, .any, .any, .any, .any, .any, .any, .any, .any, .any, .any, .any], m⟩ K
def O4_17 (m : Mem) : St := ⟨[.any, .any, .any, .any, .any, .any, .any, .any, .any, .any, .any, .any, .any, .any, .any, .any, .any, .any, .any, .any, .any, .any, .any, .any, .any, .any, .any, .any, .any, .any, .any, .any, .any, .any, .any, .any, .any, .any, .any, .any, .any, .any, .any, .any, .any, .any, .any, .any, .any, .any, .any, .any, .any, .any, .any, .any, .any, .any, .any, .any, .any, .any, .any, .any, .any, .any, .any, .any, .any, .any, .any, .any, .any, .any, .any, .any, .any, .any, .any, .any, .any, .any, .any, .any, .any, .any, .any, .any, .any], m⟩
def R4_17 (x4 : AV) (m : Mem) : St := ⟨[.any, .any, .any, .any, x4, .any, .any, .any, .any, .any, .any, .any, .any, .any, .any, .any, .any, .any, .any, .any, .any, .any, .any, .any, .any, .any, .any, .any, .any, .any, .any, .any, .any, .any, .any, .any, .any, .any, .any, .any, .any, .any, .any, .any, .any, .any, .any, .any, .any, .any, .any, .any, .any, .any, .any, .any, .any, .any, .any, .any, .any, .any, .any, .any, .any, .any, .any, .any, .any, .any, .any, .any, .any, .any, .any, .any, .any, .any, .any, .any, .any, .any, .any, .any, .any, .any, .any, .any, .any], m⟩
noncomputable def L4_17 (x2 x5 x71 x72 : AV) (m : Mem) (K : Ex → St → Option (AV × Mem)) : Option (AV × Mem) := loopW (execW cfg 4 (AP cfg) (AC cfg) (c1 (c1 (c2 (c1 (c2 (c2 (c2 (c2 (c2 (c2 (c2 (c2 (c2 (bodyOf f4))))))))))))))) (cfg.mask 4 (some 17)) ⟨[.any, .any, x2, .any, .any, x5, .any, .any, .any, .any, .any, .any, .any, .any, .any, .any, .any, .any, .any, .any, .any, .any, .any, .any, .any, .any, .any, .any, .any, .any, .any, .any, .any, .any, .any, .any, .any, .any, .any, .any, .any, .any, .any, .any, .any, .any, .any, .any, .any, .any, .any, .any, .any, .any, .any, .any, .any, .any, .any, .any, .any, .any, .any, .any, .any, .any, .any, .any, .any, .any, .any, x71, x72, .any, .any, .any, .any, .any, .any, .any, .any, .any, .any, .any, .any, .any, .any, .any, .any], m⟩ K
noncomputable abbrev K4_5_0 (K : Ex → St → Option (AV × Mem)) : Ex → St → Option (AV × Mem) := seqK (fun st => execW cfg 4 (AP cfg) (AC cfg) (c2 (c2 (c2 (c2 (c2 (bodyOf f4)))))) st K) K
noncomputable abbrev K4_5_1 (K : Ex → St → Option (AV × Mem)) : Ex → St → Option (AV × Mem) := blockK 0 (K4_5_0 K)
noncomputable abbrev K4_5 (K : Ex → St → Option (AV × Mem)) : Ex → St → Option (AV × Mem) := (K4_5_1 K)
noncomputable abbrev K4_17_0 (K : Ex → St → Option (AV × Mem)) : Ex → St → Option (AV × Mem) := seqK (fun st => execW cfg 4 (AP cfg) (AC cfg) (c2 (c2 (c2 (c2 (c2 (c2 (c2 (c2 (c2 (c2 (bodyOf f4))))))))))) st K) K
noncomputable abbrev K4_17_1 (K : Ex → St → Option (AV × Mem)) : Ex → St → Option (AV × Mem) := blockK 2 (K4_17_0 K)
noncomputable abbrev K4_17 (K : Ex → St → Option (AV × Mem)) : Ex → St → Option (AV × Mem) := (K4_17_1 K)
theorem T4 (a0 a1 : AV) (m : Mem) : AC cfg 4 [a0, a1] m =
  (boxA none (some 4) m a0).bind fun r1 =>
  (loadA (some 4) r1.2 r1.1).bind fun v2 =>
  (pcall (AP cfg) none r1.2 6 [v2]).bind fun r3 =>
  (extractA r3.1 0).bind fun v4 =>
  (extractA r3.1 1).bind fun v5 =>
  (storeA (some 4) r3.2 r1.1 v4).bind fun m6 =>
  (loadA (some 4) m6 r1.1).bind fun v7 =>
  (storeA (some 4) (newAt none m6 (.obj true [(.lst none true .full []), (.lst none true .full []), (.lst none true .full []), (.int .i64 0)])).2 (.ptr (newAt none m6 .resv).1 0) v7).bind fun m8 =>
  (fieldAddrA 2 (.ptr (newAt none m6 .resv).1 0)).bind fun v9 =>
  (storeA none m8 v9 (.lst none true .full [])).bind fun m10 =>
  (fieldAddrA 2 r1.1).bind fun v11 =>
  (loadA none m10 v11).bind fun v12 =>
  (lenA false v12).bind fun v13 =>
  L4_5 a1 r1.1 (.ptr (newAt none m6 .resv).1 0) v12 v13 (.int .i64 0) m10 (K4_5 (finK cfg.P f4.results.toList)) :=
(AC_eq cfg 4 [a0, a1] m (fn := f4) (c := bodyOf f4) at4 rfl).trans (by kernel_rfl)
theorem L4_5_eq (x1 x2 x5 x23 x24 x25 : AV) (m : Mem) (K : Ex → St → Option (AV × Mem)) : L4_5 x1 x2 x5 x23 x24 x25 m K =
  (binA .other .lss x25 x24).bind fun v1 =>
  ifA v1 (
  (indexAddrA (some 3) x23 x25).bind fun v2 =>
  (loadA (some 3) m v2).bind fun v3 =>
  (storeA (some 3) (newAt none m (.obj true [(.bool false), (.lst none true .full []), (.lst none true .full [])])).2 (.ptr (newAt none m .resv).1 0) v3).bind fun m4 =>
  (lenA false x1).bind fun v5 =>
  (binA .other .lss x25 v5).bind fun v6 =>
  ifA v6 (
  (indexAddrA (some 3) x1 x25).bind fun v7 =>
  (loadA (some 3) m4 v7).bind fun v8 =>
  (storeA (some 3) m4 (.ptr (newAt none m .resv).1 0) v8).bind fun m9 =>
  (fieldAddrA 2 x5).bind fun v10 =>
  (loadA none m9 v10).bind fun v11 =>
  (loadA (some 3) m9 (.ptr (newAt none m .resv).1 0)).bind fun v12 =>
  (buildSliceA (some 3) [v12]).bind fun v13 =>
  (appA none false 35 (some 3) 56 m9 v11 v13).bind fun r14 =>
  (fieldAddrA 2 x5).bind fun v15 =>
  (storeA none r14.2 v15 r14.1).bind fun m16 =>
  (binA .other .add x25 (.int .i64 1)).bind fun v17 =>
  L4_5 x1 x2 x5 x23 x24 v17 m16 K) (
  (fieldAddrA 2 x5).bind fun v18 =>
  (loadA none m4 v18).bind fun v19 =>
  (loadA (some 3) m4 (.ptr (newAt none m .resv).1 0)).bind fun v20 =>
  (buildSliceA (some 3) [v20]).bind fun v21 =>
  (appA none false 35 (some 3) 56 m4 v19 v21).bind fun r22 =>
  (fieldAddrA 2 x5).bind fun v23 =>
  (storeA none r22.2 v23 r22.1).bind fun m24 =>
  (binA .other .add x25 (.int .i64 1)).bind fun v25 =>
  L4_5 x1 x2 x5 x23 x24 v25 m24 K)) (
  K (.exit 0) (O4_5 x2 x5 m)) :=
(loopW_eq (execW_lin _) _ _ _).trans (by kernel_rfl)
theorem L4_17_eq (x2 x5 x71 x72 : AV) (m : Mem) (K : Ex → St → Option (AV × Mem)) : L4_17 x2 x5 x71 x72 m K =
  (binA .other .lss x72 x71).bind fun v1 =>
  ifA v1 (
  (fieldAddrA 2 x2).bind fun v2 =>
  (loadA none m v2).bind fun v3 =>
  (indexAddrA (some 3) v3 x72).bind fun v4 =>
  (loadA (some 3) m v4).bind fun v5 =>
  (fieldAddrA 2 x5).bind fun v6 =>
  (loadA none m v6).bind fun v7 =>
  (indexAddrA (some 3) v7 x72).bind fun v8 =>
  (loadA (some 3) m v8).bind fun v9 =>
  (pcall (AP cfg) (some m.length) m 9 [v5, v9]).bind fun r10 =>
  (unA .not r10.1).bind fun v11 =>
  ifA v11 (
  K .ret (R4_17 (.bool false) r10.2)) (
  (binA .other .add x72 (.int .i64 1)).bind fun v12 =>
  L4_17 x2 x5 x71 v12 r10.2 K)) (
  K (.exit 2) (O4_17 m)) :=
(loopW_eq (execW_lin _) _ _ _).trans (by kernel_rfl)
theorem K4_5_x0 (x2 x5 : AV) (m : Mem) : K4_5 (finK cfg.P f4.results.toList) (.exit 0) (O4_5 x2 x5 m) =
  (loadA (some 4) m x5).bind fun v1 =>
  (pcall (AP cfg) none m 6 [v1]).bind fun r2 =>
  (extractA r2.1 0).bind fun v3 =>
  (extractA r2.1 1).bind fun v4 =>
  (storeA (some 4) r2.2 x5 v3).bind fun m5 =>
  (loadA (some 4) m5 x2).bind fun v6 =>
  (pcall (AP cfg) none m5 7 [v6]).bind fun r7 =>
  (extractA r7.1 0).bind fun v8 =>
  (extractA r7.1 1).bind fun v9 =>
  (extractA r7.1 2).bind fun v10 =>
  (storeA (some 3) (newAt none r7.2 (.obj true [(.bool false), (.lst none true .full []), (.lst none true .full [])])).2 (.ptr (newAt none r7.2 .resv).1 0) v8).bind fun m11 =>
  (loadA (some 4) m11 x5).bind fun v12 =>
  (pcall (AP cfg) none m11 7 [v12]).bind fun r13 =>
  (extractA r13.1 0).bind fun v14 =>
  (extractA r13.1 1).bind fun v15 =>
  (extractA r13.1 2).bind fun v16 =>
  (storeA (some 3) (newAt none r13.2 (.obj true [(.bool false), (.lst none true .full []), (.lst none true .full [])])).2 (.ptr (newAt none r13.2 .resv).1 0) v14).bind fun m17 =>
  (binA .other .neq v10 (.int .i64 0)).bind fun v18 =>
  ifA v18 (
  (pcall (AP cfg) none m17 10 []).bind fun r19 =>
  some (r19.1, r19.2)) (
  (binA .other .neq v16 (.int .i64 0)).bind fun v20 =>
  ifA v20 (
  (pcall (AP cfg) none m17 10 []).bind fun r21 =>
  some (r21.1, r21.2)) (
  (fieldAddrA 2 x2).bind fun v22 =>
  (loadA none m17 v22).bind fun v23 =>
  (lenA false v23).bind fun v24 =>
  L4_17 x2 x5 v24 (.int .i64 0) m17 (K4_17 (finK cfg.P f4.results.toList)))) := by kernel_rfl
theorem K4_17_x2 (m : Mem) : K4_17 (finK cfg.P f4.results.toList) (.exit 2) (O4_17  m) =
  (pcall (AP cfg) none m 10 []).bind fun r1 =>
  some (r1.1, r1.2) := by kernel_rfl
/-! ### sortilege/sortilegelaw25.ProofAll -/
end Go.Ab

/- Rows that grow by appending, for any type; parts of rows; lists of values. -/
set_option linter.unusedVariables false
set_option linter.unusedSimpArgs false
set_option maxRecDepth 100000
namespace Go.Ab

theorem gr_lt {m : Mem} {k : Nat} {e : Option Ent} (h : m[k]? = some e) : k < m.length := (List.getElem?_eq_some_iff.1 h).1
/-- A row that grows, where it is kept, and what stands in it. -/
def GrowAt (e : Nat) (sh : Sh) (m : Mem) (v : AV) (es : List AV) : Prop := (v = .lst none true .full [] ∧ es = []) ∨ (∃ nm, v = .lst sh false (.tok nm e) es ∧ es ≠ [] ∧ m[nm]? = some (some (.tok es.length sh.size)))
def PlaceOk (d : Option Nat) (m : Mem) : Prop := match d with
  | none => True
  | some k => m[k]? = some (some .resv)
/-- What is an object stays. -/
def KpO (m m' : Mem) : Prop := m.length ≤ m'.length ∧ ∀ (n : Nat) (bx : Bool) (cs : List AV), m[n]? = some (some (Ent.obj bx cs)) → m'[n]? = some (some (Ent.obj bx cs))
theorem GrowAt.nil (e : Nat) (sh : Sh) (m : Mem) : GrowAt e sh m (.lst none true .full []) [] := .inl ⟨rfl, rfl⟩
theorem GrowAt.app {e : Nat} {sh : Sh} {m : Mem} {v : AV} {es : List AV} (h : GrowAt e sh m v es) (x : Mem) : GrowAt e sh (m ++ x) v es := by
  rcases h with h | ⟨nm, h1, h2, h3⟩
  · exact .inl h
  · exact .inr ⟨nm, h1, h2, by rw [List.getElem?_append_left (gr_lt h3)]; exact h3⟩
theorem GrowAt.set {e : Nat} {sh : Sh} {m : Mem} {v : AV} {es : List AV} (h : GrowAt e sh m v es) {n : Nat} {bx : Bool} {cs : List AV} (hn : m[n]? = some (some (.obj bx cs))) (x : Option Ent) : GrowAt e sh (m.set n x) v es := by
  rcases h with h | ⟨nm, h1, h2, h3⟩
  · exact .inl h
  · refine .inr ⟨nm, h1, h2, ?_⟩
    have hne : n ≠ nm := fun e => by rw [e, h3] at hn; cases hn
    rw [List.getElem?_set_ne hne]; exact h3
theorem grow {e : Nat} {sh sh' : Sh} {d : Option Nat} {b : Nat} {m : Mem} {v y : AV} {es : List AV} {z : Bool} {o : Own} (h : GrowAt e sh m v es) (hd : PlaceOk d m) (hlen : (es.length + 1) * b ≤ roomA) :
    ∃ v' m', appA d false e sh b m v (.lst sh z o [y]) = some (v', m') ∧ GrowAt e sh m' v' (es ++ [y]) ∧ KpO m m' := by
  rcases h with ⟨rfl, rfl⟩ | ⟨nm, rfl, h2, h3⟩
  · have hl : 1 * b ≤ roomA := by simpa using hlen
    cases d with
    | none =>
      refine ⟨.lst sh false (.tok m.length e) [y], m ++ [some (.tok 1 sh.size)], ?_, .inr ⟨m.length, rfl, by simp, by simp⟩, by simp, ?_⟩
      · simp only [appA, List.length_nil, List.length_cons, Nat.zero_add, hl, if_true, List.nil_append, newAt, or_true]
        rfl
      · intro n bx cs hn
        rw [List.getElem?_append_left (gr_lt hn)]; exact hn
    | some k =>
      have hk : m[k]? = some (some .resv) := hd
      refine ⟨.lst sh false (.tok k e) [y], m.set k (some (.tok 1 sh.size)), ?_, .inr ⟨k, rfl, by simp, by rw [List.getElem?_set_self (gr_lt hk)]; rfl⟩, by simp, ?_⟩
      · simp only [appA, List.length_nil, List.length_cons, Nat.zero_add, hl, if_true, List.nil_append, newAt, or_true]
        rfl
      · intro n bx cs hn
        have hne : k ≠ n := fun e => by rw [← e, hk] at hn; cases hn
        rw [List.getElem?_set_ne hne]; exact hn
  · have hg : m.get nm = some (.tok es.length sh.size) := by simp [Mem.get, h3]
    refine ⟨.lst sh false (.tok nm e) (es ++ [y]), m.set nm (some (.tok (es.length + 1) sh.size)), ?_, .inr ⟨nm, rfl, by simp, by rw [List.getElem?_set_self (gr_lt h3)]; simp⟩, by simp, ?_⟩
    · simp [appA, hg, hlen]
    · intro n bx cs hn
      have hne : nm ≠ n := fun e => by rw [← e, h3] at hn; cases hn
      rw [List.getElem?_set_ne hne]; exact hn
theorem KpO.refl (m : Mem) : KpO m m := ⟨Nat.le_refl _, fun _ _ _ h => h⟩
theorem KpO.trans {a b c : Mem} (h : KpO a b) (k : KpO b c) : KpO a c := ⟨Nat.le_trans h.1 k.1, fun n bx cs hh => k.2 n bx cs (h.2 n bx cs hh)⟩
theorem KpO.app (m e : Mem) : KpO m (m ++ e) := ⟨by simp, fun n bx cs h => by rw [List.getElem?_append_left (gr_lt h)]; exact h⟩
/-! ### Parts -/
theorem min_len (a b : Nat) : maxA false (.int .i64 a) (.int .i64 b) = some (.int .i64 (min a b : Nat)) := by
  unfold maxA
  simp only [if_true]
  by_cases h : (b : Int) < a
  · simp only [h, if_true, Bool.false_eq_true, if_false]; congr 2; omega
  · simp only [h, if_false, Bool.false_eq_true]; congr 2; omega
theorem slice_cut {sh : Sh} {z : Bool} {o : Own} {es : List AV} {n : Nat} (h : n ≤ es.length) : sliceT sh (.lst sh z o es) none (some (.int .i64 n)) none = some (.lst sh z .no (es.take n)) := by
  have e1 : (0 : Int) ≤ (n : Nat) := by omega
  have e2 : ((n : Nat) : Int) ≤ es.length := by omega
  have e3 : ((n : Nat) : Int) ≤ (n : Nat) := by omega
  simp [sliceT, sliceA, boundA, e1, e2, e3]
/-! ### Lists of values -/
theorem list_map {α : Type} {f : α → AV} {Q : α → Prop} : ∀ {es : List AV}, (∀ x ∈ es, ∃ a, x = f a ∧ Q a) → ∃ l : List α, es = l.map f ∧ ∀ a ∈ l, Q a
  | [], _ => ⟨[], rfl, by simp⟩
  | x :: es, h => by
    obtain ⟨a, rfl, ha⟩ := h x List.mem_cons_self
    obtain ⟨l, rfl, hl⟩ := list_map (fun y hy => h y (List.mem_cons_of_mem _ hy))
    refine ⟨a :: l, rfl, fun b hb => ?_⟩
    rcases List.mem_cons.1 hb with rfl | hb
    · exact ha
    · exact hl b hb
end Go.Ab

/- A certificate cut to size, for the program and for the reference. -/
set_option linter.unusedVariables false
set_option linter.unusedSimpArgs false
set_option maxRecDepth 100000
namespace Go.Ab
open Go.Proofs.Try

theorem ob_ld {m : Mem} {k j : Nat} {bx : Bool} {cs : List AV} {v : AV} (h : m[k]? = some (some (.obj bx cs))) (hj : cs[j]? = some v) : loadA none m (.ptr k j) = some v := by
  simp [loadA, mobj h, cutSh, hj]
theorem ob_st {m : Mem} {k j : Nat} {bx : Bool} {cs : List AV} {v : AV} (h : m[k]? = some (some (.obj bx cs))) (hj : j < cs.length) (ha : atomOk v = true) : storeA none m (.ptr k j) v = some (m.set k (some (.obj bx (putAt cs j v.cells)))) := by
  simp only [storeA, mobj h, Option.bind_some]
  rw [if_pos (by show j + 1 ≤ cs.length; omega), if_pos (show shOk none v = true from ha)]
/-- Numbers as they come in. -/
def XN (x : NV) : Prop := (∀ i, x.ds.getD i 0 < 4294967296) ∧ (x.z = true → x.ds = [])
def XR (r : RV) : Prop := XN r.num ∧ XN r.den
structure XC (c : CV) : Prop where
  nsh : c.nodes.sh = some 3 ∨ c.nodes.es = []
  kids : ∀ n ∈ c.nodes.es, n.kids.o = .no
  rows : ∀ l ∈ c.odds.es, l.o = .no
  wsh : c.ws.sh = some 3 ∨ c.ws.es = []
  ws : ∀ r ∈ c.ws.es, XR r
def cutN (x : NV) : NV := ⟨x.z, .no, x.ds.take 30⟩
def cutW (r : RV) : RV := ⟨r.neg, cutN r.num, cutN r.den⟩
theorem cutW_fr (r : RV) : (cutW r).fr = cutW r := rfl
theorem cutN_ok {x : NV} (h : XN x) : NOk (cutN x) ∧ (cutN x).ds.length ≤ 30 := by
  refine ⟨⟨fun i => ?_, ?_, fun hz => ?_⟩, ?_⟩
  · show (x.ds.take 30).getD i 0 < _
    rw [List.getD_eq_getElem?_getD]
    by_cases hi : i < 30
    · rw [List.getElem?_take_of_lt hi, ← List.getD_eq_getElem?_getD]; exact h.1 i
    · rw [List.getElem?_eq_none (by rw [List.length_take]; omega)]; exact (by omega : 0 < 4294967296)
  · show (x.ds.take 30).length < _
    rw [List.length_take]; omega
  · show x.ds.take 30 = []
    rw [h.2 hz]; rfl
  · show (x.ds.take 30).length ≤ 30
    rw [List.length_take]; omega
theorem cutW_ok {r : RV} (h : XR r) : ROk 30 (cutW r) := ⟨(cutN_ok h.1).1, (cutN_ok h.2).1, (cutN_ok h.1).2, (cutN_ok h.2).2⟩
theorem slice_nv (x : NV) : sliceT none x.av none (some (.int .i64 ((min x.ds.length 30 : Nat) : Int))) none = some (cutN x).av := by
  have : sliceT none (.lst none x.z x.o (x.ds.map dg)) none (some (.int .i64 ((min x.ds.length 30 : Nat) : Int))) none = some (.lst none x.z .no ((x.ds.map dg).take (min x.ds.length 30))) := slice_cut (by rw [List.length_map]; omega)
  refine this.trans ?_
  have e : (x.ds.map dg).take (min x.ds.length 30) = (x.ds.take 30).map dg := by
    rw [List.map_take, ← List.map_take, ← List.map_take]
    congr 1
    by_cases h : x.ds.length ≤ 30
    · rw [Nat.min_eq_left h, List.take_of_length_le (Nat.le_refl _), List.take_of_length_le h]
    · rw [Nat.min_eq_right (by omega)]
  rw [e]; rfl
theorem take_min {α : Type} (l : List α) (n : Nat) : l.take (min l.length n) = l.take n := by
  by_cases h : l.length ≤ n
  · rw [Nat.min_eq_left h, List.take_of_length_le (Nat.le_refl _), List.take_of_length_le h]
  · rw [Nat.min_eq_right (by omega)]
theorem bldR (b : Bool) (x y : NV) : buildA (.agg [.bool false, .lst none true .full [], .lst none true .full []]) [(0, none, .bool b), (1, none, x.av), (2, none, y.av)] = some (RV.av ⟨b, x, y⟩) := rfl
def cB (a b c : AV) (leaf : Int) : Option Ent := some (.obj true [a, b, c, .int .i64 leaf])
structure SI (c : CV) (od v w : AV) (m : Mem) : Prop where
  g0 : m[0]? = some (cC c)
  g1 : m[1]? = some (cC zC)
  g2 : m[2]? = some (cC zC)
  g3 : m[3]? = some (cB od v w c.leaf)
theorem SI.kp {c : CV} {od v w : AV} {m m' : Mem} (h : SI c od v w m) (k : KpO m m') : SI c od v w m' := ⟨k.2 _ _ _ h.g0, k.2 _ _ _ h.g1, k.2 _ _ _ h.g2, k.2 _ _ _ h.g3⟩
theorem SI.put {c : CV} {od v w v' w' : AV} {m : Mem} (h : SI c od v w m) : SI c od v' w' (m.set 3 (cB od v' w' c.leaf)) := by
  have hl : 3 < m.length := gr_lt h.g3
  refine ⟨?_, ?_, ?_, ?_⟩
  · rw [List.getElem?_set_ne (by omega)]; exact h.g0
  · rw [List.getElem?_set_ne (by omega)]; exact h.g1
  · rw [List.getElem?_set_ne (by omega)]; exact h.g2
  · rw [List.getElem?_set_self hl]
theorem grow_atom {e : Nat} {sh : Sh} {m : Mem} {v : AV} {es : List AV} (h : GrowAt e sh m v es) : atomOk v = true ∧ v.cells = [v] := by
  rcases h with ⟨rfl, _⟩ | ⟨nm, rfl, _⟩ <;> exact ⟨rfl, rfl⟩
theorem build_node {n : ND} (h : n.kids.o = .no) : buildSliceA (some 3) [n.av] = some (.lst (some 3) false .full [n.av]) := by
  obtain ⟨a, ⟨z, o, ns⟩, b⟩ := n
  simp only at h
  subst h
  rfl
theorem W6a {c : CV} (hc : XC c) (od w : AV) (N : NL) (hN : N.sh = some 3 ∨ N.es = []) (hk : ∀ n ∈ N.es, n.kids.o = .no) (hlen : N.es.length ≤ 120) (K : Ex → St → Option (AV × Mem)) : ∀ (j i : Nat) (m : Mem) (v : AV), i + j = N.es.length → SI c od v w m → GrowAt 51 (some 3) m v ((N.es.take i).map ND.av) →
    ∃ m' v', SI c od v' w m' ∧ GrowAt 51 (some 3) m' v' (N.es.map ND.av) ∧ L6_3 (.ptr 0 0) (.ptr 1 0) (.ptr 2 0) (.ptr 3 0) N.av (.int .i64 N.es.length) (.int .i64 i) m K = K (.exit 0) (O6_3 (.ptr 0 0) (.ptr 1 0) (.ptr 2 0) (.ptr 3 0) m')
  | 0, i, m, v, hij, hs, hg => ⟨m, v, hs, by rw [List.take_of_length_le (by omega)] at hg; exact hg, by rw [L6_3_eq, n_lss, Option.bind_some, ifA_dec, if_neg (by omega)]⟩
  | j + 1, i, m, v, hij, hs, hg => by
    have hi : i < N.es.length := by omega
    have hb := build_node (hk _ (List.getElem_mem hi))
    have hs1 := hs.kp (KpO.app m [cN N.es[i]])
    obtain ⟨v', m1, a1, a2, a3⟩ := grow (d := none) (b := 40) (y := N.es[i].av) (z := false) (o := .full) (sh' := some 3) (hg.app [cN N.es[i]]) trivial (by rw [List.length_map, List.length_take]; simp only [roomA]; omega)
    have hs2 := hs1.kp a3
    have et : (N.es.take i).map ND.av ++ [N.es[i].av] = (N.es.take (i + 1)).map ND.av := by
      rw [List.take_succ_eq_append_getElem hi, List.map_append]; rfl
    rw [et] at a2
    have hat := grow_atom a2
    obtain ⟨m', v'', b1, b2, b3⟩ := W6a hc od w N hN hk hlen K j (i + 1) (m1.set 3 (cB od v' w c.leaf)) v' (by omega) (hs2.put) (a2.set hs2.g3 _)
    refine ⟨m', v'', b1, b2, ?_⟩
    have hp : putAt [od, v, w, .int .i64 c.leaf] 1 v'.cells = [od, v', w, .int .i64 c.leaf] := by rw [hat.2]; rfl
    have est := ob_st hs2.g3 (j := 1) (v := v') (by simp) hat.1
    rw [hp] at est
    rw [L6_3_eq, n_lss, Option.bind_some, ifA_dec, if_pos hi, index_nl hN hi, Option.bind_some, load_nd, Option.bind_some]
    simp only [new_n, new_r]
    rw [nst_last, Option.bind_some, fld1, Option.bind_some, ob_ld hs1.g3 (j := 1) (v := v) rfl, Option.bind_some, nldA (x := N.es[i]) get_last, Option.bind_some, hb, Option.bind_some, a1, Option.bind_some, Option.bind_some, est, Option.bind_some, i_add1 (by omega), Option.bind_some]
    exact b3
theorem W6b {c : CV} (hc : XC c) (od v : AV) (N : LV) (hN : N.sh = some 3 ∨ N.es = []) (hx : ∀ r ∈ N.es, XR r) (hlen : N.es.length ≤ 120) (ns : List AV) (K : Ex → St → Option (AV × Mem)) : ∀ (j i : Nat) (m : Mem) (w : AV), i + j = N.es.length → SI c od v w m → GrowAt 35 (some 3) m w ((N.es.take i).map fun r => (cutW r).av) →
    ∃ m' w', SI c od v w' m' ∧ GrowAt 35 (some 3) m' w' (N.es.map fun r => (cutW r).av) ∧ L6_8 (.ptr 0 0) (.ptr 1 0) (.ptr 2 0) (.ptr 3 0) N.av (.int .i64 N.es.length) (.int .i64 i) m K = K (.exit 2) (O6_8 (.ptr 0 0) (.ptr 1 0) (.ptr 2 0) (.ptr 3 0) m')
  | 0, i, m, w, hij, hs, hg => ⟨m, w, hs, by rw [List.take_of_length_le (by omega)] at hg; exact hg, by rw [L6_8_eq, n_lss, Option.bind_some, ifA_dec, if_neg (by omega)]⟩
  | j + 1, i, m, w, hij, hs, hg => by
    have hi : i < N.es.length := by omega
    have hb := build_row (cutW_fr N.es[i])
    have hs0 := hs.kp (KpO.app m [cR N.es[i]])
    have hs1 := hs0.kp (KpO.app (m ++ [cR N.es[i]]) [some .resv])
    have gr : ((m ++ [cR N.es[i]]) ++ [some .resv])[m.length]? = some (cR N.es[i]) := get_app get_last _
    obtain ⟨w', m1, a1, a2, a3⟩ := grow (d := some (m ++ [cR N.es[i]]).length) (b := 56) (y := (cutW N.es[i]).av) (z := false) (o := .full) (sh' := some 3) ((hg.app [cR N.es[i]]).app [some .resv]) (by show _ = _; exact get_last) (by rw [List.length_map, List.length_take]; simp only [roomA]; omega)
    have hs2 := hs1.kp a3
    have et : (N.es.take i).map (fun r => (cutW r).av) ++ [(cutW N.es[i]).av] = (N.es.take (i + 1)).map (fun r => (cutW r).av) := by
      rw [List.take_succ_eq_append_getElem hi, List.map_append]; rfl
    rw [et] at a2
    have hat := grow_atom a2
    obtain ⟨m', w'', b1, b2, b3⟩ := W6b hc od v N hN hx hlen ns K j (i + 1) (m1.set 3 (cB od v w' c.leaf)) w' (by omega) (hs2.put) (a2.set hs2.g3 _)
    refine ⟨m', w'', b1, b2, ?_⟩
    have hp : putAt [od, v, w, .int .i64 c.leaf] 2 w'.cells = [od, v, w', .int .i64 c.leaf] := by rw [hat.2]; rfl
    have est := ob_st hs2.g3 (j := 2) (v := w') (by simp) hat.1
    rw [hp] at est
    have idx : indexAddrA (some 3) N.av (.int .i64 i) = some (.vptr (N.es[i].av).cells) := by
      have hN : N.sh = some 3 := hN.resolve_right (fun e => by rw [e] at hi; simp at hi)
      simp [LV.av, indexAddrA, hN, hi]
    have m1' : ∀ n : Nat, maxA false (.int .i64 (n : Nat)) (.int .i64 30) = some (.int .i64 (min n 30 : Nat)) := fun n => min_len n 30
    rw [L6_8_eq, n_lss, Option.bind_some, ifA_dec, if_pos hi, idx, Option.bind_some, load_row, Option.bind_some]
    simp only [new_z', new_r]
    rw [st_last, Option.bind_some, fld2, Option.bind_some]
    simp only [res1]
    rw [ob_ld hs1.g3 (j := 2) (v := w) rfl, Option.bind_some, fld0, Option.bind_some, rld0 gr, Option.bind_some, fld1, Option.bind_some, rld1 gr, Option.bind_some, Option.bind_some, rld1 gr, Option.bind_some, len_nv, Option.bind_some, m1', Option.bind_some, slice_nv, Option.bind_some, fld2, Option.bind_some, rld2 gr, Option.bind_some, Option.bind_some, rld2 gr, Option.bind_some, len_nv, Option.bind_some, m1', Option.bind_some, slice_nv, Option.bind_some, bldR, Option.bind_some]
    rw [show (⟨N.es[i].neg, cutN N.es[i].num, cutN N.es[i].den⟩ : RV) = cutW N.es[i] from rfl, hb, Option.bind_some, a1, Option.bind_some, Option.bind_some, est, Option.bind_some, i_add1 (by omega), Option.bind_some]
    exact b3
structure CutOf (c p : CV) : Prop where
  fr : p.fr = p
  ok : COk 30 p
  odds : p.odds.es = c.odds.es.take 40
  nodes : p.nodes.es = c.nodes.es.take 120
  ws : p.ws.es = (c.ws.es.take 120).map cutW
  leaf : p.leaf = c.leaf
  kids : ∀ n ∈ p.nodes.es, n.kids.o = .no
  rows : ∀ l ∈ p.odds.es, l.o = .no
theorem grow_nl {m : Mem} {v : AV} {l : List ND} (h : GrowAt 51 (some 3) m v (l.map ND.av)) : ∃ N : NL, v = N.av ∧ N.es = l ∧ (N.sh = some 3 ∨ N.es = []) ∧ N.fr.fr = N.fr := by
  rcases h with ⟨rfl, h⟩ | ⟨nm, rfl, _⟩
  · have : l = [] := List.map_eq_nil_iff.1 h
    subst this
    exact ⟨⟨none, true, .full, []⟩, rfl, rfl, .inr rfl, rfl⟩
  · exact ⟨⟨some 3, false, .tok nm 51, l⟩, rfl, rfl, .inl rfl, rfl⟩
theorem grow_lv {m : Mem} {v : AV} {l : List RV} (h : GrowAt 35 (some 3) m v (l.map RV.av)) : ∃ N : LV, v = N.av ∧ N.es = l ∧ (N.sh = some 3 ∨ N.es = []) ∧ (N.z = true → N.es = []) ∧ N.fr.fr = N.fr := by
  rcases h with ⟨rfl, h⟩ | ⟨nm, rfl, _⟩
  · have : l = [] := List.map_eq_nil_iff.1 h
    subst this
    exact ⟨⟨none, true, .full, []⟩, rfl, rfl, .inr rfl, fun _ => rfl, rfl⟩
  · exact ⟨⟨some 3, false, .tok nm 35, l⟩, rfl, rfl, .inl rfl, (fun h => by cases h), rfl⟩
theorem fz_tupC2 (a b : CV) : Fz (.tup [a.av, b.av]) (.tup [a.fr.av, b.fr.av]) := by
  intro m
  have e : frz m fuelF (.tup [a.av, b.av]) = (mapF (frz m 8) [a.av, b.av]).map fun r => (.tup r.1, r.2) := rfl
  rw [e]
  simp [mapF, fza_cv a m 6, fza_cv b m 6]
theorem newS (m : Mem) (n : Nat) : newAt (some n) m (.obj true [.lst none true .full [], .lst none true .full [], .lst none true .full [], .int .i64 0]) = (n, m.set n (cC zC)) := rfl
theorem newSr (m : Mem) (n : Nat) : newAt (some n) m .resv = (n, m.set n (some .resv)) := rfl
theorem slice_ol (L : OL) : sliceT none L.av none (some (.int .i64 ((min L.es.length 40 : Nat) : Int))) none = some (OL.av ⟨L.z, .no, L.es.take 40⟩) := by
  have : sliceT none (.lst none L.z L.o (L.es.map IL.av)) none (some (.int .i64 ((min L.es.length 40 : Nat) : Int))) none = some (.lst none L.z .no ((L.es.map IL.av).take (min L.es.length 40))) := slice_cut (by rw [List.length_map]; omega)
  refine this.trans ?_
  rw [← List.map_take, take_min]; rfl
theorem slice_nl (L : NL) (hs : L.sh = some 3 ∨ L.es = []) : ∃ sh, (sh = some 3 ∨ L.es.take 120 = []) ∧ sliceT (some 3) L.av none (some (.int .i64 ((min L.es.length 120 : Nat) : Int))) none = some (NL.av ⟨sh, L.z, .no, L.es.take 120⟩) := by
  rcases hs with hs | hs
  · refine ⟨some 3, .inl rfl, ?_⟩
    have : sliceT (some 3) (.lst (some 3) L.z L.o (L.es.map ND.av)) none (some (.int .i64 ((min L.es.length 120 : Nat) : Int))) none = some (.lst (some 3) L.z .no ((L.es.map ND.av).take (min L.es.length 120))) := slice_cut (by rw [List.length_map]; omega)
    rw [← List.map_take, take_min] at this
    obtain ⟨sh, z, o, es⟩ := L
    simp only at hs
    subst hs
    exact this
  · obtain ⟨sh, z, o, es⟩ := L
    simp only at hs
    subst hs
    refine ⟨sh, .inr rfl, ?_⟩
    simp [NL.av, sliceT, sliceA, boundA]
theorem slice_lw (L : LV) (hs : L.sh = some 3 ∨ L.es = []) : ∃ sh, (sh = some 3 ∨ L.es.take 120 = []) ∧ sliceT (some 3) L.av none (some (.int .i64 ((min L.es.length 120 : Nat) : Int))) none = some (LV.av ⟨sh, L.z, .no, L.es.take 120⟩) := by
  rcases hs with hs | hs
  · refine ⟨some 3, .inl rfl, ?_⟩
    have : sliceT (some 3) (.lst (some 3) L.z L.o (L.es.map RV.av)) none (some (.int .i64 ((min L.es.length 120 : Nat) : Int))) none = some (.lst (some 3) L.z .no ((L.es.map RV.av).take (min L.es.length 120))) := slice_cut (by rw [List.length_map]; omega)
    rw [← List.map_take, take_min] at this
    obtain ⟨sh, z, o, es⟩ := L
    simp only at hs
    subst hs
    exact this
  · obtain ⟨sh, z, o, es⟩ := L
    simp only at hs
    subst hs
    refine ⟨sh, .inr rfl, ?_⟩
    simp [LV.av, sliceT, sliceA, boundA]
theorem bldC03 (a : AV) (n : Int) (ha : atomOk a = true) : buildA (.agg [.lst none true .full [], .lst none true .full [], .lst none true .full [], .int .i64 0]) [(0, none, a), (3, none, .int .i64 n)] = some (.agg (a.cells ++ [.lst none true .full [], .lst none true .full [], .int .i64 n])) := by
  cases a <;> first | rfl | (simp [atomOk] at ha)
theorem V6 {c : CV} (hc : XC c) : ∃ p r : CV, AP cfg 6 [c.av] = some (.tup [p.av, r.av]) ∧ CutOf c p ∧ CutOf c r := by
  have start : AC cfg 6 [c.av] [] = AC cfg 6 [c.av] [] := rfl
  obtain ⟨sh1, hsh1, en⟩ := slice_nl c.nodes hc.nsh
  obtain ⟨sh2, hsh2, ew⟩ := slice_lw c.ws hc.wsh
  have m40 : maxA false (.int .i64 (c.odds.es.length : Nat)) (.int .i64 40) = some (.int .i64 (min c.odds.es.length 40 : Nat)) := min_len _ 40
  have m120 : ∀ n : Nat, maxA false (.int .i64 (n : Nat)) (.int .i64 120) = some (.int .i64 (min n 120 : Nat)) := fun n => min_len n 120
  have g0 : ∀ M : Mem, (cC c :: M)[0]? = some (cC c) := fun _ => rfl
  conv at start => rhs; rw [T6, box_cv, Option.bind_some]
  simp only [new_cv, new_r, res1, newS, newSr, List.length_nil, List.nil_append, List.length_cons, List.cons_append, Nat.zero_add, Nat.reduceAdd, List.set_cons_succ, List.set_cons_zero, fld0, fld1, fld2, fld3] at start
  rw [Option.bind_some, cld0 (g0 _), Option.bind_some, Option.bind_some, cld0 (g0 _), Option.bind_some, len_ol, Option.bind_some, m40, Option.bind_some, slice_ol, Option.bind_some, Option.bind_some, cld3 (g0 _), Option.bind_some, bldC03 _ _ rfl, Option.bind_some] at start
  have st : storeA (some 4) [cC c, cC zC, cC zC, cC zC] (.ptr 3 0) (.agg ((OL.av ⟨c.odds.z, .no, c.odds.es.take 40⟩).cells ++ [.lst none true .full [], .lst none true .full [], .int .i64 c.leaf])) = some [cC c, cC zC, cC zC, cB (OL.av ⟨c.odds.z, .no, c.odds.es.take 40⟩) (.lst none true .full []) (.lst none true .full []) c.leaf] := rfl
  rw [st, Option.bind_some, Option.bind_some, cld1 (g0 _), Option.bind_some, Option.bind_some, cld1 (g0 _), Option.bind_some, len_nl, Option.bind_some, m120, Option.bind_some, en, Option.bind_some, len_nl, Option.bind_some] at start
  obtain ⟨m1, v1, s1, g1, e1⟩ := W6a hc (OL.av ⟨c.odds.z, .no, c.odds.es.take 40⟩) (.lst none true .full []) ⟨sh1, c.nodes.z, .no, c.nodes.es.take 120⟩ hsh1 (fun n hn => hc.kids n (List.mem_of_mem_take hn)) (by show (c.nodes.es.take 120).length ≤ 120; rw [List.length_take]; omega) (K6_3 (finK cfg.P f6.results.toList)) (c.nodes.es.take 120).length 0 [cC c, cC zC, cC zC, cB (OL.av ⟨c.odds.z, .no, c.odds.es.take 40⟩) (.lst none true .full []) (.lst none true .full []) c.leaf] (.lst none true .full []) (by simp) ⟨rfl, rfl, rfl, rfl⟩ (GrowAt.nil _ _ _)
  rw [show (((0 : Nat) : Int)) = (0 : Int) from rfl] at e1
  rw [e1, K6_3_x0, fld2, Option.bind_some, cld2 s1.g0, Option.bind_some, Option.bind_some, cld2 s1.g0, Option.bind_some, len_lv, Option.bind_some, m120, Option.bind_some, ew, Option.bind_some, len_lv, Option.bind_some] at start
  obtain ⟨m2, w2, s2, g2, e2⟩ := W6b hc (OL.av ⟨c.odds.z, .no, c.odds.es.take 40⟩) v1 ⟨sh2, c.ws.z, .no, c.ws.es.take 120⟩ hsh2 (fun r hr => hc.ws r (List.mem_of_mem_take hr)) (by show (c.ws.es.take 120).length ≤ 120; rw [List.length_take]; omega) [] (K6_8 (finK cfg.P f6.results.toList)) (c.ws.es.take 120).length 0 m1 (.lst none true .full []) (by simp) s1 (GrowAt.nil _ _ _)
  have e2 : _ = _ := e2
  rw [show (((0 : Nat) : Int)) = (0 : Int) from rfl] at e2
  obtain ⟨N, rfl, hN1, hN2, hN3⟩ := grow_nl g1
  have g2' : GrowAt 35 (some 3) m2 w2 (((c.ws.es.take 120).map cutW).map RV.av) := by rw [List.map_map]; exact g2
  obtain ⟨W, rfl, hW1, hW2, hW4, hW3⟩ := grow_lv g2'
  have q3 : m2[3]? = some (cC ⟨⟨c.odds.z, .no, c.odds.es.take 40⟩, N, W, c.leaf⟩) := s2.g3
  have l1 : 1 < m2.length := gr_lt s2.g1
  have l2 : 2 < m2.length := gr_lt s2.g2
  let p : CV := ⟨⟨c.odds.z, .no, c.odds.es.take 40⟩, ⟨sh1, c.nodes.z, .no, c.nodes.es.take 120⟩, W, c.leaf⟩
  let r : CV := ⟨⟨c.odds.z, .no, c.odds.es.take 40⟩, N, W, c.leaf⟩
  have k2 : (m2.set 1 (cC p))[2]? = some (cC zC) := by rw [List.getElem?_set_ne (by omega)]; exact s2.g2
  have k3 : ((m2.set 1 (cC p)).set 2 (cC r))[1]? = some (cC p) := by rw [List.getElem?_set_ne (by omega), List.getElem?_set_self l1]
  have k4 : ((m2.set 1 (cC p)).set 2 (cC r))[2]? = some (cC r) := by rw [List.getElem?_set_self (by rw [List.length_set]; exact l2)]
  have bp : buildA (.agg [.lst none true .full [], .lst none true .full [], .lst none true .full [], .int .i64 0]) [(0, none, OL.av ⟨c.odds.z, .no, c.odds.es.take 40⟩), (1, none, NL.av ⟨sh1, c.nodes.z, .no, c.nodes.es.take 120⟩), (2, none, W.av), (3, none, .int .i64 c.leaf)] = some p.av := rfl
  have nm : namesV (.ptr 3 0) (.ptr 1 0) = true := rfl
  rw [e2, K6_8_x2, fld0, Option.bind_some, cld0 q3, Option.bind_some, fld1, Option.bind_some, cld1 s2.g0, Option.bind_some, Option.bind_some, cld1 s2.g0, Option.bind_some, len_nl, Option.bind_some, m120, Option.bind_some, en, Option.bind_some, fld2, Option.bind_some, cld2 q3, Option.bind_some, fld3, Option.bind_some, cld3 s2.g0, Option.bind_some, bp, Option.bind_some, cldA q3, Option.bind_some, cstA (y := p) s2.g1, Option.bind_some, cstA (y := r) k2, Option.bind_some, nm, ifB, cldA k3, Option.bind_some, cldA k4, Option.bind_some] at start
  have okW : LOk 30 W.fr := ⟨hW2, hW4, fun t ht => by
    have ht : t ∈ W.es := ht
    rw [hW1] at ht
    obtain ⟨a, _, rfl⟩ := List.mem_map.1 ht
    rfl, fun t ht => by
    have ht : t ∈ W.es := ht
    rw [hW1] at ht
    obtain ⟨a, ha, rfl⟩ := List.mem_map.1 ht
    exact cutW_ok (hc.ws a (List.mem_of_mem_take ha))⟩
  have lW : W.es.length ≤ 120 := by rw [hW1, List.length_map, List.length_take]; omega
  have lO : (c.odds.es.take 40).length ≤ 40 := by rw [List.length_take]; omega
  have lN : (c.nodes.es.take 120).length ≤ 120 := by rw [List.length_take]; omega
  have hkid : ∀ n ∈ c.nodes.es.take 120, n.kids.o = .no := fun n hn => hc.kids n (List.mem_of_mem_take hn)
  have hrow : ∀ l ∈ c.odds.es.take 40, l.o = .no := fun n hn => hc.rows n (List.mem_of_mem_take hn)
  refine ⟨p.fr, r.fr, AP_ofz _ _ (fz_tupC2 p r) rfl start, ⟨?_, ⟨lO, hsh1, lN, okW, lW⟩, rfl, rfl, hW1, rfl, hkid, hrow⟩, ⟨?_, ⟨lO, hN2, by show N.es.length ≤ 120; rw [hN1]; exact lN, okW, lW⟩, rfl, hN1, hW1, rfl, by intro n hn; have hn : n ∈ N.es := hn; rw [hN1] at hn; exact hkid n hn, hrow⟩⟩
  · show (⟨_, _, W.fr.fr, _⟩ : CV) = ⟨_, _, W.fr, _⟩
    rw [hW3]; rfl
  · show (⟨_, N.fr.fr, W.fr.fr, _⟩ : CV) = ⟨_, N.fr, W.fr, _⟩
    rw [hW3, hN3]; rfl
end Go.Ab

/- ProofChecks in values. -/
set_option linter.unusedVariables false
set_option linter.unusedSimpArgs false
set_option maxRecDepth 100000
namespace Go.Ab
open Go.Proofs.Try

def aliveC : CV := ⟨⟨true, .full, []⟩, ⟨some 3, false, .full, [⟨-1, nilI, 4⟩]⟩, ⟨some 3, false, .full, [oneF]⟩, 4⟩
theorem alive_ok : COk 30 aliveC.fr := ⟨by simp [aliveC, CV.fr, OL.fr], .inl rfl, by simp [aliveC, CV.fr, NL.fr], ⟨.inl rfl, (fun h => by cases h), by simp [aliveC, CV.fr, LV.fr, oneF_fr], by
  intro r hr
  have : r = oneF := by simpa [aliveC, CV.fr, LV.fr] using hr
  rw [this]
  exact (canF_one.ok (Bd_one (by omega)) (by omega))⟩, by simp [aliveC, CV.fr, LV.fr]⟩
theorem alive_shaped : shapedB aliveC.fr = true := by
  have h1 : rightR oneF = true := can_rightR canF_one
  simp [shapedB, aliveC, CV.fr, OL.fr, NL.fr, LV.fr, oddsB, nodesB, allF, nodeB, armsI, lens, h1, nilI]
theorem alive_okAt : okAt aliveC.fr 0 = true := by
  unfold okAt
  refine decide_eq_true ?_
  have e1 : wQ aliveC.fr.ws 0 = 1 := canF_one.q
  rw [e1]
  rfl
theorem alive_E : checkE aliveC.fr = 0 ∧ checkQ aliveC.fr = 1 := by
  have e : checkE aliveC.fr = 0 := by
    unfold checkE
    rw [if_pos alive_shaped]
    show (match firstF (okAt aliveC.fr) 1 0 with | none => (0 : Int) | some _ => 32) = 0
    rw [firstF, if_pos alive_okAt]; rfl
  refine ⟨e, ?_⟩
  unfold checkQ
  rw [if_pos e]
  exact canF_one.q
theorem pcall10 {m : Mem} {d : Option Nat} : pcall (AP cfg) d m 10 [] = some (.bool true, m) := by
  have h10 : AP cfg 10 [] = some (.bool true) := by
    obtain ⟨e1, e2⟩ := alive_E
    obtain ⟨r, r1, r2, r3, r4⟩ := V7 alive_ok
    rw [e1] at r1
    rw [e2] at r2
    have e9 := V9 r4 (canF_one.ok (Bd_one (by omega : 1 ≤ 4000)) (by omega)) (by omega) (by omega)
    rw [r2, canF_one.q] at e9
    refine AP_ofz _ _ (fz_bool _) rfl (m := [cC aliveC, cR r]) ?_
    have b1 : buildA (.agg [.int .i64 0, .lst none true .full [], .int .i64 0]) [(0, none, .int .i64 (-1)), (2, none, .int .i64 4)] = some (ND.av ⟨-1, nilI, 4⟩) := rfl
    have b2 : buildSliceA (some 3) [ND.av ⟨-1, nilI, 4⟩] = some (.lst (some 3) false .full [ND.av ⟨-1, nilI, 4⟩]) := rfl
    have b3 : buildA (.agg [.lst none true .full [], .lst none true .full [], .lst none true .full [], .int .i64 0]) [(1, none, .lst (some 3) false .full [ND.av ⟨-1, nilI, 4⟩]), (2, none, .lst (some 3) false .full [oneF.av]), (3, none, .int .i64 4)] = some aliveC.av := rfl
    have start : AC cfg 10 [] [] = AC cfg 10 [] [] := rfl
    conv at start => rhs; rw [T10, b1, Option.bind_some, b2, Option.bind_some, pc0, V21, Option.map_some, Option.bind_some, build_row oneF_fr, Option.bind_some, b3, Option.bind_some]
    simp only [new_cv, new_r, List.length_nil, List.nil_append] at start
    rw [cstA (x := zC) rfl, Option.bind_some] at start
    simp only [List.set_cons_zero] at start
    rw [cldA (x := aliveC) rfl, Option.bind_some, pcall1 (fz_cv _), r1, Option.map_some, Option.bind_some, ex0, Option.bind_some, ex1, Option.bind_some, ex2, Option.bind_some] at start
    simp only [new_z', new_r, List.length_nil, List.nil_append, List.length_cons, List.cons_append, Nat.zero_add] at start
    rw [st1all, Option.bind_some, binA_eql, Option.bind_some, decide_eq_true rfl, ifA_true, ld1all, Option.bind_some, pc0, V21, Option.map_some, Option.bind_some, pcRR, r3, oneF_fr, e9, Option.map_some, Option.bind_some] at start
    rw [start]
    rfl
  rw [pcall0, h10]; rfl
/-! ### Two certificates of the same content -/
end Go.Ab

/- ProofOnly in values: the weights follow from all else. -/
set_option linter.unusedVariables false
set_option linter.unusedSimpArgs false
set_option maxRecDepth 100000
namespace Go.Ab
open Go.Proofs.Try

/-! ### Accepted weights are the only ones -/
theorem firstF_none {f : Nat → Bool} : ∀ {j i : Nat}, firstF f j i = none → ∀ k, i ≤ k → k < i + j → f k = true
  | 0, i, _ => fun k h1 h2 => by omega
  | j + 1, i, h => fun k h1 h2 => by
    rw [firstF] at h
    by_cases c : f i = true
    · rw [if_pos c] at h
      by_cases hk : k = i
      · rw [hk]; exact c
      · exact firstF_none h k (by omega) (by omega)
    · rw [if_neg c] at h; cases h
theorem check_ok {c : CV} (h : checkE c = 0) : shapedB c = true ∧ ∀ i (hi : i < c.nodes.es.length), wQ c.ws i = hasQ c.odds c.ws c.leaf c.nodes.es[i] := by
  unfold checkE at h
  by_cases hs : shapedB c = true
  · rw [if_pos hs] at h
    refine ⟨hs, fun i hi => ?_⟩
    cases hf : firstF (okAt c) c.nodes.es.length 0 with
    | some p => rw [hf] at h; cases h
    | none =>
      have := firstF_none hf i (by omega) (by omega)
      unfold okAt at this
      rw [decide_eq_true_iff, getD_nd hi] at this
      exact this
  · rw [if_neg hs] at h; cases h
theorem sumR_congr {F G : Nat → Rat} : ∀ {n : Nat}, (∀ i, i < n → F i = G i) → sumR F n = sumR G n
  | 0, _ => rfl
  | n + 1, h => by rw [sumR, sumR, sumR_congr (fun i hi => h i (by omega)), h n (by omega)]
theorem only_one {c d : CV} (hc : checkE c = 0) (hd : checkE d = 0) (ho : d.odds.es = c.odds.es) (hn : d.nodes.es = c.nodes.es) (hl : d.leaf = c.leaf) : ∀ i, i < c.nodes.es.length → wQ c.ws i = wQ d.ws i := by
  obtain ⟨hs, h1⟩ := check_ok hc
  obtain ⟨_, h2⟩ := check_ok hd
  intro i
  induction i using Nat.strongRecOn with
  | _ i ih =>
    intro hi
    have e1 := h1 i hi
    have e2 := h2 i (by rw [hn]; exact hi)
    have hnd : d.nodes.es[i]'(by rw [hn]; exact hi) = c.nodes.es[i] := by simp only [hn]
    rw [hnd, hl] at e2
    have hB := shaped_nodeB hs hi
    obtain ⟨hna, _⟩ := shaped_node hs hi
    rw [e1, e2]
    rcases hna with h | ⟨v, hv, hv2, h⟩
    · rw [hasQ_leaf h, hasQ_leaf h]
    · have hv' : v < d.odds.es.length := by rw [ho]; exact hv
      rw [hasQ_node hv hv2, hasQ_node hv' hv2]
      refine sumR_congr fun j hj => ?_
      have er : d.odds.es[v] = c.odds.es[v] := by simp only [ho]
      rw [er]
      unfold termQ
      obtain ⟨k, hk, hk2, hk3⟩ := h.kid hj
      have hkb : (k : Int) < i := by
        unfold nodeB at hB
        rw [if_neg (by omega), Bool.and_eq_true] at hB
        have := List.all_eq_true.1 hB.2 _ (List.getElem_mem hj)
        unfold kidB at this
        rw [Bool.and_eq_true, decide_eq_true_iff] at this
        rw [hk] at this
        exact this.1.2
      rw [hk3, Int.toNat_natCast, ih k (by omega) (by omega)]
/-! ### The other weights -/
def mixW (more ws : List RV) : List RV := (List.range ws.length).map fun i => more.getD i (ws.getD i zR)
theorem mix_len (more ws : List RV) : (mixW more ws).length = ws.length := by simp [mixW]
theorem mix_get {more ws : List RV} {i : Nat} (h : i < ws.length) : (mixW more ws)[i]'(by rw [mix_len]; exact h) = more.getD i ws[i] := by
  simp [mixW, List.getD_eq_getElem?_getD, h]
theorem mix_take {more ws : List RV} {i : Nat} (h : i < ws.length) : (mixW more ws).take (i + 1) = (mixW more ws).take i ++ [more.getD i ws[i]] := by
  rw [List.take_succ_eq_append_getElem (by rw [mix_len]; exact h), mix_get h]
theorem mix_mem {more ws : List RV} {Q : RV → Prop} (h1 : ∀ r ∈ more, Q r) (h2 : ∀ r ∈ ws, Q r) : ∀ r ∈ mixW more ws, Q r := by
  intro r hr
  obtain ⟨i, hi, rfl⟩ := List.mem_iff_getElem.1 hr
  have hi2 : i < ws.length := by rw [mix_len] at hi; exact hi
  rw [mix_get hi2, List.getD_eq_getElem?_getD]
  by_cases c : i < more.length
  · rw [List.getElem?_eq_getElem c]; exact h1 _ (List.getElem_mem c)
  · rw [List.getElem?_eq_none (by omega)]; exact h2 _ (List.getElem_mem hi2)
structure OI (p : CV) (v : AV) (m : Mem) : Prop where
  g0 : m[0]? = some (cC p)
  g1 : m[1]? = some (cB p.odds.av p.nodes.av v p.leaf)
theorem OI.kp {p : CV} {v : AV} {m m' : Mem} (h : OI p v m) (k : KpO m m') : OI p v m' := ⟨k.2 _ _ _ h.g0, k.2 _ _ _ h.g1⟩
theorem OI.put {p : CV} {v v' : AV} {m : Mem} (h : OI p v m) : OI p v' (m.set 1 (cB p.odds.av p.nodes.av v' p.leaf)) :=
  ⟨by rw [List.getElem?_set_ne (by omega)]; exact h.g0, by rw [List.getElem?_set_self (gr_lt h.g1)]⟩
theorem W4 {p : CV} {more : LV} (hp : LOk 30 p.ws) (hlen : p.ws.es.length ≤ 120) (hm : more.sh = some 3) (hmf : ∀ r ∈ more.es, r.fr = r) (K : Ex → St → Option (AV × Mem)) : ∀ (j i : Nat) (m : Mem) (v : AV), i + j = p.ws.es.length → OI p v m → GrowAt 35 (some 3) m v (((mixW more.es p.ws.es).take i).map RV.av) →
    ∃ m' v', OI p v' m' ∧ GrowAt 35 (some 3) m' v' ((mixW more.es p.ws.es).map RV.av) ∧ L4_5 more.av (.ptr 0 0) (.ptr 1 0) p.ws.av (.int .i64 p.ws.es.length) (.int .i64 i) m K = K (.exit 0) (O4_5 (.ptr 0 0) (.ptr 1 0) m')
  | 0, i, m, v, hij, hs, hg => ⟨m, v, hs, by rw [List.take_of_length_le (by rw [mix_len]; omega)] at hg; exact hg, by rw [L4_5_eq, n_lss, Option.bind_some, ifA_dec, if_neg (by omega)]⟩
  | j + 1, i, m, v, hij, hs, hg => by
    have hi : i < p.ws.es.length := by omega
    have hx : (more.es.getD i p.ws.es[i]).fr = more.es.getD i p.ws.es[i] := by
      rw [List.getD_eq_getElem?_getD]
      by_cases c : i < more.es.length
      · rw [List.getElem?_eq_getElem c]; exact hmf _ (List.getElem_mem c)
      · rw [List.getElem?_eq_none (by omega)]; exact hp.fr _ (List.getElem_mem hi)
    generalize hxe : more.es.getD i p.ws.es[i] = x at hx
    have hb := build_row hx
    have hs1 := hs.kp (KpO.app m [cR x])
    obtain ⟨v', m1, a1, a2, a3⟩ := grow (d := none) (b := 56) (y := x.av) (z := false) (o := .full) (sh' := some 3) (hg.app [cR x]) trivial (by rw [List.length_map, List.length_take, mix_len]; simp only [roomA]; omega)
    have hs2 := hs1.kp a3
    have et : ((mixW more.es p.ws.es).take i).map RV.av ++ [x.av] = ((mixW more.es p.ws.es).take (i + 1)).map RV.av := by
      rw [mix_take hi, List.map_append, hxe]; rfl
    rw [et] at a2
    have hat := grow_atom a2
    obtain ⟨m', v'', b1, b2, b3⟩ := W4 hp hlen hm hmf K j (i + 1) (m1.set 1 (cB p.odds.av p.nodes.av v' p.leaf)) v' (by omega) hs2.put (a2.set hs2.g1 _)
    refine ⟨m', v'', b1, b2, ?_⟩
    have hpa : putAt [p.odds.av, p.nodes.av, v, .int .i64 p.leaf] 2 v'.cells = [p.odds.av, p.nodes.av, v', .int .i64 p.leaf] := by rw [hat.2]; rfl
    have est := ob_st hs2.g1 (j := 2) (v := v') (by simp) hat.1
    rw [hpa] at est
    have lm : lenA false more.av = some (.int .i64 more.es.length) := len_lv more
    rw [L4_5_eq, n_lss, Option.bind_some, ifA_dec, if_pos hi, index_lv hp hi, Option.bind_some, load_row, Option.bind_some]
    simp only [new_z', new_r]
    rw [st_last, Option.bind_some, lm, Option.bind_some, n_lss, Option.bind_some, ifA_dec]
    by_cases c : i < more.es.length
    · have idx : indexAddrA (some 3) more.av (.int .i64 i) = some (.vptr (more.es[i].av).cells) := by
        simp [LV.av, indexAddrA, hm, c]
      have ex : more.es[i] = x := by
        rw [← hxe, List.getD_eq_getElem?_getD, List.getElem?_eq_getElem c]; rfl
      rw [if_pos c, idx, Option.bind_some, load_row, Option.bind_some, ex, st_last, Option.bind_some, fld2, Option.bind_some, ob_ld hs1.g1 (j := 2) (v := v) rfl, Option.bind_some, ld_last, Option.bind_some, hb, Option.bind_some, a1, Option.bind_some, Option.bind_some, est, Option.bind_some, i_add1 (by omega), Option.bind_some]
      exact b3
    · have ex : p.ws.es[i] = x := by
        rw [← hxe, List.getD_eq_getElem?_getD, List.getElem?_eq_none (by omega)]; rfl
      rw [if_neg c, ex, fld2, Option.bind_some, ob_ld hs1.g1 (j := 2) (v := v) rfl, Option.bind_some, ld_last, Option.bind_some, hb, Option.bind_some, a1, Option.bind_some, Option.bind_some, est, Option.bind_some, i_add1 (by omega), Option.bind_some]
      exact b3
theorem W4b {p d : CV} (hp : LOk 30 p.ws) (hd : LOk 30 d.ws) (hl : d.ws.es.length = p.ws.es.length) (h120 : p.ws.es.length ≤ 120) (heq : ∀ i, i < p.ws.es.length → wQ p.ws i = wQ d.ws i) {m : Mem} (g0 : m[0]? = some (cC p)) (g1 : m[1]? = some (cC d)) (K : Ex → St → Option (AV × Mem)) : ∀ j i : Nat, i + j = p.ws.es.length →
    L4_17 (.ptr 0 0) (.ptr 1 0) (.int .i64 p.ws.es.length) (.int .i64 i) m K = K (.exit 2) (O4_17 m)
  | 0, i, hij => by rw [L4_17_eq, n_lss, Option.bind_some, ifA_dec, if_neg (by omega)]
  | j + 1, i, hij => by
    have hi : i < p.ws.es.length := by omega
    have hi2 : i < d.ws.es.length := by omega
    have e9 := V9 (hp.ok _ (List.getElem_mem hi)) (hd.ok _ (List.getElem_mem hi2)) (by omega) (by omega)
    have hq := heq i hi
    rw [wQ_get hi, wQ_get hi2] at hq
    rw [decide_eq_true hq] at e9
    rw [L4_17_eq, n_lss, Option.bind_some, ifA_dec, if_pos hi, fld2, Option.bind_some, cld2 g0, Option.bind_some, index_lv hp hi, Option.bind_some, load_row, Option.bind_some, fld2, Option.bind_some, cld2 g1, Option.bind_some, index_lv hd hi2, Option.bind_some, load_row, Option.bind_some, pcRR, hp.fr _ (List.getElem_mem hi), hd.fr _ (List.getElem_mem hi2), e9, Option.map_some, Option.bind_some, not_b, Option.bind_some, Bool.not_true, ifA_false, i_add1 (by omega), Option.bind_some, W4b hp hd hl h120 heq g0 g1 K j (i + 1) (by omega)]
theorem nok_xn {x : NV} (h : NOk x) : XN x := ⟨h.dg, h.nil⟩
theorem ProofOnly_law {c : CV} (hc : XC c) (hf : c.fr = c) {more : LV} (hm : more.sh = some 3 ∧ (more.z = true → more.es = []) ∧ (∀ r ∈ more.es, XR r ∧ r.fr = r) ∧ more.o = .no) : ∃ m', AC cfg 4 [c.av, more.av] [] = some (.bool true, m') := by
  obtain ⟨p, r, e6, hp, hr⟩ := V6 hc
  have start : AC cfg 4 [c.av, more.av] [] = AC cfg 4 [c.av, more.av] [] := rfl
  conv at start => rhs; rw [T4, box_cv, Option.bind_some]
  simp only [List.length_nil, List.nil_append] at start
  rw [cldA (x := c) rfl, Option.bind_some, pcall1 (fz_cv _), hf, e6, Option.map_some, Option.bind_some, ext0'', Option.bind_some, ext1'', Option.bind_some, cstA (x := c) rfl, Option.bind_some] at start
  simp only [List.set_cons_zero, new_cv, new_r, List.length_nil, List.nil_append, List.length_cons, List.cons_append, Nat.zero_add] at start
  rw [cldA (x := p) rfl, Option.bind_some, cstA (x := zC) rfl, Option.bind_some] at start
  simp only [List.set_cons_zero, List.set_cons_succ] at start
  have st : storeA none [cC p, cC p] (.ptr 1 2) (.lst none true .full []) = some [cC p, cB p.odds.av p.nodes.av (.lst none true .full []) p.leaf] := rfl
  rw [fld2, Option.bind_some, st, Option.bind_some, fld2, Option.bind_some, cld2 (x := p) rfl, Option.bind_some, len_lv, Option.bind_some] at start
  obtain ⟨m1, v1, s1, g1, e1⟩ := W4 (p := p) hp.ok.ws hp.ok.wlen hm.1 (fun r hr => (hm.2.2.1 r hr).2) (K4_5 (finK cfg.P f4.results.toList)) p.ws.es.length 0 [cC p, cB p.odds.av p.nodes.av (.lst none true .full []) p.leaf] (.lst none true .full []) (by omega) ⟨rfl, rfl⟩ (GrowAt.nil _ _ _)
  rw [show (((0 : Nat) : Int)) = (0 : Int) from rfl] at e1
  obtain ⟨W, rfl, hW1, hW2, hW3, hW4⟩ := grow_lv g1
  have q1 : m1[1]? = some (cC ⟨p.odds, p.nodes, W, p.leaf⟩) := s1.g1
  have l1 : 1 < m1.length := gr_lt q1
  have xd : XC (CV.fr ⟨p.odds, p.nodes, W, p.leaf⟩) := ⟨hp.ok.nsh, hp.kids, hp.rows, hW2, by
    show ∀ r ∈ W.es, XR r
    rw [hW1]
    exact mix_mem (fun r hr => (hm.2.2.1 r hr).1) (fun r hr => ⟨nok_xn (hp.ok.ws.ok r hr).num, nok_xn (hp.ok.ws.ok r hr).den⟩)⟩
  obtain ⟨d, d', e6d, hd, hd'⟩ := V6 xd
  have do1 : d.odds.es = p.odds.es := by
    rw [hd.odds]
    exact List.take_of_length_le hp.ok.odds
  have do2 : d.nodes.es = p.nodes.es := by
    rw [hd.nodes]
    exact List.take_of_length_le hp.ok.nlen
  have do3 : d.leaf = p.leaf := hd.leaf
  have do4 : d.ws.es.length = p.ws.es.length := by
    rw [hd.ws, List.length_map, List.length_take]
    show min 120 W.es.length = _
    rw [hW1, mix_len]
    have := hp.ok.wlen
    omega
  obtain ⟨u, u1, u2, u3, u4⟩ := V7 hp.ok
  obtain ⟨w, w1, w2, w3, w4⟩ := V7 hd.ok
  rw [e1, K4_5_x0, cldA q1, Option.bind_some, pcall1 (fz_cv _), e6d, Option.map_some, Option.bind_some, ext0'', Option.bind_some, ext1'', Option.bind_some, cstA (y := d) q1, Option.bind_some] at start
  have k0 : (m1.set 1 (cC d))[0]? = some (cC p) := by rw [List.getElem?_set_ne (by omega)]; exact s1.g0
  have k1 : (m1.set 1 (cC d))[1]? = some (cC d) := by rw [List.getElem?_set_self l1]
  generalize m1.set 1 (cC d) = M at start k0 k1
  rw [cldA k0, Option.bind_some, pcall1 (fz_cv _), hp.fr, u1, Option.map_some, Option.bind_some, ex0, Option.bind_some, ex1, Option.bind_some, ex2, Option.bind_some] at start
  simp only [new_z', new_r] at start
  have k2 := get_app k0 (cR u)
  have k3 := get_app k1 (cR u)
  rw [st_last, Option.bind_some, cldA k3, Option.bind_some, pcall1 (fz_cv _), hd.fr, w1, Option.map_some, Option.bind_some, ex0, Option.bind_some, ex1, Option.bind_some, ex2, Option.bind_some] at start
  simp only [new_z', new_r] at start
  have k4 := get_app k2 (cR w)
  have k5 := get_app k3 (cR w)
  rw [st_last, Option.bind_some, binA_neq, Option.bind_some, ifA_dec] at start
  by_cases c1 : checkE p = 0
  case neg =>
    rw [if_pos c1, pcall10, Option.bind_some] at start
    exact ⟨_, start⟩
  rw [if_neg (by omega), binA_neq, Option.bind_some, ifA_dec] at start
  by_cases c2 : checkE d = 0
  case neg =>
    rw [if_pos c2, pcall10, Option.bind_some] at start
    exact ⟨_, start⟩
  have hl := (shaped_lens (check_ok c1).1).1
  have hone := only_one c1 c2 do1 do2 do3
  have hW := W4b hp.ok.ws hd.ok.ws do4 hp.ok.wlen (fun i hi => hone i (by omega)) k4 k5 (K4_17 (finK cfg.P f4.results.toList)) p.ws.es.length 0 (by omega)
  rw [show (((0 : Nat) : Int)) = (0 : Int) from rfl] at hW
  rw [if_neg (by omega), fld2, Option.bind_some, cld2 k4, Option.bind_some, len_lv, Option.bind_some, hW, K4_17_x2, pcall10, Option.bind_some] at start
  exact ⟨_, start⟩
end Go.Ab

/- Data that can be read, as values of the interpreter: any type of whole numbers, truth values, texts, rows of these, and flat structs. -/
set_option linter.unusedVariables false
set_option linter.unusedSimpArgs false
set_option maxRecDepth 100000
namespace Go.Ab
open Go.RowKit

def gN : G := ⟨fun _ _ => False, fun _ => False, fun _ => none, fun _ _ => none⟩
def atomT (P : Program) (t : Nat) : Bool := match P.underlying t with
  | some (.int _) | some .bool | some .string | some (.slice _) => true
  | _ => false
def shE (P : Program) (t : Nat) : Sh := match P.underlying t with
  | some (.struct fs) => some fs.size
  | _ => none
/-- What stands in a variable of a type, by depth. -/
def Reads (P : Program) : Nat → Nat → AV → Prop
  | 0, _, _ => False
  | n + 1, t, v => match P.underlying t with
    | some (.int k) => ∃ i, v = .int k i ∧ (Lit.int k i).wf = true
    | some .bool => ∃ b, v = .bool b
    | some .string => ∃ s, v = .str s ∧ s.size ≤ maxLen
    | some (.slice e) => ∃ z es, v = .lst (shE P e) z .no es ∧ (z = true → es = []) ∧ ∀ x ∈ es, Reads P n e x
    | some (.struct fs) => ∃ cs, v = .agg cs ∧ cs.length = fs.size ∧ ∀ i f, fs[i]? = some f → Reads P n f.type (cs.getD i .any)
    | _ => False
def fieldsOk (P : Program) (ok : Nat → Bool) : Nat → List Field → Bool
  | _, [] => true
  | i, f :: l => f.offset == i && P.cellsOf f.type == 1 && atomT P f.type && ok f.type && fieldsOk P ok (i + 1) l
def tyOk (P : Program) : Nat → Nat → Bool
  | 0, _ => false
  | n + 1, t => match P.underlying t with
    | some (.int _) | some .bool | some .string => P.cellsOf t == 1
    | some (.slice e) => P.cellsOf t == 1 && tyOk P n e
    | some (.struct fs) => P.cellsOf t == fs.size && decide (0 < fs.size) && fieldsOk P (tyOk P n) 0 fs.toList
    | _ => false
theorem fieldsOk_get {P : Program} {ok : Nat → Bool} : ∀ {l : List Field} {i0 : Nat}, fieldsOk P ok i0 l = true → ∀ i f, l[i]? = some f → f.offset = i0 + i ∧ P.cellsOf f.type = 1 ∧ atomT P f.type = true ∧ ok f.type = true
  | [], i0, h, i, f, hf => by simp at hf
  | g :: l, i0, h, i, f, hf => by
    simp only [fieldsOk, Bool.and_eq_true, beq_iff_eq] at h
    obtain ⟨⟨⟨⟨h1, h2⟩, h3⟩, h4⟩, h5⟩ := h
    cases i with
    | zero =>
      simp at hf; subst hf
      exact ⟨h1, h2, h3, h4⟩
    | succ i =>
      simp at hf
      obtain ⟨a, b⟩ := fieldsOk_get h5 i f hf
      exact ⟨by omega, b⟩
theorem flatS {s : Nat} (hs : 0 < s) : ∀ {es : List AV}, (∀ e ∈ es, e.cells.length = s) → (flat es).length = es.length * s ∧ ∀ j, j < es.length * s → (flat es).getD j .any = (es.getD (j / s) .any).cells.getD (j % s) .any
  | [], h => ⟨by simp [flat], fun j hj => by simp at hj⟩
  | e :: es, h => by
    have h0 := h e List.mem_cons_self
    obtain ⟨h1, h2⟩ := flatS hs (fun x hx => h x (List.mem_cons_of_mem _ hx))
    have e1 : flat (e :: es) = e.cells ++ flat es := rfl
    have e2 : (e :: es).length * s = es.length * s + s := by rw [List.length_cons, Nat.add_mul, Nat.one_mul]
    refine ⟨by rw [e1, List.length_append, h0, h1, e2]; omega, fun j hj => ?_⟩
    rw [e1, List.getD_eq_getElem?_getD]
    by_cases hj2 : j < s
    · rw [List.getElem?_append_left (by omega), Nat.div_eq_of_lt hj2, Nat.mod_eq_of_lt hj2]
      show _ = e.cells.getD j .any
      rw [List.getD_eq_getElem?_getD]
    · rw [List.getElem?_append_right (by omega), h0, ← List.getD_eq_getElem?_getD, h2 (j - s) (by omega)]
      have e3 : j / s = (j - s) / s + 1 := by
        have := Nat.div_eq_sub_div hs (by omega : s ≤ j)
        omega
      have e4 : j % s = (j - s) % s := Nat.mod_eq_sub_mod (by omega)
      rw [e3, e4, List.getD_cons_succ]
theorem reads_ok {P : Program} : ∀ (n t : Nat) (v : AV), tyOk P n t = true → Reads P n t v → shOk (shE P t) v = true ∧ pl v = true ∧ v.cells.length = P.cellsOf t ∧ 0 < P.cellsOf t ∧ (shE P t).size = P.cellsOf t ∧ (atomT P t = true → atomOk v = true)
  | 0, t, v, ht, _ => by simp [tyOk] at ht
  | n + 1, t, v, ht, h => by
    unfold Reads at h
    unfold tyOk at ht
    unfold shE atomT
    cases hu : P.underlying t with
    | none => rw [hu] at h; exact h.elim
    | some ty =>
      rw [hu] at h ht
      cases ty with
      | int k =>
        obtain ⟨i, rfl, _⟩ := h
        have hc : P.cellsOf t = 1 := by simpa using ht
        exact ⟨rfl, rfl, hc.symm, by omega, hc.symm, fun _ => rfl⟩
      | bool =>
        obtain ⟨i, rfl⟩ := h
        have hc : P.cellsOf t = 1 := by simpa using ht
        exact ⟨rfl, rfl, hc.symm, by omega, hc.symm, fun _ => rfl⟩
      | string =>
        obtain ⟨i, rfl, _⟩ := h
        have hc : P.cellsOf t = 1 := by simpa using ht
        exact ⟨rfl, rfl, hc.symm, by omega, hc.symm, fun _ => rfl⟩
      | slice e =>
        obtain ⟨z, es, rfl, _⟩ := h
        have hc : P.cellsOf t = 1 := by
          simp only [Bool.and_eq_true, beq_iff_eq] at ht
          exact ht.1
        exact ⟨rfl, rfl, hc.symm, by omega, hc.symm, fun _ => rfl⟩
      | struct fs =>
        obtain ⟨cs, rfl, hl, hf⟩ := h
        simp only [Bool.and_eq_true, beq_iff_eq, decide_eq_true_eq] at ht
        obtain ⟨⟨h1, h2⟩, h3⟩ := ht
        have hall : ∀ c ∈ cs, atomOk c = true ∧ pl c = true := by
          intro c hc
          obtain ⟨i, hi, rfl⟩ := List.mem_iff_getElem.1 hc
          have hfi : fs[i]? = some (fs[i]'(by omega)) := Array.getElem?_eq_getElem (by omega)
          obtain ⟨_, b, c2, d⟩ := fieldsOk_get h3 i _ (by rw [Array.getElem?_toList]; exact hfi)
          have r := hf i _ hfi
          rw [List.getD_eq_getElem?_getD, List.getElem?_eq_getElem hi] at r
          have := reads_ok n _ _ d r
          exact ⟨this.2.2.2.2.2 c2, this.2.1⟩
        have hpl : ∀ l : List AV, (∀ c ∈ l, pl c = true) → plL l = true := by
          intro l
          induction l with
          | nil => intro _; rfl
          | cons a l ih =>
            intro h
            show (pl a && plL l) = true
            rw [h a List.mem_cons_self, ih (fun c hc => h c (List.mem_cons_of_mem _ hc))]; rfl
        refine ⟨?_, hpl cs (fun c hc => (hall c hc).2), by show cs.length = _; omega, by omega, h1.symm, fun h => by cases h⟩
        show (cs.length == fs.size && cs.all atomOk) = true
        rw [Bool.and_eq_true]
        exact ⟨by simp [hl], List.all_eq_true.2 fun c hc => (hall c hc).1⟩
      | _ => exact h.elim
section
variable {P : Program} {H : Type} {enc : TypeId × Value → H} {W : World}
theorem rd_cells {w : World} {a : Addr} {n : Nat} {cs : List Value} (h : w.cells? 0 a n = some cs) : cs.length = n ∧ ∀ j, j < n → w.cell? (a.add j) = cs[j]? := by
  unfold World.cells? at h
  rw [if_pos (Nat.zero_le _)] at h
  refine ⟨by simpa using mapM_some_length h, fun j hj => mapM_some_get h j j (by simp [hj])⟩
theorem rd_add {a : Addr} (h : a.spot = none) (j : Nat) : a.add j = ⟨a.block, a.off + j, none⟩ := by
  obtain ⟨b, o, s⟩ := a
  subst h
  exact Addr_add b o j
/-- Whatever can be read is a value of the interpreter. -/
theorem reads : ∀ (n t : Nat), tyOk P n t = true → ∀ {fuel : Nat} {cs : List Value} {x : DataW H × List MemPlace}, DataW.trod enc P W 0 (fun _ => true) true fuel t cs = some x → ∃ v : AV, Reads P n t v ∧ cs.length = P.cellsOf t ∧ ∀ j, j < P.cellsOf t → V W gN (v.cells.getD j .any) (cs.getD j undef)
  | 0, t, ht, _, _, _, _ => by simp [tyOk] at ht
  | n + 1, t, ht, fuel, cs, x, h => by
    have ht0 := ht
    unfold tyOk at ht
    unfold Reads
    cases hu : P.underlying t with
    | none => rw [hu] at ht; cases ht
    | some ty =>
      rw [hu] at ht
      cases ty with
      | int k =>
        have hc : P.cellsOf t = 1 := by simpa using ht
        obtain ⟨i, rfl, _, hw⟩ := DataW.trod_int hu h
        refine ⟨.int k i, ⟨i, rfl, hw⟩, hc.symm, fun j hj => ?_⟩
        obtain rfl : j = 0 := by omega
        exact .int _ _
      | bool =>
        have hc : P.cellsOf t = 1 := by simpa using ht
        obtain ⟨i, rfl, _⟩ := DataW.trod_bool hu h
        refine ⟨.bool i, ⟨i, rfl⟩, hc.symm, fun j hj => ?_⟩
        obtain rfl : j = 0 := by omega
        exact .bool _
      | string =>
        have hc : P.cellsOf t = 1 := by simpa using ht
        obtain ⟨i, rfl, _, hw⟩ := DataW.trod_string hu h
        refine ⟨.str i, ⟨i, rfl, hw⟩, hc.symm, fun j hj => ?_⟩
        obtain rfl : j = 0 := by omega
        exact .str _
      | slice e =>
        simp only [Bool.and_eq_true, beq_iff_eq] at ht
        obtain ⟨hc, hte⟩ := ht
        rcases DataW.trod_slice hu h with ⟨rfl, _⟩ | ⟨a, len, cap, elems, rest, m, _, rfl, _, _, hl, hm, he, hel, hre, _⟩
        · refine ⟨.lst (shE P e) true .no [], ⟨true, [], rfl, fun _ => rfl, fun x hx => by cases hx⟩, hc.symm, fun j hj => ?_⟩
          obtain rfl : j = 0 := by omega
          exact .nils _ .no (.inr rfl)
        · obtain ⟨hrl, hre⟩ := hre rfl
          have raw : ∀ i, i < cap → ∃ y, (W.cells? 0 (a.add (i * P.cellsOf e)) (P.cellsOf e)).bind (DataW.trod enc P W 0 (fun _ => true) true m e) = some y := by
            intro i hi
            by_cases hi2 : i < len
            · have h1 := hel i hi2
              rw [List.getElem?_eq_getElem (by omega)] at h1
              exact ⟨_, h1⟩
            · have h1 := hre (i - len) (by omega)
              rw [List.getElem?_eq_getElem (by omega), show len + (i - len) = i by omega] at h1
              exact ⟨_, h1⟩
          have at1 : ∀ i, i < cap → (i = 0 ∨ a.spot = none) → a.spot = none ∧ ∃ v : AV, Reads P n e v ∧ ∀ j, j < P.cellsOf e → ∃ u, W.cell? ⟨a.block, a.off + (i * P.cellsOf e + j), none⟩ = some u ∧ V W gN (v.cells.getD j .any) u := by
            intro i hi hs0
            obtain ⟨y, hy⟩ := raw i hi
            obtain ⟨cs, h1, h2⟩ := Option.bind_eq_some_iff.1 hy
            obtain ⟨v, hv, hlen, hV⟩ := reads n e hte h2
            have hpos := (reads_ok n e v hte hv).2.2.2.1
            have h3 := (rd_cells h1).2
            have hs : a.spot = none := by
              rcases hs0 with rfl | hs0
              · rw [Nat.zero_mul] at h3
                have h4 := h3 0 hpos
                rw [List.getElem?_eq_getElem (by omega)] at h4
                exact World.cell?_spot h4
              · exact hs0
            refine ⟨hs, v, hv, fun j hj => ?_⟩
            have h4 := h3 j hj
            rw [rd_add hs, Addr_add, Nat.add_assoc, List.getElem?_eq_getElem (by omega)] at h4
            refine ⟨_, h4, ?_⟩
            have := hV j hj
            rwa [List.getD_eq_getElem?_getD (l := cs), List.getElem?_eq_getElem (by omega)] at this
          have hsp : cap = 0 ∨ a.spot = none := by
            by_cases h0 : cap = 0
            · exact .inl h0
            · exact .inr (at1 0 (by omega) (.inl rfl)).1
          have cell : ∀ i, ∃ v : AV, i < cap → Reads P n e v ∧ ∀ j, j < P.cellsOf e → ∃ u, W.cell? ⟨a.block, a.off + (i * P.cellsOf e + j), none⟩ = some u ∧ V W gN (v.cells.getD j .any) u := by
            intro i
            by_cases hi : i < cap
            · obtain ⟨v, hv⟩ := (at1 i hi (.inr (hsp.resolve_left (by omega)))).2
              exact ⟨v, fun _ => hv⟩
            · exact ⟨.any, fun h => absurd h hi⟩
          obtain ⟨f, hf⟩ := Classical.axiomOfChoice cell
          have hlen : ((List.range len).map f).length = len := by simp
          have hmem : ∀ v ∈ (List.range len).map f, Reads P n e v := by
            intro v hv
            obtain ⟨i, hi, rfl⟩ := List.mem_map.1 hv
            exact (hf i (by have := List.mem_range.1 hi; omega)).1
          have hok := fun v hv => reads_ok n e v hte (hmem v hv)
          by_cases hl0 : len = 0
          · subst hl0
            refine ⟨.lst (shE P e) false .no [], ⟨false, [], rfl, (fun h => by cases h), fun x hx => by cases hx⟩, hc.symm, fun j hj => ?_⟩
            obtain rfl : j = 0 := by omega
            exact V.lst (w := W) (g := gN) (shE P e) .no [] a cap (fun _ => undef) hsp (Nat.zero_le _) hm (fun e he => by cases he) (fun j hj => by simp [flat] at hj) (fun j hj => by simp [flat] at hj) trivial
          · have hs0 : 0 < P.cellsOf e := (hok (f 0) (List.mem_map.2 ⟨0, List.mem_range.2 (by omega), rfl⟩)).2.2.2.1
            obtain ⟨fl1, fl2⟩ := flatS hs0 (fun v hv => (hok v hv).2.2.1)
            rw [hlen] at fl1 fl2
            have hcl : ∀ j, j < len * P.cellsOf e → ∃ u, W.cell? ⟨a.block, a.off + j, none⟩ = some u ∧ V W gN ((flat ((List.range len).map f)).getD j .any) u := by
              intro j hj
              have hd : j / P.cellsOf e < len := Nat.div_lt_of_lt_mul (by rw [Nat.mul_comm]; exact hj)
              have h1 := (hf (j / P.cellsOf e) (by omega)).2 (j % P.cellsOf e) (Nat.mod_lt _ hs0)
              have e1 : j / P.cellsOf e * P.cellsOf e + j % P.cellsOf e = j := Nat.div_add_mod' j _
              rw [e1] at h1
              rw [fl2 j hj, List.getD_eq_getElem?_getD (l := (List.range len).map f), List.getElem?_map, List.getElem?_range hd]
              exact h1
            have hus : ∀ j, ∃ u, j < len * P.cellsOf e → W.cell? ⟨a.block, a.off + j, none⟩ = some u ∧ V W gN ((flat ((List.range len).map f)).getD j .any) u := by
              intro j
              by_cases hj : j < len * P.cellsOf e
              · obtain ⟨u, hu⟩ := hcl j hj
                exact ⟨u, fun _ => hu⟩
              · exact ⟨undef, fun h => absurd h hj⟩
            obtain ⟨us, hus⟩ := Classical.axiomOfChoice hus
            refine ⟨.lst (shE P e) false .no ((List.range len).map f), ⟨false, _, rfl, (fun h => by cases h), hmem⟩, hc.symm, fun j hj => ?_⟩
            obtain rfl : j = 0 := by omega
            have hV := V.lst (w := W) (g := gN) (shE P e) .no ((List.range len).map f) a cap us hsp (by rw [hlen]; exact hl) hm
              (fun v hv => ⟨(hok v hv).1, (hok v hv).2.1⟩)
              (fun j hj => by
                rw [fl1] at hj
                exact ⟨(hus j hj).1, fun h => h, fun h => h⟩)
              (fun j hj => by
                rw [fl1] at hj
                exact (hus j hj).2) trivial
            rw [hlen] at hV
            exact hV
      | struct fs =>
        simp only [Bool.and_eq_true, beq_iff_eq, decide_eq_true_eq] at ht
        obtain ⟨⟨h1, h2⟩, h3⟩ := ht
        obtain ⟨xs, m, _, _, hcl, hxl, hf⟩ := DataW.trod_struct hu h
        have fld : ∀ i, ∃ v : AV, i < fs.size → ∀ f, fs[i]? = some f → Reads P n f.type v ∧ V W gN v (cs.getD i undef) := by
          intro i
          by_cases hi : i < fs.size
          · have hfi : fs[i]? = some fs[i] := Array.getElem?_eq_getElem hi
            obtain ⟨o, c, a, k⟩ := fieldsOk_get h3 i fs[i] (by rw [Array.getElem?_toList]; exact hfi)
            have hx := hf i fs[i] hfi
            rw [List.getElem?_eq_getElem (by omega)] at hx
            obtain ⟨v, hv, hlen, hV⟩ := reads n _ k hx
            refine ⟨v, fun _ f hf => ?_⟩
            rw [hfi] at hf
            obtain rfl := Option.some.inj hf
            refine ⟨hv, ?_⟩
            have h0 := hV 0 (by omega)
            have hat := (reads_ok n _ v k hv).2.2.2.2.2 a
            have hcells : v.cells = [v] := by
              cases v <;> first | rfl | (simp [atomOk] at hat)
            rw [hcells, o, Nat.zero_add, c] at h0
            have e0 : ((cs.drop i).take 1).getD 0 undef = cs.getD i undef := by
              rw [List.getD_eq_getElem?_getD, List.getD_eq_getElem?_getD, List.getElem?_take_of_lt (by omega), List.getElem?_drop]; rfl
            rw [e0] at h0
            exact h0
          · exact ⟨.any, fun h => absurd h hi⟩
        obtain ⟨F, hF⟩ := Classical.axiomOfChoice fld
        have hg : ∀ i, i < fs.size → ((List.range fs.size).map F).getD i .any = F i := by
          intro i hi
          rw [List.getD_eq_getElem?_getD, List.getElem?_map, List.getElem?_range hi]; rfl
        refine ⟨.agg ((List.range fs.size).map F), ⟨_, rfl, by simp, fun i f hf => ?_⟩, hcl, fun j hj => ?_⟩
        · have hi : i < fs.size := (Array.getElem?_eq_some_iff.1 hf).1
          rw [hg i hi]
          exact (hF i hi f hf).1
        · rw [h1] at hj
          show V W gN (((List.range fs.size).map F).getD j .any) _
          rw [hg j hj]
          exact (hF j hj fs[j] (Array.getElem?_eq_getElem hj)).2
      | _ => cases ht
theorem read_struct {n t : Nat} (ht : tyOk P n t = true) {v : Value} {d : DataW H} {ps : List MemPlace} (hv : ∃ cs, v = .agg cs) (h : DataW.Trod enc P W 0 (fun _ => true) true t v d ps) (hs : (shE P t).isSome = true) : ∃ y : AV, V W gN y v ∧ Reads P n t y := by
  obtain ⟨cs, rfl⟩ := hv
  obtain ⟨fuel, h⟩ := h
  have h : DataW.trod enc P W 0 (fun _ => true) true fuel t cs.toList = some (d, ps) := h
  obtain ⟨y, hy, hl, hV⟩ := reads n t ht h
  obtain ⟨h1, _, h3, _, _, _⟩ := reads_ok n t y ht hy
  have : ∃ l, y = .agg l := by
    unfold shOk at h1
    cases hsh : shE P t with
    | none => rw [hsh] at hs; cases hs
    | some k =>
      rw [hsh] at h1
      cases y <;> first | exact ⟨_, rfl⟩ | cases h1
  obtain ⟨l, rfl⟩ := this
  refine ⟨.agg l, .agg _ _ (by simp at hl; exact h3.trans hl.symm) (fun j hj => ?_), hy⟩
  have := hV j (by rw [← h3]; exact hj)
  rw [List.getD_eq_getElem?_getD (l := cs.toList), Array.getElem?_toList] at this
  rw [Array.getD_eq_getD_getElem?]
  exact this
theorem read_slice {n t e : Nat} (ht : tyOk P n t = true) {v : Value} {d : DataW H} {ps : List MemPlace} (hu : P.underlying t = some (.slice e)) (hv : ∃ a len cap, v = .slice a len cap) (h : DataW.Trod enc P W 0 (fun _ => true) true t v d ps) : ∃ y : AV, V W gN y v ∧ Reads P n t y := by
  obtain ⟨a, len, cap, rfl⟩ := hv
  obtain ⟨fuel, h⟩ := h
  have h : DataW.trod enc P W 0 (fun _ => true) true fuel t [.slice a len cap] = some (d, ps) := h
  obtain ⟨y, hy, hl, hV⟩ := reads n t ht h
  obtain ⟨_, _, h3, _, _, h6⟩ := reads_ok n t y ht hy
  have hat : atomT P t = true := by unfold atomT; rw [hu]
  have hc : y.cells = [y] := by
    have := h6 hat
    cases y <;> first | rfl | (simp [atomOk] at this)
  have := hV 0 (by rw [← hl]; exact Nat.zero_lt_one)
  rw [hc] at this
  exact ⟨y, this, hy⟩
end
end Go.Ab

/- Certificates that can be read as data, as values of the interpreter. -/
set_option linter.unusedVariables false
set_option linter.unusedSimpArgs false
set_option maxRecDepth 100000
namespace Go.Ab
open Go.Proofs Go.Proofs.Try Go.RowKit

theorem get_nil (nm : Nat) : Mem.get ([] : Mem) nm = none := by simp [Mem.get]
theorem memR0 (w : World) : MemR w.heap.size w gN [] where
  obj nm bx cs h := by rw [get_nil] at h; cases h
  tok nm n sz h := by rw [get_nil] at h; cases h
  resv nm h := ⟨rfl, fun _ => rfl⟩
  fresh nm h := ⟨rfl, fun _ => rfl⟩
  inj nm nm' b h := by unfold blk at h; rw [get_nil] at h; cases h
  wrLt b off h := h.elim
  boxLt b h := h.elim
theorem cfgOk : CfgOk cfg where
  name g fn h := by
    have hall : (Try.prog.funcs.toList.all fun fn => !(fn.name == "runtime.NumGoroutine")) = true := by kernel_rfl
    have hm : fn ∈ Try.prog.funcs.toList := by
      rw [Array.mem_toList_iff]
      exact Array.mem_of_getElem? h
    have := List.all_eq_true.1 hall fn hm
    simpa using this
  lib g h hh := by cases hh
/-- A law that answers true in values answers true on the machine, and turns nothing that was there. -/
theorem law_calls {f : Nat} {args : List AV} {vs : Array Value} {W : World} (h : ∃ m', AC cfg f args [] = some (.bool true, m')) (hl : args.length = vs.size) (hv : ∀ j, j < args.length → V W gN (args.getD j .any) (vs.getD j undef)) :
    Calls Try.prog f vs W fun e W' => e = .returned (.bool true) ∧ Below W.heap.size W W' := by
  obtain ⟨m', hm'⟩ := h
  refine ((AC_sound cfgOk f args [] _ _ hm').1 W.heap.size W gN vs (memR0 W) (Nat.le_refl _) hl hv).mono ?_
  rintro e W' ⟨v', g', rfl, hs, _, hv'⟩
  cases hv'
  exact ⟨rfl, hs.below⟩
/-! ### Types -/
theorem u3 : Try.prog.underlying 3 = some (.int .i64) := by kernel_rfl
theorem u4 : Try.prog.underlying 4 = some .bool := by kernel_rfl
theorem u22 : Try.prog.underlying 22 = some (.slice 48) := by kernel_rfl
theorem u23 : Try.prog.underlying 23 = some (.slice 50) := by kernel_rfl
theorem u24 : Try.prog.underlying 24 = some (.slice 35) := by kernel_rfl
theorem u33 : Try.prog.underlying 33 = some (.slice 92) := by kernel_rfl
theorem u48 : Try.prog.underlying 48 = some (.slice 3) := by kernel_rfl
theorem u92 : Try.prog.underlying 92 = some (.int .u32) := by kernel_rfl
noncomputable def fieldsOf (t : Nat) : Array Field := match Try.prog.underlying t with
  | some (.struct fs) => fs
  | _ => #[]
theorem u26 : Try.prog.underlying 26 = some (.struct (fieldsOf 26)) := by kernel_rfl
theorem u35 : Try.prog.underlying 35 = some (.struct (fieldsOf 35)) := by kernel_rfl
theorem u50 : Try.prog.underlying 50 = some (.struct (fieldsOf 50)) := by kernel_rfl
theorem f26 : (fieldsOf 26).toList.map (fun f => f.type) = [22, 23, 24, 3] := by kernel_rfl
theorem f35 : (fieldsOf 35).toList.map (fun f => f.type) = [4, 33, 33] := by kernel_rfl
theorem f50 : (fieldsOf 50).toList.map (fun f => f.type) = [3, 48, 3] := by kernel_rfl
theorem s3 : shE Try.prog 3 = none := by unfold shE; rw [u3]
theorem s48 : shE Try.prog 48 = none := by unfold shE; rw [u48]
theorem s92 : shE Try.prog 92 = none := by unfold shE; rw [u92]
theorem sz {t : Nat} {l : List Nat} (h : (fieldsOf t).toList.map (fun f => f.type) = l) : (fieldsOf t).size = l.length := by
  rw [← h, List.length_map, Array.length_toList]
theorem s35 : shE Try.prog 35 = some 3 := by unfold shE; rw [u35]; exact congrArg some (sz f35)
theorem s50 : shE Try.prog 50 = some 3 := by unfold shE; rw [u50]; exact congrArg some (sz f50)
theorem s26 : shE Try.prog 26 = some 4 := by unfold shE; rw [u26]; exact congrArg some (sz f26)
theorem fld_type {t : Nat} {l : List Nat} (h : (fieldsOf t).toList.map (fun f => f.type) = l) {i ty : Nat} (hi : l[i]? = some ty) : ∃ f, (fieldsOf t)[i]? = some f ∧ f.type = ty := by
  rw [← h, List.getElem?_map, Option.map_eq_some_iff] at hi
  obtain ⟨f, h1, h2⟩ := hi
  exact ⟨f, by rw [← Array.getElem?_toList]; exact h1, h2⟩
theorem rd_struct {n t : Nat} {v : AV} (ht : Try.prog.underlying t = some (.struct (fieldsOf t))) (h : Reads Try.prog (n + 1) t v) : ∃ cs, v = .agg cs ∧ cs.length = (fieldsOf t).size ∧ ∀ i ty, ((fieldsOf t).toList.map (fun f => f.type))[i]? = some ty → Reads Try.prog n ty (cs.getD i .any) := by
  unfold Reads at h
  rw [ht] at h
  obtain ⟨cs, h1, h2, h3⟩ := h
  refine ⟨cs, h1, h2, fun i ty hi => ?_⟩
  obtain ⟨f, hf, rfl⟩ := fld_type rfl hi
  exact h3 i f hf
theorem rd_slice {n t e : Nat} {v : AV} (ht : Try.prog.underlying t = some (.slice e)) (h : Reads Try.prog (n + 1) t v) : ∃ z es, v = .lst (shE Try.prog e) z .no es ∧ (z = true → es = []) ∧ ∀ x ∈ es, Reads Try.prog n e x := by
  unfold Reads at h
  rw [ht] at h
  exact h
theorem rd_int {n : Nat} {v : AV} (h : Reads Try.prog (n + 1) 3 v) : ∃ i, v = .int .i64 i := by
  unfold Reads at h
  rw [u3] at h
  obtain ⟨i, h1, _⟩ := h
  exact ⟨i, h1⟩
theorem rd_bool {n : Nat} {v : AV} (h : Reads Try.prog (n + 1) 4 v) : ∃ i, v = .bool i := by
  unfold Reads at h
  rw [u4] at h
  exact h
theorem rd_u32 {n : Nat} {v : AV} (h : Reads Try.prog (n + 1) 92 v) : ∃ d : Nat, v = dg d ∧ d < 4294967296 := by
  unfold Reads at h
  rw [u92] at h
  obtain ⟨i, h1, hw⟩ := h
  have hw2 : 0 ≤ i ∧ i ≤ 4294967295 := by
    simp only [Lit.wf, Bool.and_eq_true, decide_eq_true_eq] at hw
    exact hw
  obtain ⟨d, rfl⟩ := Int.eq_ofNat_of_zero_le hw2.1
  exact ⟨d, h1, by omega⟩
theorem rd_nat {n : Nat} {v : AV} (h : Reads Try.prog (n + 2) 33 v) : ∃ x : NV, v = x.av ∧ XN x ∧ x.o = .no := by
  obtain ⟨z, es, rfl, hz, he⟩ := rd_slice u33 h
  obtain ⟨ds, rfl, hd⟩ := list_map (fun x hx => rd_u32 (he x hx))
  refine ⟨⟨z, .no, ds⟩, by rw [s92]; rfl, ⟨fun i => ?_, fun h => List.map_eq_nil_iff.1 (hz h)⟩, rfl⟩
  show ds.getD i 0 < _
  rw [List.getD_eq_getElem?_getD]
  by_cases hi : i < ds.length
  · rw [List.getElem?_eq_getElem hi]; exact hd _ (List.getElem_mem hi)
  · rw [List.getElem?_eq_none (by omega)]; exact (by omega : 0 < 4294967296)
theorem cells3 {cs : List AV} (h : cs.length = 3) : ∃ a b c, cs = [a, b, c] := by
  match cs, h with
  | [a, b, c], _ => exact ⟨a, b, c, rfl⟩
theorem cells4 {cs : List AV} (h : cs.length = 4) : ∃ a b c d, cs = [a, b, c, d] := by
  match cs, h with
  | [a, b, c, d], _ => exact ⟨a, b, c, d, rfl⟩
theorem rd_ratio {n : Nat} {v : AV} (h : Reads Try.prog (n + 3) 35 v) : ∃ r : RV, v = r.av ∧ (XR r ∧ r.fr = r) := by
  obtain ⟨cs, rfl, hl, hf⟩ := rd_struct u35 h
  rw [sz f35] at hl
  obtain ⟨a, b, c, rfl⟩ := cells3 hl
  rw [f35] at hf
  obtain ⟨s, hs⟩ := rd_bool (hf 0 4 rfl)
  obtain ⟨x, hx, x1, x2⟩ := rd_nat (hf 1 33 rfl)
  obtain ⟨y, hy, y1, y2⟩ := rd_nat (hf 2 33 rfl)
  have hs : a = .bool s := hs
  have hx : b = x.av := hx
  have hy : c = y.av := hy
  subst hs; subst hx; subst hy
  refine ⟨⟨s, x, y⟩, rfl, ⟨x1, y1⟩, ?_⟩
  obtain ⟨xz, xo, xd⟩ := x
  obtain ⟨yz, yo, yd⟩ := y
  subst x2; subst y2; rfl
theorem rd_ints {n : Nat} {v : AV} (h : Reads Try.prog (n + 2) 48 v) : ∃ x : IL, v = x.av ∧ x.o = .no := by
  obtain ⟨z, es, rfl, hz, he⟩ := rd_slice u48 h
  obtain ⟨ns, rfl, hd⟩ := list_map (f := iA) (Q := fun _ => True) (fun x hx => by
    obtain ⟨i, hi⟩ := rd_int (he x hx)
    exact ⟨i, hi, trivial⟩)
  exact ⟨⟨z, .no, ns⟩, by rw [s3]; rfl, rfl⟩
theorem rd_node {n : Nat} {v : AV} (h : Reads Try.prog (n + 3) 50 v) : ∃ x : ND, v = x.av ∧ x.kids.o = .no := by
  obtain ⟨cs, rfl, hl, hf⟩ := rd_struct u50 h
  rw [sz f50] at hl
  obtain ⟨a, b, c, rfl⟩ := cells3 hl
  rw [f50] at hf
  obtain ⟨s, hs⟩ := rd_int (hf 0 3 rfl)
  obtain ⟨x, hx, x1⟩ := rd_ints (hf 1 48 rfl)
  obtain ⟨y, hy⟩ := rd_int (hf 2 3 rfl)
  have hs : a = .int .i64 s := hs
  have hx : b = x.av := hx
  have hy : c = .int .i64 y := hy
  subst hs; subst hx; subst hy
  exact ⟨⟨s, x, y⟩, rfl, x1⟩
theorem rd_ratios {n : Nat} {v : AV} (h : Reads Try.prog (n + 4) 24 v) : ∃ l : LV, v = l.av ∧ l.sh = some 3 ∧ (l.z = true → l.es = []) ∧ (∀ r ∈ l.es, XR r ∧ r.fr = r) ∧ l.o = .no := by
  obtain ⟨z, es, rfl, hz, he⟩ := rd_slice u24 h
  obtain ⟨rs, rfl, hd⟩ := list_map (fun x hx => rd_ratio (he x hx))
  exact ⟨⟨some 3, z, .no, rs⟩, by rw [s35]; rfl, rfl, fun h => List.map_eq_nil_iff.1 (hz h), hd, rfl⟩
theorem rd_cert {n : Nat} {v : AV} (h : Reads Try.prog (n + 5) 26 v) : ∃ c : CV, v = c.av ∧ XC c ∧ c.fr = c := by
  obtain ⟨cs, rfl, hl, hf⟩ := rd_struct u26 h
  rw [sz f26] at hl
  obtain ⟨a, b, c, d, rfl⟩ := cells4 hl
  rw [f26] at hf
  obtain ⟨z1, es1, h1, _, he1⟩ := rd_slice u22 (hf 0 22 rfl)
  obtain ⟨os, rfl, ho⟩ := list_map (fun x hx => rd_ints (he1 x hx))
  obtain ⟨z2, es2, h2, _, he2⟩ := rd_slice u23 (hf 1 23 rfl)
  obtain ⟨ns, rfl, hn⟩ := list_map (fun x hx => rd_node (he2 x hx))
  obtain ⟨w, h3, w1, w2, w3, w4⟩ := rd_ratios (hf 2 24 rfl)
  obtain ⟨y, h4⟩ := rd_int (hf 3 3 rfl)
  rw [s48] at h1
  rw [s50] at h2
  have h1 : a = .lst none z1 .no (os.map IL.av) := h1
  have h2 : b = .lst (some 3) z2 .no (ns.map ND.av) := h2
  have h3 : c = w.av := h3
  have h4 : d = .int .i64 y := h4
  subst h1; subst h2; subst h3; subst h4
  refine ⟨⟨⟨z1, .no, os⟩, ⟨some 3, z2, .no, ns⟩, w, y⟩, rfl, ⟨.inl rfl, hn, ho, .inl w1, fun r hr => (w3 r hr).1⟩, ?_⟩
  obtain ⟨sh, z, o, es⟩ := w
  simp only at w4
  subst w4
  rfl
theorem ok26 : tyOk Try.prog 5 26 = true := by kernel_rfl
theorem ok24 : tyOk Try.prog 4 24 = true := by kernel_rfl
section
variable {H : Type} {enc : TypeId × Value → H} {W : World}
theorem cert_read {v : Value} {d : DataW H} {ps : List MemPlace} (hv : ∃ cs, v = .agg cs) (h : DataW.Trod enc Try.prog W 0 (fun _ => true) true 26 v d ps) : ∃ y : CV, V W gN y.av v ∧ XC y ∧ y.fr = y := by
  obtain ⟨y, hy, hr⟩ := read_struct ok26 hv h (by rw [s26]; rfl)
  obtain ⟨c, rfl, hc, hf⟩ := rd_cert hr
  exact ⟨c, hy, hc, hf⟩
theorem ratios_read {v : Value} {d : DataW H} {ps : List MemPlace} (hv : ∃ a len cap, v = .slice a len cap) (h : DataW.Trod enc Try.prog W 0 (fun _ => true) true 24 v d ps) : ∃ l : LV, V W gN l.av v ∧ l.sh = some 3 ∧ (l.z = true → l.es = []) ∧ (∀ r ∈ l.es, XR r ∧ r.fr = r) ∧ l.o = .no := by
  obtain ⟨y, hy, hr⟩ := read_slice ok24 u24 hv h
  obtain ⟨l, rfl, hc⟩ := rd_ratios hr
  exact ⟨l, hy, hc⟩
theorem okWide_agg {base : Nat} {t : Nat} {v : Value} {fs : Array Field} (ht : Try.prog.underlying t = some (.struct fs)) (h : Value.okWide Try.prog W .any base t v) : ∃ cs, v = .agg cs := by
  simp only [Value.okWide, ht] at h
  obtain ⟨cs, h, _⟩ := h
  exact ⟨cs, h⟩
end
end Go.Ab
