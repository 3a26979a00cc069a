/- What the functions of ratio compute, in values. -/
import Derived.Test.YtlapgjmmlbnehaaAYtR1
import Derived.Test.YtlapgjmmlbnehaaAYtRa
set_option linter.unusedVariables false
set_option linter.unusedSimpArgs false
set_option maxRecDepth 100000
namespace Go.Ab
open Go.Proofs.Try

theorem ln1' : (digs 1).length < 2 ^ 40 := Nat.lt_of_le_of_lt ln_one (by omega)
def oneV : NV := ⟨false, .no, digs 1⟩
theorem V93one : AP cfg 93 [.int .u64 1] = some oneV.av := V93 (n := 1) (by omega)
def zeroR : RV := ⟨false, nilV, oneV⟩
def oneR : RV := ⟨false, oneV, oneV⟩
theorem can_zero : Can zeroR 0 := ⟨rfl, digs_zero.symm, rfl, fun _ => rfl, by simp [zeroR, oneV]⟩
theorem can_one : Can oneR 1 := ⟨rfl, rfl, rfl, by simp [oneR, oneV], by simp [oneR, oneV]⟩
theorem V60 : AP cfg 60 [] = some zeroR.av := by
  refine AP_ofz _ _ (fz_rv zeroR) (noV_rv _) (m := [cR zeroR]) ?_
  rw [T60]
  simp only [Option.bind_some, Option.map_some, box_rv, new_z, new_r, new_zs, new_rs, fld0, fld1, fld2, res1, res2, ld0neg, ld0num, ld0den, ld0all, st0all, st0neg, ld1neg, ld1num, ld1den, ld1all, st1all, st1neg, ld2neg, ld2num, ld2den, ld2all, st2all, st2neg, ld3neg, ld3num, ld3den, ld3all, st3all, st3neg, ld4neg, ld4num, ld4den, ld4all, st4all, st4neg, ex0, ex1, ex2, bld0, bld2, bld12, bld012, nil_av, not_b, bl_neq, bl_eql, List.length_cons, List.length_nil, List.length_append, List.nil_append, List.cons_append, List.append_nil, Nat.zero_add, List.set_cons_zero, List.set_cons_succ, List.set_nil, pcN, pcI, pcNN, pcBNN, pcR, pcRR, pc0, V93one]
  rfl
theorem V84 : AP cfg 84 [] = some oneR.av := by
  refine AP_ofz _ _ (fz_rv oneR) (noV_rv _) (m := [cR oneR]) ?_
  rw [T84]
  simp only [Option.bind_some, Option.map_some, box_rv, new_z, new_r, new_zs, new_rs, fld0, fld1, fld2, res1, res2, ld0neg, ld0num, ld0den, ld0all, st0all, st0neg, ld1neg, ld1num, ld1den, ld1all, st1all, st1neg, ld2neg, ld2num, ld2den, ld2all, st2all, st2neg, ld3neg, ld3num, ld3den, ld3all, st3all, st3neg, ld4neg, ld4num, ld4den, ld4all, st4all, st4neg, ex0, ex1, ex2, bld0, bld2, bld12, bld012, nil_av, not_b, bl_neq, bl_eql, List.length_cons, List.length_nil, List.length_append, List.nil_append, List.cons_append, List.append_nil, Nat.zero_add, List.set_cons_zero, List.set_cons_succ, List.set_nil, pcN, pcI, pcNN, pcBNN, pcR, pcRR, pc0, V93one]
  rfl
/-! ### Of, made -/
theorem zeroR_fr : zeroR.fr = zeroR := rfl
/-! ### Sign -/
end Go.Ab
