/- MatrixSolves: for every input the law returns true, and each argument reads behind the call as it did before. No condition. -/
import Derived.Test.YtlapgjmmlbnehaaLP6
import Derived.Test.YtlapgjmmlbnehaaLP5
import Derived.Test.YtlapgjmmlbnehaaRows
set_option linter.unusedVariables false
set_option linter.unusedSimpArgs false
namespace Go.Proofs.Ytlapgjmmlbnehaa
open Go.Ab Go.ChangeShapes Go.WideShapes Go.ChangeAt Go.RowKit

theorem qil : ownKnob Try.prog.godebug = none := by kernel_rfl
theorem Uo : laidOutB Try.prog = true := by kernel_rfl
theorem qio : Try.f11.params = #[24, 24] := by kernel_rfl
theorem SC : Try.prog.funcs[11]? = some Try.f11 := by kernel_rfl

set_option maxHeartbeats 1600000 in
set_option maxRecDepth 100000 in
theorem qhC (os : Os) (started : os.Started) (H : Type) (enc : TypeId × Value → H) :
    ReturnsInHanded {} Try.checked os 11 .any (Rows.matrixSolvesSpec.pre6 enc Try.prog Try.f11 Rows.matrixSolvesRow.domain false) (Rows.matrixSolvesSpec.post enc Try.prog Try.f11 false true false false) := by
  refine returnsInHanded_of_change (C := Try.checked) qil started (by kernel_rfl) SC
    (ChangeSpec.witness6 (enc := enc) (C := Try.checked) false ⟨#[], #[.agg #[.int .i64 0, .int .i64 0, .slice none 0 0], .agg #[.int .i64 0, .int .i64 0, .slice none 0 0]], []⟩ 8 (by kernel_rfl) (by kernel_rfl) (by kernel_rfl) (by kernel_rfl)) ?_
  intro W base args ds gs before hval0 hW hcnd _
  have hval : ∀ (j : Nat) t v, Try.f11.params[j]? = some t → args[j]? = some v → Value.okWide Try.prog W .any base t v := hval0
  have hW' := hW
  obtain ⟨p, q, hA0, hV, rfl, hfz, hnd⟩ := hW
  have hA : DataW.TrodAll enc Try.prog W 0 (fun _ => true) true Try.f11.params.toList args.toList ds p := hA0
  rw [qio] at hA hval
  obtain ⟨v0, v1, d0, d1, p0, p1, rfl, rfl, rfl, h0, h1⟩ := trodAll_two hA
  obtain ⟨rfl, rfl⟩ := trodVars_none hV
  obtain ⟨x0, hx0, xm0, xf0⟩ := UJ (U6 Bk (hval 0 24 v0 rfl rfl)) h0
  obtain ⟨x1, hx1, xm1, xf1⟩ := UJ (U6 Bk (hval 1 24 v1 rfl rfl)) h1
  clear hA0 hval0
  simp only [bN] at hW'
  have hlt0 : ∀ y ∈ p0, y.block < W.heap.size := fun y hy => by simpa using hW'.lt y (by simp [hy])
  have hlt1 : ∀ y ∈ p1, y.block < W.heap.size := fun y hy => by simpa using hW'.lt y (by simp [hy])
  refine (qhx (W := W) (vs := #[v0, v1]) (qbj (by rw [xf0]; exact xm0) (by rw [xf1]; exact xm1)) rfl (fun j hj => ?_)).mono fun e W' ⟨he, hB⟩ => ?_
  · match j, hj with
    | 0, _ => exact hx0
    | 1, _ => exact hx1
  · subst he
    refine ⟨_, rfl, _, _, _, [], p0 ++ (p1), [], hW', ?_, ?_, ?_, hB.frame _, fun h => by cases h⟩
    · exact trodAll_mk1 (shut_bool u4 true)
    · exact trodAll_mk2 (Below.trod Uo (by kernel_rfl) (yP (by kernel_rfl)) h0 hB hlt0) (Below.trod Uo (by kernel_rfl) (yP (by kernel_rfl)) h1 hB hlt1)
    · rfl

theorem MatrixSolves_holds : Rows.MatrixSolvesSaid :=
  OpenClaim.holds_of_wide 11 Try.f11 rfl rfl rfl rfl rfl rfl rfl ⟨rfl, rfl, rfl, rfl, rfl⟩ rfl rfl rfl rfl rfl (by kernel_rfl) SC (by kernel_rfl)
    (yP (by kernel_rfl)) (by unfold Func.isWrapper; first | (rw [aj (by decide +kernel)]; kernel_rfl) | (rw [ag (by decide +kernel)]; exact ⟨rfl, rfl⟩))
    (fun os started H enc _ => qhC os started H enc)
end Go.Proofs.Ytlapgjmmlbnehaa
