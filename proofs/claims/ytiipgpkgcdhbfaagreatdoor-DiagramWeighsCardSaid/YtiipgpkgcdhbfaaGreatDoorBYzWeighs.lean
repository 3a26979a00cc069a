/- DiagramWeighs: for every input the law returns true, and each argument reads behind the call as it did before, where the library's tables are laid as its own initialisers lay them (the row's own cells). No other condition. -/
import Derived.Test.YtiipgpkgcdhbfaaGreatDoorBP5
import Derived.Test.YtiipgpkgcdhbfaaGreatDoorCards
import Derived.Test.YtiipgpkgcdhbfaaGreatDoorTie
import Derived.SevenTiedAt
set_option linter.unusedVariables false
set_option linter.unusedSimpArgs false
namespace Go.Proofs.YtiipgpkgcdhbfaaGreatDoor
open Go.Ab Go.ChangeShapes Go.WideShapes Go.ChangeAt Go.RowKit

theorem qFd : ownKnob Tryz.prog.godebug = none := by kernel_rfl
theorem qpq : laidOutB Tryz.prog = true := by kernel_rfl
theorem qrC : Tryz.f3.params = #[22, 22, 22] := by kernel_rfl
theorem qvF : Tryz.prog.funcs[3]? = some Tryz.f3 := by kernel_rfl

set_option maxHeartbeats 1600000 in
set_option maxRecDepth 100000 in
theorem qEZ (os : Os) (started : os.Started) (H : Type) (enc : TypeId × Value → H) :
    ReturnsInHanded {} Tryz.checked os 3 .any (fun w args => (Rows.diagramWeighsSpec.pre enc Tryz.prog Tryz.f3 Rows.diagramWeighsRow.domain false w args ∧ laidMetH Tryz.prog Rows.diagramWeighsRow.laid w) ∧ sizedMet enc Tryz.prog Tryz.f3 (OpenSpec.ofChange Rows.diagramWeighsSpec) false w args)
      (Rows.diagramWeighsSpec.post enc Tryz.prog Tryz.f3 false true false false) := by
  refine returnsInHanded_of_change_and (C := Tryz.checked) (X := fun w _ => laidMetH Tryz.prog Rows.diagramWeighsRow.laid w) (fun _ _ _ hh h => h.of_heap hh) qFd started (by kernel_rfl) qvF
    (ChangeSpec.witness_shaped (enc := enc) (C := Tryz.checked) (os := os) (X := fun w _ => laidMetH Tryz.prog Rows.diagramWeighsRow.laid w) false (World.laidAll Tryz.prog os Rows.diagramWeighsRow.laid) #[.slice none 0 0, .slice none 0 0, .slice none 0 0] 8 (World.laidAll_os _ _ _)
      (World.shaped_of_ZipB (by kernel_rfl) (by kernel_rfl)) (by kernel_rfl) (by kernel_rfl) (by kernel_rfl)
      (by rw [MakeChecks.laidMetH_plain _ _ _ (by kernel_rfl)]; exact laidMet_laidAll _ (by kernel_rfl) (by kernel_rfl))) ?_
  intro W base args ds gs before hval0 hW hcnd _ hL _
  have htab : Yd.tab W := qpS hL
  have hval : ∀ (j : Nat) t v, Tryz.f3.params[j]? = some t → args[j]? = some v → Value.okWide Tryz.prog W .any base t v := hval0
  have hW' := hW
  obtain ⟨p, q, hA0, hV, rfl, hfz, hnd⟩ := hW
  have hA : DataW.TrodAll enc Tryz.prog W 0 (fun _ => true) true Tryz.f3.params.toList args.toList ds p := hA0
  rw [qrC] at hA hval
  obtain ⟨v0, v1, v2, d0, d1, d2, p0, p1, p2, rfl, rfl, rfl, h0, h1, h2⟩ := trodAll_three hA
  obtain ⟨rfl, rfl⟩ := trodVars_none hV
  obtain ⟨z0, x0, hx0, hz0, hb0⟩ := qkh (okWide_slice u22 (hval 0 22 v0 rfl rfl)) h0
  obtain ⟨z1, x1, hx1, hz1, hb1⟩ := qkh (okWide_slice u22 (hval 1 22 v1 rfl rfl)) h1
  obtain ⟨z2, x2, hx2, hz2, hb2⟩ := qkh (okWide_slice u22 (hval 2 22 v2 rfl rfl)) h2
  clear hA0 hval0
  simp only [qav] at hW'
  have hlt0 : ∀ y ∈ p0, y.block < W.heap.size := fun y hy => by simpa using hW'.lt y (by simp [hy])
  have hlt1 : ∀ y ∈ p1, y.block < W.heap.size := fun y hy => by simpa using hW'.lt y (by simp [hy])
  have hlt2 : ∀ y ∈ p2, y.block < W.heap.size := fun y hy => by simpa using hW'.lt y (by simp [hy])
  refine (qvV (W := W) (vs := #[v0, v1, v2]) htab (qiH z0 z1 z2 x0 x1 x2) rfl (fun j hj => ?_)).mono fun e W' ⟨he, hB⟩ => ?_
  · match j, hj with
    | 0, _ => exact hx0
    | 1, _ => exact hx1
    | 2, _ => exact hx2
  · subst he
    refine ⟨_, rfl, _, _, _, [], p0 ++ (p1 ++ (p2)), [], hW', ?_, ?_, ?_, hB.frame _, fun h => by cases h⟩
    · exact trodAll_mk1 (shut_bool u4 true)
    · exact trodAll_mk3 (Below.trod qpq (by kernel_rfl) (qi0 (by kernel_rfl)) h0 hB hlt0) (Below.trod qpq (by kernel_rfl) (qi0 (by kernel_rfl)) h1 hB hlt1) (Below.trod qpq (by kernel_rfl) (qi0 (by kernel_rfl)) h2 hB hlt2)
    · rfl

theorem DiagramWeighs_holds : Rows.DiagramWeighsSaid :=
  OpenClaim.holds_of_wide 3 Tryz.f3 rfl rfl rfl rfl rfl rfl rfl ⟨rfl, rfl, rfl, rfl, rfl⟩ rfl rfl rfl rfl rfl (by kernel_rfl) qvF (by kernel_rfl)
    (qi0 (by kernel_rfl)) (by unfold Func.isWrapper; first | (rw [qal (by decide +kernel)]; kernel_rfl) | (rw [qah (by decide +kernel)]; exact ⟨rfl, rfl⟩))
    (fun os started H enc _ => qEZ os started H enc)
theorem DiagramWeighs_card : Rows.DiagramWeighsCardSaid :=
  Claim7.holds_tied_plain_at .later [] [.data, .data, .data] true (true, "e5b04073a33c8c74b1c9455c5f032782bfe9621810d2a44b3c975bd892de7e7d") true
    DiagramWeighs_holds (fun _ h => by cases h) (by kernel_rfl) (fun _ h => by cases h) diagramWeighs_row_tie rfl ⟨rfl, rfl⟩ (by kernel_rfl) rfl
    (fun f fn hf hfn => by
      obtain rfl : f = 3 := qdJ ((show Tryz.prog.funcNamed "sortilege/sortilegelaw23.DiagramWeighs" = some 3 by kernel_rfl).symm.trans hf) |>.symm
      obtain rfl : fn = Tryz.f3 := (qdJ (qvF.symm.trans hfn)).symm
      exact ⟨by kernel_rfl, fun j t ht => by
        rw [qrC] at ht
        have hm : t ∈ [22, 22, 22] := by simpa using Array.mem_of_getElem? ht
        have hall : ([22, 22, 22].all fun u => !Tryz.prog.wantsStandIn u) = true := by kernel_rfl
        exact (show Tryz.prog.wantsStandIn t = false by simpa using qaV.1 hall t hm)⟩)
    (by kernel_rfl)
end Go.Proofs.YtiipgpkgcdhbfaaGreatDoor
