/- DiagramOrders: for every input the law returns true, and each argument reads behind the call as it did before, where the library's tables are laid as its own initialisers lay them (the row's own cells). No other condition. -/
import Derived.Test.YtiipgpkgcdhbfaaGreatDoorFP5
import Derived.Test.YtiipgpkgcdhbfaaGreatDoorCards
import Derived.Test.YtiipgpkgcdhbfaaGreatDoorTie
import Derived.SevenTiedAt
set_option linter.unusedVariables false
set_option linter.unusedSimpArgs false
namespace Go.Proofs.YtiipgpkgcdhbfaaGreatDoor
open Go.Ab Go.ChangeShapes Go.WideShapes Go.ChangeAt Go.RowKit

theorem qb7 : ownKnob Tryz.prog.godebug = none := by kernel_rfl
theorem zJ : laidOutB Tryz.prog = true := by kernel_rfl
theorem LA : Tryz.f4.params = #[22, 22, 22, 22] := by kernel_rfl
theorem Dr : Tryz.prog.funcs[4]? = some Tryz.f4 := by kernel_rfl

set_option maxHeartbeats 1600000 in
set_option maxRecDepth 100000 in
theorem qbg (os : Os) (started : os.Started) (H : Type) (enc : TypeId × Value → H) :
    ReturnsInHanded {} Tryz.checked os 4 .any (fun w args => (Rows.diagramOrdersSpec.pre enc Tryz.prog Tryz.f4 Rows.diagramOrdersRow.domain false w args ∧ laidMetH Tryz.prog Rows.diagramOrdersRow.laid w) ∧ sizedMet enc Tryz.prog Tryz.f4 (OpenSpec.ofChange Rows.diagramOrdersSpec) false w args)
      (Rows.diagramOrdersSpec.post enc Tryz.prog Tryz.f4 false true false false) := by
  refine returnsInHanded_of_change_and (C := Tryz.checked) (X := fun w _ => laidMetH Tryz.prog Rows.diagramOrdersRow.laid w) (fun _ _ _ hh h => h.of_heap hh) qb7 started (by kernel_rfl) Dr
    (ChangeSpec.witness_shaped (enc := enc) (C := Tryz.checked) (os := os) (X := fun w _ => laidMetH Tryz.prog Rows.diagramOrdersRow.laid w) false (World.laidAll Tryz.prog os Rows.diagramOrdersRow.laid) #[.slice none 0 0, .slice none 0 0, .slice none 0 0, .slice none 0 0] 8 (World.laidAll_os _ _ _)
      (World.shaped_of_ZipB (by kernel_rfl) (by kernel_rfl)) (by kernel_rfl) (by kernel_rfl) (by kernel_rfl)
      (by rw [MakeChecks.laidMetH_plain _ _ _ (by kernel_rfl)]; exact laidMet_laidAll _ (by kernel_rfl) (by kernel_rfl))) ?_
  intro W base args ds gs before hval0 hW hcnd _ hL _
  have htab : Yd.tab W := qdD hL
  have hval : ∀ (j : Nat) t v, Tryz.f4.params[j]? = some t → args[j]? = some v → Value.okWide Tryz.prog W .any base t v := hval0
  have hW' := hW
  obtain ⟨p, q, hA0, hV, rfl, hfz, hnd⟩ := hW
  have hA : DataW.TrodAll enc Tryz.prog W 0 (fun _ => true) true Tryz.f4.params.toList args.toList ds p := hA0
  rw [LA] at hA hval
  obtain ⟨v0, v1, v2, v3, d0, d1, d2, d3, p0, p1, p2, p3, rfl, rfl, rfl, h0, h1, h2, h3⟩ := trodAll_four hA
  obtain ⟨rfl, rfl⟩ := trodVars_none hV
  obtain ⟨z0, x0, hx0, hz0, hb0⟩ := zH (okWide_slice tR (hval 0 22 v0 rfl rfl)) h0
  obtain ⟨z1, x1, hx1, hz1, hb1⟩ := zH (okWide_slice tR (hval 1 22 v1 rfl rfl)) h1
  obtain ⟨z2, x2, hx2, hz2, hb2⟩ := zH (okWide_slice tR (hval 2 22 v2 rfl rfl)) h2
  obtain ⟨z3, x3, hx3, hz3, hb3⟩ := zH (okWide_slice tR (hval 3 22 v3 rfl rfl)) h3
  clear hA0 hval0
  simp only [aW] at hW'
  have hlt0 : ∀ y ∈ p0, y.block < W.heap.size := fun y hy => by simpa using hW'.lt y (by simp [hy])
  have hlt1 : ∀ y ∈ p1, y.block < W.heap.size := fun y hy => by simpa using hW'.lt y (by simp [hy])
  have hlt2 : ∀ y ∈ p2, y.block < W.heap.size := fun y hy => by simpa using hW'.lt y (by simp [hy])
  have hlt3 : ∀ y ∈ p3, y.block < W.heap.size := fun y hy => by simpa using hW'.lt y (by simp [hy])
  refine (qa7 (W := W) (vs := #[v0, v1, v2, v3]) htab (N7 z0 z1 z2 z3 x0 x1 x2 x3) rfl (fun j hj => ?_)).mono fun e W' ⟨he, hB⟩ => ?_
  · match j, hj with
    | 0, _ => exact hx0
    | 1, _ => exact hx1
    | 2, _ => exact hx2
    | 3, _ => exact hx3
  · subst he
    refine ⟨_, rfl, _, _, _, [], p0 ++ (p1 ++ (p2 ++ (p3))), [], hW', ?_, ?_, ?_, hB.frame _, fun h => by cases h⟩
    · exact trodAll_mk1 (shut_bool u4 true)
    · exact trodAll_mk4 (Below.trod zJ (by kernel_rfl) (rO (by kernel_rfl)) h0 hB hlt0) (Below.trod zJ (by kernel_rfl) (rO (by kernel_rfl)) h1 hB hlt1) (Below.trod zJ (by kernel_rfl) (rO (by kernel_rfl)) h2 hB hlt2) (Below.trod zJ (by kernel_rfl) (rO (by kernel_rfl)) h3 hB hlt3)
    · rfl

theorem DiagramOrders_holds : Rows.DiagramOrdersSaid :=
  OpenClaim.holds_of_wide 4 Tryz.f4 rfl rfl rfl rfl rfl rfl rfl ⟨rfl, rfl, rfl, rfl, rfl⟩ rfl rfl rfl rfl rfl (by kernel_rfl) Dr (by kernel_rfl)
    (rO (by kernel_rfl)) (by unfold Func.isWrapper; first | (rw [ai (by decide +kernel)]; kernel_rfl) | (rw [ag (by decide +kernel)]; exact ⟨rfl, rfl⟩))
    (fun os started H enc _ => qbg os started H enc)
theorem DiagramOrders_card : Rows.DiagramOrdersCardSaid :=
  Claim7.holds_tied_plain_at .later [] [.data, .data, .data] true (true, "e5b04073a33c8c74b1c9455c5f032782bfe9621810d2a44b3c975bd892de7e7d") true
    DiagramOrders_holds (fun _ h => by cases h) (by kernel_rfl) (fun _ h => by cases h) diagramOrders_row_tie rfl ⟨rfl, rfl⟩ (by kernel_rfl) rfl
    (fun f fn hf hfn => by
      obtain rfl : f = 4 := mS ((show Tryz.prog.funcNamed "sortilege/sortilegelaw23.DiagramOrders" = some 4 by kernel_rfl).symm.trans hf) |>.symm
      obtain rfl : fn = Tryz.f4 := (mS (Dr.symm.trans hfn)).symm
      exact ⟨by kernel_rfl, fun j t ht => by
        rw [LA] at ht
        have hm : t ∈ [22, 22, 22, 22] := by simpa using Array.mem_of_getElem? ht
        have hall : ([22, 22, 22, 22].all fun u => !Tryz.prog.wantsStandIn u) = true := by kernel_rfl
        exact (show Tryz.prog.wantsStandIn t = false by simpa using fe.1 hall t hm)⟩)
    (by kernel_rfl)
end Go.Proofs.YtiipgpkgcdhbfaaGreatDoor
