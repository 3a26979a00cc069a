/- ProofWholes: for every input the law returns true, and each argument reads behind the call as it did before, where the library's tables are laid as its own initialisers lay them (the row's own cells). No other condition. -/
import Derived.Test.YtiipgpkgcdhbfaaGreatDoorGP6
import Derived.Test.YtiipgpkgcdhbfaaGreatDoorCards
import Derived.Test.YtiipgpkgcdhbfaaGreatDoorTie
import Derived.SevenTiedAt
set_option linter.unusedVariables false
set_option linter.unusedSimpArgs false
namespace Go.Proofs.YtiipgpkgcdhbfaaGreatDoor
open Go.Ab Go.ChangeShapes Go.WideShapes Go.ChangeAt Go.RowKit

theorem qsz : ownKnob Tryz.prog.godebug = none := by kernel_rfl
theorem QL : laidOutB Tryz.prog = true := by kernel_rfl
theorem qbo : Tryz.f9.params = #[22, 22, 22, 3] := by kernel_rfl
theorem Pv : Tryz.prog.funcs[9]? = some Tryz.f9 := by kernel_rfl

set_option maxHeartbeats 1600000 in
set_option maxRecDepth 100000 in
theorem qrF (os : Os) (started : os.Started) (H : Type) (enc : TypeId × Value → H) :
    ReturnsInHanded {} Tryz.checked os 9 .any (fun w args => (Rows.proofWholesSpec.pre enc Tryz.prog Tryz.f9 Rows.proofWholesRow.domain false w args ∧ laidMetH Tryz.prog Rows.proofWholesRow.laid w) ∧ sizedMet enc Tryz.prog Tryz.f9 (OpenSpec.ofChange Rows.proofWholesSpec) false w args)
      (Rows.proofWholesSpec.post enc Tryz.prog Tryz.f9 false true false false) := by
  refine returnsInHanded_of_change_and (C := Tryz.checked) (X := fun w _ => laidMetH Tryz.prog Rows.proofWholesRow.laid w) (fun _ _ _ hh h => h.of_heap hh) qsz started (by kernel_rfl) Pv
    (ChangeSpec.witness_shaped (enc := enc) (C := Tryz.checked) (os := os) (X := fun w _ => laidMetH Tryz.prog Rows.proofWholesRow.laid w) false (World.laidAll Tryz.prog os Rows.proofWholesRow.laid) #[.slice none 0 0, .slice none 0 0, .slice none 0 0, .int .i64 0] 8 (World.laidAll_os _ _ _)
      (World.shaped_of_ZipB (by kernel_rfl) (by kernel_rfl)) (by kernel_rfl) (by kernel_rfl) (by kernel_rfl)
      (by rw [MakeChecks.laidMetH_plain _ _ _ (by kernel_rfl)]; exact laidMet_laidAll _ (by kernel_rfl) (by kernel_rfl))) ?_
  intro W base args ds gs before hval0 hW hcnd _ hL _
  have htab : Yd.tab W := que hL
  have hval : ∀ (j : Nat) t v, Tryz.f9.params[j]? = some t → args[j]? = some v → Value.okWide Tryz.prog W .any base t v := hval0
  have hW' := hW
  obtain ⟨p, q, hA0, hV, rfl, hfz, hnd⟩ := hW
  have hA : DataW.TrodAll enc Tryz.prog W 0 (fun _ => true) true Tryz.f9.params.toList args.toList ds p := hA0
  rw [qbo] at hA hval
  obtain ⟨v0, v1, v2, v3, d0, d1, d2, d3, p0, p1, p2, p3, rfl, rfl, rfl, h0, h1, h2, h3⟩ := trodAll_four hA
  obtain ⟨rfl, rfl⟩ := trodVars_none hV
  obtain ⟨z0, x0, hx0, hz0, hb0⟩ := QG (okWide_slice GB (hval 0 22 v0 rfl rfl)) h0
  obtain ⟨z1, x1, hx1, hz1, hb1⟩ := QG (okWide_slice GB (hval 1 22 v1 rfl rfl)) h1
  obtain ⟨z2, x2, hx2, hz2, hb2⟩ := QG (okWide_slice GB (hval 2 22 v2 rfl rfl)) h2
  obtain ⟨x3, rfl, rfl, rfl, w3⟩ := open_int u3 (hval 3 3 v3 rfl rfl) h3
  clear hA0 hval0
  simp only [cu] at hW'
  have hlt0 : ∀ y ∈ p0, y.block < W.heap.size := fun y hy => by simpa using hW'.lt y (by simp [hy])
  have hlt1 : ∀ y ∈ p1, y.block < W.heap.size := fun y hy => by simpa using hW'.lt y (by simp [hy])
  have hlt2 : ∀ y ∈ p2, y.block < W.heap.size := fun y hy => by simpa using hW'.lt y (by simp [hy])
  refine (qrw (W := W) (vs := #[v0, v1, v2, .int .i64 x3]) htab (qjt z0 z1 z2 x0 x1 x2 x3) rfl (fun j hj => ?_)).mono fun e W' ⟨he, hB⟩ => ?_
  · match j, hj with
    | 0, _ => exact hx0
    | 1, _ => exact hx1
    | 2, _ => exact hx2
    | 3, _ => exact .int _ _
  · subst he
    refine ⟨_, rfl, _, _, _, [], p0 ++ (p1 ++ (p2 ++ ([]))), [], hW', ?_, ?_, ?_, hB.frame _, fun h => by cases h⟩
    · exact trodAll_mk1 (shut_bool u4 true)
    · exact trodAll_mk4 (Below.trod QL (by kernel_rfl) (sS (by kernel_rfl)) h0 hB hlt0) (Below.trod QL (by kernel_rfl) (sS (by kernel_rfl)) h1 hB hlt1) (Below.trod QL (by kernel_rfl) (sS (by kernel_rfl)) h2 hB hlt2) (shut_int u3 w3)
    · rfl

theorem ProofWholes_holds : Rows.ProofWholesSaid :=
  OpenClaim.holds_of_wide 9 Tryz.f9 rfl rfl rfl rfl rfl rfl rfl ⟨rfl, rfl, rfl, rfl, rfl⟩ rfl rfl rfl rfl rfl (by kernel_rfl) Pv (by kernel_rfl)
    (sS (by kernel_rfl)) (by unfold Func.isWrapper; first | (rw [aq (by decide +kernel)]; kernel_rfl) | (rw [an (by decide +kernel)]; exact ⟨rfl, rfl⟩))
    (fun os started H enc _ => qrF os started H enc)
theorem ProofWholes_card : Rows.ProofWholesCardSaid :=
  Claim7.holds_tied_plain_at .later [] [.data, .data, .data] true (true, "e5b04073a33c8c74b1c9455c5f032782bfe9621810d2a44b3c975bd892de7e7d") true
    ProofWholes_holds (fun _ h => by cases h) (by kernel_rfl) (fun _ h => by cases h) proofWholes_row_tie rfl ⟨rfl, rfl⟩ (by kernel_rfl) rfl
    (fun f fn hf hfn => by
      obtain rfl : f = 9 := pS ((show Tryz.prog.funcNamed "sortilege/sortilegelaw25.ProofWholes" = some 9 by kernel_rfl).symm.trans hf) |>.symm
      obtain rfl : fn = Tryz.f9 := (pS (Pv.symm.trans hfn)).symm
      exact ⟨by kernel_rfl, fun j t ht => by
        rw [qbo] at ht
        have hm : t ∈ [22, 22, 22, 3] := by simpa using Array.mem_of_getElem? ht
        have hall : ([22, 22, 22, 3].all fun u => !Tryz.prog.wantsStandIn u) = true := by kernel_rfl
        exact (show Tryz.prog.wantsStandIn t = false by simpa using gD.1 hall t hm)⟩)
    (by kernel_rfl)
end Go.Proofs.YtiipgpkgcdhbfaaGreatDoor
