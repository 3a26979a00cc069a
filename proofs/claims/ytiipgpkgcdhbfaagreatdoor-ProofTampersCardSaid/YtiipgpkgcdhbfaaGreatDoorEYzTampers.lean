/- ProofTampers: for every input the law returns true, and each argument reads behind the call as it did before, where the library's tables are laid as its own initialisers lay them (the row's own cells). No other condition. -/
import Derived.Test.YtiipgpkgcdhbfaaGreatDoorEP5
import Derived.Test.YtiipgpkgcdhbfaaGreatDoorEP6
import Derived.Test.YtiipgpkgcdhbfaaGreatDoorCards
import Derived.Test.YtiipgpkgcdhbfaaGreatDoorTie
import Derived.SevenTiedAt
set_option linter.unusedVariables false
set_option linter.unusedSimpArgs false
namespace Go.Proofs.YtiipgpkgcdhbfaaGreatDoor
open Go.Ab Go.ChangeShapes Go.WideShapes Go.ChangeAt Go.RowKit

theorem qno : ownKnob Tryz.prog.godebug = none := by kernel_rfl
theorem Iq : laidOutB Tryz.prog = true := by kernel_rfl
theorem XA : Tryz.f8.params = #[22, 22, 22, 3, 3, 43] := by kernel_rfl
theorem Mh : Tryz.prog.funcs[8]? = some Tryz.f8 := by kernel_rfl

set_option maxHeartbeats 1600000 in
set_option maxRecDepth 100000 in
theorem qmv (os : Os) (started : os.Started) (H : Type) (enc : TypeId × Value → H) :
    ReturnsInHanded {} Tryz.checked os 8 .any (fun w args => (Rows.proofTampersSpec.pre enc Tryz.prog Tryz.f8 Rows.proofTampersRow.domain false w args ∧ laidMetH Tryz.prog Rows.proofTampersRow.laid w) ∧ sizedMet enc Tryz.prog Tryz.f8 (OpenSpec.ofChange Rows.proofTampersSpec) false w args)
      (Rows.proofTampersSpec.post enc Tryz.prog Tryz.f8 false true false false) := by
  refine returnsInHanded_of_change_and (C := Tryz.checked) (X := fun w _ => laidMetH Tryz.prog Rows.proofTampersRow.laid w) (fun _ _ _ hh h => h.of_heap hh) qno started (by kernel_rfl) Mh
    (ChangeSpec.witness_shaped (enc := enc) (C := Tryz.checked) (os := os) (X := fun w _ => laidMetH Tryz.prog Rows.proofTampersRow.laid w) false (World.laidAll Tryz.prog os Rows.proofTampersRow.laid) #[.slice none 0 0, .slice none 0 0, .slice none 0 0, .int .i64 0, .int .i64 0, .agg #[.bool false, .slice none 0 0, .slice none 0 0]] 8 (World.laidAll_os _ _ _)
      (World.shaped_of_ZipB (by kernel_rfl) (by kernel_rfl)) (by kernel_rfl) (by kernel_rfl) (by kernel_rfl)
      (by rw [MakeChecks.laidMetH_plain _ _ _ (by kernel_rfl)]; exact laidMet_laidAll _ (by kernel_rfl) (by kernel_rfl))) ?_
  intro W base args ds gs before hval0 hW hcnd _ hL _
  have htab : Yd.tab W := qo6 hL
  have hval : ∀ (j : Nat) t v, Tryz.f8.params[j]? = some t → args[j]? = some v → Value.okWide Tryz.prog W .any base t v := hval0
  have hW' := hW
  obtain ⟨p, q, hA0, hV, rfl, hfz, hnd⟩ := hW
  have hA : DataW.TrodAll enc Tryz.prog W 0 (fun _ => true) true Tryz.f8.params.toList args.toList ds p := hA0
  rw [XA] at hA hval
  obtain ⟨v0, v1, v2, v3, v4, v5, d0, d1, d2, d3, d4, d5, p0, p1, p2, p3, p4, p5, rfl, rfl, rfl, h0, h1, h2, h3, h4, h5⟩ := qpm hA
  obtain ⟨rfl, rfl⟩ := trodVars_none hV
  obtain ⟨z0, x0, hx0, hz0, hb0⟩ := NI (okWide_slice EB (hval 0 22 v0 rfl rfl)) h0
  obtain ⟨z1, x1, hx1, hz1, hb1⟩ := NI (okWide_slice EB (hval 1 22 v1 rfl rfl)) h1
  obtain ⟨z2, x2, hx2, hz2, hb2⟩ := NI (okWide_slice EB (hval 2 22 v2 rfl rfl)) h2
  obtain ⟨x3, rfl, rfl, rfl, w3⟩ := open_int u3 (hval 3 3 v3 rfl rfl) h3
  obtain ⟨x4, rfl, rfl, rfl, w4⟩ := open_int u3 (hval 4 3 v4 rfl rfl) h4
  obtain ⟨x5, hx5, xr5⟩ := qnU (qnc Pf (hval 5 43 v5 rfl rfl)) h5
  clear hA0 hval0
  simp only [bP] at hW'
  have hlt0 : ∀ y ∈ p0, y.block < W.heap.size := fun y hy => by simpa using hW'.lt y (by simp [hy])
  have hlt1 : ∀ y ∈ p1, y.block < W.heap.size := fun y hy => by simpa using hW'.lt y (by simp [hy])
  have hlt2 : ∀ y ∈ p2, y.block < W.heap.size := fun y hy => by simpa using hW'.lt y (by simp [hy])
  have hlt5 : ∀ y ∈ p5, y.block < W.heap.size := fun y hy => by simpa using hW'.lt y (by simp [hy])
  refine (qmn (W := W) (vs := #[v0, v1, v2, .int .i64 x3, .int .i64 x4, v5]) htab (qe8 z0 z1 z2 x0 x1 x2 x3 x4 xr5) rfl (fun j hj => ?_)).mono fun e W' ⟨he, hB⟩ => ?_
  · match j, hj with
    | 0, _ => exact hx0
    | 1, _ => exact hx1
    | 2, _ => exact hx2
    | 3, _ => exact .int _ _
    | 4, _ => exact .int _ _
    | 5, _ => exact hx5
  · subst he
    refine ⟨_, rfl, _, _, _, [], p0 ++ (p1 ++ (p2 ++ ([] ++ ([] ++ (p5))))), [], hW', ?_, ?_, ?_, hB.frame _, fun h => by cases h⟩
    · exact trodAll_mk1 (shut_bool u4 true)
    · exact qpl (Below.trod Iq (by kernel_rfl) (rD (by kernel_rfl)) h0 hB hlt0) (Below.trod Iq (by kernel_rfl) (rD (by kernel_rfl)) h1 hB hlt1) (Below.trod Iq (by kernel_rfl) (rD (by kernel_rfl)) h2 hB hlt2) (shut_int u3 w3) (shut_int u3 w4) (Below.trod Iq (by kernel_rfl) (rD (by kernel_rfl)) h5 hB hlt5)
    · rfl

theorem ProofTampers_holds : Rows.ProofTampersSaid :=
  OpenClaim.holds_of_wide 8 Tryz.f8 rfl rfl rfl rfl rfl rfl rfl ⟨rfl, rfl, rfl, rfl, rfl⟩ rfl rfl rfl rfl rfl (by kernel_rfl) Mh (by kernel_rfl)
    (rD (by kernel_rfl)) (by unfold Func.isWrapper; first | (rw [an (by decide +kernel)]; kernel_rfl) | (rw [aj (by decide +kernel)]; exact ⟨rfl, rfl⟩))
    (fun os started H enc _ => qmv os started H enc)
theorem ProofTampers_card : Rows.ProofTampersCardSaid :=
  Claim7.holds_tied_plain_at .later [] [.data, .data, .data] true (true, "e5b04073a33c8c74b1c9455c5f032782bfe9621810d2a44b3c975bd892de7e7d") true
    ProofTampers_holds (fun _ h => by cases h) (by kernel_rfl) (fun _ h => by cases h) proofTampers_row_tie rfl ⟨rfl, rfl⟩ (by kernel_rfl) rfl
    (fun f fn hf hfn => by
      obtain rfl : f = 8 := po ((show Tryz.prog.funcNamed "sortilege/sortilegelaw25.ProofTampers" = some 8 by kernel_rfl).symm.trans hf) |>.symm
      obtain rfl : fn = Tryz.f8 := (po (Mh.symm.trans hfn)).symm
      exact ⟨by kernel_rfl, fun j t ht => by
        rw [XA] at ht
        have hm : t ∈ [22, 22, 22, 3, 3, 43] := by simpa using Array.mem_of_getElem? ht
        have hall : ([22, 22, 22, 3, 3, 43].all fun u => !Tryz.prog.wantsStandIn u) = true := by kernel_rfl
        exact (show Tryz.prog.wantsStandIn t = false by simpa using fQ.1 hall t hm)⟩)
    (by kernel_rfl)
end Go.Proofs.YtiipgpkgcdhbfaaGreatDoor
