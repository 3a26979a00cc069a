/- The interpreter without fuel is sound. -/
import Derived.Test.YtlapgjmmlbnehaaAAbW
set_option linter.unusedVariables false
set_option linter.unusedSimpArgs false
namespace Go.Ab
open Go.RowKit

section
variable {C : Cfg} {B : Nat} {w : World} {g : G} {m : Mem}
theorem execW_sound (hC : CfgOk C) {callI : Nat → List AV → Mem → Option (AV × Mem)} (hI : IOk C callI) {R : Type} {fid : Nat} : ∀ (c : Code) (st : St) (K : Ex → St → Option R) (r : R) (a : Act) (w : World) (g : G) (Q : Exit → Act → World → Prop),
    execW C fid (acallP callI) callI c st K = some r → StR B w g st a → After C B w g a K r Q → c.wp C.P Q a w := by
  intro c
  induction c with
  | skip =>
    intro st K r a w g Q h hs hq
    exact wp_skip (hq .normal st a w g h hs (Step.refl _ _ _) rfl)
  | region id ops d =>
    intro st K r a w g Q h hs hq
    simp only [execW] at h
    cases d with
    | false =>
      simp only at h
      rw [runOps_eq] at h
      simp only [Option.bind_eq_some_iff] at h
      obtain ⟨s', hr, hK⟩ := h
      exact wp_region (runF_wp hC hI _ st s' a w g hr hs fun a' w' g' hs' s hd => hq .normal s' a' w' g' hK hs' s hd)
    | true =>
      simp only at h
      split at h
      · rename_i hok
        cases ht : C.two fid id with
        | nil =>
          rw [ht] at hok h
          exact draw_wp hC hI (drawOk_of hok) h hs fun s' a' w' g' hK hs' s hd => hq .normal s' a' w' g' hK hs' s hd
        | cons two sp =>
          rw [ht] at hok h
          exact draw_wp2 hC hI hok h hs fun s' a' w' g' hK hs' s hd => hq .normal s' a' w' g' hK hs' s hd
      · cases h
  | seq x y ihx ihy =>
    intro st K r a w g Q h hs hq
    simp only [execW] at h
    refine wp_seq (ihx st _ r a w g _ h hs ?_)
    intro e st' a' w' g' hK hs' s hd
    cases e with
    | normal =>
      simp only [seqK] at hK
      exact ihy st' K r a' w' g' Q hK hs' fun e st'' a'' w'' g'' hK' hs'' s' hd' => hq e st'' a'' w'' g'' hK' hs'' (s.trans s') (hd'.trans hd)
    | exit id => exact hq (.exit id) st' a' w' g' hK hs' s hd
    | ret => exact hq .ret st' a' w' g' hK hs' s hd
  | cond co x y ihx ihy =>
    intro st K r a w g Q h hs hq
    simp only [execW] at h
    have hV := ev_V hs.tmp co
    cases hv : ev st.tmps co with
    | bool b =>
      rw [hv] at h hV
      generalize hx : a.eval co = v at hV
      cases hV
      cases b with
      | true => exact wp_cond_true hx (ihx st K r a w g Q (by simpa [ifA] using h) hs hq)
      | false => exact wp_cond_false hx (ihy st K r a w g Q (by simpa [ifA] using h) hs hq)
    | _ => rw [hv] at h; simp [ifA] at h
  | block id x ih =>
    intro st K r a w g Q h hs hq
    simp only [execW] at h
    refine wp_block (ih st _ r a w g _ h hs ?_)
    intro e st' a' w' g' hK hs' s hd
    cases e with
    | normal => exact hq .normal st' a' w' g' hK hs' s hd
    | exit j =>
      simp only [blockK] at hK
      by_cases hj : j = id
      · have hb : (j == id) = true := by simpa using hj
        rw [hb] at hK
        simp only [exitOf, Exit.inBlock, if_pos hj]
        exact hq .normal st' a' w' g' hK hs' s hd
      · have hb : (j == id) = false := by simpa using hj
        rw [hb] at hK
        simp only [exitOf, Exit.inBlock, if_neg hj]
        exact hq (.exit j) st' a' w' g' hK hs' s hd
    | ret => exact hq .ret st' a' w' g' hK hs' s hd
  | loop x ih =>
    intro st K r a w g Q h hs hq
    simp only [execW] at h
    generalize C.mask fid (keyOf x) = mk at h
    have hmask : ∀ (l : List Bool) {w : World} {g : G} {st : St} {a : Act}, fits l st.tmps = true → StR B w g st a → StR B w g ⟨rb l st.tmps, st.mem⟩ a := fun l w g st a hf hs => ⟨by rw [rb_fits _ _ hf]; exact hs.tmp.mask _, hs.mem, hs.size⟩
    simp only [grd] at h
    cases hf0 : fits mk.head st.tmps with
    | false => rw [hf0] at h; cases h
    | true =>
    rw [hf0] at h
    have hs0 := hmask mk.head hf0 hs
    obtain ⟨n, hn⟩ := lim_some h
    have round : ∀ k (st : St) (a : Act) (w : World) (g : G), loopG (execW C fid (acallP callI) callI x) mk k st K = some r → StR B w g st a → After C B w g a K r Q → x.wp C.P (Exit.then (LW C.P x Q) Q) a w := by
      intro k
      induction k with
      | zero => intro st a w g h; simp [loopG] at h
      | succ k ihk =>
        intro st a w g h hs hq
        simp only [loopG] at h
        refine ih st _ r a w g _ h hs ?_
        intro e st' a' w' g' hK hs' s hd
        have hq' : After C B w' g' a' K r Q := fun e st'' a'' w'' g'' hK' hs'' s' hd' => hq e st'' a'' w'' g'' hK' hs'' (s.trans s') (hd'.trans hd)
        cases e with
        | normal =>
          simp only [roundG, grd] at hK
          cases hf : fits mk.head st'.tmps with
          | false => rw [hf] at hK; cases hK
          | true =>
            rw [hf] at hK
            exact lw_again (ihk _ a' w' g' hK (hmask _ hf hs') hq')
        | exit id =>
          simp only [roundG, grd] at hK
          cases hf : fits mk.out st'.tmps with
          | false => rw [hf] at hK; cases hK
          | true => rw [hf] at hK; exact hq (.exit id) _ a' w' g' hK (hmask _ hf hs') s hd
        | ret =>
          simp only [roundG, grd] at hK
          cases hf : fits mk.ret st'.tmps with
          | false => rw [hf] at hK; cases hK
          | true => rw [hf] at hK; exact hq .ret _ a' w' g' hK (hmask _ hf hs') s hd
    exact wp_loop_lw (round n _ a w g hn hs0 hq)
  | exit id =>
    intro st K r a w g Q h hs hq
    exact wp_exit (hq (.exit id) st a w g h hs (Step.refl _ _ _) rfl)
  | ret =>
    intro st K r a w g Q h hs hq
    exact wp_ret (hq .ret st a w g h hs (Step.refl _ _ _) rfl)
  | rangeFunc => intro st K r a w g Q h; simp [execW] at h
  | scope => intro st K r a w g Q h; simp [execW] at h
  | label => intro st K r a w g Q h; simp [execW] at h
  | goto => intro st K r a w g Q h; simp [execW] at h
  | refuse => intro st K r a w g Q h; simp [execW] at h

theorem acallW_sound (hC : CfgOk C) : ∀ k, IOk C (acallW C k) := by
  intro k
  induction k with
  | zero => intro f args m v m' h; simp [acallW] at h
  | succ k ih =>
    intro f args m v m' h
    simp only [acallW] at h
    cases hfn : C.P.funcs[f]? with
    | none => rw [hfn] at h; simp at h
    | some fn =>
      rw [hfn] at h
      simp only at h
      cases hb : fn.body with
      | none => rw [hb] at h; simp at h
      | some c =>
        rw [hb] at h
        simp only at h
        refine ⟨?_, fn, rfl, by simp [hb]⟩
        intro B w g vs hm hB hl hv
        refine calls_of_wp hfn hb ?_
        have hts : TmpR w g (args ++ List.replicate (fn.ntmps - args.length) .any) (vs ++ Array.replicate (fn.ntmps - vs.size) undef) := by
          refine ⟨by simp [hl], fun t => ?_⟩
          simp only [List.getD_eq_getElem?_getD, Array.getD_eq_getD_getElem?, List.getElem?_append, Array.getElem?_append]
          by_cases h1 : t < args.length
          · rw [if_pos h1, if_pos (by omega)]
            simpa [List.getD_eq_getElem?_getD, Array.getD_eq_getD_getElem?] using hv t h1
          · rw [if_neg h1, if_neg (by omega), List.getElem?_replicate]
            split <;> exact .any _
        refine execW_sound hC ih c _ _ (v, m') _ w g _ h ⟨hts, hm, hB⟩ ?_
        intro e st' a' w' g' hK hs' s hd
        have fin : (resultsA C.P st'.mem st'.tmps fn.results.toList).bind (fun vs => some (oneOf vs, st'.mem)) = some (v, m') → a'.defers = [] ∧ ∃ v', (results fn a'.tmps).run C.P w' = .ok v' w' ∧ ∃ v'' g'', Ending.returned v' = Ending.returned v'' ∧ Step B w g w' g'' ∧ MemR B w' g'' m' ∧ V w' g'' v v'' := by
          intro hK
          simp only [Option.bind_eq_some_iff, Option.some.injEq, Prod.mk.injEq] at hK
          obtain ⟨l, hl1, rfl, rfl⟩ := hK
          obtain ⟨vl, r1, r2, r3⟩ := results_sound (P := C.P) hs'.mem hs'.tmp _ l hl1
          refine ⟨hd, _, ?_, _, g', rfl, s, hs'.mem, oneOf_V r2 r3⟩
          rw [results_eq, Array.mapM_eq_mapM_toList]
          simp only [Sem.run_bind, Sem.run_map, r1, Result.andThen_ok, Sem.run_pure]
        cases e with
        | normal => exact fin (by simpa only [finK, resultsK_eq] using hK)
        | exit id => simp [finK] at hK
        | ret => exact fin (by simpa only [finK, resultsK_eq] using hK)

theorem AC_sound (hC : CfgOk C) : IOk C (AC C) := by
  intro f args m v m' h
  obtain ⟨k, hk⟩ := lim_some h
  exact acallW_sound hC k f args m v m' hk
end
end Go.Ab
