/- One operation, whichever. -/
import Derived.Test.YtlapgjmmlbnehaaAAbSound
set_option linter.unusedVariables false
set_option linter.unusedSimpArgs false
namespace Go.Ab
open Go.RowKit

section
variable {C : Cfg} {B : Nat} {w : World} {g : G} {m : Mem}

def OpWp (P : Program) (B : Nat) (w : World) (g : G) (a : Act) (o : Oper) (v : AV) (m1 : Mem) : Prop :=
  ∀ (next : Act → World → Prop) (Q : Exit → Act → World → Prop), (∀ v' w' g', Step B w g w' g' → MemR B w' g' m1 → V w' g' v v' → next (a.put o.dst v') w') → o.wp P a w next Q

theorem OpWp.done {P : Program} {a : Act} {o : Oper} {v : AV} {m1 : Mem} {s : Sem Value} (h : Done P B w g s v m1) (hs : ∀ w, (execOp a.eval o).run P w = (do pure (.value (← s)) : Sem Next).run P w) : OpWp P B w g a o v m1 :=
  fun next Q hn => wp_of_done hs h hn

theorem OpWp.same {P : Program} {a : Act} {o : Oper} {v : AV} (hm : MemR B w g m) {s : Sem Value} (h : ∃ v', s.run P w = .ok v' w ∧ V w g v v') (hs : ∀ w, (execOp a.eval o).run P w = (do pure (.value (← s)) : Sem Next).run P w) : OpWp P B w g a o v m :=
  OpWp.done (Done.same hm h) hs

theorem map_getD {ρ : Operand → AV} {ρ' : Operand → Value} (hρ : ∀ x, V w g (ρ x) (ρ' x)) (xs : Array Operand) (cs : List AV) (vs : Array Value) (hl : cs.length = vs.size) (hv : ∀ j, j < cs.length → V w g (cs.getD j .any) (vs.getD j undef)) :
    (xs.toList.map ρ ++ cs).length = (xs.map ρ' ++ vs).size ∧ ∀ j, j < (xs.toList.map ρ ++ cs).length → V w g ((xs.toList.map ρ ++ cs).getD j .any) ((xs.map ρ' ++ vs).getD j undef) := by
  refine ⟨by simp [hl], fun j hj => ?_⟩
  simp only [List.getD_eq_getElem?_getD, Array.getD_eq_getD_getElem?, List.getElem?_append, Array.getElem?_append, List.length_map, Array.length_toList, Array.size_map]
  by_cases h1 : j < xs.size
  · rw [if_pos h1, if_pos h1]
    simpa [h1] using hρ xs[j]
  · rw [if_neg h1, if_neg h1]
    simp at hj
    simpa [List.getD_eq_getElem?_getD, Array.getD_eq_getD_getElem?] using hv (j - xs.size) (by omega)

theorem optV_map {ρ : Operand → AV} {ρ' : Operand → Value} (hρ : ∀ x, V w g (ρ x) (ρ' x)) (x : Option Operand) : OptV w g (x.map ρ) (x.map ρ') := by
  cases x with
  | none => trivial
  | some x => exact hρ x

theorem callK_sound (hC : CfgOk C) {callI : Nat → List AV → Mem → Option (AV × Mem)} (hI : ∀ f args m v m', callI f args m = some (v, m') → CallOk C.P f args m v m' ∧ ∃ fn, C.P.funcs[f]? = some fn ∧ fn.body.isSome)
    {R : Type} {fid : Nat} {d : Option Nat} {f : Nat} {args : List AV} {K : AV → Mem → Option R} {r : R} (h : callK C fid (acallP callI) callI d f args m K = some r) (hm : MemR B w g m) (hB : B ≤ w.heap.size) {vs : Array Value}
    (hl : args.length = vs.size) (hv : ∀ j, j < args.length → V w g (args.getD j .any) (vs.getD j undef)) :
    ∃ v m1 fn, K v m1 = some r ∧ C.P.funcs[f]? = some fn ∧ fn.body.isSome ∧ Calls C.P f vs w fun e w' => ∃ v' g', e = .returned v' ∧ Step B w g w' g' ∧ MemR B w' g' m1 ∧ V w' g' v v' := by
  unfold callK at h
  split at h
  · rename_i hh hlib
    simp only [Option.bind_eq_some_iff] at h
    obtain ⟨v, hr, h⟩ := h
    obtain ⟨⟨fn, h1, h2⟩, h3⟩ := hC.lib f hh hlib
    exact ⟨v, m, fn, h, h1, h2, h3 args v hr m B w g vs hm hB hl hv⟩
  · split at h
    · split at h
      · simp only [Option.bind_eq_some_iff] at h
        obtain ⟨⟨v, m1⟩, hr, h⟩ := h
        cases ht : C.thaw fid f with
        | false =>
          rw [ht] at hr
          obtain ⟨h1, fn, h2, h3⟩ := hI _ _ _ _ _ hr
          exact ⟨v, m1, fn, h, h2, h3, h1 B w g vs hm hB hl hv⟩
        | true =>
          rw [ht] at hr
          simp only [thawCall, Option.bind_eq_some_iff, Option.map_eq_some_iff] at hr
          obtain ⟨⟨rs, l⟩, hf, ⟨v0, m0⟩, hc, ⟨v1, m2⟩, hth, he⟩ := hr
          simp only [Prod.mk.injEq] at he
          obtain ⟨rfl, rfl⟩ := he
          obtain ⟨_, fn, h2, h3⟩ := hI _ _ _ _ _ hc
          exact ⟨v1, _, fn, h, h2, h3, thawCall_sound hm hB (fun args m v m' hh => (hI _ _ _ _ _ hh).1) hl hv hf hc hth⟩
      · cases h
    · unfold pcall at h
      simp only [Option.bind_eq_some_iff] at h
      obtain ⟨⟨v, m1⟩, ⟨⟨rs, l⟩, hf, hc⟩, h⟩ := h
      split at hc
      · cases hc
      · simp only [Option.map_eq_some_iff, Prod.mk.injEq] at hc
        obtain ⟨v', hr, rfl, rfl⟩ := hc
        have hfn : ∃ fn, C.P.funcs[f]? = some fn ∧ fn.body.isSome := by
          unfold acallP at hr
          simp only [Option.bind_eq_some_iff] at hr
          obtain ⟨⟨v0, m0⟩, hc, _⟩ := hr
          exact (hI _ _ _ _ _ hc).2
        obtain ⟨fn, h1, h2⟩ := hfn
        exact ⟨v', _, fn, h, h1, h2, pureCall_sound hm hB (fun args m v m' hh => (hI _ _ _ _ _ hh).1) hl hv hf hr⟩

theorem opK_sound (hC : CfgOk C) {callI : Nat → List AV → Mem → Option (AV × Mem)} (hI : ∀ f args m v m', callI f args m = some (v, m') → CallOk C.P f args m v m' ∧ ∃ fn, C.P.funcs[f]? = some fn ∧ fn.body.isSome)
    {R : Type} {fid : Nat} {d : Option Nat} {o : Oper} {ρ : Operand → AV} {K : AV → Mem → Option R} {r : R} {a : Act} (h : opK C fid (acallP callI) callI d o ρ m K = some r) (hρ : ∀ x, V w g (ρ x) (a.eval x)) (hm : MemR B w g m) (hB : B ≤ w.heap.size) (hd0 : makes o = true → ∀ s, d = some s → m.get s = some .resv) :
    ∃ v m1, K v m1 = some r ∧ OpWp C.P B w g a o v m1 := by
  unfold opK at h
  split at h
  · rename_i x hop
    exact ⟨_, _, h, .same (s := pure (a.eval x)) hm ⟨_, rfl, hρ x⟩ fun w => by simp [execOp, hop]⟩
  · rename_i x hop
    exact ⟨_, _, h, .same (s := pure (a.eval x)) hm ⟨_, rfl, hρ x⟩ fun w => by simp [execOp, hop]⟩
  · rename_i c x y hop
    simp only [Option.bind_eq_some_iff] at h
    obtain ⟨v, hv, h⟩ := h
    exact ⟨_, _, h, .same hm (pick_sound (hρ c) (hρ x) (hρ y) hv) fun w => by simp [execOp, hop]⟩
  · rename_i t hop
    split at h
    · rename_i z hz
      have hd := hd0 (by simp [makes, hop])
      exact ⟨_, _, h, .done (alloc_sound hm hB hd hz) fun w => by simp [execOp, hop]⟩
    · cases h
  · rename_i t x hop
    split at h
    · simp only [Option.bind_eq_some_iff] at h
      obtain ⟨⟨v, m1⟩, hv, h⟩ := h
      have hd := hd0 (by simp [makes, hop])
      exact ⟨_, _, h, .done (box_sound (t := t) hm hB hd (hρ x) hv) fun w => by simp [execOp, hop]⟩
    · cases h
  · rename_i t ps hop
    split at h
    · rename_i hst
      split at h
      · rename_i z l hz hl
        simp only [Option.bind_eq_some_iff] at h
        obtain ⟨v, hv, h⟩ := h
        exact ⟨_, _, h, .done (build_sound hm hρ hst hz hl hv) fun w => by simp [execOp, hop]⟩
      · cases h
    · cases h
  · rename_i t n ps hop
    split at h
    · rename_i e he
      split at h
      · rename_i sh hsh
        split at h
        · rename_i hcond
          simp only [Bool.and_eq_true, beq_iff_eq, decide_eq_true_eq] at hcond
          obtain ⟨⟨c1, c2⟩, c3⟩ := hcond
          simp only [Option.bind_eq_some_iff] at h
          obtain ⟨v, hv, h⟩ := h
          have ht : C.P.underlying t = some (.slice e) := by
            unfold elemOf at he
            split at he
            · simp at he; subst he; assumption
            · cases he
          exact ⟨_, _, h, .done (buildSlice_sound hm hB hρ ht c1 c2 c3 hv) fun w => by simp [execOp, hop]⟩
        · cases h
      · cases h
    · cases h
  · rename_i t x hop
    split at h
    · rename_i sh hsh
      simp only [Option.bind_eq_some_iff] at h
      obtain ⟨v, hv, h⟩ := h
      exact ⟨_, _, h, .same hm (load_sound hm (hρ x) hv t hsh) fun w => by simp [execOp, hop]⟩
    · cases h
  · rename_i t x y hop
    split at h
    · rename_i sh hsh
      simp only [Option.bind_eq_some_iff] at h
      obtain ⟨m1, hv, h⟩ := h
      refine ⟨_, _, h, fun next Q hn => ?_⟩
      obtain ⟨w', h1, h2, h3⟩ := store_sound (P := C.P) hm (hρ x) (hρ y) hsh hv
      have hr : (execOp a.eval o).run C.P w = .ok .skip w' := by simp [execOp, hop, h1]
      unfold Oper.wp
      rw [hr]
      exact hn undef w' g h2 h3 (.any _)
    · cases h
  · rename_i x hop
    have hx := hρ x
    simp only [Option.bind_eq_some_iff] at h
    obtain ⟨v, hv, h⟩ := h
    unfold nilA at hv
    split at hv
    · rename_i cs hcs
      simp only [Option.some.injEq] at hv; subst hv
      rw [hcs] at hx
      cases hx' : a.eval x with
      | pointer p =>
        cases p with
        | some p =>
          refine ⟨_, _, h, .same (s := pure (.pointer (some p))) hm ⟨_, rfl, by rw [hx'] at hx; exact hx⟩ fun w => by simp [execOp, hop, hx']⟩
        | none => rw [hx'] at hx; cases hx
      | _ => rw [hx'] at hx; cases hx
    · rename_i nm off hcs
      simp only [Option.some.injEq] at hv; subst hv
      rw [hcs] at hx
      cases hx' : a.eval x with
      | pointer p =>
        cases p with
        | some p =>
          refine ⟨_, _, h, .same (s := pure (.pointer (some p))) hm ⟨_, rfl, by rw [hx'] at hx; exact hx⟩ fun w => by simp [execOp, hop, hx']⟩
        | none => rw [hx'] at hx; cases hx
      | _ => rw [hx'] at hx; cases hx
    · rename_i f cs hcs
      simp only [Option.some.injEq] at hv; subst hv
      rw [hcs] at hx
      cases hx' : a.eval x with
      | func fn fi cap =>
        rw [hx'] at hx
        cases hx with
        | fn _ _ _ hl hv =>
          refine ⟨_, _, h, .same (s := pure (.func (.func f) #[] cap)) hm ⟨_, rfl, .fn _ _ _ hl hv⟩ fun w => by simp [execOp, hop, hx']⟩
      | _ => rw [hx'] at hx; cases hx
    · cases hv
  · rename_i op t x y _ hop
    simp only [Option.bind_eq_some_iff] at h
    obtain ⟨v, hv, h⟩ := h
    exact ⟨_, _, h, .same hm (bin_sound op t x y (hρ x) (hρ y) hv) fun w => by simp [execOp, hop]⟩
  · rename_i op t x hop
    simp only [Option.bind_eq_some_iff] at h
    obtain ⟨v, hv, h⟩ := h
    exact ⟨_, _, h, .same hm (un_sound op (hρ x) hv) fun w => by simp [execOp, hop]⟩
  · rename_i src dst x hop
    split at h
    · rename_i k hk
      split at h
      · rename_i hs
        simp only [Option.bind_eq_some_iff] at h
        obtain ⟨v, hv, h⟩ := h
        exact ⟨_, _, h, .same hm (conv_sound (hρ x) hv src dst hk hs) fun w => by simp [execOp, hop]⟩
      · cases h
    · cases h
  · rename_i fn fi cs hop
    split at h
    · rename_i f hfi
      have hfi' : fi = #[] := by simpa using hfi
      subst hfi'
      refine ⟨_, _, h, .same (s := pure (.func (.func f) #[] (cs.map a.eval))) hm ⟨_, rfl, .fn _ _ _ (by simp) fun j hj => ?_⟩ fun w => by simp [execOp, hop, Instr.makeFunc]⟩
      have hj' : j < cs.size := by simpa using hj
      simpa [List.getD_eq_getElem?_getD, Array.getD_eq_getD_getElem?, hj'] using hρ cs[j]
    · cases h
  · rename_i t l c hop
    split at h
    · rename_i e he
      split at h
      · rename_i sh z hsh hz
        split at h
        · rename_i hel
          simp only [Option.bind_eq_some_iff] at h
          obtain ⟨⟨v, m1⟩, hv, h⟩ := h
          have ht : C.P.underlying t = some (.slice e) := by
            unfold elemOf at he
            split at he
            · simp at he; subst he; assumption
            · cases he
          have hd := hd0 (by simp [makes, hop])
          cases htk : C.tokm fid with
          | true => rw [htk] at hv; exact ⟨_, _, h, .done (makeT_sound hm hB ht hsh hel hz (hρ l) (hρ c) hv) fun w => by simp [execOp, hop]⟩
          | false => rw [htk] at hv; exact ⟨_, _, h, .done (make_sound hm hB hd ht hsh hel hz (hρ l) (hρ c) hv) fun w => by simp [execOp, hop]⟩
        · cases h
      · cases h
    · cases h
  · rename_i t x lo hi mx hop
    split at h
    · rename_i e ht
      split at h
      · rename_i sh hsh
        split at h
        · rename_i hel
          simp only [Option.bind_eq_some_iff] at h
          obtain ⟨v, hv, h⟩ := h
          unfold sliceT at hv
          split at hv
          · rename_i sh' z o' es hx
            split at hv
            · rename_i hs
              exact ⟨_, _, h, .same hm (slice_sound_lst (hx ▸ hρ x) (optV_map hρ lo) (optV_map hρ hi) (optV_map hρ mx) hv t ht hsh hel hs) fun w => by simp [execOp, hop]⟩
            · cases hv
          · rename_i nm off n sh' hx
            split at hv
            · rename_i hs
              subst hs
              cases mx with
              | none => exact ⟨_, _, h, .same hm (slice_sound_arr (hx ▸ hρ x) (optV_map hρ lo) (optV_map hρ hi) hv t ht hel) fun w => by simp [execOp, hop]⟩
              | some _ => simp [sliceA] at hv
            · cases hv
          · cases hv
        · cases h
      · cases h
    · rename_i ht
      simp only [Option.bind_eq_some_iff] at h
      obtain ⟨v, hv, h⟩ := h
      unfold sliceS at hv
      split at hv
      · rename_i s hx
        cases mx with
        | none => exact ⟨_, _, h, .same hm (slice_sound_str (hx ▸ hρ x) (optV_map hρ lo) (optV_map hρ hi) hv t ht) fun w => by simp [execOp, hop]⟩
        | some _ => simp [sliceA] at hv
      · cases hv
    · cases h
  · rename_i t x f hop
    split at h
    · rename_i off sh hf
      simp only [Option.bind_eq_some_iff] at h
      obtain ⟨v, hv, h⟩ := h
      exact ⟨_, _, h, .same hm (fieldAddr_sound (hρ x) hv t f hf) fun w => by simp [execOp, hop]⟩
    · cases h
  · rename_i t x f hop
    split at h
    · rename_i off sh hf
      simp only [Option.bind_eq_some_iff] at h
      obtain ⟨v, hv, h⟩ := h
      exact ⟨_, _, h, .same hm (field_sound (hρ x) hv t f hf) fun w => by simp [execOp, hop]⟩
    · cases h
  · rename_i t x i hop
    split at h
    · rename_i e ht
      split at h
      · rename_i sh hsh
        split at h
        · rename_i hel
          simp only [Option.bind_eq_some_iff] at h
          obtain ⟨v, hv, h⟩ := h
          exact ⟨_, _, h, .same hm (indexAddr_slice_sound (hρ x) (hρ i) hv t ht hel) fun w => by simp [execOp, hop]⟩
        · cases h
      · cases h
    · rename_i n e ht
      split at h
      · rename_i sh hsh
        split at h
        · rename_i hel
          simp only [Option.bind_eq_some_iff] at h
          obtain ⟨v, hv, h⟩ := h
          exact ⟨_, _, h, .same hm (arrAddr_sound (hρ x) (hρ i) hv t ht hel) fun w => by simp [execOp, hop]⟩
        · cases h
      · cases h
    · cases h
  · rename_i t x i hop
    split at h
    · rename_i ht
      simp only [Option.bind_eq_some_iff] at h
      obtain ⟨v, hv, h⟩ := h
      exact ⟨_, _, h, .same hm (indexStr_sound (hρ x) (hρ i) hv t ht) fun w => by simp [execOp, hop]⟩
    · cases h
  · rename_i t i hop
    simp only [Option.bind_eq_some_iff] at h
    obtain ⟨v, hv, h⟩ := h
    exact ⟨_, _, h, .same hm (extract_sound (hρ t) hv) fun w => by simp [execOp, hop]⟩
  · rename_i c hop
    split at h
    · rename_i f hc
      simp only [Option.bind_eq_some_iff] at h
      obtain ⟨⟨g0, caps⟩, hfo, h⟩ := h
      unfold fnOf at hfo
      split at hfo
      · rename_i f0 caps0 hf
        simp only [Option.some.injEq, Prod.mk.injEq] at hfo
        obtain ⟨rfl, rfl⟩ := hfo
        have hx := hρ f
        rw [hf] at hx
        obtain ⟨cv, hev, hl, hv⟩ : ∃ cv, a.eval f = .func (.func f0) #[] cv ∧ caps0.length = cv.size ∧ ∀ j, j < caps0.length → V w g (caps0.getD j .any) (cv.getD j undef) := by
          generalize a.eval f = y at hx
          cases hx with
          | fn _ _ vs hl hv => exact ⟨vs, rfl, hl, hv⟩
        obtain ⟨q1, q2⟩ := map_getD hρ c.args caps0 cv hl hv
        obtain ⟨v, m1, fn, hK, hfn, hbody, hcall⟩ := callK_sound hC hI h hm hB q1 q2
        refine ⟨v, m1, hK, fun next Q hn => ?_⟩
        refine wp_of_call hop hc hev hfn (hC.name _ _ hfn) hbody hcall ?_
        rintro e w' ⟨v', g', rfl, s, hm', hV⟩
        exact ⟨v', rfl, hn v' w' g' s hm' hV⟩
      · cases hfo
    · rename_i b hc
      have one : ∀ {x}, c.args.toList.map ρ = [x] → ∃ x', c.args.map a.eval = #[x'] ∧ V w g x x' := by
        intro x hvs
        match hca : c.args.toList, hvs with
        | [p], hvs =>
          simp at hvs
          have : c.args = #[p] := by cases hc' : c.args; simp_all
          exact ⟨a.eval p, by simp [this], hvs ▸ hρ p⟩
      have two : ∀ {x y}, c.args.toList.map ρ = [x, y] → ∃ x' y', c.args.map a.eval = #[x', y'] ∧ V w g x x' ∧ V w g y y' := by
        intro x y hvs
        match hca : c.args.toList, hvs with
        | [p, q], hvs =>
          simp at hvs
          have : c.args = #[p, q] := by cases hc' : c.args; simp_all
          exact ⟨a.eval p, a.eval q, by simp [this], hvs.1 ▸ hρ p, hvs.2 ▸ hρ q⟩
      unfold builtinK at h
      split at h
      · rename_i x hvs
        obtain ⟨x', hargs, hx⟩ := one hvs
        split at h
        · rename_i e ht
          simp only [Option.bind_eq_some_iff] at h ht
          obtain ⟨v, hv, h⟩ := h
          obtain ⟨t, ht1, ht2⟩ := ht
          exact ⟨_, _, h, .same hm (len_sound hx hv c.argTypes t o.type ht1 ⟨e, ht2⟩) fun w => by simp [execOp, hop, resolve, hc, invoke, builtin, hargs]⟩
        · rename_i ht
          simp only [Option.bind_eq_some_iff] at h ht
          obtain ⟨v, hv, h⟩ := h
          obtain ⟨t, ht1, ht2⟩ := ht
          exact ⟨_, _, h, .same hm (len_sound hx hv c.argTypes t o.type ht1 ht2) fun w => by simp [execOp, hop, resolve, hc, invoke, builtin, hargs]⟩
        · cases h
      · rename_i x y hvs
        obtain ⟨x', y', hargs, hx, hy⟩ := two hvs
        simp only [Option.bind_eq_some_iff] at h
        obtain ⟨v, hv, h⟩ := h
        have := max_sound (P := C.P) hx hy hv
        simp only [if_true] at this
        exact ⟨_, _, h, .same hm this fun w => by simp [execOp, hop, resolve, hc, invoke, builtin, hargs, Builtin.max_]⟩
      · rename_i x y hvs
        obtain ⟨x', y', hargs, hx, hy⟩ := two hvs
        simp only [Option.bind_eq_some_iff] at h
        obtain ⟨v, hv, h⟩ := h
        have := max_sound (P := C.P) hx hy hv
        simp only [Bool.false_eq_true, if_false] at this
        exact ⟨_, _, h, .same hm this fun w => by simp [execOp, hop, resolve, hc, invoke, builtin, hargs, Builtin.min_]⟩
      · rename_i x y hvs
        obtain ⟨x', y', hargs, hx, hy⟩ := two hvs
        split at h
        · rename_i t t' ht ht'
          split at h
          · rename_i heq
            subst heq
            split at h
            · rename_i e he
              split at h
              · rename_i sh hsh
                split at h
                · rename_i hcond
                  simp only [Option.bind_eq_some_iff] at h
                  obtain ⟨⟨v, m1⟩, hv, h⟩ := h
                  have hte : C.P.underlying t = some (.slice e) := by
                    unfold elemOf at he
                    split at he
                    · simp at he; subst he; assumption
                    · cases he
                  have hd1 := hd0 (by simp [makes, hop, hc])
                  have hd := append_sound (P := C.P) (ty := o.type) hm hB hd1 hte hsh hcond hx hy hv
                  refine ⟨_, _, h, .done hd fun w => ?_⟩
                  have hts : Builtin.append_ c.argTypes o.type #[x', y'] = Builtin.append_ #[t, t] o.type #[x', y'] := by
                    unfold Builtin.append_
                    simp [ht, ht']
                  simp [execOp, hop, resolve, hc, invoke, builtin, hargs, hts]
                · cases h
              · cases h
            · cases h
          · cases h
        · cases h
      · cases h
    · cases h
  · cases h

end
end Go.Ab
