/- The interpreter without fuel: what all runs with fuel tend to. -/
import Derived.Test.YtlapgjmmlbnehaaAAbTwo
set_option linter.unusedVariables false
set_option linter.unusedSimpArgs false
namespace Go.Ab

/-! ### What a rising row of answers tends to -/
def Rise {R : Type} (F : Nat → Option R) : Prop := ∀ k r, F k = some r → F (k + 1) = some r
theorem Rise.le {R : Type} {F : Nat → Option R} (h : Rise F) {k n : Nat} (hn : k ≤ n) {r : R} (hr : F k = some r) : F n = some r := by
  induction hn with
  | refl => exact hr
  | step _ ih => exact h _ _ ih
open Classical in
noncomputable def lim {R : Type} (F : Nat → Option R) : Option R := if h : ∃ k r, F k = some r then F h.choose else none
theorem lim_some {R : Type} {F : Nat → Option R} {r : R} (h : lim F = some r) : ∃ k, F k = some r := by
  unfold lim at h
  split at h
  · exact ⟨_, h⟩
  · cases h
theorem Rise.lim {R : Type} {F : Nat → Option R} (h : Rise F) {k : Nat} {r : R} (hr : F k = some r) : lim F = some r := by
  have hx : ∃ k r, F k = some r := ⟨k, r, hr⟩
  unfold Ab.lim
  rw [dif_pos hx]
  obtain ⟨r', hr'⟩ := hx.choose_spec
  have h1 := h.le (Nat.le_max_left k hx.choose) hr
  have h2 := h.le (Nat.le_max_right k hx.choose) hr'
  rw [h1] at h2
  rw [hr', ← Option.some.inj h2]
theorem opt_ext {R : Type} {x y : Option R} (h : ∀ r, x = some r ↔ y = some r) : x = y := Option.ext h

section
variable {R : Type}

/-! ### Loops -/
def fits : List Bool → List AV → Bool
  | [], [] => true
  | _ :: bs, _ :: ts => fits bs ts
  | _, _ => false
/-- The slots that the mask keeps, as they stand. -/
def rb : List Bool → List AV → List AV
  | [], _ => []
  | b :: bs, ts => (match b with | true => ts.headD .any | false => .any) :: rb bs ts.tail
theorem rb_fits : ∀ (bs : List Bool) (ts : List AV), fits bs ts = true → rb bs ts = maskA bs ts
  | [], [], _ => rfl
  | b :: bs, t :: ts, h => by
    simp only [rb, maskA, rb_fits bs ts (by simpa [fits] using h), List.tail_cons]
    cases b <;> rfl
  | [], _ :: _, h => by simp [fits] at h
  | _ :: _, [], h => by simp [fits] at h
theorem rb_idem : ∀ (bs : List Bool) (ts : List AV), rb bs (rb bs ts) = rb bs ts
  | [], _ => rfl
  | b :: bs, ts => by
    simp only [rb, List.headD_cons, List.tail_cons, rb_idem bs ts.tail]
    cases b <;> rfl
abbrev grd (bs : List Bool) (st : St) (f : St → Option R) : Option R := match fits bs st.tmps with
  | true => f ⟨rb bs st.tmps, st.mem⟩
  | false => none
abbrev roundG (again : St → Option R) (mk : Masks) (K : Ex → St → Option R) : Ex → St → Option R := fun e st' => match e with
  | .normal => grd mk.head st' again
  | .exit id => grd mk.out st' (K (.exit id))
  | .ret => grd mk.ret st' (K .ret)
def loopG (body : St → (Ex → St → Option R) → Option R) (mk : Masks) : Nat → St → (Ex → St → Option R) → Option R
  | 0, _, _ => none
  | n + 1, st, K => body st (roundG (fun st' => loopG body mk n st' K) mk K)
noncomputable def loopW (body : St → (Ex → St → Option R) → Option R) (mk : Masks) (st : St) (K : Ex → St → Option R) : Option R := lim fun n => loopG body mk n st K

section
variable (C : Cfg) (fid : Nat) (callP : Nat → List AV → Option AV) (callI : Nat → List AV → Mem → Option (AV × Mem))
noncomputable def execW : Code → St → (Ex → St → Option R) → Option R
  | .skip, st, K => K .normal st
  | .region id ops d, st, K => match d with
    | false => runOps C fid callP callI none ops (List.range ops.size) st (K .normal)
    | true => match drawOk3 C.P ops (ordOf (C.ord fid id) ops.size) (C.ahd fid id) (C.two fid id) with
      | true => runOps C fid callP callI (some st.mem.length) ops (ordOf (C.ord fid id) ops.size) ⟨st.tmps, reserve st.mem (rankA ops ops.size)⟩ (fun st' => twoK C.P ops st' (K .normal) (C.two fid id))
      | false => none
  | .seq a b, st, K => execW a st (seqK (fun st' => execW b st' K) K)
  | .cond c a b, st, K => ifA (ev st.tmps c) (execW a st K) (execW b st K)
  | .block id b, st, K => execW b st (blockK id K)
  | .loop b, st, K => grd (C.mask fid (keyOf b)).head st fun st' => loopW (execW b) (C.mask fid (keyOf b)) st' K
  | .exit id, st, K => K (.exit id) st
  | .ret, st, K => K .ret st
  | _, _, _ => none
end

/-- What runs with what follows only at its end. -/
def Lin (f : St → (Ex → St → Option R) → Option R) : Prop := ∀ st, f st = (fun _ => none) ∨ ∃ e s, f st = fun K => K e s

theorem runOps_lin (C : Cfg) (fid : Nat) (callP : Nat → List AV → Option AV) (callI : Nat → List AV → Mem → Option (AV × Mem)) (base : Option Nat) (ops : Array Oper) (l : List Nat) (st : St) :
    ((fun K : Ex → St → Option R => runOps C fid callP callI base ops l st (K .normal)) = fun _ => none) ∨ ∃ e s, (fun K : Ex → St → Option R => runOps C fid callP callI base ops l st (K .normal)) = fun K => K e s := by
  cases h : runF C fid callP callI base ops l st with
  | none => left; funext K; rw [runOps_eq, h]; rfl
  | some s => right; refine ⟨.normal, s, ?_⟩; funext K; rw [runOps_eq, h]; rfl

theorem grd_lin {bs : List Bool} {st : St} {f : St → (Ex → St → Option R) → Option R} (h : Lin f) : ((fun K => grd bs st fun s => f s K) = fun _ => none) ∨ ∃ e s, (fun K => grd bs st fun s => f s K) = fun K => K e s := by
  unfold grd
  cases fits bs st.tmps with
  | false => exact .inl rfl
  | true => exact h _

theorem roundG_mono {again again' : St → Option R} {mk : Masks} {K : Ex → St → Option R} (h : ∀ s r, again s = some r → again' s = some r) {e : Ex} {s : St} {r : R} (hr : roundG again mk K e s = some r) : roundG again' mk K e s = some r := by
  cases e with
  | normal =>
    simp only [roundG, grd] at hr ⊢
    cases hf : fits mk.head s.tmps with
    | true => rw [hf] at hr; exact h _ _ hr
    | false => rw [hf] at hr; cases hr
  | exit id => exact hr
  | ret => exact hr
theorem Lin.mono {f : St → (Ex → St → Option R) → Option R} (h : Lin f) {st : St} {K K' : Ex → St → Option R} (hK : ∀ e s r, K e s = some r → K' e s = some r) {r : R} (hr : f st K = some r) : f st K' = some r := by
  rcases h st with h | ⟨e, s, h⟩
  · rw [h] at hr; cases hr
  · rw [h] at hr ⊢; exact hK _ _ _ hr
theorem loopG_rise {body : St → (Ex → St → Option R) → Option R} (hb : Lin body) (mk : Masks) (K : Ex → St → Option R) : ∀ n st r, loopG body mk n st K = some r → loopG body mk (n + 1) st K = some r := by
  intro n
  induction n with
  | zero => intro st r h; cases h
  | succ n ih =>
    intro st r h
    rw [loopG] at h ⊢
    exact hb.mono (fun e s r hr => roundG_mono (fun s r => ih s r) hr) h
theorem loopW_eq {body : St → (Ex → St → Option R) → Option R} (hb : Lin body) (mk : Masks) (st : St) (K : Ex → St → Option R) : loopW body mk st K = body st (roundG (fun st' => loopW body mk st' K) mk K) := by
  apply opt_ext
  intro r
  have hrise : ∀ st, Rise fun n => loopG body mk n st K := fun st n r h => loopG_rise hb mk K n st r h
  constructor
  · intro h
    obtain ⟨n, hn⟩ := lim_some h
    cases n with
    | zero => cases hn
    | succ n =>
      rw [loopG] at hn
      exact hb.mono (fun e s r hr => roundG_mono (fun s r h => (hrise s).lim h) hr) hn
  · intro h
    rcases hb st with hx | ⟨e, s, hx⟩
    · rw [hx] at h; cases h
    · have : ∃ n, loopG body mk (n + 1) st K = some r := by
        rw [hx] at h
        simp only [loopG]
        rw [hx]
        simp only
        cases e with
        | normal =>
          simp only [roundG, grd] at h ⊢
          cases hf : fits mk.head s.tmps with
          | true => rw [hf] at h; exact lim_some h
          | false => rw [hf] at h; cases h
        | exit id => exact ⟨0, h⟩
        | ret => exact ⟨0, h⟩
      obtain ⟨n, hn⟩ := this
      exact (hrise st).lim hn
theorem loopG_lin {body : St → (Ex → St → Option R) → Option R} (hb : Lin body) (mk : Masks) : ∀ n, Lin (loopG body mk n)
  | 0 => fun st => .inl rfl
  | n + 1 => fun st => by
    have ih := loopG_lin hb mk n
    rcases hb st with hx | ⟨e, s, hx⟩
    · left; funext K; simp only [loopG]; rw [hx]
    · cases e with
      | normal =>
        have : loopG body mk (n + 1) st = fun K => grd mk.head s fun s' => loopG body mk n s' K := by
          funext K; simp only [loopG]; rw [hx]
        rw [this]
        exact grd_lin ih
      | exit id =>
        have : loopG body mk (n + 1) st = fun K => grd mk.out s (K (.exit id)) := by
          funext K; simp only [loopG]; rw [hx]
        rw [this]
        unfold grd
        cases fits mk.out s.tmps with
        | false => exact .inl rfl
        | true => exact .inr ⟨_, _, rfl⟩
      | ret =>
        have : loopG body mk (n + 1) st = fun K => grd mk.ret s (K .ret) := by
          funext K; simp only [loopG]; rw [hx]
        rw [this]
        unfold grd
        cases fits mk.ret s.tmps with
        | false => exact .inl rfl
        | true => exact .inr ⟨_, _, rfl⟩
open Classical in
theorem loopW_lin {body : St → (Ex → St → Option R) → Option R} (hb : Lin body) (mk : Masks) : Lin (loopW body mk) := by
  intro st
  by_cases h : ∃ n e s, loopG body mk n st = fun K => K e s
  · obtain ⟨n, e, s, hn⟩ := h
    right
    refine ⟨e, s, ?_⟩
    funext K
    apply opt_ext
    intro r
    have hrise : Rise fun n => loopG body mk n st K := fun n r h => loopG_rise hb mk K n st r h
    constructor
    · intro hr
      obtain ⟨n', hn'⟩ := lim_some hr
      have h1 : loopG body mk (max n n') st K = some r := hrise.le (Nat.le_max_right n n') hn'
      cases hk : K e s with
      | some r' =>
        have h2 : loopG body mk (max n n') st K = some r' := hrise.le (Nat.le_max_left n n') (r := r') (by simp only [hn]; exact hk)
        rw [h2] at h1
        exact h1
      | none =>
        rcases loopG_lin hb mk (max n n') st with hx | ⟨e', s', hx⟩
        · rw [hx] at h1; cases h1
        · have h3 : loopG body mk (max n n') st (fun e2 s2 => if e2 = e ∧ s2 = s then some r else none) = some r := by
            have hrise' : Rise fun n => loopG body mk n st (fun e2 s2 => if e2 = e ∧ s2 = s then some r else none) := fun n r h => loopG_rise hb mk _ n st r h
            exact hrise'.le (Nat.le_max_left n n') (by simp only [hn]; simp)
          rw [hx] at h3 h1
          simp only at h3 h1
          split at h3
          · rename_i he; obtain ⟨rfl, rfl⟩ := he; rw [hk] at h1; cases h1
          · cases h3
    · intro hr
      exact hrise.lim (k := n) (by simp only [hn]; exact hr)
  · left
    funext K
    have : ∀ r, ¬ loopW body mk st K = some r := by
      intro r hr
      obtain ⟨n, hn⟩ := lim_some hr
      rcases loopG_lin hb mk n st with hx | ⟨e, s, hx⟩
      · rw [hx] at hn; cases hn
      · exact h ⟨n, e, s, hx⟩
    cases hx : loopW body mk st K with
    | none => rfl
    | some r => exact absurd hx (this r)

section
variable {C : Cfg} {fid : Nat} {callP : Nat → List AV → Option AV} {callI : Nat → List AV → Mem → Option (AV × Mem)}
theorem execW_lin : ∀ c : Code, Lin (R := R) (execW C fid callP callI c) := by
  intro c
  induction c with
  | skip => exact fun st => .inr ⟨.normal, st, rfl⟩
  | region id ops d =>
    intro st
    cases d with
    | false =>
      have : execW (R := R) C fid callP callI (.region id ops false) st = fun K => runOps C fid callP callI none ops (List.range ops.size) st (K .normal) := by funext K; simp only [execW]
      rw [this]; exact runOps_lin ..
    | true =>
      cases hd : drawOk3 C.P ops (ordOf (C.ord fid id) ops.size) (C.ahd fid id) (C.two fid id) with
      | true =>
        have : execW (R := R) C fid callP callI (.region id ops true) st = fun K => runOps C fid callP callI (some st.mem.length) ops (ordOf (C.ord fid id) ops.size) ⟨st.tmps, reserve st.mem (rankA ops ops.size)⟩ (fun st' => twoK C.P ops st' (K .normal) (C.two fid id)) := by funext K; simp only [execW, hd]
        rw [this]
        have hl := runOps_eq (R := R) (C := C) (fid := fid) (callP := callP) (callI := callI) (some st.mem.length) ops (ordOf (C.ord fid id) ops.size) ⟨st.tmps, reserve st.mem (rankA ops ops.size)⟩
        cases hr : runF C fid callP callI (some st.mem.length) ops (ordOf (C.ord fid id) ops.size) ⟨st.tmps, reserve st.mem (rankA ops ops.size)⟩ with
        | none => left; funext K; rw [hl, hr]; rfl
        | some s =>
          rcases twoK_lin (R := R) C.P ops s (C.two fid id) with ht | ht
          · left; funext K; rw [hl, hr]; exact ht _
          · right; exact ⟨.normal, s, by funext K; rw [hl, hr]; exact ht _⟩
      | false => left; funext K; simp only [execW, hd]
  | seq a b iha ihb =>
    intro st
    rcases iha st with h | ⟨e, s, h⟩
    · left; funext K; simp only [execW, h]
    · cases e with
      | normal =>
        rcases ihb s with h' | ⟨e', s', h'⟩
        · left; funext K; simp only [execW, h, seqK, h']
        · right; refine ⟨e', s', ?_⟩; funext K; simp only [execW, h, seqK, h']
      | exit id => right; refine ⟨.exit id, s, ?_⟩; funext K; simp only [execW, h, seqK]
      | ret => right; refine ⟨.ret, s, ?_⟩; funext K; simp only [execW, h, seqK]
  | cond co a b iha ihb =>
    intro st
    cases hv : ev st.tmps co with
    | bool v =>
      cases v with
      | true =>
        have : execW (R := R) C fid callP callI (.cond co a b) st = execW C fid callP callI a st := by funext K; simp only [execW, hv, ifA]
        rw [this]; exact iha st
      | false =>
        have : execW (R := R) C fid callP callI (.cond co a b) st = execW C fid callP callI b st := by funext K; simp only [execW, hv, ifA]
        rw [this]; exact ihb st
    | _ => left; funext K; simp only [execW, hv, ifA]
  | block id b ih =>
    intro st
    rcases ih st with h | ⟨e, s, h⟩
    · left; funext K; simp only [execW, h]
    · cases e with
      | normal => right; refine ⟨.normal, s, ?_⟩; funext K; simp only [execW, h, blockK]
      | exit j =>
        cases hj : j == id with
        | true => right; refine ⟨.normal, s, ?_⟩; funext K; simp only [execW, h, blockK, hj]
        | false => right; refine ⟨.exit j, s, ?_⟩; funext K; simp only [execW, h, blockK, hj]
      | ret => right; refine ⟨.ret, s, ?_⟩; funext K; simp only [execW, h, blockK]
  | loop b ih =>
    intro st
    have : execW (R := R) C fid callP callI (.loop b) st = fun K => grd (C.mask fid (keyOf b)).head st fun st' => loopW (execW C fid callP callI b) (C.mask fid (keyOf b)) st' K := by funext K; simp only [execW]
    rw [this]; exact grd_lin (loopW_lin ih _)
  | exit id => exact fun st => .inr ⟨.exit id, st, rfl⟩
  | ret => exact fun st => .inr ⟨.ret, st, rfl⟩
  | rangeFunc => exact fun st => .inl rfl
  | scope => exact fun st => .inl rfl
  | label => exact fun st => .inl rfl
  | goto => exact fun st => .inl rfl
  | refuse => exact fun st => .inl rfl
end

/-! ### More callees known, more answers -/
section
variable {C : Cfg} {fid : Nat} {cp cp' : Nat → List AV → Option AV} {ci ci' : Nat → List AV → Mem → Option (AV × Mem)}
def CLe (cp cp' : Nat → List AV → Option AV) (ci ci' : Nat → List AV → Mem → Option (AV × Mem)) : Prop := (∀ g vs v, cp g vs = some v → cp' g vs = some v) ∧ ∀ g vs m r, ci g vs m = some r → ci' g vs m = some r
theorem callK_le (h : CLe cp cp' ci ci') {d : Option Nat} {g : Nat} {vs : List AV} {m : Mem} {K : AV → Mem → Option R} {x : R} (hx : callK C fid cp ci d g vs m K = some x) : callK C fid cp' ci' d g vs m K = some x := by
  unfold callK at hx ⊢
  cases hl : C.lib g with
  | some l => rw [hl] at hx; exact hx
  | none =>
    rw [hl] at hx
    simp only at hx ⊢
    cases hi : C.inl fid g with
    | true =>
      rw [hi] at hx
      cases d with
      | some d => exact hx
      | none =>
        simp only [Option.bind_eq_some_iff] at hx ⊢
        obtain ⟨r, hr, hx⟩ := hx
        cases ht : C.thaw fid g with
        | false => rw [ht] at hr; exact ⟨r, h.2 _ _ _ _ hr, hx⟩
        | true =>
          rw [ht] at hr
          simp only [thawCall, Option.bind_eq_some_iff] at hr ⊢
          obtain ⟨r1, h1, q, h2, h3⟩ := hr
          exact ⟨r, ⟨r1, h1, q, h.2 _ _ _ _ h2, h3⟩, hx⟩
    | false =>
      rw [hi] at hx
      simp only [Option.bind_eq_some_iff] at hx ⊢
      obtain ⟨r, hr, hx⟩ := hx
      refine ⟨r, ?_, hx⟩
      unfold pcall at hr ⊢
      simp only [Option.bind_eq_some_iff] at hr ⊢
      obtain ⟨r1, h1, h2⟩ := hr
      refine ⟨r1, h1, ?_⟩
      split at h2
      · cases h2
      · rename_i hne
        rw [if_neg hne]
        simp only [Option.map_eq_some_iff] at h2 ⊢
        obtain ⟨v, hv, h2⟩ := h2
        exact ⟨v, h.1 _ _ _ hv, h2⟩
theorem opF_le (h : CLe cp cp' ci ci') {d : Option Nat} {o : Oper} {ρ : Operand → AV} {m : Mem} {x : AV × Mem} (hx : opF C fid cp ci d o ρ m = some x) : opF C fid cp' ci' d o ρ m = some x := by
  unfold opF opK at hx ⊢
  cases ho : o.op with
  | call c =>
    rw [ho] at hx
    simp only at hx ⊢
    cases hc : c.callee with
    | value f =>
      rw [hc] at hx
      simp only [Option.bind_eq_some_iff] at hx ⊢
      obtain ⟨gc, h1, hx⟩ := hx
      exact ⟨gc, h1, callK_le h hx⟩
    | _ => rw [hc] at hx; exact hx
  | _ => rw [ho] at hx; exact hx
theorem stepF_le (h : CLe cp cp' ci ci') {base : Option Nat} {ops : Array Oper} {i : Nat} {st s : St} (hx : stepF C fid cp ci base ops i st = some s) : stepF C fid cp' ci' base ops i st = some s := by
  unfold stepF at hx ⊢
  cases hi : ops[i]? with
  | none => rw [hi] at hx; cases hx
  | some o =>
    rw [hi] at hx
    simp only [Option.map_eq_some_iff] at hx ⊢
    obtain ⟨r, hr, hx⟩ := hx
    refine ⟨r, ?_, hx⟩
    unfold opG at hr ⊢
    cases hg : o.guard with
    | none => rw [hg] at hr; exact opF_le h hr
    | some jw =>
      obtain ⟨j, want⟩ := jw
      rw [hg] at hr
      simp only at hr ⊢
      cases hd : (ops[j]?).bind (·.dst) with
      | none => rw [hd] at hr; cases hr
      | some g =>
        rw [hd] at hr
        simp only at hr ⊢
        split at hr
        · exact hr
        · split at hr
          · split at hr
            · rename_i hb; rw [if_pos hb]; exact opF_le h hr
            · rename_i hb; rw [if_neg hb]; exact hr
          · cases hr
theorem runF_le (h : CLe cp cp' ci ci') {base : Option Nat} {ops : Array Oper} : ∀ (l : List Nat) {st s : St}, runF C fid cp ci base ops l st = some s → runF C fid cp' ci' base ops l st = some s
  | [], _, _, hx => hx
  | i :: l, st, s, hx => by
    simp only [runF, Option.bind_eq_some_iff] at hx ⊢
    obtain ⟨s1, h1, h2⟩ := hx
    exact ⟨s1, stepF_le h h1, runF_le h l h2⟩
theorem runOps_le (h : CLe cp cp' ci ci') {base : Option Nat} {ops : Array Oper} {l : List Nat} {st : St} {K : St → Option R} {r : R} (hx : runOps C fid cp ci base ops l st K = some r) : runOps C fid cp' ci' base ops l st K = some r := by
  rw [runOps_eq] at hx ⊢
  simp only [Option.bind_eq_some_iff] at hx ⊢
  obtain ⟨s, h1, h2⟩ := hx
  exact ⟨s, runF_le h l h1, h2⟩
theorem execW_le (h : CLe cp cp' ci ci') : ∀ (c : Code) (st : St) (K : Ex → St → Option R) (r : R), execW C fid cp ci c st K = some r → execW C fid cp' ci' c st K = some r := by
  intro c
  induction c with
  | region id ops d =>
    intro st K r hx
    cases d with
    | false => simp only [execW] at hx ⊢; exact runOps_le h hx
    | true =>
      simp only [execW] at hx ⊢
      cases hd : drawOk3 C.P ops (ordOf (C.ord fid id) ops.size) (C.ahd fid id) (C.two fid id) with
      | true => rw [hd] at hx; exact runOps_le h hx
      | false => rw [hd] at hx; cases hx
  | seq a b iha ihb =>
    intro st K r hx
    simp only [execW] at hx ⊢
    have h1 := iha _ _ _ hx
    refine (execW_lin a).mono (fun e s r hr => ?_) h1
    cases e with
    | normal => exact ihb _ _ _ hr
    | exit id => exact hr
    | ret => exact hr
  | cond co a b iha ihb =>
    intro st K r hx
    simp only [execW] at hx ⊢
    unfold ifA at hx ⊢
    split at hx
    · split at hx
      · exact iha _ _ _ hx
      · exact ihb _ _ _ hx
    · cases hx
  | block id b ih =>
    intro st K r hx
    simp only [execW] at hx ⊢
    exact ih _ _ _ hx
  | loop b ih =>
    intro st K r hx
    simp only [execW, grd] at hx ⊢
    cases hf : fits (C.mask fid (keyOf b)).head st.tmps with
    | false => rw [hf] at hx; cases hx
    | true =>
      rw [hf] at hx
      simp only at hx ⊢
      obtain ⟨n, hn⟩ := lim_some hx
      have : ∀ n st, loopG (execW C fid cp ci b) (C.mask fid (keyOf b)) n st K = some r → loopG (execW C fid cp' ci' b) (C.mask fid (keyOf b)) n st K = some r := by
        intro n
        induction n with
        | zero => intro st hx; cases hx
        | succ n ihn =>
          intro st hx
          simp only [loopG] at hx ⊢
          have h1 := ih _ _ _ hx
          rcases execW_lin (R := R) (C := C) (fid := fid) (callP := cp') (callI := ci') b st with hl | ⟨e, s, hl⟩
          · rw [hl] at h1; cases h1
          · rw [hl] at h1 ⊢
            simp only at h1 ⊢
            cases e with
            | normal =>
              simp only [roundG, grd] at h1 ⊢
              cases hf' : fits (C.mask fid (keyOf b)).head s.tmps with
              | true => rw [hf'] at h1; exact ihn _ h1
              | false => rw [hf'] at h1; cases h1
            | exit id => exact h1
            | ret => exact h1
      exact Rise.lim (F := fun n => loopG (execW C fid cp' ci' b) (C.mask fid (keyOf b)) n _ K) (fun n r h => loopG_rise (execW_lin b) _ K n _ r h) (this n _ hn)
  | _ => intro st K r hx; exact hx
end

/-! ### At the limit -/
structure Chain where
  cp : Nat → Nat → List AV → Option AV
  ci : Nat → Nat → List AV → Mem → Option (AV × Mem)
  le : ∀ k, CLe (cp k) (cp (k + 1)) (ci k) (ci (k + 1))
theorem CLe.refl (cp : Nat → List AV → Option AV) (ci : Nat → List AV → Mem → Option (AV × Mem)) : CLe cp cp ci ci := ⟨fun _ _ _ h => h, fun _ _ _ _ h => h⟩
theorem CLe.trans {a b c : Nat → List AV → Option AV} {a' b' c' : Nat → List AV → Mem → Option (AV × Mem)} (h : CLe a b a' b') (h' : CLe b c b' c') : CLe a c a' c' := ⟨fun g vs v x => h'.1 g vs v (h.1 g vs v x), fun g vs m r x => h'.2 g vs m r (h.2 g vs m r x)⟩
theorem Chain.up (X : Chain) {k n : Nat} (h : k ≤ n) : CLe (X.cp k) (X.cp n) (X.ci k) (X.ci n) := by
  induction h with
  | refl => exact CLe.refl _ _
  | step _ ih => exact ih.trans (X.le _)
/-- All that the limit answers some one answers. -/
structure Tends (X : Chain) (cp : Nat → List AV → Option AV) (ci : Nat → List AV → Mem → Option (AV × Mem)) : Prop where
  p : ∀ g vs v, cp g vs = some v → ∃ k, X.cp k g vs = some v
  i : ∀ g vs m r, ci g vs m = some r → ∃ k, X.ci k g vs m = some r
section
variable {X : Chain} {C : Cfg} {fid : Nat} {cp : Nat → List AV → Option AV} {ci : Nat → List AV → Mem → Option (AV × Mem)}
theorem callK_at (h : Tends X cp ci) {d : Option Nat} {g : Nat} {vs : List AV} {m : Mem} {K : AV → Mem → Option R} {x : R} (hx : callK C fid cp ci d g vs m K = some x) : ∃ k, callK C fid (X.cp k) (X.ci k) d g vs m K = some x := by
  unfold callK at hx ⊢
  cases hl : C.lib g with
  | some l => rw [hl] at hx; exact ⟨0, hx⟩
  | none =>
    rw [hl] at hx
    simp only at hx ⊢
    cases hi : C.inl fid g with
    | true =>
      rw [hi] at hx
      cases d with
      | some d => exact ⟨0, hx⟩
      | none =>
        simp only [Option.bind_eq_some_iff] at hx ⊢
        obtain ⟨r, hr, hx⟩ := hx
        cases ht : C.thaw fid g with
        | false =>
          rw [ht] at hr
          obtain ⟨k, hk⟩ := h.i _ _ _ _ hr
          exact ⟨k, r, hk, hx⟩
        | true =>
          rw [ht] at hr
          simp only [thawCall, Option.bind_eq_some_iff] at hr ⊢
          obtain ⟨r1, h1, q, h2, h3⟩ := hr
          obtain ⟨k, hk⟩ := h.i _ _ _ _ h2
          exact ⟨k, r, ⟨r1, h1, q, hk, h3⟩, hx⟩
    | false =>
      rw [hi] at hx
      simp only [Option.bind_eq_some_iff] at hx ⊢
      obtain ⟨r, hr, hx⟩ := hx
      unfold pcall at hr
      simp only [Option.bind_eq_some_iff] at hr
      obtain ⟨r1, h1, h2⟩ := hr
      split at h2
      · cases h2
      · rename_i hne
        simp only [Option.map_eq_some_iff] at h2
        obtain ⟨v, hv, h2⟩ := h2
        obtain ⟨k, hk⟩ := h.p _ _ _ hv
        refine ⟨k, r, ?_, hx⟩
        unfold pcall
        simp only [Option.bind_eq_some_iff]
        refine ⟨r1, h1, ?_⟩
        rw [if_neg hne]
        simp only [Option.map_eq_some_iff]
        exact ⟨v, hk, h2⟩
theorem opF_at (h : Tends X cp ci) {d : Option Nat} {o : Oper} {ρ : Operand → AV} {m : Mem} {x : AV × Mem} (hx : opF C fid cp ci d o ρ m = some x) : ∃ k, opF C fid (X.cp k) (X.ci k) d o ρ m = some x := by
  unfold opF opK at hx ⊢
  cases ho : o.op with
  | call c =>
    rw [ho] at hx
    simp only at hx ⊢
    cases hc : c.callee with
    | value f =>
      rw [hc] at hx
      simp only [Option.bind_eq_some_iff] at hx ⊢
      obtain ⟨gc, h1, hx⟩ := hx
      obtain ⟨k, hk⟩ := callK_at h hx
      exact ⟨k, gc, h1, hk⟩
    | _ => rw [hc] at hx; exact ⟨0, hx⟩
  | _ => rw [ho] at hx; exact ⟨0, hx⟩
theorem stepF_at (h : Tends X cp ci) {base : Option Nat} {ops : Array Oper} {i : Nat} {st s : St} (hx : stepF C fid cp ci base ops i st = some s) : ∃ k, stepF C fid (X.cp k) (X.ci k) base ops i st = some s := by
  unfold stepF at hx ⊢
  cases hi : ops[i]? with
  | none => rw [hi] at hx; cases hx
  | some o =>
    rw [hi] at hx
    simp only [Option.map_eq_some_iff] at hx ⊢
    obtain ⟨r, hr, hx⟩ := hx
    unfold opG at hr ⊢
    cases hg : o.guard with
    | none => rw [hg] at hr; obtain ⟨k, hk⟩ := opF_at h hr; exact ⟨k, r, hk, hx⟩
    | some jw =>
      obtain ⟨j, want⟩ := jw
      rw [hg] at hr
      simp only at hr ⊢
      cases hd : (ops[j]?).bind (·.dst) with
      | none => rw [hd] at hr; cases hr
      | some g =>
        rw [hd] at hr
        simp only at hr ⊢
        split at hr
        · exact ⟨0, r, hr, hx⟩
        · split at hr
          · split at hr
            · rename_i hb; subst hb; obtain ⟨k, hk⟩ := opF_at h hr; exact ⟨k, r, by simpa using hk, hx⟩
            · rename_i hb; exact ⟨0, r, by rw [if_neg hb]; exact hr, hx⟩
          · cases hr
theorem runF_at (h : Tends X cp ci) {base : Option Nat} {ops : Array Oper} : ∀ (l : List Nat) {st s : St}, runF C fid cp ci base ops l st = some s → ∃ k, runF C fid (X.cp k) (X.ci k) base ops l st = some s
  | [], _, _, hx => ⟨0, hx⟩
  | i :: l, st, s, hx => by
    simp only [runF, Option.bind_eq_some_iff] at hx ⊢
    obtain ⟨s1, h1, h2⟩ := hx
    obtain ⟨k1, h1⟩ := stepF_at h h1
    obtain ⟨k2, h2⟩ := runF_at h l h2
    exact ⟨max k1 k2, s1, stepF_le (X.up (Nat.le_max_left ..)) h1, runF_le (X.up (Nat.le_max_right ..)) l h2⟩
theorem runOps_at (h : Tends X cp ci) {base : Option Nat} {ops : Array Oper} {l : List Nat} {st : St} {K : St → Option R} {r : R} (hx : runOps C fid cp ci base ops l st K = some r) : ∃ k, runOps C fid (X.cp k) (X.ci k) base ops l st K = some r := by
  rw [runOps_eq] at hx
  simp only [Option.bind_eq_some_iff] at hx
  obtain ⟨s, h1, h2⟩ := hx
  obtain ⟨k, h1⟩ := runF_at h l h1
  exact ⟨k, by rw [runOps_eq, h1]; exact h2⟩
/-- A run that ends in the row's run. -/
theorem lin_end {f : St → (Ex → St → Option R) → Option R} (hf : Lin f) {st : St} {K : Ex → St → Option R} {r : R} (h : f st K = some r) : ∃ e s, K e s = some r ∧ ∀ K', f st K' = K' e s := by
  rcases hf st with hx | ⟨e, s, hx⟩
  · rw [hx] at h; cases h
  · exact ⟨e, s, by rw [hx] at h; exact h, fun K' => by rw [hx]⟩
theorem execW_at (h : Tends X cp ci) : ∀ (c : Code) (st : St) (K : Ex → St → Option R) (r : R), execW C fid cp ci c st K = some r → ∃ k, execW C fid (X.cp k) (X.ci k) c st K = some r := by
  intro c
  induction c with
  | region id ops d =>
    intro st K r hx
    cases d with
    | false => simp only [execW] at hx ⊢; exact runOps_at h hx
    | true =>
      simp only [execW] at hx ⊢
      cases hd : drawOk3 C.P ops (ordOf (C.ord fid id) ops.size) (C.ahd fid id) (C.two fid id) with
      | true => rw [hd] at hx; exact runOps_at h hx
      | false => rw [hd] at hx; cases hx
  | seq a b iha ihb =>
    intro st K r hx
    simp only [execW] at hx ⊢
    obtain ⟨k1, h1⟩ := iha _ _ _ hx
    obtain ⟨e, s, h2, h3⟩ := lin_end (execW_lin a) h1
    cases e with
    | normal =>
      obtain ⟨k2, h4⟩ := ihb _ _ _ h2
      refine ⟨max k1 k2, ?_⟩
      have h5 : execW C fid (X.cp k1) (X.ci k1) a st (seqK (fun st' => execW C fid (X.cp (max k1 k2)) (X.ci (max k1 k2)) b st' K) K) = some r := by
        rw [h3]; exact execW_le (X.up (Nat.le_max_right ..)) b _ _ _ h4
      exact execW_le (X.up (Nat.le_max_left ..)) a _ _ _ h5
    | exit id => exact ⟨k1, by rw [h3]; exact h2⟩
    | ret => exact ⟨k1, by rw [h3]; exact h2⟩
  | cond co a b iha ihb =>
    intro st K r hx
    simp only [execW] at hx ⊢
    unfold ifA at hx ⊢
    split at hx
    · split at hx
      · exact iha _ _ _ hx
      · exact ihb _ _ _ hx
    · cases hx
  | block id b ih =>
    intro st K r hx
    simp only [execW] at hx ⊢
    exact ih _ _ _ hx
  | loop b ih =>
    intro st K r hx
    simp only [execW, grd] at hx ⊢
    cases hf : fits (C.mask fid (keyOf b)).head st.tmps with
    | false => rw [hf] at hx; cases hx
    | true =>
      rw [hf] at hx
      simp only at hx ⊢
      obtain ⟨n, hn⟩ := lim_some hx
      have : ∀ n st, loopG (execW C fid cp ci b) (C.mask fid (keyOf b)) n st K = some r → ∃ k, loopW (execW C fid (X.cp k) (X.ci k) b) (C.mask fid (keyOf b)) st K = some r := by
        intro n
        induction n with
        | zero => intro st hx; cases hx
        | succ n ihn =>
          intro st hx
          simp only [loopG] at hx
          obtain ⟨k1, h1⟩ := ih _ _ _ hx
          obtain ⟨e, s, h2, h3⟩ := lin_end (execW_lin b) h1
          have fin : (∀ k, k1 ≤ k → roundG (fun st' => loopW (execW C fid (X.cp k) (X.ci k) b) (C.mask fid (keyOf b)) st' K) (C.mask fid (keyOf b)) K e s = some r → loopW (execW C fid (X.cp k) (X.ci k) b) (C.mask fid (keyOf b)) st K = some r) := by
            intro k hk hr
            rw [loopW_eq (execW_lin b)]
            exact execW_le (X.up hk) b _ _ _ (by rw [h3]; exact hr)
          cases e with
          | normal =>
            simp only [roundG, grd] at h2
            cases hf' : fits (C.mask fid (keyOf b)).head s.tmps with
            | true =>
              rw [hf'] at h2
              obtain ⟨k2, h4⟩ := ihn _ h2
              refine ⟨max k1 k2, fin _ (Nat.le_max_left ..) ?_⟩
              simp only [roundG, grd, hf']
              have h5 : execW C fid (X.cp k2) (X.ci k2) (.loop b) ⟨rb (C.mask fid (keyOf b)).head s.tmps, s.mem⟩ K = loopW (execW C fid (X.cp k2) (X.ci k2) b) (C.mask fid (keyOf b)) ⟨rb (C.mask fid (keyOf b)).head s.tmps, s.mem⟩ K := by
                have hfr : ∀ (bs : List Bool) (ts : List AV), fits bs (rb bs ts) = true := by
                  intro bs
                  induction bs with
                  | nil => intro ts; rfl
                  | cons b bs ihb => intro ts; simp only [rb, fits]; exact ihb _
                simp only [execW, grd, hfr, rb_idem]
              have h6 := execW_le (C := C) (fid := fid) (X.up (Nat.le_max_right k1 k2)) (.loop b) _ _ _ (h5.trans h4)
              have hfr : ∀ (bs : List Bool) (ts : List AV), fits bs (rb bs ts) = true := by
                intro bs
                induction bs with
                | nil => intro ts; rfl
                | cons b bs ihb => intro ts; simp only [rb, fits]; exact ihb _
              simpa only [execW, grd, hfr, rb_idem] using h6
            | false => rw [hf'] at h2; cases h2
          | exit id => exact ⟨k1, fin _ (Nat.le_refl _) h2⟩
          | ret => exact ⟨k1, fin _ (Nat.le_refl _) h2⟩
      exact this n _ hn
  | _ => intro st K r hx; exact ⟨0, hx⟩
end

/-! ### Calls -/
noncomputable def acallW (C : Cfg) : Nat → Nat → List AV → Mem → Option (AV × Mem)
  | 0, _, _, _ => none
  | k + 1, f, args, m => match C.P.funcs[f]? with
    | none => none
    | some fn => match fn.body with
      | none => none
      | some c => execW C f (acallP (acallW C k)) (acallW C k) c ⟨args ++ List.replicate (fn.ntmps - args.length) .any, m⟩ (finK C.P fn.results.toList)
noncomputable def AC (C : Cfg) (f : Nat) (args : List AV) (m : Mem) : Option (AV × Mem) := lim fun k => acallW C k f args m
noncomputable def AP (C : Cfg) : Nat → List AV → Option AV := acallP (AC C)
theorem acallP_le {ci ci' : Nat → List AV → Mem → Option (AV × Mem)} (h : ∀ g vs m r, ci g vs m = some r → ci' g vs m = some r) : CLe (acallP ci) (acallP ci') ci ci' := by
  refine ⟨fun g vs v hx => ?_, h⟩
  unfold acallP at hx ⊢
  simp only [Option.bind_eq_some_iff] at hx ⊢
  obtain ⟨r, h1, h2⟩ := hx
  exact ⟨r, h _ _ _ _ h1, h2⟩
theorem acallW_rise (C : Cfg) : ∀ k f args m r, acallW C k f args m = some r → acallW C (k + 1) f args m = some r := by
  intro k
  induction k with
  | zero => intro f args m r h; cases h
  | succ k ih =>
    intro f args m r h
    rw [acallW] at h ⊢
    cases hf : C.P.funcs[f]? with
    | none => rw [hf] at h; cases h
    | some fn =>
      rw [hf] at h
      simp only at h ⊢
      cases hb : fn.body with
      | none => rw [hb] at h; cases h
      | some c =>
        rw [hb] at h
        exact execW_le (acallP_le fun g vs m r => ih g vs m r) c _ _ _ h
noncomputable def chainOf (C : Cfg) : Chain := ⟨fun k => acallP (acallW C k), fun k => acallW C k, fun k => acallP_le (acallW_rise C k)⟩
theorem tends (C : Cfg) : Tends (chainOf C) (AP C) (AC C) := by
  refine ⟨fun g vs v h => ?_, fun g vs m r h => lim_some h⟩
  unfold AP acallP at h
  simp only [Option.bind_eq_some_iff] at h
  obtain ⟨r, h1, h2⟩ := h
  obtain ⟨k, hk⟩ := lim_some h1
  refine ⟨k, ?_⟩
  show acallP (acallW C k) g vs = some v
  unfold acallP
  simp only [Option.bind_eq_some_iff]
  exact ⟨r, hk, h2⟩
theorem AC_eq (C : Cfg) (f : Nat) (args : List AV) (m : Mem) {fn : Func} {c : Code} (hf : C.P.funcs[f]? = some fn) (hb : fn.body = some c) :
    AC C f args m = execW C f (AP C) (AC C) c ⟨args ++ List.replicate (fn.ntmps - args.length) .any, m⟩ (finK C.P fn.results.toList) := by
  apply opt_ext
  intro r
  constructor
  · intro h
    obtain ⟨k, hk⟩ := lim_some h
    cases k with
    | zero => cases hk
    | succ k =>
      rw [acallW, hf] at hk
      simp only [hb] at hk
      exact execW_le (acallP_le fun g vs m r hr => Rise.lim (F := fun k => acallW C k g vs m) (fun k r h => acallW_rise C k g vs m r h) hr) c _ _ _ hk
  · intro h
    obtain ⟨k, hk⟩ := execW_at (tends C) c _ _ _ h
    refine Rise.lim (F := fun k => acallW C k f args m) (fun k r h => acallW_rise C k f args m r h) (k := k + 1) ?_
    show acallW C (k + 1) f args m = some r
    rw [acallW, hf]
    simp only [hb]
    exact hk
end
theorem runF_app {C : Cfg} {fid : Nat} {cp : Nat → List AV → Option AV} {ci : Nat → List AV → Mem → Option (AV × Mem)} (base : Option Nat) (ops : Array Oper) : ∀ (l l' : List Nat) (st : St), runF C fid cp ci base ops (l ++ l') st = (runF C fid cp ci base ops l st).bind (runF C fid cp ci base ops l')
  | [], l', st => rfl
  | i :: l, l', st => by
    simp only [List.cons_append, runF, Option.bind_assoc]
    congr 1; funext s; exact runF_app base ops l l' s
theorem runOps_app {R : Type} {C : Cfg} {fid : Nat} {cp : Nat → List AV → Option AV} {ci : Nat → List AV → Mem → Option (AV × Mem)} (base : Option Nat) (ops : Array Oper) (l l' : List Nat) (st : St) (K : St → Option R) :
    runOps C fid cp ci base ops (l ++ l') st K = runOps C fid cp ci base ops l st fun st => runOps C fid cp ci base ops l' st K := by
  simp only [runOps_eq, runF_app, Option.bind_assoc]
end Go.Ab
