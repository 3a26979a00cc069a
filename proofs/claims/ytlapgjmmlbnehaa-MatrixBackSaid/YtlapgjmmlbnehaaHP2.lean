/- The interpreter without fuel: what all runs with fuel tend to. -/
import Derived.Test.YtlapgjmmlbnehaaHP1
import Derived.Test.YtlapgjmmlbnehaaProg
set_option linter.unusedVariables false
set_option linter.unusedSimpArgs false
set_option linter.unusedSectionVars false
namespace Go.Ab

/-! ### What a rising row of answers tends to -/
def Rise {R : Type} (F : Nat → Option R) : Prop := ∀ k r, F k = some r → F (k + 1) = some r
theorem Rise.le {R : Type} {F : Nat → Option R} (h : Rise F) {k n : Nat} (hn : k ≤ n) {r : R} (hr : F k = some r) : F n = some r := by
  induction hn with
  | refl => exact hr
  | step _ ih => exact h _ _ ih
open Classical in
noncomputable def lim {R : Type} (F : Nat → Option R) : Option R := if h : ∃ k r, F k = some r then F h.choose else none
theorem lim_some {R : Type} {F : Nat → Option R} {r : R} (h : lim F = some r) : ∃ k, F k = some r := by
  unfold lim at h
  split at h
  · exact ⟨_, h⟩
  · cases h
theorem Rise.lim {R : Type} {F : Nat → Option R} (h : Rise F) {k : Nat} {r : R} (hr : F k = some r) : lim F = some r := by
  have hx : ∃ k r, F k = some r := ⟨k, r, hr⟩
  unfold Ab.lim
  rw [dif_pos hx]
  obtain ⟨r', hr'⟩ := hx.choose_spec
  have h1 := h.le (Nat.le_max_left k hx.choose) hr
  have h2 := h.le (Nat.le_max_right k hx.choose) hr'
  rw [h1] at h2
  rw [hr', ← Option.some.inj h2]
theorem opt_ext {R : Type} {x y : Option R} (h : ∀ r, x = some r ↔ y = some r) : x = y := Option.ext h

section
variable {R : Type}

/-! ### Loops -/
def fits : List Bool → List AV → Bool
  | [], [] => true
  | _ :: bs, _ :: ts => fits bs ts
  | _, _ => false
/-- The slots that the mask keeps, as they stand. -/
def rb : List Bool → List AV → List AV
  | [], _ => []
  | b :: bs, ts => (match b with | true => ts.headD .any | false => .any) :: rb bs ts.tail
theorem rb_fits : ∀ (bs : List Bool) (ts : List AV), fits bs ts = true → rb bs ts = maskA bs ts
  | [], [], _ => rfl
  | b :: bs, t :: ts, h => by
    simp only [rb, maskA, rb_fits bs ts (by simpa [fits] using h), List.tail_cons]
    cases b <;> rfl
  | [], _ :: _, h => by simp [fits] at h
  | _ :: _, [], h => by simp [fits] at h
theorem rb_idem : ∀ (bs : List Bool) (ts : List AV), rb bs (rb bs ts) = rb bs ts
  | [], _ => rfl
  | b :: bs, ts => by
    simp only [rb, List.headD_cons, List.tail_cons, rb_idem bs ts.tail]
    cases b <;> rfl
abbrev grd (bs : List Bool) (st : St) (f : St → Option R) : Option R := match fits bs st.tmps with
  | true => f ⟨rb bs st.tmps, st.mem⟩
  | false => none
abbrev roundG (again : St → Option R) (mk : Masks) (K : Ex → St → Option R) : Ex → St → Option R := fun e st' => match e with
  | .normal => grd mk.head st' again
  | .exit id => grd mk.out st' (K (.exit id))
  | .ret => grd mk.ret st' (K .ret)
def loopG (body : St → (Ex → St → Option R) → Option R) (mk : Masks) : Nat → St → (Ex → St → Option R) → Option R
  | 0, _, _ => none
  | n + 1, st, K => body st (roundG (fun st' => loopG body mk n st' K) mk K)
noncomputable def loopW (body : St → (Ex → St → Option R) → Option R) (mk : Masks) (st : St) (K : Ex → St → Option R) : Option R := lim fun n => loopG body mk n st K

section
variable (C : Cfg) (fid : Nat) (callP : Nat → List AV → Option AV) (callI : Nat → List AV → Mem → Option (AV × Mem))
noncomputable def execW : Code → St → (Ex → St → Option R) → Option R
  | .skip, st, K => K .normal st
  | .region id ops d, st, K => match d with
    | false => runOps C fid callP callI none ops (List.range ops.size) st (K .normal)
    | true => match C.seqm fid id with
    | true => (match drawS C.P ops (ordOf (C.ord fid id) ops.size) (C.ahd fid id) (C.late fid id) with
      | true => runL C fid callP callI (C.late fid id) ops (ordOf (C.ord fid id) ops.size) st (K .normal)
      | false => none)
    | false => match drawOk3 C.P ops (ordOf (C.ord fid id) ops.size) (C.ahd fid id) (C.two fid id) with
      | true => runOps C fid callP callI (some st.mem.length) ops (ordOf (C.ord fid id) ops.size) ⟨st.tmps, reserve st.mem (rankA ops ops.size)⟩ (fun st' => twoK C.P ops st' (K .normal) (C.two fid id))
      | false => none
  | .seq a b, st, K => execW a st (seqK (fun st' => execW b st' K) K)
  | .cond c a b, st, K => ifA (ev st.tmps c) (execW a st K) (execW b st K)
  | .block id b, st, K => execW b st (blockK id K)
  | .loop b, st, K => grd (C.mask fid (keyOf b)).head st fun st' => loopW (execW b) (C.mask fid (keyOf b)) st' K
  | .exit id, st, K => K (.exit id) st
  | .ret, st, K => K .ret st
  | _, _, _ => none
end

/-- What runs with what follows only at its end. -/
def Lin (f : St → (Ex → St → Option R) → Option R) : Prop := ∀ st, f st = (fun _ => none) ∨ ∃ e s, f st = fun K => K e s

theorem runOps_lin (C : Cfg) (fid : Nat) (callP : Nat → List AV → Option AV) (callI : Nat → List AV → Mem → Option (AV × Mem)) (base : Option Nat) (ops : Array Oper) (l : List Nat) (st : St) :
    ((fun K : Ex → St → Option R => runOps C fid callP callI base ops l st (K .normal)) = fun _ => none) ∨ ∃ e s, (fun K : Ex → St → Option R => runOps C fid callP callI base ops l st (K .normal)) = fun K => K e s := by
  cases h : runF C fid callP callI base ops l st with
  | none => left; funext K; rw [runOps_eq, h]; rfl
  | some s => right; refine ⟨.normal, s, ?_⟩; funext K; rw [runOps_eq, h]; rfl

theorem runL_lin (C : Cfg) (fid : Nat) (callP : Nat → List AV → Option AV) (callI : Nat → List AV → Mem → Option (AV × Mem)) (lt : List (Nat × List Nat)) (ops : Array Oper) : ∀ (l : List Nat) (st : St),
    ((fun K : Ex → St → Option R => runL C fid callP callI lt ops l st (K .normal)) = fun _ => none) ∨ ∃ e s, (fun K : Ex → St → Option R => runL C fid callP callI lt ops l st (K .normal)) = fun K => K e s
  | [], st => .inr ⟨.normal, st, rfl⟩
  | i :: l, st => by
    cases h : stepF C fid callP callI none ops i st with
    | none => left; funext K; rw [runL_cons, h]; rfl
    | some s1 =>
      by_cases hc : ∀ y ∈ lateAt lt i, Chk C fid ops y s1
      · rcases runL_lin C fid callP callI lt ops l s1 with hh | ⟨e, s, hh⟩
        · left; funext K; rw [runL_cons, h, Option.bind_some, chkAll_pos hc]; exact congrFun hh K
        · right; exact ⟨e, s, by funext K; rw [runL_cons, h, Option.bind_some, chkAll_pos hc]; exact congrFun hh K⟩
      · left; funext K; rw [runL_cons, h, Option.bind_some, chkAll_neg hc]
theorem grd_lin {bs : List Bool} {st : St} {f : St → (Ex → St → Option R) → Option R} (h : Lin f) : ((fun K => grd bs st fun s => f s K) = fun _ => none) ∨ ∃ e s, (fun K => grd bs st fun s => f s K) = fun K => K e s := by
  unfold grd
  cases fits bs st.tmps with
  | false => exact .inl rfl
  | true => exact h _

theorem roundG_mono {again again' : St → Option R} {mk : Masks} {K : Ex → St → Option R} (h : ∀ s r, again s = some r → again' s = some r) {e : Ex} {s : St} {r : R} (hr : roundG again mk K e s = some r) : roundG again' mk K e s = some r := by
  cases e with
  | normal =>
    simp only [roundG, grd] at hr ⊢
    cases hf : fits mk.head s.tmps with
    | true => rw [hf] at hr; exact h _ _ hr
    | false => rw [hf] at hr; cases hr
  | exit id => exact hr
  | ret => exact hr
theorem Lin.mono {f : St → (Ex → St → Option R) → Option R} (h : Lin f) {st : St} {K K' : Ex → St → Option R} (hK : ∀ e s r, K e s = some r → K' e s = some r) {r : R} (hr : f st K = some r) : f st K' = some r := by
  rcases h st with h | ⟨e, s, h⟩
  · rw [h] at hr; cases hr
  · rw [h] at hr ⊢; exact hK _ _ _ hr
theorem loopG_rise {body : St → (Ex → St → Option R) → Option R} (hb : Lin body) (mk : Masks) (K : Ex → St → Option R) : ∀ n st r, loopG body mk n st K = some r → loopG body mk (n + 1) st K = some r := by
  intro n
  induction n with
  | zero => intro st r h; cases h
  | succ n ih =>
    intro st r h
    rw [loopG] at h ⊢
    exact hb.mono (fun e s r hr => roundG_mono (fun s r => ih s r) hr) h
theorem loopW_eq {body : St → (Ex → St → Option R) → Option R} (hb : Lin body) (mk : Masks) (st : St) (K : Ex → St → Option R) : loopW body mk st K = body st (roundG (fun st' => loopW body mk st' K) mk K) := by
  apply opt_ext
  intro r
  have hrise : ∀ st, Rise fun n => loopG body mk n st K := fun st n r h => loopG_rise hb mk K n st r h
  constructor
  · intro h
    obtain ⟨n, hn⟩ := lim_some h
    cases n with
    | zero => cases hn
    | succ n =>
      rw [loopG] at hn
      exact hb.mono (fun e s r hr => roundG_mono (fun s r h => (hrise s).lim h) hr) hn
  · intro h
    rcases hb st with hx | ⟨e, s, hx⟩
    · rw [hx] at h; cases h
    · have : ∃ n, loopG body mk (n + 1) st K = some r := by
        rw [hx] at h
        simp only [loopG]
        rw [hx]
        simp only
        cases e with
        | normal =>
          simp only [roundG, grd] at h ⊢
          cases hf : fits mk.head s.tmps with
          | true => rw [hf] at h; exact lim_some h
          | false => rw [hf] at h; cases h
        | exit id => exact ⟨0, h⟩
        | ret => exact ⟨0, h⟩
      obtain ⟨n, hn⟩ := this
      exact (hrise st).lim hn
theorem loopG_lin {body : St → (Ex → St → Option R) → Option R} (hb : Lin body) (mk : Masks) : ∀ n, Lin (loopG body mk n)
  | 0 => fun st => .inl rfl
  | n + 1 => fun st => by
    have ih := loopG_lin hb mk n
    rcases hb st with hx | ⟨e, s, hx⟩
    · left; funext K; simp only [loopG]; rw [hx]
    · cases e with
      | normal =>
        have : loopG body mk (n + 1) st = fun K => grd mk.head s fun s' => loopG body mk n s' K := by
          funext K; simp only [loopG]; rw [hx]
        rw [this]
        exact grd_lin ih
      | exit id =>
        have : loopG body mk (n + 1) st = fun K => grd mk.out s (K (.exit id)) := by
          funext K; simp only [loopG]; rw [hx]
        rw [this]
        unfold grd
        cases fits mk.out s.tmps with
        | false => exact .inl rfl
        | true => exact .inr ⟨_, _, rfl⟩
      | ret =>
        have : loopG body mk (n + 1) st = fun K => grd mk.ret s (K .ret) := by
          funext K; simp only [loopG]; rw [hx]
        rw [this]
        unfold grd
        cases fits mk.ret s.tmps with
        | false => exact .inl rfl
        | true => exact .inr ⟨_, _, rfl⟩
open Classical in
theorem loopW_lin {body : St → (Ex → St → Option R) → Option R} (hb : Lin body) (mk : Masks) : Lin (loopW body mk) := by
  intro st
  by_cases h : ∃ n e s, loopG body mk n st = fun K => K e s
  · obtain ⟨n, e, s, hn⟩ := h
    right
    refine ⟨e, s, ?_⟩
    funext K
    apply opt_ext
    intro r
    have hrise : Rise fun n => loopG body mk n st K := fun n r h => loopG_rise hb mk K n st r h
    constructor
    · intro hr
      obtain ⟨n', hn'⟩ := lim_some hr
      have h1 : loopG body mk (max n n') st K = some r := hrise.le (Nat.le_max_right n n') hn'
      cases hk : K e s with
      | some r' =>
        have h2 : loopG body mk (max n n') st K = some r' := hrise.le (Nat.le_max_left n n') (r := r') (by simp only [hn]; exact hk)
        rw [h2] at h1
        exact h1
      | none =>
        rcases loopG_lin hb mk (max n n') st with hx | ⟨e', s', hx⟩
        · rw [hx] at h1; cases h1
        · have h3 : loopG body mk (max n n') st (fun e2 s2 => if e2 = e ∧ s2 = s then some r else none) = some r := by
            have hrise' : Rise fun n => loopG body mk n st (fun e2 s2 => if e2 = e ∧ s2 = s then some r else none) := fun n r h => loopG_rise hb mk _ n st r h
            exact hrise'.le (Nat.le_max_left n n') (by simp only [hn]; simp)
          rw [hx] at h3 h1
          simp only at h3 h1
          split at h3
          · rename_i he; obtain ⟨rfl, rfl⟩ := he; rw [hk] at h1; cases h1
          · cases h3
    · intro hr
      exact hrise.lim (k := n) (by simp only [hn]; exact hr)
  · left
    funext K
    have : ∀ r, ¬ loopW body mk st K = some r := by
      intro r hr
      obtain ⟨n, hn⟩ := lim_some hr
      rcases loopG_lin hb mk n st with hx | ⟨e, s, hx⟩
      · rw [hx] at hn; cases hn
      · exact h ⟨n, e, s, hx⟩
    cases hx : loopW body mk st K with
    | none => rfl
    | some r => exact absurd hx (this r)

section
variable {C : Cfg} {fid : Nat} {callP : Nat → List AV → Option AV} {callI : Nat → List AV → Mem → Option (AV × Mem)}
theorem execW_lin : ∀ c : Code, Lin (R := R) (execW C fid callP callI c) := by
  intro c
  induction c with
  | skip => exact fun st => .inr ⟨.normal, st, rfl⟩
  | region id ops d =>
    intro st
    cases d with
    | false =>
      have : execW (R := R) C fid callP callI (.region id ops false) st = fun K => runOps C fid callP callI none ops (List.range ops.size) st (K .normal) := by funext K; simp only [execW]
      rw [this]; exact runOps_lin ..
    | true =>
      cases hq : C.seqm fid id with
      | true =>
        cases hd : drawS C.P ops (ordOf (C.ord fid id) ops.size) (C.ahd fid id) (C.late fid id) with
        | true =>
          have : execW (R := R) C fid callP callI (.region id ops true) st = fun K => runL C fid callP callI (C.late fid id) ops (ordOf (C.ord fid id) ops.size) st (K .normal) := by funext K; simp only [execW, hq, hd]
          rw [this]; exact runL_lin ..
        | false => left; funext K; simp only [execW, hq, hd]
      | false =>
      cases hd : drawOk3 C.P ops (ordOf (C.ord fid id) ops.size) (C.ahd fid id) (C.two fid id) with
      | true =>
        have : execW (R := R) C fid callP callI (.region id ops true) st = fun K => runOps C fid callP callI (some st.mem.length) ops (ordOf (C.ord fid id) ops.size) ⟨st.tmps, reserve st.mem (rankA ops ops.size)⟩ (fun st' => twoK C.P ops st' (K .normal) (C.two fid id)) := by funext K; simp only [execW, hq, hd]
        rw [this]
        have hl := runOps_eq (R := R) (C := C) (fid := fid) (callP := callP) (callI := callI) (some st.mem.length) ops (ordOf (C.ord fid id) ops.size) ⟨st.tmps, reserve st.mem (rankA ops ops.size)⟩
        cases hr : runF C fid callP callI (some st.mem.length) ops (ordOf (C.ord fid id) ops.size) ⟨st.tmps, reserve st.mem (rankA ops ops.size)⟩ with
        | none => left; funext K; rw [hl, hr]; rfl
        | some s =>
          rcases twoK_lin (R := R) C.P ops s (C.two fid id) with ht | ht
          · left; funext K; rw [hl, hr]; exact ht _
          · right; exact ⟨.normal, s, by funext K; rw [hl, hr]; exact ht _⟩
      | false => left; funext K; simp only [execW, hq, hd]
  | seq a b iha ihb =>
    intro st
    rcases iha st with h | ⟨e, s, h⟩
    · left; funext K; simp only [execW, h]
    · cases e with
      | normal =>
        rcases ihb s with h' | ⟨e', s', h'⟩
        · left; funext K; simp only [execW, h, seqK, h']
        · right; refine ⟨e', s', ?_⟩; funext K; simp only [execW, h, seqK, h']
      | exit id => right; refine ⟨.exit id, s, ?_⟩; funext K; simp only [execW, h, seqK]
      | ret => right; refine ⟨.ret, s, ?_⟩; funext K; simp only [execW, h, seqK]
  | cond co a b iha ihb =>
    intro st
    cases hv : ev st.tmps co with
    | bool v =>
      cases v with
      | true =>
        have : execW (R := R) C fid callP callI (.cond co a b) st = execW C fid callP callI a st := by funext K; simp only [execW, hv, ifA]
        rw [this]; exact iha st
      | false =>
        have : execW (R := R) C fid callP callI (.cond co a b) st = execW C fid callP callI b st := by funext K; simp only [execW, hv, ifA]
        rw [this]; exact ihb st
    | _ => left; funext K; simp only [execW, hv, ifA]
  | block id b ih =>
    intro st
    rcases ih st with h | ⟨e, s, h⟩
    · left; funext K; simp only [execW, h]
    · cases e with
      | normal => right; refine ⟨.normal, s, ?_⟩; funext K; simp only [execW, h, blockK]
      | exit j =>
        cases hj : j == id with
        | true => right; refine ⟨.normal, s, ?_⟩; funext K; simp only [execW, h, blockK, hj]
        | false => right; refine ⟨.exit j, s, ?_⟩; funext K; simp only [execW, h, blockK, hj]
      | ret => right; refine ⟨.ret, s, ?_⟩; funext K; simp only [execW, h, blockK]
  | loop b ih =>
    intro st
    have : execW (R := R) C fid callP callI (.loop b) st = fun K => grd (C.mask fid (keyOf b)).head st fun st' => loopW (execW C fid callP callI b) (C.mask fid (keyOf b)) st' K := by funext K; simp only [execW]
    rw [this]; exact grd_lin (loopW_lin ih _)
  | exit id => exact fun st => .inr ⟨.exit id, st, rfl⟩
  | ret => exact fun st => .inr ⟨.ret, st, rfl⟩
  | rangeFunc => exact fun st => .inl rfl
  | scope => exact fun st => .inl rfl
  | label => exact fun st => .inl rfl
  | goto => exact fun st => .inl rfl
  | refuse => exact fun st => .inl rfl
end

/-! ### More callees known, more answers -/
section
variable {C : Cfg} {fid : Nat} {cp cp' : Nat → List AV → Option AV} {ci ci' : Nat → List AV → Mem → Option (AV × Mem)}
def CLe (cp cp' : Nat → List AV → Option AV) (ci ci' : Nat → List AV → Mem → Option (AV × Mem)) : Prop := (∀ g vs v, cp g vs = some v → cp' g vs = some v) ∧ ∀ g vs m r, ci g vs m = some r → ci' g vs m = some r
theorem callK_le (h : CLe cp cp' ci ci') {d : Option Nat} {g : Nat} {vs : List AV} {m : Mem} {K : AV → Mem → Option R} {x : R} (hx : callK C fid cp ci d g vs m K = some x) : callK C fid cp' ci' d g vs m K = some x := by
  unfold callK at hx ⊢
  cases hlm : C.libm g with
  | some l => rw [hlm] at hx; exact hx
  | none =>
  rw [hlm] at hx
  simp only at hx ⊢
  cases hl : C.lib g with
  | some l => rw [hl] at hx; exact hx
  | none =>
    rw [hl] at hx
    simp only at hx ⊢
    cases hi : C.inl fid g with
    | true =>
      rw [hi] at hx
      cases d with
      | some d => exact hx
      | none =>
        simp only [Option.bind_eq_some_iff] at hx ⊢
        obtain ⟨r, hr, hx⟩ := hx
        cases hz : C.frzc fid g with
        | true =>
          rw [hz] at hr
          simp only [frzCall, Option.bind_eq_some_iff] at hr ⊢
          obtain ⟨r1, h1, h2⟩ := hr
          exact ⟨r, ⟨r1, h1, h.2 _ _ _ _ h2⟩, hx⟩
        | false =>
        rw [hz] at hr
        simp only at hr ⊢
        cases ht : C.thaw fid g with
        | false => rw [ht] at hr; exact ⟨r, h.2 _ _ _ _ hr, hx⟩
        | true =>
          rw [ht] at hr
          simp only [thawCall, Option.bind_eq_some_iff] at hr ⊢
          obtain ⟨r1, h1, q, h2, h3⟩ := hr
          exact ⟨r, ⟨r1, h1, q, h.2 _ _ _ _ h2, h3⟩, hx⟩
    | false =>
      rw [hi] at hx
      simp only [Option.bind_eq_some_iff] at hx ⊢
      obtain ⟨r, hr, hx⟩ := hx
      refine ⟨r, ?_, hx⟩
      unfold pcall at hr ⊢
      simp only [Option.bind_eq_some_iff] at hr ⊢
      obtain ⟨r1, h1, h2⟩ := hr
      refine ⟨r1, h1, ?_⟩
      split at h2
      · cases h2
      · rename_i hne
        rw [if_neg hne]
        simp only [Option.map_eq_some_iff] at h2 ⊢
        obtain ⟨v, hv, h2⟩ := h2
        exact ⟨v, h.1 _ _ _ hv, h2⟩
theorem opF_le (h : CLe cp cp' ci ci') {d : Option Nat} {o : Oper} {ρ : Operand → AV} {m : Mem} {x : AV × Mem} (hx : opF C fid cp ci d o ρ m = some x) : opF C fid cp' ci' d o ρ m = some x := by
  unfold opF opK at hx ⊢
  cases ho : o.op with
  | call c =>
    rw [ho] at hx
    simp only at hx ⊢
    cases hc : c.callee with
    | value f =>
      rw [hc] at hx
      simp only [Option.bind_eq_some_iff] at hx ⊢
      obtain ⟨gc, h1, hx⟩ := hx
      exact ⟨gc, h1, callK_le h hx⟩
    | _ => rw [hc] at hx; exact hx
  | _ => rw [ho] at hx; exact hx
theorem stepF_le (h : CLe cp cp' ci ci') {base : Option Nat} {ops : Array Oper} {i : Nat} {st s : St} (hx : stepF C fid cp ci base ops i st = some s) : stepF C fid cp' ci' base ops i st = some s := by
  unfold stepF at hx ⊢
  cases hi : ops[i]? with
  | none => rw [hi] at hx; cases hx
  | some o =>
    rw [hi] at hx
    simp only [Option.map_eq_some_iff] at hx ⊢
    obtain ⟨r, hr, hx⟩ := hx
    refine ⟨r, ?_, hx⟩
    unfold opG at hr ⊢
    cases hg : o.guard with
    | none => rw [hg] at hr; exact opF_le h hr
    | some jw =>
      obtain ⟨j, want⟩ := jw
      rw [hg] at hr
      simp only at hr ⊢
      cases hd : (ops[j]?).bind (·.dst) with
      | none => rw [hd] at hr; cases hr
      | some g =>
        rw [hd] at hr
        simp only at hr ⊢
        split at hr
        · exact hr
        · split at hr
          · split at hr
            · rename_i hb; rw [if_pos hb]; exact opF_le h hr
            · rename_i hb; rw [if_neg hb]; exact hr
          · cases hr
theorem runF_le (h : CLe cp cp' ci ci') {base : Option Nat} {ops : Array Oper} : ∀ (l : List Nat) {st s : St}, runF C fid cp ci base ops l st = some s → runF C fid cp' ci' base ops l st = some s
  | [], _, _, hx => hx
  | i :: l, st, s, hx => by
    simp only [runF, Option.bind_eq_some_iff] at hx ⊢
    obtain ⟨s1, h1, h2⟩ := hx
    exact ⟨s1, stepF_le h h1, runF_le h l h2⟩
theorem runOps_le (h : CLe cp cp' ci ci') {base : Option Nat} {ops : Array Oper} {l : List Nat} {st : St} {K : St → Option R} {r : R} (hx : runOps C fid cp ci base ops l st K = some r) : runOps C fid cp' ci' base ops l st K = some r := by
  rw [runOps_eq] at hx ⊢
  simp only [Option.bind_eq_some_iff] at hx ⊢
  obtain ⟨s, h1, h2⟩ := hx
  exact ⟨s, runF_le h l h1, h2⟩
theorem runL_le (h : CLe cp cp' ci ci') {lt : List (Nat × List Nat)} {ops : Array Oper} : ∀ (l : List Nat) {st : St} {K : St → Option R} {r : R}, runL C fid cp ci lt ops l st K = some r → runL C fid cp' ci' lt ops l st K = some r
  | [], _, _, _, hx => hx
  | i :: l, st, K, r, hx => by
    rw [runL_cons, Option.bind_eq_some_iff] at hx ⊢
    obtain ⟨s1, h1, h2⟩ := hx
    obtain ⟨h3, h4⟩ := chkAll_some h2
    exact ⟨s1, stepF_le h h1, by rw [chkAll_pos h3]; exact runL_le h l h4⟩
theorem execW_le (h : CLe cp cp' ci ci') : ∀ (c : Code) (st : St) (K : Ex → St → Option R) (r : R), execW C fid cp ci c st K = some r → execW C fid cp' ci' c st K = some r := by
  intro c
  induction c with
  | region id ops d =>
    intro st K r hx
    cases d with
    | false => simp only [execW] at hx ⊢; exact runOps_le h hx
    | true =>
      simp only [execW] at hx ⊢
      cases hq : C.seqm fid id with
      | true =>
        rw [hq] at hx
        simp only at hx ⊢
        cases hd : drawS C.P ops (ordOf (C.ord fid id) ops.size) (C.ahd fid id) (C.late fid id) with
        | true => rw [hd] at hx; exact runL_le h _ hx
        | false => rw [hd] at hx; cases hx
      | false =>
      rw [hq] at hx
      simp only at hx ⊢
      cases hd : drawOk3 C.P ops (ordOf (C.ord fid id) ops.size) (C.ahd fid id) (C.two fid id) with
      | true => rw [hd] at hx; exact runOps_le h hx
      | false => rw [hd] at hx; cases hx
  | seq a b iha ihb =>
    intro st K r hx
    simp only [execW] at hx ⊢
    have h1 := iha _ _ _ hx
    refine (execW_lin a).mono (fun e s r hr => ?_) h1
    cases e with
    | normal => exact ihb _ _ _ hr
    | exit id => exact hr
    | ret => exact hr
  | cond co a b iha ihb =>
    intro st K r hx
    simp only [execW] at hx ⊢
    unfold ifA at hx ⊢
    split at hx
    · split at hx
      · exact iha _ _ _ hx
      · exact ihb _ _ _ hx
    · cases hx
  | block id b ih =>
    intro st K r hx
    simp only [execW] at hx ⊢
    exact ih _ _ _ hx
  | loop b ih =>
    intro st K r hx
    simp only [execW, grd] at hx ⊢
    cases hf : fits (C.mask fid (keyOf b)).head st.tmps with
    | false => rw [hf] at hx; cases hx
    | true =>
      rw [hf] at hx
      simp only at hx ⊢
      obtain ⟨n, hn⟩ := lim_some hx
      have : ∀ n st, loopG (execW C fid cp ci b) (C.mask fid (keyOf b)) n st K = some r → loopG (execW C fid cp' ci' b) (C.mask fid (keyOf b)) n st K = some r := by
        intro n
        induction n with
        | zero => intro st hx; cases hx
        | succ n ihn =>
          intro st hx
          simp only [loopG] at hx ⊢
          have h1 := ih _ _ _ hx
          rcases execW_lin (R := R) (C := C) (fid := fid) (callP := cp') (callI := ci') b st with hl | ⟨e, s, hl⟩
          · rw [hl] at h1; cases h1
          · rw [hl] at h1 ⊢
            simp only at h1 ⊢
            cases e with
            | normal =>
              simp only [roundG, grd] at h1 ⊢
              cases hf' : fits (C.mask fid (keyOf b)).head s.tmps with
              | true => rw [hf'] at h1; exact ihn _ h1
              | false => rw [hf'] at h1; cases h1
            | exit id => exact h1
            | ret => exact h1
      exact Rise.lim (F := fun n => loopG (execW C fid cp' ci' b) (C.mask fid (keyOf b)) n _ K) (fun n r h => loopG_rise (execW_lin b) _ K n _ r h) (this n _ hn)
  | _ => intro st K r hx; exact hx
end

/-! ### At the limit -/
structure Chain where
  cp : Nat → Nat → List AV → Option AV
  ci : Nat → Nat → List AV → Mem → Option (AV × Mem)
  le : ∀ k, CLe (cp k) (cp (k + 1)) (ci k) (ci (k + 1))
theorem CLe.refl (cp : Nat → List AV → Option AV) (ci : Nat → List AV → Mem → Option (AV × Mem)) : CLe cp cp ci ci := ⟨fun _ _ _ h => h, fun _ _ _ _ h => h⟩
theorem CLe.trans {a b c : Nat → List AV → Option AV} {a' b' c' : Nat → List AV → Mem → Option (AV × Mem)} (h : CLe a b a' b') (h' : CLe b c b' c') : CLe a c a' c' := ⟨fun g vs v x => h'.1 g vs v (h.1 g vs v x), fun g vs m r x => h'.2 g vs m r (h.2 g vs m r x)⟩
theorem Chain.up (X : Chain) {k n : Nat} (h : k ≤ n) : CLe (X.cp k) (X.cp n) (X.ci k) (X.ci n) := by
  induction h with
  | refl => exact CLe.refl _ _
  | step _ ih => exact ih.trans (X.le _)
/-- All that the limit answers some one answers. -/
structure Tends (X : Chain) (cp : Nat → List AV → Option AV) (ci : Nat → List AV → Mem → Option (AV × Mem)) : Prop where
  p : ∀ g vs v, cp g vs = some v → ∃ k, X.cp k g vs = some v
  i : ∀ g vs m r, ci g vs m = some r → ∃ k, X.ci k g vs m = some r
section
variable {X : Chain} {C : Cfg} {fid : Nat} {cp : Nat → List AV → Option AV} {ci : Nat → List AV → Mem → Option (AV × Mem)}
theorem callK_at (h : Tends X cp ci) {d : Option Nat} {g : Nat} {vs : List AV} {m : Mem} {K : AV → Mem → Option R} {x : R} (hx : callK C fid cp ci d g vs m K = some x) : ∃ k, callK C fid (X.cp k) (X.ci k) d g vs m K = some x := by
  unfold callK at hx ⊢
  cases hlm : C.libm g with
  | some l => rw [hlm] at hx; exact ⟨0, hx⟩
  | none =>
  rw [hlm] at hx
  simp only at hx ⊢
  cases hl : C.lib g with
  | some l => rw [hl] at hx; exact ⟨0, hx⟩
  | none =>
    rw [hl] at hx
    simp only at hx ⊢
    cases hi : C.inl fid g with
    | true =>
      rw [hi] at hx
      cases d with
      | some d => exact ⟨0, hx⟩
      | none =>
        simp only [Option.bind_eq_some_iff] at hx ⊢
        obtain ⟨r, hr, hx⟩ := hx
        cases hz : C.frzc fid g with
        | true =>
          rw [hz] at hr
          simp only [frzCall, Option.bind_eq_some_iff] at hr ⊢
          obtain ⟨r1, h1, h2⟩ := hr
          obtain ⟨k, hk⟩ := h.i _ _ _ _ h2
          exact ⟨k, r, ⟨r1, h1, hk⟩, hx⟩
        | false =>
        rw [hz] at hr
        simp only at hr ⊢
        cases ht : C.thaw fid g with
        | false =>
          rw [ht] at hr
          obtain ⟨k, hk⟩ := h.i _ _ _ _ hr
          exact ⟨k, r, hk, hx⟩
        | true =>
          rw [ht] at hr
          simp only [thawCall, Option.bind_eq_some_iff] at hr ⊢
          obtain ⟨r1, h1, q, h2, h3⟩ := hr
          obtain ⟨k, hk⟩ := h.i _ _ _ _ h2
          exact ⟨k, r, ⟨r1, h1, q, hk, h3⟩, hx⟩
    | false =>
      rw [hi] at hx
      simp only [Option.bind_eq_some_iff] at hx ⊢
      obtain ⟨r, hr, hx⟩ := hx
      unfold pcall at hr
      simp only [Option.bind_eq_some_iff] at hr
      obtain ⟨r1, h1, h2⟩ := hr
      split at h2
      · cases h2
      · rename_i hne
        simp only [Option.map_eq_some_iff] at h2
        obtain ⟨v, hv, h2⟩ := h2
        obtain ⟨k, hk⟩ := h.p _ _ _ hv
        refine ⟨k, r, ?_, hx⟩
        unfold pcall
        simp only [Option.bind_eq_some_iff]
        refine ⟨r1, h1, ?_⟩
        rw [if_neg hne]
        simp only [Option.map_eq_some_iff]
        exact ⟨v, hk, h2⟩
theorem opF_at (h : Tends X cp ci) {d : Option Nat} {o : Oper} {ρ : Operand → AV} {m : Mem} {x : AV × Mem} (hx : opF C fid cp ci d o ρ m = some x) : ∃ k, opF C fid (X.cp k) (X.ci k) d o ρ m = some x := by
  unfold opF opK at hx ⊢
  cases ho : o.op with
  | call c =>
    rw [ho] at hx
    simp only at hx ⊢
    cases hc : c.callee with
    | value f =>
      rw [hc] at hx
      simp only [Option.bind_eq_some_iff] at hx ⊢
      obtain ⟨gc, h1, hx⟩ := hx
      obtain ⟨k, hk⟩ := callK_at h hx
      exact ⟨k, gc, h1, hk⟩
    | _ => rw [hc] at hx; exact ⟨0, hx⟩
  | _ => rw [ho] at hx; exact ⟨0, hx⟩
theorem stepF_at (h : Tends X cp ci) {base : Option Nat} {ops : Array Oper} {i : Nat} {st s : St} (hx : stepF C fid cp ci base ops i st = some s) : ∃ k, stepF C fid (X.cp k) (X.ci k) base ops i st = some s := by
  unfold stepF at hx ⊢
  cases hi : ops[i]? with
  | none => rw [hi] at hx; cases hx
  | some o =>
    rw [hi] at hx
    simp only [Option.map_eq_some_iff] at hx ⊢
    obtain ⟨r, hr, hx⟩ := hx
    unfold opG at hr ⊢
    cases hg : o.guard with
    | none => rw [hg] at hr; obtain ⟨k, hk⟩ := opF_at h hr; exact ⟨k, r, hk, hx⟩
    | some jw =>
      obtain ⟨j, want⟩ := jw
      rw [hg] at hr
      simp only at hr ⊢
      cases hd : (ops[j]?).bind (·.dst) with
      | none => rw [hd] at hr; cases hr
      | some g =>
        rw [hd] at hr
        simp only at hr ⊢
        split at hr
        · exact ⟨0, r, hr, hx⟩
        · split at hr
          · split at hr
            · rename_i hb; subst hb; obtain ⟨k, hk⟩ := opF_at h hr; exact ⟨k, r, by simpa using hk, hx⟩
            · rename_i hb; exact ⟨0, r, by rw [if_neg hb]; exact hr, hx⟩
          · cases hr
theorem runF_at (h : Tends X cp ci) {base : Option Nat} {ops : Array Oper} : ∀ (l : List Nat) {st s : St}, runF C fid cp ci base ops l st = some s → ∃ k, runF C fid (X.cp k) (X.ci k) base ops l st = some s
  | [], _, _, hx => ⟨0, hx⟩
  | i :: l, st, s, hx => by
    simp only [runF, Option.bind_eq_some_iff] at hx ⊢
    obtain ⟨s1, h1, h2⟩ := hx
    obtain ⟨k1, h1⟩ := stepF_at h h1
    obtain ⟨k2, h2⟩ := runF_at h l h2
    exact ⟨max k1 k2, s1, stepF_le (X.up (Nat.le_max_left ..)) h1, runF_le (X.up (Nat.le_max_right ..)) l h2⟩
theorem runOps_at (h : Tends X cp ci) {base : Option Nat} {ops : Array Oper} {l : List Nat} {st : St} {K : St → Option R} {r : R} (hx : runOps C fid cp ci base ops l st K = some r) : ∃ k, runOps C fid (X.cp k) (X.ci k) base ops l st K = some r := by
  rw [runOps_eq] at hx
  simp only [Option.bind_eq_some_iff] at hx
  obtain ⟨s, h1, h2⟩ := hx
  obtain ⟨k, h1⟩ := runF_at h l h1
  exact ⟨k, by rw [runOps_eq, h1]; exact h2⟩
theorem runL_at (h : Tends X cp ci) {lt : List (Nat × List Nat)} {ops : Array Oper} : ∀ (l : List Nat) {st : St} {K : St → Option R} {r : R}, runL C fid cp ci lt ops l st K = some r → ∃ k, runL C fid (X.cp k) (X.ci k) lt ops l st K = some r
  | [], _, _, _, hx => ⟨0, hx⟩
  | i :: l, st, K, r, hx => by
    rw [runL_cons, Option.bind_eq_some_iff] at hx
    obtain ⟨s1, h1, h2⟩ := hx
    obtain ⟨h3, h4⟩ := chkAll_some h2
    obtain ⟨k1, h1⟩ := stepF_at h h1
    obtain ⟨k2, h2⟩ := runL_at h l h4
    refine ⟨max k1 k2, ?_⟩
    rw [runL_cons, Option.bind_eq_some_iff]
    exact ⟨s1, stepF_le (X.up (Nat.le_max_left ..)) h1, by rw [chkAll_pos h3]; exact runL_le (X.up (Nat.le_max_right ..)) l h2⟩
/-- A run that ends in the row's run. -/
theorem lin_end {f : St → (Ex → St → Option R) → Option R} (hf : Lin f) {st : St} {K : Ex → St → Option R} {r : R} (h : f st K = some r) : ∃ e s, K e s = some r ∧ ∀ K', f st K' = K' e s := by
  rcases hf st with hx | ⟨e, s, hx⟩
  · rw [hx] at h; cases h
  · exact ⟨e, s, by rw [hx] at h; exact h, fun K' => by rw [hx]⟩
theorem execW_at (h : Tends X cp ci) : ∀ (c : Code) (st : St) (K : Ex → St → Option R) (r : R), execW C fid cp ci c st K = some r → ∃ k, execW C fid (X.cp k) (X.ci k) c st K = some r := by
  intro c
  induction c with
  | region id ops d =>
    intro st K r hx
    cases d with
    | false => simp only [execW] at hx ⊢; exact runOps_at h hx
    | true =>
      simp only [execW] at hx ⊢
      cases hq : C.seqm fid id with
      | true =>
        rw [hq] at hx
        simp only at hx ⊢
        cases hd : drawS C.P ops (ordOf (C.ord fid id) ops.size) (C.ahd fid id) (C.late fid id) with
        | true => rw [hd] at hx; exact runL_at h _ hx
        | false => rw [hd] at hx; cases hx
      | false =>
      rw [hq] at hx
      simp only at hx ⊢
      cases hd : drawOk3 C.P ops (ordOf (C.ord fid id) ops.size) (C.ahd fid id) (C.two fid id) with
      | true => rw [hd] at hx; exact runOps_at h hx
      | false => rw [hd] at hx; cases hx
  | seq a b iha ihb =>
    intro st K r hx
    simp only [execW] at hx ⊢
    obtain ⟨k1, h1⟩ := iha _ _ _ hx
    obtain ⟨e, s, h2, h3⟩ := lin_end (execW_lin a) h1
    cases e with
    | normal =>
      obtain ⟨k2, h4⟩ := ihb _ _ _ h2
      refine ⟨max k1 k2, ?_⟩
      have h5 : execW C fid (X.cp k1) (X.ci k1) a st (seqK (fun st' => execW C fid (X.cp (max k1 k2)) (X.ci (max k1 k2)) b st' K) K) = some r := by
        rw [h3]; exact execW_le (X.up (Nat.le_max_right ..)) b _ _ _ h4
      exact execW_le (X.up (Nat.le_max_left ..)) a _ _ _ h5
    | exit id => exact ⟨k1, by rw [h3]; exact h2⟩
    | ret => exact ⟨k1, by rw [h3]; exact h2⟩
  | cond co a b iha ihb =>
    intro st K r hx
    simp only [execW] at hx ⊢
    unfold ifA at hx ⊢
    split at hx
    · split at hx
      · exact iha _ _ _ hx
      · exact ihb _ _ _ hx
    · cases hx
  | block id b ih =>
    intro st K r hx
    simp only [execW] at hx ⊢
    exact ih _ _ _ hx
  | loop b ih =>
    intro st K r hx
    simp only [execW, grd] at hx ⊢
    cases hf : fits (C.mask fid (keyOf b)).head st.tmps with
    | false => rw [hf] at hx; cases hx
    | true =>
      rw [hf] at hx
      simp only at hx ⊢
      obtain ⟨n, hn⟩ := lim_some hx
      have : ∀ n st, loopG (execW C fid cp ci b) (C.mask fid (keyOf b)) n st K = some r → ∃ k, loopW (execW C fid (X.cp k) (X.ci k) b) (C.mask fid (keyOf b)) st K = some r := by
        intro n
        induction n with
        | zero => intro st hx; cases hx
        | succ n ihn =>
          intro st hx
          simp only [loopG] at hx
          obtain ⟨k1, h1⟩ := ih _ _ _ hx
          obtain ⟨e, s, h2, h3⟩ := lin_end (execW_lin b) h1
          have fin : (∀ k, k1 ≤ k → roundG (fun st' => loopW (execW C fid (X.cp k) (X.ci k) b) (C.mask fid (keyOf b)) st' K) (C.mask fid (keyOf b)) K e s = some r → loopW (execW C fid (X.cp k) (X.ci k) b) (C.mask fid (keyOf b)) st K = some r) := by
            intro k hk hr
            rw [loopW_eq (execW_lin b)]
            exact execW_le (X.up hk) b _ _ _ (by rw [h3]; exact hr)
          cases e with
          | normal =>
            simp only [roundG, grd] at h2
            cases hf' : fits (C.mask fid (keyOf b)).head s.tmps with
            | true =>
              rw [hf'] at h2
              obtain ⟨k2, h4⟩ := ihn _ h2
              refine ⟨max k1 k2, fin _ (Nat.le_max_left ..) ?_⟩
              simp only [roundG, grd, hf']
              have h5 : execW C fid (X.cp k2) (X.ci k2) (.loop b) ⟨rb (C.mask fid (keyOf b)).head s.tmps, s.mem⟩ K = loopW (execW C fid (X.cp k2) (X.ci k2) b) (C.mask fid (keyOf b)) ⟨rb (C.mask fid (keyOf b)).head s.tmps, s.mem⟩ K := by
                have hfr : ∀ (bs : List Bool) (ts : List AV), fits bs (rb bs ts) = true := by
                  intro bs
                  induction bs with
                  | nil => intro ts; rfl
                  | cons b bs ihb => intro ts; simp only [rb, fits]; exact ihb _
                simp only [execW, grd, hfr, rb_idem]
              have h6 := execW_le (C := C) (fid := fid) (X.up (Nat.le_max_right k1 k2)) (.loop b) _ _ _ (h5.trans h4)
              have hfr : ∀ (bs : List Bool) (ts : List AV), fits bs (rb bs ts) = true := by
                intro bs
                induction bs with
                | nil => intro ts; rfl
                | cons b bs ihb => intro ts; simp only [rb, fits]; exact ihb _
              simpa only [execW, grd, hfr, rb_idem] using h6
            | false => rw [hf'] at h2; cases h2
          | exit id => exact ⟨k1, fin _ (Nat.le_refl _) h2⟩
          | ret => exact ⟨k1, fin _ (Nat.le_refl _) h2⟩
      exact this n _ hn
  | _ => intro st K r hx; exact ⟨0, hx⟩
end

/-! ### Calls -/
noncomputable def acallW (C : Cfg) : Nat → Nat → List AV → Mem → Option (AV × Mem)
  | 0, _, _, _ => none
  | k + 1, f, args, m => match C.P.funcs[f]? with
    | none => none
    | some fn => match fn.body with
      | none => none
      | some c => execW C f (acallP (acallW C k)) (acallW C k) c ⟨args ++ List.replicate (fn.ntmps - args.length) .any, m⟩ (finK C.P fn.results.toList)
noncomputable def AC (C : Cfg) (f : Nat) (args : List AV) (m : Mem) : Option (AV × Mem) := lim fun k => acallW C k f args m
noncomputable def AP (C : Cfg) : Nat → List AV → Option AV := acallP (AC C)
theorem acallP_le {ci ci' : Nat → List AV → Mem → Option (AV × Mem)} (h : ∀ g vs m r, ci g vs m = some r → ci' g vs m = some r) : CLe (acallP ci) (acallP ci') ci ci' := by
  refine ⟨fun g vs v hx => ?_, h⟩
  unfold acallP at hx ⊢
  simp only [Option.bind_eq_some_iff] at hx ⊢
  obtain ⟨r, h1, h2⟩ := hx
  exact ⟨r, h _ _ _ _ h1, h2⟩
theorem acallW_rise (C : Cfg) : ∀ k f args m r, acallW C k f args m = some r → acallW C (k + 1) f args m = some r := by
  intro k
  induction k with
  | zero => intro f args m r h; cases h
  | succ k ih =>
    intro f args m r h
    rw [acallW] at h ⊢
    cases hf : C.P.funcs[f]? with
    | none => rw [hf] at h; cases h
    | some fn =>
      rw [hf] at h
      simp only at h ⊢
      cases hb : fn.body with
      | none => rw [hb] at h; cases h
      | some c =>
        rw [hb] at h
        exact execW_le (acallP_le fun g vs m r => ih g vs m r) c _ _ _ h
noncomputable def chainOf (C : Cfg) : Chain := ⟨fun k => acallP (acallW C k), fun k => acallW C k, fun k => acallP_le (acallW_rise C k)⟩
theorem tends (C : Cfg) : Tends (chainOf C) (AP C) (AC C) := by
  refine ⟨fun g vs v h => ?_, fun g vs m r h => lim_some h⟩
  unfold AP acallP at h
  simp only [Option.bind_eq_some_iff] at h
  obtain ⟨r, h1, h2⟩ := h
  obtain ⟨k, hk⟩ := lim_some h1
  refine ⟨k, ?_⟩
  show acallP (acallW C k) g vs = some v
  unfold acallP
  simp only [Option.bind_eq_some_iff]
  exact ⟨r, hk, h2⟩
theorem AC_eq (C : Cfg) (f : Nat) (args : List AV) (m : Mem) {fn : Func} {c : Code} (hf : C.P.funcs[f]? = some fn) (hb : fn.body = some c) :
    AC C f args m = execW C f (AP C) (AC C) c ⟨args ++ List.replicate (fn.ntmps - args.length) .any, m⟩ (finK C.P fn.results.toList) := by
  apply opt_ext
  intro r
  constructor
  · intro h
    obtain ⟨k, hk⟩ := lim_some h
    cases k with
    | zero => cases hk
    | succ k =>
      rw [acallW, hf] at hk
      simp only [hb] at hk
      exact execW_le (acallP_le fun g vs m r hr => Rise.lim (F := fun k => acallW C k g vs m) (fun k r h => acallW_rise C k g vs m r h) hr) c _ _ _ hk
  · intro h
    obtain ⟨k, hk⟩ := execW_at (tends C) c _ _ _ h
    refine Rise.lim (F := fun k => acallW C k f args m) (fun k r h => acallW_rise C k f args m r h) (k := k + 1) ?_
    show acallW C (k + 1) f args m = some r
    rw [acallW, hf]
    simp only [hb]
    exact hk
end
end Go.Ab

/- The interpreter without fuel is sound. -/
set_option linter.unusedVariables false
set_option linter.unusedSimpArgs false
set_option linter.unusedSectionVars false
namespace Go.Ab
open Go.RowKit

section
variable [WInv] {C : Cfg} {B : Nat} {w : World} {g : G} {m : Mem}
theorem execW_sound (hC : CfgOk C) {callI : Nat → List AV → Mem → Option (AV × Mem)} (hI : IOk C callI) {R : Type} {fid : Nat} : ∀ (c : Code) (st : St) (K : Ex → St → Option R) (r : R) (a : Act) (w : World) (g : G) (Q : Exit → Act → World → Prop),
    execW C fid (acallP callI) callI c st K = some r → StR B w g st a → After C B w g a K r Q → c.wp C.P Q a w := by
  intro c
  induction c with
  | skip =>
    intro st K r a w g Q h hs hq
    exact wp_skip (hq .normal st a w g h hs (Step.refl _ _ _) (DOk.refl _ _))
  | region id ops d =>
    intro st K r a w g Q h hs hq
    simp only [execW] at h
    cases d with
    | false =>
      simp only at h
      rw [runOps_eq] at h
      simp only [Option.bind_eq_some_iff] at h
      obtain ⟨s', hr, hK⟩ := h
      exact wp_region (runF_wp hC hI _ st s' a w g hr hs fun a' w' g' hs' s hd => hq .normal s' a' w' g' hK hs' s hd)
    | true =>
      simp only at h
      cases hsq : C.seqm fid id with
      | true =>
        rw [hsq] at h
        simp only at h
        split at h
        · rename_i hok
          exact drawS_wp hC hI hok h hs fun s' a' w' g' hK hs' s hd => hq .normal s' a' w' g' hK hs' s hd
        · cases h
      | false =>
      rw [hsq] at h
      simp only at h
      split at h
      · rename_i hok
        cases ht : C.two fid id with
        | nil =>
          rw [ht] at hok h
          exact draw_wp hC hI (drawOk_of hok) h hs fun s' a' w' g' hK hs' s hd => hq .normal s' a' w' g' hK hs' s hd
        | cons two sp =>
          rw [ht] at hok h
          exact draw_wp2 hC hI hok h hs fun s' a' w' g' hK hs' s hd => hq .normal s' a' w' g' hK hs' s hd
      · cases h
  | seq x y ihx ihy =>
    intro st K r a w g Q h hs hq
    simp only [execW] at h
    refine wp_seq (ihx st _ r a w g _ h hs ?_)
    intro e st' a' w' g' hK hs' s hd
    cases e with
    | normal =>
      simp only [seqK] at hK
      exact ihy st' K r a' w' g' Q hK hs' fun e st'' a'' w'' g'' hK' hs'' s' hd' => hq e st'' a'' w'' g'' hK' hs'' (s.trans s') (hd'.trans hd)
    | exit id => exact hq (.exit id) st' a' w' g' hK hs' s hd
    | ret => exact hq .ret st' a' w' g' hK hs' s hd
  | cond co x y ihx ihy =>
    intro st K r a w g Q h hs hq
    simp only [execW] at h
    have hV := ev_V hs.tmp co
    cases hv : ev st.tmps co with
    | bool b =>
      rw [hv] at h hV
      generalize hx : a.eval co = v at hV
      cases hV
      cases b with
      | true => exact wp_cond_true hx (ihx st K r a w g Q (by simpa [ifA] using h) hs hq)
      | false => exact wp_cond_false hx (ihy st K r a w g Q (by simpa [ifA] using h) hs hq)
    | _ => rw [hv] at h; simp [ifA] at h
  | block id x ih =>
    intro st K r a w g Q h hs hq
    simp only [execW] at h
    refine wp_block (ih st _ r a w g _ h hs ?_)
    intro e st' a' w' g' hK hs' s hd
    cases e with
    | normal => exact hq .normal st' a' w' g' hK hs' s hd
    | exit j =>
      simp only [blockK] at hK
      by_cases hj : j = id
      · have hb : (j == id) = true := by simpa using hj
        rw [hb] at hK
        simp only [exitOf, Exit.inBlock, if_pos hj]
        exact hq .normal st' a' w' g' hK hs' s hd
      · have hb : (j == id) = false := by simpa using hj
        rw [hb] at hK
        simp only [exitOf, Exit.inBlock, if_neg hj]
        exact hq (.exit j) st' a' w' g' hK hs' s hd
    | ret => exact hq .ret st' a' w' g' hK hs' s hd
  | loop x ih =>
    intro st K r a w g Q h hs hq
    simp only [execW] at h
    generalize C.mask fid (keyOf x) = mk at h
    have hmask : ∀ (l : List Bool) {w : World} {g : G} {st : St} {a : Act}, fits l st.tmps = true → StR B w g st a → StR B w g ⟨rb l st.tmps, st.mem⟩ a := fun l w g st a hf hs => ⟨by rw [rb_fits _ _ hf]; exact hs.tmp.mask _, hs.mem, hs.size⟩
    simp only [grd] at h
    cases hf0 : fits mk.head st.tmps with
    | false => rw [hf0] at h; cases h
    | true =>
    rw [hf0] at h
    have hs0 := hmask mk.head hf0 hs
    obtain ⟨n, hn⟩ := lim_some h
    have round : ∀ k (st : St) (a : Act) (w : World) (g : G), loopG (execW C fid (acallP callI) callI x) mk k st K = some r → StR B w g st a → After C B w g a K r Q → x.wp C.P (Exit.then (LW C.P x Q) Q) a w := by
      intro k
      induction k with
      | zero => intro st a w g h; simp [loopG] at h
      | succ k ihk =>
        intro st a w g h hs hq
        simp only [loopG] at h
        refine ih st _ r a w g _ h hs ?_
        intro e st' a' w' g' hK hs' s hd
        have hq' : After C B w' g' a' K r Q := fun e st'' a'' w'' g'' hK' hs'' s' hd' => hq e st'' a'' w'' g'' hK' hs'' (s.trans s') (hd'.trans hd)
        cases e with
        | normal =>
          simp only [roundG, grd] at hK
          cases hf : fits mk.head st'.tmps with
          | false => rw [hf] at hK; cases hK
          | true =>
            rw [hf] at hK
            exact lw_again (ihk _ a' w' g' hK (hmask _ hf hs') hq')
        | exit id =>
          simp only [roundG, grd] at hK
          cases hf : fits mk.out st'.tmps with
          | false => rw [hf] at hK; cases hK
          | true => rw [hf] at hK; exact hq (.exit id) _ a' w' g' hK (hmask _ hf hs') s hd
        | ret =>
          simp only [roundG, grd] at hK
          cases hf : fits mk.ret st'.tmps with
          | false => rw [hf] at hK; cases hK
          | true => rw [hf] at hK; exact hq .ret _ a' w' g' hK (hmask _ hf hs') s hd
    exact wp_loop_lw (round n _ a w g hn hs0 hq)
  | exit id =>
    intro st K r a w g Q h hs hq
    exact wp_exit (hq (.exit id) st a w g h hs (Step.refl _ _ _) (DOk.refl _ _))
  | ret =>
    intro st K r a w g Q h hs hq
    exact wp_ret (hq .ret st a w g h hs (Step.refl _ _ _) (DOk.refl _ _))
  | rangeFunc => intro st K r a w g Q h; simp [execW] at h
  | scope => intro st K r a w g Q h; simp [execW] at h
  | label => intro st K r a w g Q h; simp [execW] at h
  | goto => intro st K r a w g Q h; simp [execW] at h
  | refuse => intro st K r a w g Q h; simp [execW] at h

theorem acallW_sound (hC : CfgOk C) : ∀ k, IOk C (acallW C k) := by
  intro k
  induction k with
  | zero => intro f args m v m' h; simp [acallW] at h
  | succ k ih =>
    intro f args m v m' h
    simp only [acallW] at h
    cases hfn : C.P.funcs[f]? with
    | none => rw [hfn] at h; simp at h
    | some fn =>
      rw [hfn] at h
      simp only at h
      cases hb : fn.body with
      | none => rw [hb] at h; simp at h
      | some c =>
        rw [hb] at h
        simp only at h
        refine ⟨?_, fn, rfl, by simp [hb]⟩
        intro B w g vs hm hB hl hv
        refine calls_of_wp_defers hfn hb ?_
        have hts : TmpR w g (args ++ List.replicate (fn.ntmps - args.length) .any) (vs ++ Array.replicate (fn.ntmps - vs.size) undef) := by
          refine ⟨by simp [hl], fun t => ?_⟩
          simp only [List.getD_eq_getElem?_getD, Array.getD_eq_getD_getElem?, List.getElem?_append, Array.getElem?_append]
          by_cases h1 : t < args.length
          · rw [if_pos h1, if_pos (by omega)]
            simpa [List.getD_eq_getElem?_getD, Array.getD_eq_getD_getElem?] using hv t h1
          · rw [if_neg h1, if_neg (by omega), List.getElem?_replicate]
            split <;> exact .any _
        refine execW_sound hC ih c _ _ (v, m') _ w g _ h ⟨hts, hm, hB⟩ ?_
        intro e st' a' w' g' hK hs' s hd
        have fin : (resultsA C.P st'.mem st'.tmps fn.results.toList).bind (fun vs => some (oneOf vs, st'.mem)) = some (v, m') → Leaves C.P fn a'.tmps (fun e w' => ∃ v'' g'', e = Ending.returned v'' ∧ Step B w g w' g'' ∧ MemR B w' g'' m' ∧ V w' g'' v v'') a'.defers .returning w' := by
          intro hK
          simp only [Option.bind_eq_some_iff, Option.some.injEq, Prod.mk.injEq] at hK
          obtain ⟨l, hl1, rfl, rfl⟩ := hK
          obtain ⟨vl, r1, r2, r3⟩ := results_sound (P := C.P) hs'.mem hs'.tmp _ l hl1
          refine leaves_ben ⟨_, ?_, _, g', rfl, s, hs'.mem, oneOf_V r2 r3⟩ _ (hd (fun d hd => by cases hd))
          rw [results_eq, Array.mapM_eq_mapM_toList]
          simp only [Sem.run_bind, Sem.run_map, r1, Result.andThen_ok, Sem.run_pure]
        cases e with
        | normal => exact fin (by simpa only [finK, resultsK_eq] using hK)
        | exit id => simp [finK] at hK
        | ret => exact fin (by simpa only [finK, resultsK_eq] using hK)

theorem AC_sound (hC : CfgOk C) : IOk C (AC C) := by
  intro f args m v m' h
  obtain ⟨k, hk⟩ := lim_some h
  exact acallW_sound hC k f args m v m' hk
end
end Go.Ab

/- The settings of the interpreter for this seat. -/
set_option maxRecDepth 100000
namespace Go.Ab
open Go.Proofs.Try
def mkMask : Nat → Nat → List Bool
  | 0, _ => []
  | n + 1, x => Nat.beq (x % 2) 1 :: mkMask n (x / 2)
def masksOf : List (Nat × Nat × Masks) := [(4, 5, ⟨(mkMask 75 105), (mkMask 75 41), (mkMask 75 4)⟩),
  (11, 3, ⟨(mkMask 113 7516192776), (mkMask 113 0), (mkMask 113 16)⟩),
  (13, 3, ⟨(mkMask 92 14680118), (mkMask 92 54), (mkMask 92 16)⟩),
  (13, 11, ⟨(mkMask 92 820), (mkMask 92 272), (mkMask 92 16)⟩),
  (20, 4, ⟨(mkMask 45 240518168576), (mkMask 45 0), (mkMask 45 4)⟩),
  (21, 4, ⟨(mkMask 45 240518168576), (mkMask 45 0), (mkMask 45 4)⟩),
  (30, 10, ⟨(mkMask 51 210), (mkMask 51 80), (mkMask 51 48)⟩),
  (34, 7, ⟨(mkMask 60 1649267441756), (mkMask 60 80), (mkMask 60 48)⟩),
  (36, 5, ⟨(mkMask 41 50331740), (mkMask 41 80), (mkMask 41 48)⟩),
  (38, 5, ⟨(mkMask 48 54), (mkMask 48 20), (mkMask 48 12)⟩),
  (38, 8, ⟨(mkMask 48 118), (mkMask 48 54), (mkMask 48 12)⟩),
  (39, 4, ⟨(mkMask 46 1610612748), (mkMask 46 0), (mkMask 46 16)⟩),
  (40, 4, ⟨(mkMask 46 1610612748), (mkMask 46 0), (mkMask 46 16)⟩),
  (44, 11, ⟨(mkMask 40 214), (mkMask 40 80), (mkMask 40 48)⟩),
  (46, 4, ⟨(mkMask 40 1835008), (mkMask 40 0), (mkMask 40 4)⟩),
  (46, 7, ⟨(mkMask 40 119275536), (mkMask 40 1835024), (mkMask 40 4)⟩),
  (51, 6, ⟨(mkMask 32 7340096), (mkMask 32 64), (mkMask 32 12)⟩),
  (53, 7, ⟨(mkMask 90 15393162788956), (mkMask 90 92), (mkMask 90 48)⟩),
  (53, 16, ⟨(mkMask 90 132226261520350065985556), (mkMask 90 2064), (mkMask 90 48)⟩),
  (56, 3, ⟨(mkMask 27 28684), (mkMask 27 12), (mkMask 27 4)⟩),
  (58, 3, ⟨(mkMask 33 24774), (mkMask 33 192), (mkMask 33 64)⟩),
  (58, 6, ⟨(mkMask 33 418246), (mkMask 33 24774), (mkMask 33 64)⟩),
  (61, 3, ⟨(mkMask 24 115), (mkMask 24 48), (mkMask 24 16)⟩),
  (63, 3, ⟨(mkMask 23 29), (mkMask 23 12), (mkMask 23 4)⟩),
  (72, 4, ⟨(mkMask 73 99), (mkMask 73 32), (mkMask 73 16)⟩),
  (72, 8, ⟨(mkMask 73 483), (mkMask 73 227), (mkMask 73 16)⟩),
  (81, 3, ⟨(mkMask 74 124), (mkMask 74 48), (mkMask 74 16)⟩),
  (81, 6, ⟨(mkMask 74 252), (mkMask 74 124), (mkMask 74 16)⟩),
  (81, 9, ⟨(mkMask 74 508), (mkMask 74 252), (mkMask 74 16)⟩),
  (83, 3, ⟨(mkMask 18 908), (mkMask 18 12), (mkMask 18 4)⟩),
  (85, 3, ⟨(mkMask 32 1546), (mkMask 32 8), (mkMask 32 4)⟩),
  (87, 3, ⟨(mkMask 19 29), (mkMask 19 12), (mkMask 19 4)⟩),
  (88, 3, ⟨(mkMask 54 454), (mkMask 54 192), (mkMask 54 48)⟩),
  (88, 11, ⟨(mkMask 54 1478), (mkMask 54 454), (mkMask 54 48)⟩),
  (90, 5, ⟨(mkMask 84 1942), (mkMask 84 768), (mkMask 84 256)⟩),
  (90, 10, ⟨(mkMask 84 8086), (mkMask 84 3990), (mkMask 84 256)⟩),
  (91, 5, ⟨(mkMask 173 995), (mkMask 173 224), (mkMask 173 48)⟩),
  (91, 9, ⟨(mkMask 173 2019), (mkMask 173 2019), (mkMask 173 48)⟩),
  (91, 19, ⟨(mkMask 173 29014219670751100192951267), (mkMask 173 995), (mkMask 173 48)⟩),
  (91, 24, ⟨(mkMask 173 486777830487640090174734030865379), (mkMask 173 995), (mkMask 173 48)⟩),
  (91, 29, ⟨(mkMask 173 261336858282058570427511788682332017288163), (mkMask 173 486777830487640090174734030865379), (mkMask 173 48)⟩),
  (92, 7, ⟨(mkMask 52 1240), (mkMask 52 216), (mkMask 52 48)⟩),
  (92, 10, ⟨(mkMask 52 412316861656), (mkMask 52 1240), (mkMask 52 48)⟩),
  (96, 2, ⟨(mkMask 26 3), (mkMask 26 1), (mkMask 26 16)⟩),
  (98, 7, ⟨(mkMask 45 35), (mkMask 45 0), (mkMask 45 16)⟩),
  (99, 5, ⟨(mkMask 84 160), (mkMask 84 32), (mkMask 84 16)⟩),
  (99, 13, ⟨(mkMask 84 515), (mkMask 84 515), (mkMask 84 16)⟩),
  (99, 15, ⟨(mkMask 84 515), (mkMask 84 513), (mkMask 84 16)⟩),
  (99, 16, ⟨(mkMask 84 515), (mkMask 84 515), (mkMask 84 16)⟩),
  (99, 18, ⟨(mkMask 84 515), (mkMask 84 515), (mkMask 84 16)⟩),
  (101, 6, ⟨(mkMask 27 24), (mkMask 27 8), (mkMask 27 4)⟩),
  (102, 11, ⟨(mkMask 98 1539), (mkMask 98 513), (mkMask 98 112)⟩),
  (102, 14, ⟨(mkMask 98 7683), (mkMask 98 3587), (mkMask 98 112)⟩),
  (103, 2, ⟨(mkMask 22 9), (mkMask 22 9), (mkMask 22 4)⟩),
  (104, 3, ⟨(mkMask 54 24783), (mkMask 54 192), (mkMask 54 64)⟩),
  (107, 4, ⟨(mkMask 71 14680098), (mkMask 71 32), (mkMask 71 16)⟩),
  (107, 8, ⟨(mkMask 71 1893728738), (mkMask 71 14680418), (mkMask 71 16)⟩),
  (108, 7, ⟨(mkMask 60 117440610), (mkMask 60 96), (mkMask 60 16)⟩),
  (109, 7, ⟨(mkMask 49 35), (mkMask 49 0), (mkMask 49 16)⟩),
  (110, 7, ⟨(mkMask 59 29360322), (mkMask 59 64), (mkMask 59 48)⟩),
  (111, 4, ⟨(mkMask 44 227), (mkMask 44 32), (mkMask 44 16)⟩),
  (112, 6, ⟨(mkMask 44 451), (mkMask 44 64), (mkMask 44 48)⟩),
  (114, 1, ⟨(mkMask 26 99), (mkMask 26 0), (mkMask 26 0)⟩),
  (115, 3, ⟨(mkMask 53 396), (mkMask 53 128), (mkMask 53 64)⟩),
  (116, 2, ⟨(mkMask 51 782), (mkMask 51 0), (mkMask 51 0)⟩),
  (117, 4, ⟨(mkMask 83 6597069766934), (mkMask 83 0), (mkMask 83 0)⟩),
  (124, 2, ⟨(mkMask 21 9), (mkMask 21 9), (mkMask 21 4)⟩),
  (125, 14, ⟨(mkMask 315 32256), (mkMask 315 13824), (mkMask 315 112)⟩),
  (125, 18, ⟨(mkMask 315 228864), (mkMask 315 97792), (mkMask 315 112)⟩),
  (125, 24, ⟨(mkMask 315 1096126227998177188652763624537212264741950291456), (mkMask 315 884224), (mkMask 315 112)⟩),
  (125, 41, ⟨(mkMask 315 165641912322973530898434140694648610858826615332089277323900581371805184), (mkMask 315 622080), (mkMask 315 112)⟩),
  (125, 51, ⟨(mkMask 315 11656013353354374425516771440941113439854441034312837127510874458433425711231284553216), (mkMask 315 33562624), (mkMask 315 112)⟩),
  (129, 4, ⟨(mkMask 41 451), (mkMask 41 192), (mkMask 41 48)⟩),
  (131, 4, ⟨(mkMask 42 899), (mkMask 42 384), (mkMask 42 64)⟩),
  (136, 4, ⟨(mkMask 43 451), (mkMask 43 192), (mkMask 43 48)⟩),
  (138, 3, ⟨(mkMask 40 28706), (mkMask 40 32), (mkMask 40 16)⟩)]
def ordsOf : List (Nat × Nat × List Nat) := [(48, 1, [0, 1, 2, 4, 3, 5, 6]), (50, 3, [0, 2, 3, 1, 4, 5, 6, 7, 8, 9]), (67, 1, [0, 1, 2, 3, 5, 6, 4, 7, 8, 9]), (104, 5, [0, 1, 2, 3, 4, 5, 6, 7, 8, 9, 10, 11, 12, 13, 14, 15, 16, 17, 18, 19, 20, 21, 22, 23]), (116, 4, [0, 1, 2, 3, 4, 5, 6, 7, 8, 9, 10, 11, 12, 13, 14, 15, 16, 17, 18, 19, 20, 21, 22, 23, 24, 25, 26, 27, 28, 29, 30, 31, 32, 33, 34, 35, 36, 37, 38, 39])]
def ahsOf : List (Nat × Nat × List Nat) := [(3, 8, [0, 1, 0, 7, 15, 31, 63, 63, 63, 63, 1023, 2047, 4095, 8191, 8191, 8191, 8191, 131071, 262143, 524287, 1048575, 1048575, 1048575, 1048575, 16777215, 33554431, 67108863, 134217727, 134217727, 134217727, 1073741823, 134217727, 134217727, 134217727, 17179869183, 34359738367, 68719476735, 137438953471, 274877906943, 549755813887, 1099511627775]),
  (4, 11, [0, 0, 0, 4, 12, 31, 63, 127, 127, 127, 127, 639, 2687, 7807, 15999, 32767, 65535, 131071, 262143, 524287, 1048575]),
  (5, 1, [0, 1, 0, 7, 15, 31]),
  (5, 2, [0, 1, 0, 4, 12, 0, 32, 124, 255, 511]),
  (5, 9, [0, 0, 0, 0, 15, 31, 63, 63, 63, 63, 1023, 2047, 4095, 8191, 8191, 8191, 8191, 131071, 262143, 524287, 1048575, 1048575, 4194303, 1048575, 1048575, 33554431, 67108863, 134217727, 268435455, 536870911, 1073741823, 2147483647]),
  (6, 1, [0, 1, 0, 7, 15, 31]),
  (8, 1, [0, 1, 0, 7, 15, 31]),
  (8, 2, [0, 1, 0, 7, 15, 31, 63, 127, 63, 511, 1023, 2047]),
  (9, 5, [0, 1, 3, 7, 7, 23, 63, 127, 255, 511, 1023, 2047]),
  (10, 1, [0, 1, 0, 7, 15, 31]),
  (10, 5, [0, 0, 3, 0, 0, 31, 63, 127]),
  (10, 12, [0, 1, 3, 7, 15, 31, 63, 127, 255, 511, 1023, 2047, 2047, 2047, 14335, 32767, 65535, 131071, 262143, 262143, 1048575, 2097151, 4194303, 8388607, 16777215, 33554431]),
  (11, 1, [0, 1, 0, 7, 15, 31]),
  (11, 2, [0, 0, 2, 7, 15, 0]),
  (12, 1, [0, 1, 0, 7, 15, 31]),
  (12, 5, [0, 0, 3, 0, 0, 16, 0, 64, 0, 0, 512, 1792, 4032, 8184, 16383, 32767, 65535]),
  (13, 5, [0, 1, 0, 4, 0, 16, 48, 0, 128, 496, 1020, 2044, 4095, 8191, 16383]),
  (13, 13, [0, 1, 0, 4, 0, 0, 32, 112, 0, 0, 512, 1792, 0, 4096, 16128, 32764, 65535, 131071, 262143]),
  (29, 1, [0, 1, 0, 7, 15, 31]),
  (29, 2, [0, 1, 0, 4, 15, 0, 32, 0, 128, 480, 0, 1024, 0, 4096, 16352, 32767, 65535, 131071, 131071, 0, 786431, 2097151]),
  (30, 9, [0, 1, 0, 4, 15, 0, 63, 0, 0, 511, 1023]),
  (34, 9, [0, 1, 0, 0, 8, 0, 56, 120, 0, 256, 0, 1792, 3840, 8184, 16383, 32767]),
  (36, 7, [0, 1, 0, 0, 8, 0, 56, 120, 0, 504, 1023, 2047]),
  (38, 10, [0, 1, 0, 0, 8, 28, 0, 124, 0, 256, 0, 0, 2048, 7168, 0, 31744, 65280, 130816, 262143, 524287]),
  (39, 6, [0, 1, 0, 7, 15, 0, 32, 0, 224, 480, 1023, 2047]),
  (40, 6, [0, 1, 0, 7, 15, 0, 32, 0, 224, 480, 1023, 2047]),
  (48, 1, [0, 0, 2, 6, 0, 31, 63]),
  (49, 5, [0, 1, 0, 4, 15, 31, 63, 63, 0, 383, 1023]),
  (50, 3, [0, 1, 0, 4, 15, 31, 63, 63, 127, 511]),
  (51, 3, [0, 1, 0, 4, 15, 31, 63, 63, 0, 383, 1023]),
  (53, 18, [0, 1, 0, 0, 8, 28, 63, 127, 255]),
  (54, 3, [0, 0, 2, 0, 8, 30, 63, 127, 127, 511, 1023]),
  (55, 5, [0, 0, 2, 6, 15, 31, 31, 127, 255]),
  (56, 5, [0, 1, 0, 4, 12, 31, 63, 127]),
  (58, 8, [0, 1, 0, 0, 0, 28, 60, 127, 255, 511]),
  (61, 5, [0, 1, 0, 4, 15, 31, 63]),
  (63, 5, [0, 1, 0, 0, 12, 0, 60, 0, 255, 511]),
  (65, 4, [0, 1, 3, 7, 15, 31, 15, 127, 255, 511, 1023]),
  (67, 1, [0, 1, 0, 4, 12, 0, 32, 124, 255, 511]),
  (72, 10, [0, 0, 3, 7, 15, 0, 0, 96, 224, 480, 1023, 0, 0, 0, 12288, 30720, 63488, 129024, 262143, 0, 1048575, 2097151]),
  (74, 1, [0, 1, 0, 0, 8, 28, 0, 124, 255, 511, 0, 1024, 0, 0, 8192, 28672, 0, 126976, 261120, 523264, 1048575, 2097151]),
  (75, 5, [0, 1, 0, 4, 15, 0, 32, 0, 128, 511, 0, 1024, 0, 4096, 16383, 32767, 65535, 131071]),
  (75, 7, [0, 1, 0, 0, 12, 0, 63, 127]),
  (76, 1, [0, 1, 0, 7, 15, 31]),
  (76, 2, [0, 1, 0, 4, 15, 0, 32, 0, 128, 511, 0, 1024, 0, 4096, 16383, 32767, 65535, 131071]),
  (76, 3, [0, 1, 0, 0, 12, 31, 63]),
  (77, 1, [0, 1, 0, 0, 8, 28, 0, 124, 255, 511, 0, 2047, 4095]),
  (78, 1, [0, 1, 0, 4, 15, 0, 32, 0, 128, 480, 0, 1024, 0, 4096, 16352, 32767, 65535]),
  (81, 11, [0, 1, 0, 0, 8, 28, 0, 124, 0, 256, 0, 0, 2048, 7168, 0, 31744, 65280, 130816, 0, 262144, 0, 0, 2097152, 7340032, 0, 32505856, 66846720, 133955584, 0, 268435456, 0, 0, 2147483648, 7516192768, 0, 33285996544, 68451041280, 137170518016, 274877644800, 549755813632, 1099511627775, 2199023255551]),
  (87, 5, [0, 0, 0, 6, 14, 31, 63]),
  (90, 8, [0, 0, 2, 0, 0, 16, 56, 0, 248, 510, 1022, 2047, 0, 8191]),
  (90, 15, [0, 0, 0, 4, 0, 0, 62, 127, 255]),
  (91, 14, [0, 0, 0, 0, 0, 0, 48, 112, 0, 0, 768, 1792, 4083, 8179, 16383, 32767]),
  (91, 21, [0, 0, 3, 7, 0, 0, 0, 96, 224, 0, 992, 2016, 0, 8160, 16352, 32736, 32736, 65535, 196607]),
  (91, 31, [0, 0, 3, 7, 0, 0, 0, 96, 224, 0, 992, 2016, 0, 0, 0, 24576, 57344, 0, 253952, 516096, 1044480, 2097120, 4194303, 8388607]),
  (91, 36, [0, 0, 1, 7]),
  (95, 8, [0, 1, 3, 7, 0, 16, 48, 112, 240, 511, 1023, 2047]),
  (98, 9, [0, 0, 3, 7, 0, 0, 48, 112, 255]),
  (98, 10, [0, 0, 3, 7, 0, 0, 48, 112, 255]),
  (99, 6, [0, 0, 0, 6, 3, 31]),
  (100, 1, [0, 0, 2, 7, 15]),
  (104, 5, [0, 1, 0, 0, 8, 28, 0, 124, 255, 511, 0, 1024, 0, 0, 8192, 28672, 0, 126976, 261120, 523264, 0, 0, 3146751, 8388607]),
  (104, 7, [0, 0, 0, 6, 15, 31]),
  (109, 9, [0, 0, 3, 7, 0, 0, 48, 112, 255, 511]),
  (109, 11, [0, 0, 3, 7, 0, 0, 48, 112, 255, 511]),
  (113, 1, [0, 1, 0, 7, 15, 31]),
  (113, 6, [0, 0, 2, 0, 8, 30, 0, 64, 0, 256, 1022, 2046, 4095, 8191]),
  (115, 6, [0, 1, 3, 7, 15, 31, 63, 127, 255, 511, 255, 1279, 255, 255, 8447, 28927, 255, 127231, 261375, 523519, 1048575, 2097151, 4194303, 8388607]),
  (116, 4, [0, 1, 0, 0, 8, 28, 0, 124, 0, 256, 0, 0, 2048, 7168, 0, 31744, 0, 65536, 0, 0, 524288, 1835008, 0, 8126464, 16711680, 33488896, 0, 67108864, 0, 0, 536870912, 1879048192, 0, 8321499136, 17112760320, 34292629504, 68719411455, 137438888191, 274877906943, 549755813887]),
  (117, 1, [0, 1, 0, 0, 8, 28, 0, 124, 255, 511, 0, 1024, 0, 0, 8192, 28672, 0, 126976, 261120, 523264, 1048575, 2097151, 4194303, 4194303, 0, 25165823, 67108863]),
  (117, 8, [0, 1, 0, 0, 8, 28, 0, 124, 0, 256, 0, 0, 2048, 7168, 0, 31744, 65280, 130816, 0, 0, 786432, 2096896, 4194303, 8388607]),
  (119, 1, [0, 1, 0, 7, 15, 31]),
  (119, 2, [0, 1, 0, 4, 15, 0, 32, 0, 128, 480, 0, 1024, 0, 4096, 16352, 32767, 65535, 65535, 262143, 524287]),
  (121, 1, [0, 1, 0, 0, 8, 28, 0, 124, 0, 508, 1023, 2047, 0, 4096, 0, 0, 32768, 114688, 0, 507904, 1044480, 2093056, 4194303, 8388607, 16777215, 16777215, 0, 100663295, 268435455]),
  (122, 3, [0, 1, 0, 4, 15, 0, 32, 0, 128, 480, 0, 1024, 0, 4096, 16352, 32767, 65535, 131071]),
  (125, 16, [0, 0, 0, 6, 15, 31, 63, 127, 0, 0, 0, 1536, 3584, 7936, 16128, 32512, 65535, 131071]),
  (125, 17, [0, 0, 0, 4, 14, 30, 62, 127, 0, 0, 0, 1024, 3584, 7680, 15872, 32512, 255, 131071]),
  (125, 18, [0, 1, 3, 7, 7, 7, 39, 119, 247, 503, 1023, 7, 2055, 7, 7, 7, 49159, 114695, 253959, 516103, 1040391, 2095111, 4194303, 8388607]),
  (125, 43, [0, 0, 0, 0, 12, 30, 62, 126, 0, 0, 768, 1792, 3840, 8190, 16383, 32767]),
  (125, 55, [0, 0, 3, 7, 0, 0, 32, 112, 240, 0, 512, 2032, 4095, 8191, 16383]),
  (126, 8, [0, 1, 3, 7, 15, 0, 32, 96, 224, 511, 1023, 2047]),
  (130, 2, [0, 0, 0, 6, 15, 31, 0, 0, 0, 384, 896, 2015, 4095, 0, 0, 16384, 57344, 122880, 253952, 8191, 1048575]),
  (134, 1, [0, 1, 3, 0, 8, 31, 63, 127]),
  (135, 1, [0, 0, 2, 7, 15])]
def ahdGet : List (Nat × Nat × List Nat) → Nat → Nat → List Nat
  | [], _, _ => []
  | (f, k, m) :: l, f', k' => match Nat.beq f f' && Nat.beq k k' with
    | true => m
    | false => ahdGet l f' k'
def inlOf : List (Nat × Nat) := [(34, 61), (36, 61), (38, 61), (47, 56), (47, 88), (50, 56), (50, 88), (63, 61), (81, 61), (88, 115), (88, 116), (88, 117), (92, 58), (92, 88), (92, 117), (125, 138)]
def inlGet : List (Nat × Nat) → Nat → Nat → Bool
  | [], _, _ => false
  | (a, b) :: l, f, g => match Nat.beq a f && Nat.beq b g with
    | true => true
    | false => inlGet l f g
def thawOf : List (Nat × Nat) := [(34, 61), (36, 61), (38, 61), (47, 56), (50, 56), (63, 61), (81, 61), (92, 58)]
def frzOf : List (Nat × Nat) := []
def tokOf : List Nat := [131]
def tokGet : List Nat → Nat → Bool
  | [], _ => false
  | a :: l, f => match Nat.beq a f with
    | true => true
    | false => tokGet l f
def twoOf : List (Nat × Nat × List (Nat × Nat)) := [(104, 5, [(11, 22), (14, 22), (19, 22)]), (116, 4, [(9, 37), (12, 37)])]
def twoGet : List (Nat × Nat × List (Nat × Nat)) → Nat → Nat → List (Nat × Nat)
  | [], _, _ => []
  | (a, b, p) :: l, f, k => match Nat.beq a f && Nat.beq b k with
    | true => p
    | false => twoGet l f k
def lateOf : List (Nat × Nat × List (Nat × List Nat)) := [(50, 3, [(1, [3])])]
def lateGet : List (Nat × Nat × List (Nat × List Nat)) → Nat → Nat → List (Nat × List Nat)
  | [], _, _ => []
  | (a, b, p) :: l, f, k => match Nat.beq a f && Nat.beq b k with
    | true => p
    | false => lateGet l f k
def seqOf : List (Nat × Nat) := [(50, 3)]
noncomputable def cfg : Cfg where
  P := prog
  inl := inlGet inlOf
  ben := fun _ => false
  seqm := inlGet seqOf
  late := lateGet lateOf
  frzc := inlGet frzOf
  arrm := fun _ => false
  tokm := tokGet tokOf
  two := twoGet twoOf
  thaw := inlGet thawOf
  mask := maskGet masksOf
  ord := ordGet ordsOf
  ahd := ahdGet ahsOf
  lib := fun g => match Nat.beq g 45 with | true => some (fun _ => none) | false => match Nat.beq g 47 with | true => some (fun _ => none) | false => none
  libm := fun g => none
theorem at12 : cfg.P.funcs[12]? = some f12 := by kernel_rfl
theorem at13 : cfg.P.funcs[13]? = some f13 := by kernel_rfl
theorem at18 : cfg.P.funcs[18]? = some f18 := by kernel_rfl
theorem at20 : cfg.P.funcs[20]? = some f20 := by kernel_rfl
theorem at21 : cfg.P.funcs[21]? = some f21 := by kernel_rfl
theorem at26 : cfg.P.funcs[26]? = some f26 := by kernel_rfl
theorem at32 : cfg.P.funcs[32]? = some f32 := by kernel_rfl
theorem at39 : cfg.P.funcs[39]? = some f39 := by kernel_rfl
theorem at41 : cfg.P.funcs[41]? = some f41 := by kernel_rfl
theorem at43 : cfg.P.funcs[43]? = some f43 := by kernel_rfl
theorem at50 : cfg.P.funcs[50]? = some f50 := by kernel_rfl
theorem at52 : cfg.P.funcs[52]? = some f52 := by kernel_rfl
theorem at54 : cfg.P.funcs[54]? = some f54 := by kernel_rfl
theorem at56 : cfg.P.funcs[56]? = some f56 := by kernel_rfl
theorem at57 : cfg.P.funcs[57]? = some f57 := by kernel_rfl
theorem at58 : cfg.P.funcs[58]? = some f58 := by kernel_rfl
theorem at60 : cfg.P.funcs[60]? = some f60 := by kernel_rfl
theorem at62 : cfg.P.funcs[62]? = some f62 := by kernel_rfl
theorem at64 : cfg.P.funcs[64]? = some f64 := by kernel_rfl
theorem at65 : cfg.P.funcs[65]? = some f65 := by kernel_rfl
theorem at67 : cfg.P.funcs[67]? = some f67 := by kernel_rfl
theorem at70 : cfg.P.funcs[70]? = some f70 := by kernel_rfl
theorem at72 : cfg.P.funcs[72]? = some f72 := by kernel_rfl
theorem at73 : cfg.P.funcs[73]? = some f73 := by kernel_rfl
theorem at75 : cfg.P.funcs[75]? = some f75 := by kernel_rfl
theorem at78 : cfg.P.funcs[78]? = some f78 := by kernel_rfl
theorem at80 : cfg.P.funcs[80]? = some f80 := by kernel_rfl
theorem at84 : cfg.P.funcs[84]? = some f84 := by kernel_rfl
theorem at88 : cfg.P.funcs[88]? = some f88 := by kernel_rfl
theorem at89 : cfg.P.funcs[89]? = some f89 := by kernel_rfl
theorem at92 : cfg.P.funcs[92]? = some f92 := by kernel_rfl
theorem at93 : cfg.P.funcs[93]? = some f93 := by kernel_rfl
theorem at94 : cfg.P.funcs[94]? = some f94 := by kernel_rfl
theorem at95 : cfg.P.funcs[95]? = some f95 := by kernel_rfl
theorem at96 : cfg.P.funcs[96]? = some f96 := by kernel_rfl
theorem at97 : cfg.P.funcs[97]? = some f97 := by kernel_rfl
theorem at98 : cfg.P.funcs[98]? = some f98 := by kernel_rfl
theorem at99 : cfg.P.funcs[99]? = some f99 := by kernel_rfl
theorem at103 : cfg.P.funcs[103]? = some f103 := by kernel_rfl
theorem at104 : cfg.P.funcs[104]? = some f104 := by kernel_rfl
theorem at105 : cfg.P.funcs[105]? = some f105 := by kernel_rfl
theorem at106 : cfg.P.funcs[106]? = some f106 := by kernel_rfl
theorem at107 : cfg.P.funcs[107]? = some f107 := by kernel_rfl
theorem at108 : cfg.P.funcs[108]? = some f108 := by kernel_rfl
theorem at109 : cfg.P.funcs[109]? = some f109 := by kernel_rfl
theorem at110 : cfg.P.funcs[110]? = some f110 := by kernel_rfl
theorem at111 : cfg.P.funcs[111]? = some f111 := by kernel_rfl
theorem at112 : cfg.P.funcs[112]? = some f112 := by kernel_rfl
theorem at113 : cfg.P.funcs[113]? = some f113 := by kernel_rfl
theorem at115 : cfg.P.funcs[115]? = some f115 := by kernel_rfl
theorem at116 : cfg.P.funcs[116]? = some f116 := by kernel_rfl
theorem at117 : cfg.P.funcs[117]? = some f117 := by kernel_rfl
theorem at120 : cfg.P.funcs[120]? = some f120 := by kernel_rfl
theorem at121 : cfg.P.funcs[121]? = some f121 := by kernel_rfl
theorem at122 : cfg.P.funcs[122]? = some f122 := by kernel_rfl
theorem at123 : cfg.P.funcs[123]? = some f123 := by kernel_rfl
theorem at124 : cfg.P.funcs[124]? = some f124 := by kernel_rfl
theorem at125 : cfg.P.funcs[125]? = some f125 := by kernel_rfl
theorem at126 : cfg.P.funcs[126]? = some f126 := by kernel_rfl
theorem at127 : cfg.P.funcs[127]? = some f127 := by kernel_rfl
theorem at128 : cfg.P.funcs[128]? = some f128 := by kernel_rfl
theorem at129 : cfg.P.funcs[129]? = some f129 := by kernel_rfl
theorem at132 : cfg.P.funcs[132]? = some f132 := by kernel_rfl
theorem at133 : cfg.P.funcs[133]? = some f133 := by kernel_rfl
theorem at134 : cfg.P.funcs[134]? = some f134 := by kernel_rfl
theorem at135 : cfg.P.funcs[135]? = some f135 := by kernel_rfl
theorem at136 : cfg.P.funcs[136]? = some f136 := by kernel_rfl
theorem at137 : cfg.P.funcs[137]? = some f137 := by kernel_rfl
theorem at138 : cfg.P.funcs[138]? = some f138 := by kernel_rfl
theorem at139 : cfg.P.funcs[139]? = some f139 := by kernel_rfl
theorem at140 : cfg.P.funcs[140]? = some f140 := by kernel_rfl
end Go.Ab

/- What the interpreter does, function by function. -/
set_option maxRecDepth 100000
set_option linter.unusedVariables false
namespace Go.Ab
open Go.Proofs.Try
/-! ### sortilege/nat.Of -/
theorem T93 (a0 : AV) (m : Mem) : AC cfg 93 [a0] m =
  (convA .u32 a0).bind fun v1 =>
  (binA .other .shr a0 (.int .u64 32)).bind fun v2 =>
  (convA .u32 v2).bind fun v3 =>
  (buildSliceA none [v1, v3]).bind fun v4 =>
  (pcall (AP cfg) none m 124 [v4]).bind fun r5 =>
  (pcall (AP cfg) none r5.2 123 [r5.1]).bind fun r6 =>
  some (r6.1, r6.2) :=
(AC_eq cfg 93 [a0] m (fn := f93) (c := bodyOf f93) at93 rfl).trans (by kernel_rfl)
/-! ### sortilege/nat.Right -/
theorem T94 (a0 : AV) (m : Mem) : AC cfg 94 [a0] m =
  (lenA false a0).bind fun v1 =>
  (binA .other .eql v1 (.int .i64 0)).bind fun v2 =>
  ifA v2 (
  some ((.bool true), m)) (
  (lenA false a0).bind fun v3 =>
  (binA .other .sub v3 (.int .i64 1)).bind fun v4 =>
  (indexAddrA none a0 v4).bind fun v5 =>
  (loadA none m v5).bind fun v6 =>
  (binA .other .neq v6 (.int .u32 0)).bind fun v7 =>
  some (v7, m)) :=
(AC_eq cfg 94 [a0] m (fn := f94) (c := bodyOf f94) at94 rfl).trans (by kernel_rfl)
/-! ### sortilege/nat.Small -/
theorem T95 (a0 : AV) (m : Mem) : AC cfg 95 [a0] m =
  (pcall (AP cfg) none m 124 [a0]).bind fun r1 =>
  (lenA false r1.1).bind fun v2 =>
  (binA .other .eql v2 (.int .i64 0)).bind fun v3 =>
  ifA v3 (
  some ((.tup [(.int .u64 0), (.bool true)]), r1.2)) (
  (binA .other .eql v2 (.int .i64 1)).bind fun v4 =>
  ifA v4 (
  (indexAddrA none r1.1 (.int .i64 0)).bind fun v5 =>
  (loadA none r1.2 v5).bind fun v6 =>
  (convA .u64 v6).bind fun v7 =>
  some ((.tup [v7, (.bool true)]), r1.2)) (
  (binA .other .eql v2 (.int .i64 2)).bind fun v8 =>
  ifA v8 (
  (indexAddrA none r1.1 (.int .i64 0)).bind fun v9 =>
  (loadA none r1.2 v9).bind fun v10 =>
  (convA .u64 v10).bind fun v11 =>
  (indexAddrA none r1.1 (.int .i64 1)).bind fun v12 =>
  (loadA none r1.2 v12).bind fun v13 =>
  (convA .u64 v13).bind fun v14 =>
  (binA .other .shl v14 (.int .u64 32)).bind fun v15 =>
  (binA .other .or v11 v15).bind fun v16 =>
  some ((.tup [v16, (.bool true)]), r1.2)) (
  some ((.tup [(.int .u64 0), (.bool false)]), r1.2)))) :=
(AC_eq cfg 95 [a0] m (fn := f95) (c := bodyOf f95) at95 rfl).trans (by kernel_rfl)
/-! ### sortilege/nat.Gcd -/
def O96_2 (x0 : AV) (m : Mem) : St := ⟨[x0, .any, .any, .any, .any, .any, .any, .any, .any, .any, .any, .any, .any, .any, .any, .any, .any, .any, .any, .any, .any, .any, .any, .any, .any, .any], m⟩
noncomputable def L96_2 (x0 x1 : AV) (m : Mem) (K : Ex → St → Option (AV × Mem)) : Option (AV × Mem) := loopW (execW cfg 96 (AP cfg) (AC cfg) (c1 (c1 (c1 (c2 (c2 (bodyOf f96))))))) (cfg.mask 96 (some 2)) ⟨[x0, x1, .any, .any, .any, .any, .any, .any, .any, .any, .any, .any, .any, .any, .any, .any, .any, .any, .any, .any, .any, .any, .any, .any, .any, .any], m⟩ K
noncomputable abbrev K96_2_0 (K : Ex → St → Option (AV × Mem)) : Ex → St → Option (AV × Mem) := seqK (fun st => execW cfg 96 (AP cfg) (AC cfg) (c2 (c2 (c2 (bodyOf f96)))) st K) K
noncomputable abbrev K96_2_1 (K : Ex → St → Option (AV × Mem)) : Ex → St → Option (AV × Mem) := blockK 0 (K96_2_0 K)
noncomputable abbrev K96_2 (K : Ex → St → Option (AV × Mem)) : Ex → St → Option (AV × Mem) := (K96_2_1 K)
theorem T96 (a0 a1 : AV) (m : Mem) : AC cfg 96 [a0, a1] m =
  (pcall (AP cfg) none m 124 [a0]).bind fun r1 =>
  (pcall (AP cfg) none r1.2 124 [a1]).bind fun r2 =>
  L96_2 r1.1 r2.1 r2.2 (K96_2 (finK cfg.P f96.results.toList)) :=
(AC_eq cfg 96 [a0, a1] m (fn := f96) (c := bodyOf f96) at96 rfl).trans (by kernel_rfl)
theorem L96_2_eq (x0 x1 : AV) (m : Mem) (K : Ex → St → Option (AV × Mem)) : L96_2 x0 x1 m K =
  (lenA false x1).bind fun v1 =>
  (binA .other .gtr v1 (.int .i64 0)).bind fun v2 =>
  ifA v2 (
  (pcall (AP cfg) none m 125 [x0, x1]).bind fun r3 =>
  (extractA r3.1 0).bind fun v4 =>
  (extractA r3.1 1).bind fun v5 =>
  (extractA r3.1 2).bind fun v6 =>
  L96_2 x1 v5 r3.2 K) (
  K (.exit 0) (O96_2 x0 m)) :=
(loopW_eq (execW_lin _) _ _ _).trans (by kernel_rfl)
theorem K96_2_x0 (x0 : AV) (m : Mem) : K96_2 (finK cfg.P f96.results.toList) (.exit 0) (O96_2 x0 m) =
  (pcall (AP cfg) none m 123 [x0]).bind fun r1 =>
  some (r1.1, r1.2) := by kernel_rfl
/-! ### sortilege/nat.Mul -/
def O107_4 (x5 : AV) (m : Mem) : St := ⟨[.any, .any, .any, .any, .any, x5, .any, .any, .any, .any, .any, .any, .any, .any, .any, .any, .any, .any, .any, .any, .any, .any, .any, .any, .any, .any, .any, .any, .any, .any, .any, .any, .any, .any, .any, .any, .any, .any, .any, .any, .any, .any, .any, .any, .any, .any, .any, .any, .any, .any, .any, .any, .any, .any, .any, .any, .any, .any, .any, .any, .any, .any, .any, .any, .any, .any, .any, .any, .any, .any, .any], m⟩
noncomputable def L107_4 (x1 x5 x21 x22 x23 : AV) (m : Mem) (K : Ex → St → Option (AV × Mem)) : Option (AV × Mem) := loopW (execW cfg 107 (AP cfg) (AC cfg) (c1 (c1 (c2 (c1 (c2 (c2 (c2 (bodyOf f107))))))))) (cfg.mask 107 (some 4)) ⟨[.any, x1, .any, .any, .any, x5, .any, .any, .any, .any, .any, .any, .any, .any, .any, .any, .any, .any, .any, .any, .any, x21, x22, x23, .any, .any, .any, .any, .any, .any, .any, .any, .any, .any, .any, .any, .any, .any, .any, .any, .any, .any, .any, .any, .any, .any, .any, .any, .any, .any, .any, .any, .any, .any, .any, .any, .any, .any, .any, .any, .any, .any, .any, .any, .any, .any, .any, .any, .any, .any, .any], m⟩ K
def O107_8 (x1 x5 x6 x8 x21 x22 x23 : AV) (m : Mem) : St := ⟨[.any, x1, .any, .any, .any, x5, x6, .any, x8, .any, .any, .any, .any, .any, .any, .any, .any, .any, .any, .any, .any, x21, x22, x23, .any, .any, .any, .any, .any, .any, .any, .any, .any, .any, .any, .any, .any, .any, .any, .any, .any, .any, .any, .any, .any, .any, .any, .any, .any, .any, .any, .any, .any, .any, .any, .any, .any, .any, .any, .any, .any, .any, .any, .any, .any, .any, .any, .any, .any, .any, .any], m⟩
noncomputable def L107_8 (x1 x5 x6 x7 x8 x21 x22 x23 x28 x29 x30 : AV) (m : Mem) (K : Ex → St → Option (AV × Mem)) : Option (AV × Mem) := loopW (execW cfg 107 (AP cfg) (AC cfg) (c1 (c1 (c2 (c1 (c2 (c2 (c1 (c1 (c2 (c2 (c1 (c1 (c2 (c1 (c2 (c2 (c2 (bodyOf f107))))))))))))))))))) (cfg.mask 107 (some 8)) ⟨[.any, x1, .any, .any, .any, x5, x6, x7, x8, .any, .any, .any, .any, .any, .any, .any, .any, .any, .any, .any, .any, x21, x22, x23, .any, .any, .any, .any, x28, x29, x30, .any, .any, .any, .any, .any, .any, .any, .any, .any, .any, .any, .any, .any, .any, .any, .any, .any, .any, .any, .any, .any, .any, .any, .any, .any, .any, .any, .any, .any, .any, .any, .any, .any, .any, .any, .any, .any, .any, .any, .any], m⟩ K
noncomputable abbrev K107_4_0 (K : Ex → St → Option (AV × Mem)) : Ex → St → Option (AV × Mem) := seqK (fun st => execW cfg 107 (AP cfg) (AC cfg) (c2 (c2 (c2 (c2 (bodyOf f107))))) st K) K
noncomputable abbrev K107_4_1 (K : Ex → St → Option (AV × Mem)) : Ex → St → Option (AV × Mem) := blockK 0 (K107_4_0 K)
noncomputable abbrev K107_4 (K : Ex → St → Option (AV × Mem)) : Ex → St → Option (AV × Mem) := (K107_4_1 K)
noncomputable abbrev K107_8_0 (K : Ex → St → Option (AV × Mem)) : Ex → St → Option (AV × Mem) := seqK (fun st => execW cfg 107 (AP cfg) (AC cfg) (c2 (c2 (c2 (c1 (c1 (c2 (c1 (c2 (c2 (c2 (bodyOf f107))))))))))) st (roundG (fun st => loopW (execW cfg 107 (AP cfg) (AC cfg) (c1 (c1 (c2 (c1 (c2 (c2 (c2 (bodyOf f107))))))))) (cfg.mask 107 (some 4)) st K) (cfg.mask 107 (some 4)) K)) (roundG (fun st => loopW (execW cfg 107 (AP cfg) (AC cfg) (c1 (c1 (c2 (c1 (c2 (c2 (c2 (bodyOf f107))))))))) (cfg.mask 107 (some 4)) st K) (cfg.mask 107 (some 4)) K)
noncomputable abbrev K107_8_1 (K : Ex → St → Option (AV × Mem)) : Ex → St → Option (AV × Mem) := blockK 1 (K107_8_0 K)
noncomputable abbrev K107_8_2 (K : Ex → St → Option (AV × Mem)) : Ex → St → Option (AV × Mem) := seqK (fun st => execW cfg 107 (AP cfg) (AC cfg) (c2 (c2 (c2 (c1 (c1 (c2 (c2 (c1 (c1 (c2 (c1 (c2 (c2 (c2 (bodyOf f107))))))))))))))) st (K107_8_1 K)) (K107_8_1 K)
noncomputable abbrev K107_8_3 (K : Ex → St → Option (AV × Mem)) : Ex → St → Option (AV × Mem) := blockK 2 (K107_8_2 K)
noncomputable abbrev K107_8 (K : Ex → St → Option (AV × Mem)) : Ex → St → Option (AV × Mem) := (K107_8_3 K)
theorem T107 (a0 a1 : AV) (m : Mem) : AC cfg 107 [a0, a1] m =
  (pcall (AP cfg) none m 124 [a0]).bind fun r1 =>
  (pcall (AP cfg) none r1.2 124 [a1]).bind fun r2 =>
  (lenA false r1.1).bind fun v3 =>
  (lenA false r2.1).bind fun v4 =>
  (binA .other .add v3 v4).bind fun v5 =>
  (makeA none 116 none (.int .u32 0) 4 r2.2 v5 v5).bind fun r6 =>
  (lenA false r1.1).bind fun v7 =>
  L107_4 r2.1 r6.1 r1.1 v7 (.int .i64 0) r6.2 (K107_4 (finK cfg.P f107.results.toList)) :=
(AC_eq cfg 107 [a0, a1] m (fn := f107) (c := bodyOf f107) at107 rfl).trans (by kernel_rfl)
theorem L107_4_eq (x1 x5 x21 x22 x23 : AV) (m : Mem) (K : Ex → St → Option (AV × Mem)) : L107_4 x1 x5 x21 x22 x23 m K =
  (binA .other .lss x23 x22).bind fun v1 =>
  ifA v1 (
  (indexAddrA none x21 x23).bind fun v2 =>
  (loadA none m v2).bind fun v3 =>
  (lenA false x1).bind fun v4 =>
  L107_8 x1 x5 x23 v3 (.int .u64 0) x21 x22 x23 x1 v4 (.int .i64 0) m (K107_8 K)) (
  K (.exit 0) (O107_4 x5 m)) :=
(loopW_eq (execW_lin _) _ _ _).trans (by kernel_rfl)
theorem L107_8_eq (x1 x5 x6 x7 x8 x21 x22 x23 x28 x29 x30 : AV) (m : Mem) (K : Ex → St → Option (AV × Mem)) : L107_8 x1 x5 x6 x7 x8 x21 x22 x23 x28 x29 x30 m K =
  (binA .other .lss x30 x29).bind fun v1 =>
  ifA v1 (
  (indexAddrA none x28 x30).bind fun v2 =>
  (loadA none m v2).bind fun v3 =>
  (binA .other .add x6 x30).bind fun v4 =>
  (indexAddrA none x5 v4).bind fun v5 =>
  (loadA none m v5).bind fun v6 =>
  (convA .u64 v6).bind fun v7 =>
  (convA .u64 x7).bind fun v8 =>
  (convA .u64 v3).bind fun v9 =>
  (binA .other .mul v8 v9).bind fun v10 =>
  (binA .other .add v7 v10).bind fun v11 =>
  (binA .other .add x8 v11).bind fun v12 =>
  (binA .other .add x6 x30).bind fun v13 =>
  (convA .u32 v12).bind fun v14 =>
  (indexAddrA none x5 v13).bind fun v15 =>
  (storeA none m v15 v14).bind fun m16 =>
  (binA .other .shr v12 (.int .u64 32)).bind fun v17 =>
  (binA .other .add x30 (.int .i64 1)).bind fun v18 =>
  L107_8 x1 x5 x6 x7 v17 x21 x22 x23 x28 x29 v18 m16 K) (
  K (.exit 2) (O107_8 x1 x5 x6 x8 x21 x22 x23 m)) :=
(loopW_eq (execW_lin _) _ _ _).trans (by kernel_rfl)
theorem K107_4_x0 (x5 : AV) (m : Mem) : K107_4 (finK cfg.P f107.results.toList) (.exit 0) (O107_4 x5 m) =
  (pcall (AP cfg) none m 124 [x5]).bind fun r1 =>
  some (r1.1, r1.2) := by kernel_rfl
theorem K107_8_x2 (x1 x5 x6 x8 x21 x22 x23 : AV) (m : Mem) (K : Ex → St → Option (AV × Mem)) : K107_8 K (.exit 2) (O107_8 x1 x5 x6 x8 x21 x22 x23 m) =
  (lenA false x1).bind fun v1 =>
  (binA .other .add x6 v1).bind fun v2 =>
  (convA .u32 x8).bind fun v3 =>
  (indexAddrA none x5 v2).bind fun v4 =>
  (storeA none m v4 v3).bind fun m5 =>
  (binA .other .add x23 (.int .i64 1)).bind fun v6 =>
  L107_4 x1 x5 x21 x22 v6 m5 K := by kernel_rfl
/-! ### sortilege/nat.Add -/
def O108_7 (x5 x6 : AV) (m : Mem) : St := ⟨[.any, .any, .any, .any, .any, x5, x6, .any, .any, .any, .any, .any, .any, .any, .any, .any, .any, .any, .any, .any, .any, .any, .any, .any, .any, .any, .any, .any, .any, .any, .any, .any, .any, .any, .any, .any, .any, .any, .any, .any, .any, .any, .any, .any, .any, .any, .any, .any, .any, .any, .any, .any, .any, .any, .any, .any, .any, .any, .any, .any], m⟩
noncomputable def L108_7 (x1 x5 x6 x24 x25 x26 : AV) (m : Mem) (K : Ex → St → Option (AV × Mem)) : Option (AV × Mem) := loopW (execW cfg 108 (AP cfg) (AC cfg) (c1 (c1 (c2 (c1 (c2 (c2 (c2 (c2 (c2 (bodyOf f108))))))))))) (cfg.mask 108 (some 7)) ⟨[.any, x1, .any, .any, .any, x5, x6, .any, .any, .any, .any, .any, .any, .any, .any, .any, .any, .any, .any, .any, .any, .any, .any, .any, x24, x25, x26, .any, .any, .any, .any, .any, .any, .any, .any, .any, .any, .any, .any, .any, .any, .any, .any, .any, .any, .any, .any, .any, .any, .any, .any, .any, .any, .any, .any, .any, .any, .any, .any, .any], m⟩ K
noncomputable abbrev K108_7_0 (K : Ex → St → Option (AV × Mem)) : Ex → St → Option (AV × Mem) := seqK (fun st => execW cfg 108 (AP cfg) (AC cfg) (c2 (c2 (c2 (c2 (c2 (c2 (bodyOf f108))))))) st K) K
noncomputable abbrev K108_7_1 (K : Ex → St → Option (AV × Mem)) : Ex → St → Option (AV × Mem) := blockK 0 (K108_7_0 K)
noncomputable abbrev K108_7 (K : Ex → St → Option (AV × Mem)) : Ex → St → Option (AV × Mem) := (K108_7_1 K)
theorem T108 (a0 a1 : AV) (m : Mem) : AC cfg 108 [a0, a1] m =
  (pcall (AP cfg) none m 124 [a0]).bind fun r1 =>
  (pcall (AP cfg) none r1.2 124 [a1]).bind fun r2 =>
  (lenA false r1.1).bind fun v3 =>
  (lenA false r2.1).bind fun v4 =>
  (binA .other .lss v3 v4).bind fun v5 =>
  ifA v5 (
  (lenA false r2.1).bind fun v6 =>
  (binA .other .add v6 (.int .i64 1)).bind fun v7 =>
  (makeA none 116 none (.int .u32 0) 4 r2.2 (.int .i64 0) v7).bind fun r8 =>
  (lenA false r2.1).bind fun v9 =>
  L108_7 r1.1 r8.1 (.int .u64 0) r2.1 v9 (.int .i64 0) r8.2 (K108_7 (finK cfg.P f108.results.toList))) (
  (lenA false r1.1).bind fun v10 =>
  (binA .other .add v10 (.int .i64 1)).bind fun v11 =>
  (makeA none 116 none (.int .u32 0) 4 r2.2 (.int .i64 0) v11).bind fun r12 =>
  (lenA false r1.1).bind fun v13 =>
  L108_7 r2.1 r12.1 (.int .u64 0) r1.1 v13 (.int .i64 0) r12.2 (K108_7 (finK cfg.P f108.results.toList))) :=
(AC_eq cfg 108 [a0, a1] m (fn := f108) (c := bodyOf f108) at108 rfl).trans (by kernel_rfl)
theorem L108_7_eq (x1 x5 x6 x24 x25 x26 : AV) (m : Mem) (K : Ex → St → Option (AV × Mem)) : L108_7 x1 x5 x6 x24 x25 x26 m K =
  (binA .other .lss x26 x25).bind fun v1 =>
  ifA v1 (
  (indexAddrA none x24 x26).bind fun v2 =>
  (loadA none m v2).bind fun v3 =>
  (convA .u64 v3).bind fun v4 =>
  (binA .other .add x6 v4).bind fun v5 =>
  (lenA false x1).bind fun v6 =>
  (binA .other .lss x26 v6).bind fun v7 =>
  ifA v7 (
  (indexAddrA none x1 x26).bind fun v8 =>
  (loadA none m v8).bind fun v9 =>
  (convA .u64 v9).bind fun v10 =>
  (binA .other .add v5 v10).bind fun v11 =>
  (convA .u32 v11).bind fun v12 =>
  (buildSliceA none [v12]).bind fun v13 =>
  (appA none false 116 none 4 m x5 v13).bind fun r14 =>
  (binA .other .shr v11 (.int .u64 32)).bind fun v15 =>
  (binA .other .add x26 (.int .i64 1)).bind fun v16 =>
  L108_7 x1 r14.1 v15 x24 x25 v16 r14.2 K) (
  (convA .u32 v5).bind fun v17 =>
  (buildSliceA none [v17]).bind fun v18 =>
  (appA none false 116 none 4 m x5 v18).bind fun r19 =>
  (binA .other .shr v5 (.int .u64 32)).bind fun v20 =>
  (binA .other .add x26 (.int .i64 1)).bind fun v21 =>
  L108_7 x1 r19.1 v20 x24 x25 v21 r19.2 K)) (
  K (.exit 0) (O108_7 x5 x6 m)) :=
(loopW_eq (execW_lin _) _ _ _).trans (by kernel_rfl)
theorem K108_7_x0 (x5 x6 : AV) (m : Mem) : K108_7 (finK cfg.P f108.results.toList) (.exit 0) (O108_7 x5 x6 m) =
  (convA .u32 x6).bind fun v1 =>
  (buildSliceA none [v1]).bind fun v2 =>
  (appA none false 116 none 4 m x5 v2).bind fun r3 =>
  (pcall (AP cfg) none r3.2 124 [r3.1]).bind fun r4 =>
  some (r4.1, r4.2) := by kernel_rfl
/-! ### sortilege/nat.Compare -/
def O109_7 (m : Mem) : St := ⟨[.any, .any, .any, .any, .any, .any, .any, .any, .any, .any, .any, .any, .any, .any, .any, .any, .any, .any, .any, .any, .any, .any, .any, .any, .any, .any, .any, .any, .any, .any, .any, .any, .any, .any, .any, .any, .any, .any, .any, .any, .any, .any, .any, .any, .any, .any, .any, .any, .any], m⟩
def R109_7 (x4 : AV) (m : Mem) : St := ⟨[.any, .any, .any, .any, x4, .any, .any, .any, .any, .any, .any, .any, .any, .any, .any, .any, .any, .any, .any, .any, .any, .any, .any, .any, .any, .any, .any, .any, .any, .any, .any, .any, .any, .any, .any, .any, .any, .any, .any, .any, .any, .any, .any, .any, .any, .any, .any, .any, .any], m⟩
noncomputable def L109_7 (x0 x1 x5 : AV) (m : Mem) (K : Ex → St → Option (AV × Mem)) : Option (AV × Mem) := loopW (execW cfg 109 (AP cfg) (AC cfg) (c1 (c1 (c2 (c1 (c2 (c2 (c2 (bodyOf f109))))))))) (cfg.mask 109 (some 7)) ⟨[x0, x1, .any, .any, .any, x5, .any, .any, .any, .any, .any, .any, .any, .any, .any, .any, .any, .any, .any, .any, .any, .any, .any, .any, .any, .any, .any, .any, .any, .any, .any, .any, .any, .any, .any, .any, .any, .any, .any, .any, .any, .any, .any, .any, .any, .any, .any, .any, .any], m⟩ K
noncomputable abbrev K109_7_0 (K : Ex → St → Option (AV × Mem)) : Ex → St → Option (AV × Mem) := seqK (fun st => execW cfg 109 (AP cfg) (AC cfg) (c2 (c2 (c2 (c2 (bodyOf f109))))) st K) K
noncomputable abbrev K109_7_1 (K : Ex → St → Option (AV × Mem)) : Ex → St → Option (AV × Mem) := blockK 1 (K109_7_0 K)
noncomputable abbrev K109_7 (K : Ex → St → Option (AV × Mem)) : Ex → St → Option (AV × Mem) := (K109_7_1 K)
theorem T109 (a0 a1 : AV) (m : Mem) : AC cfg 109 [a0, a1] m =
  (pcall (AP cfg) none m 124 [a0]).bind fun r1 =>
  (pcall (AP cfg) none r1.2 124 [a1]).bind fun r2 =>
  (lenA false r1.1).bind fun v3 =>
  (lenA false r2.1).bind fun v4 =>
  (binA .other .lss v3 v4).bind fun v5 =>
  ifA v5 (
  some ((.int .i64 (-1)), r2.2)) (
  (lenA false r1.1).bind fun v6 =>
  (lenA false r2.1).bind fun v7 =>
  (binA .other .gtr v6 v7).bind fun v8 =>
  ifA v8 (
  some ((.int .i64 1), r2.2)) (
  (lenA false r1.1).bind fun v9 =>
  (binA .other .sub v9 (.int .i64 1)).bind fun v10 =>
  L109_7 r1.1 r2.1 v10 r2.2 (K109_7 (finK cfg.P f109.results.toList)))) :=
(AC_eq cfg 109 [a0, a1] m (fn := f109) (c := bodyOf f109) at109 rfl).trans (by kernel_rfl)
theorem L109_7_eq (x0 x1 x5 : AV) (m : Mem) (K : Ex → St → Option (AV × Mem)) : L109_7 x0 x1 x5 m K =
  (binA .other .geq x5 (.int .i64 0)).bind fun v1 =>
  ifA v1 (
  (indexAddrA none x0 x5).bind fun v2 =>
  (loadA none m v2).bind fun v3 =>
  (indexAddrA none x1 x5).bind fun v4 =>
  (loadA none m v4).bind fun v5 =>
  (binA .other .lss v3 v5).bind fun v6 =>
  ifA v6 (
  K .ret (R109_7 (.int .i64 (-1)) m)) (
  (indexAddrA none x0 x5).bind fun v7 =>
  (loadA none m v7).bind fun v8 =>
  (indexAddrA none x1 x5).bind fun v9 =>
  (loadA none m v9).bind fun v10 =>
  (binA .other .gtr v8 v10).bind fun v11 =>
  ifA v11 (
  K .ret (R109_7 (.int .i64 1) m)) (
  (binA .other .sub x5 (.int .i64 1)).bind fun v12 =>
  L109_7 x0 x1 v12 m K))) (
  K (.exit 1) (O109_7 m)) :=
(loopW_eq (execW_lin _) _ _ _).trans (by kernel_rfl)
theorem K109_7_x1 (m : Mem) : K109_7 (finK cfg.P f109.results.toList) (.exit 1) (O109_7  m) =
  some ((.int .i64 0), m) := by kernel_rfl
theorem K109_7_ret (x4 : AV) (m : Mem) : K109_7 (finK cfg.P f109.results.toList) .ret (R109_7 x4 m) =
  some (x4, m) := by kernel_rfl
/-! ### sortilege/nat.Sub -/
def O110_7 (x6 : AV) (m : Mem) : St := ⟨[.any, .any, .any, .any, .any, .any, x6, .any, .any, .any, .any, .any, .any, .any, .any, .any, .any, .any, .any, .any, .any, .any, .any, .any, .any, .any, .any, .any, .any, .any, .any, .any, .any, .any, .any, .any, .any, .any, .any, .any, .any, .any, .any, .any, .any, .any, .any, .any, .any, .any, .any, .any, .any, .any, .any, .any, .any, .any, .any], m⟩
noncomputable def L110_7 (x1 x6 x7 x22 x23 x24 : AV) (m : Mem) (K : Ex → St → Option (AV × Mem)) : Option (AV × Mem) := loopW (execW cfg 110 (AP cfg) (AC cfg) (c1 (c1 (c2 (c1 (c2 (c2 (c2 (c2 (c2 (bodyOf f110))))))))))) (cfg.mask 110 (some 7)) ⟨[.any, x1, .any, .any, .any, .any, x6, x7, .any, .any, .any, .any, .any, .any, .any, .any, .any, .any, .any, .any, .any, .any, x22, x23, x24, .any, .any, .any, .any, .any, .any, .any, .any, .any, .any, .any, .any, .any, .any, .any, .any, .any, .any, .any, .any, .any, .any, .any, .any, .any, .any, .any, .any, .any, .any, .any, .any, .any, .any], m⟩ K
noncomputable abbrev K110_7_0 (K : Ex → St → Option (AV × Mem)) : Ex → St → Option (AV × Mem) := seqK (fun st => execW cfg 110 (AP cfg) (AC cfg) (c2 (c2 (c2 (c2 (c2 (c2 (bodyOf f110))))))) st K) K
noncomputable abbrev K110_7_1 (K : Ex → St → Option (AV × Mem)) : Ex → St → Option (AV × Mem) := blockK 0 (K110_7_0 K)
noncomputable abbrev K110_7 (K : Ex → St → Option (AV × Mem)) : Ex → St → Option (AV × Mem) := (K110_7_1 K)
theorem T110 (a0 a1 : AV) (m : Mem) : AC cfg 110 [a0, a1] m =
  (pcall (AP cfg) none m 109 [a0, a1]).bind fun r1 =>
  (binA .other .lss r1.1 (.int .i64 0)).bind fun v2 =>
  ifA v2 (
  some ((.tup [(.lst none true .full []), (.int .i64 1)]), r1.2)) (
  (pcall (AP cfg) none r1.2 124 [a0]).bind fun r3 =>
  (pcall (AP cfg) none r3.2 124 [a1]).bind fun r4 =>
  (lenA false r3.1).bind fun v5 =>
  (makeA none 116 none (.int .u32 0) 4 r4.2 v5 v5).bind fun r6 =>
  (lenA false r3.1).bind fun v7 =>
  L110_7 r4.1 r6.1 (.int .u64 0) r3.1 v7 (.int .i64 0) r6.2 (K110_7 (finK cfg.P f110.results.toList))) :=
(AC_eq cfg 110 [a0, a1] m (fn := f110) (c := bodyOf f110) at110 rfl).trans (by kernel_rfl)
theorem L110_7_eq (x1 x6 x7 x22 x23 x24 : AV) (m : Mem) (K : Ex → St → Option (AV × Mem)) : L110_7 x1 x6 x7 x22 x23 x24 m K =
  (binA .other .lss x24 x23).bind fun v1 =>
  ifA v1 (
  (indexAddrA none x22 x24).bind fun v2 =>
  (loadA none m v2).bind fun v3 =>
  (lenA false x1).bind fun v4 =>
  (binA .other .lss x24 v4).bind fun v5 =>
  ifA v5 (
  (indexAddrA none x1 x24).bind fun v6 =>
  (loadA none m v6).bind fun v7 =>
  (convA .u64 v7).bind fun v8 =>
  (binA .other .add x7 v8).bind fun v9 =>
  (convA .u64 v3).bind fun v10 =>
  (binA .other .lss v10 v9).bind fun v11 =>
  ifA v11 (
  (convA .u64 v3).bind fun v12 =>
  (binA .other .shl (.int .u64 1) (.int .u64 32)).bind fun v13 =>
  (binA .other .add v12 v13).bind fun v14 =>
  (binA .other .sub v14 v9).bind fun v15 =>
  (convA .u32 v15).bind fun v16 =>
  (indexAddrA none x6 x24).bind fun v17 =>
  (storeA none m v17 v16).bind fun m18 =>
  (binA .other .add x24 (.int .i64 1)).bind fun v19 =>
  L110_7 x1 x6 (.int .u64 1) x22 x23 v19 m18 K) (
  (convA .u64 v3).bind fun v20 =>
  (binA .other .shl (.int .u64 0) (.int .u64 32)).bind fun v21 =>
  (binA .other .add v20 v21).bind fun v22 =>
  (binA .other .sub v22 v9).bind fun v23 =>
  (convA .u32 v23).bind fun v24 =>
  (indexAddrA none x6 x24).bind fun v25 =>
  (storeA none m v25 v24).bind fun m26 =>
  (binA .other .add x24 (.int .i64 1)).bind fun v27 =>
  L110_7 x1 x6 (.int .u64 0) x22 x23 v27 m26 K)) (
  (convA .u64 v3).bind fun v28 =>
  (binA .other .lss v28 x7).bind fun v29 =>
  ifA v29 (
  (convA .u64 v3).bind fun v30 =>
  (binA .other .shl (.int .u64 1) (.int .u64 32)).bind fun v31 =>
  (binA .other .add v30 v31).bind fun v32 =>
  (binA .other .sub v32 x7).bind fun v33 =>
  (convA .u32 v33).bind fun v34 =>
  (indexAddrA none x6 x24).bind fun v35 =>
  (storeA none m v35 v34).bind fun m36 =>
  (binA .other .add x24 (.int .i64 1)).bind fun v37 =>
  L110_7 x1 x6 (.int .u64 1) x22 x23 v37 m36 K) (
  (convA .u64 v3).bind fun v38 =>
  (binA .other .shl (.int .u64 0) (.int .u64 32)).bind fun v39 =>
  (binA .other .add v38 v39).bind fun v40 =>
  (binA .other .sub v40 x7).bind fun v41 =>
  (convA .u32 v41).bind fun v42 =>
  (indexAddrA none x6 x24).bind fun v43 =>
  (storeA none m v43 v42).bind fun m44 =>
  (binA .other .add x24 (.int .i64 1)).bind fun v45 =>
  L110_7 x1 x6 (.int .u64 0) x22 x23 v45 m44 K))) (
  K (.exit 0) (O110_7 x6 m)) :=
(loopW_eq (execW_lin _) _ _ _).trans (by kernel_rfl)
theorem K110_7_x0 (x6 : AV) (m : Mem) : K110_7 (finK cfg.P f110.results.toList) (.exit 0) (O110_7 x6 m) =
  (pcall (AP cfg) none m 124 [x6]).bind fun r1 =>
  some ((.tup [r1.1, (.int .i64 0)]), r1.2) := by kernel_rfl
/-! ### slices.Clone[sortilege/api.Nat,uint32] -/
theorem T123 (a0 : AV) (m : Mem) : AC cfg 123 [a0] m =
  (binA .sl .eql a0 (.lst none true .full [])).bind fun v1 =>
  ifA v1 (
  some ((.lst none true .full []), m)) (
  (buildSliceA none []).bind fun v2 =>
  (appA none false 116 none 4 m v2 a0).bind fun r3 =>
  some (r3.1, r3.2)) :=
(AC_eq cfg 123 [a0] m (fn := f123) (c := bodyOf f123) at123 rfl).trans (by kernel_rfl)
/-! ### sortilege/nat.trim -/
def O124_2 (x0 x3 : AV) (m : Mem) : St := ⟨[x0, .any, .any, x3, .any, .any, .any, .any, .any, .any, .any, .any, .any, .any, .any, .any, .any, .any, .any, .any, .any], m⟩
noncomputable def L124_2 (x0 x3 : AV) (m : Mem) (K : Ex → St → Option (AV × Mem)) : Option (AV × Mem) := loopW (execW cfg 124 (AP cfg) (AC cfg) (c1 (c1 (c1 (c2 (c2 (bodyOf f124))))))) (cfg.mask 124 (some 2)) ⟨[x0, .any, .any, x3, .any, .any, .any, .any, .any, .any, .any, .any, .any, .any, .any, .any, .any, .any, .any, .any, .any], m⟩ K
noncomputable abbrev K124_2_0 (K : Ex → St → Option (AV × Mem)) : Ex → St → Option (AV × Mem) := seqK (fun st => execW cfg 124 (AP cfg) (AC cfg) (c2 (c2 (c2 (bodyOf f124)))) st K) K
noncomputable abbrev K124_2_1 (K : Ex → St → Option (AV × Mem)) : Ex → St → Option (AV × Mem) := blockK 0 (K124_2_0 K)
noncomputable abbrev K124_2 (K : Ex → St → Option (AV × Mem)) : Ex → St → Option (AV × Mem) := (K124_2_1 K)
theorem T124 (a0 : AV) (m : Mem) : AC cfg 124 [a0] m =
  (lenA false a0).bind fun v1 =>
  L124_2 a0 v1 m (K124_2 (finK cfg.P f124.results.toList)) :=
(AC_eq cfg 124 [a0] m (fn := f124) (c := bodyOf f124) at124 rfl).trans (by kernel_rfl)
theorem L124_2_eq (x0 x3 : AV) (m : Mem) (K : Ex → St → Option (AV × Mem)) : L124_2 x0 x3 m K =
  (binA .other .gtr x3 (.int .i64 0)).bind fun v1 =>
  ifA v1 (
  (binA .other .sub x3 (.int .i64 1)).bind fun v2 =>
  (indexAddrA none x0 v2).bind fun v3 =>
  (loadA none m v3).bind fun v4 =>
  (binA .other .eql v4 (.int .u32 0)).bind fun v5 =>
  ifA v5 (
  (binA .other .sub x3 (.int .i64 1)).bind fun v6 =>
  L124_2 x0 v6 m K) (
  K (.exit 0) (O124_2 x0 x3 m))) (
  K (.exit 0) (O124_2 x0 x3 m)) :=
(loopW_eq (execW_lin _) _ _ _).trans (by kernel_rfl)
theorem K124_2_x0 (x0 x3 : AV) (m : Mem) : K124_2 (finK cfg.P f124.results.toList) (.exit 0) (O124_2 x0 x3 m) =
  (sliceT none x0 none (some x3) none).bind fun v1 =>
  some (v1, m) := by kernel_rfl
/-! ### sortilege/nat.Div -/
def O125_14 (x9 x10 x12 x13 : AV) (m : Mem) : St := ⟨[.any, .any, .any, .any, .any, .any, .any, .any, .any, x9, x10, .any, x12, x13, .any, .any, .any, .any, .any, .any, .any, .any, .any, .any, .any, .any, .any, .any, .any, .any, .any, .any, .any, .any, .any, .any, .any, .any, .any, .any, .any, .any, .any, .any, .any, .any, .any, .any, .any, .any, .any, .any, .any, .any, .any, .any, .any, .any, .any, .any, .any, .any, .any, .any, .any, .any, .any, .any, .any, .any, .any, .any, .any, .any, .any, .any, .any, .any, .any, .any, .any, .any, .any, .any, .any, .any, .any, .any, .any, .any, .any, .any, .any, .any, .any, .any, .any, .any, .any, .any, .any, .any, .any, .any, .any, .any, .any, .any, .any, .any, .any, .any, .any, .any, .any, .any, .any, .any, .any, .any, .any, .any, .any, .any, .any, .any, .any, .any, .any, .any, .any, .any, .any, .any, .any, .any, .any, .any, .any, .any, .any, .any, .any, .any, .any, .any, .any, .any, .any, .any, .any, .any, .any, .any, .any, .any, .any, .any, .any, .any, .any, .any, .any, .any, .any, .any, .any, .any, .any, .any, .any, .any, .any, .any, .any, .any, .any, .any, .any, .any, .any, .any, .any, .any, .any, .any, .any, .any, .any, .any, .any, .any, .any, .any, .any, .any, .any, .any, .any, .any, .any, .any, .any, .any, .any, .any, .any, .any, .any, .any, .any, .any, .any, .any, .any, .any, .any, .any, .any, .any, .any, .any, .any, .any, .any, .any, .any, .any, .any, .any, .any, .any, .any, .any, .any, .any, .any, .any, .any, .any, .any, .any, .any, .any, .any, .any, .any, .any, .any, .any, .any, .any, .any, .any, .any, .any, .any, .any, .any, .any, .any, .any, .any, .any, .any, .any, .any, .any, .any, .any, .any, .any, .any, .any, .any, .any, .any, .any, .any, .any, .any, .any, .any, .any, .any, .any, .any, .any, .any, .any, .any, .any, .any, .any, .any, .any, .any, .any, .any, .any, .any, .any, .any, .any, .any, .any, .any, .any, .any, .any, .any, .any, .any, .any, .any], m⟩
noncomputable def L125_14 (x9 x10 x11 x12 x13 x14 : AV) (m : Mem) (K : Ex → St → Option (AV × Mem)) : Option (AV × Mem) := loopW (execW cfg 125 (AP cfg) (AC cfg) (c1 (c1 (c2 (c1 (c2 (c2 (c2 (c2 (c2 (c2 (c2 (bodyOf f125))))))))))))) (cfg.mask 125 (some 14)) ⟨[.any, .any, .any, .any, .any, .any, .any, .any, .any, x9, x10, x11, x12, x13, x14, .any, .any, .any, .any, .any, .any, .any, .any, .any, .any, .any, .any, .any, .any, .any, .any, .any, .any, .any, .any, .any, .any, .any, .any, .any, .any, .any, .any, .any, .any, .any, .any, .any, .any, .any, .any, .any, .any, .any, .any, .any, .any, .any, .any, .any, .any, .any, .any, .any, .any, .any, .any, .any, .any, .any, .any, .any, .any, .any, .any, .any, .any, .any, .any, .any, .any, .any, .any, .any, .any, .any, .any, .any, .any, .any, .any, .any, .any, .any, .any, .any, .any, .any, .any, .any, .any, .any, .any, .any, .any, .any, .any, .any, .any, .any, .any, .any, .any, .any, .any, .any, .any, .any, .any, .any, .any, .any, .any, .any, .any, .any, .any, .any, .any, .any, .any, .any, .any, .any, .any, .any, .any, .any, .any, .any, .any, .any, .any, .any, .any, .any, .any, .any, .any, .any, .any, .any, .any, .any, .any, .any, .any, .any, .any, .any, .any, .any, .any, .any, .any, .any, .any, .any, .any, .any, .any, .any, .any, .any, .any, .any, .any, .any, .any, .any, .any, .any, .any, .any, .any, .any, .any, .any, .any, .any, .any, .any, .any, .any, .any, .any, .any, .any, .any, .any, .any, .any, .any, .any, .any, .any, .any, .any, .any, .any, .any, .any, .any, .any, .any, .any, .any, .any, .any, .any, .any, .any, .any, .any, .any, .any, .any, .any, .any, .any, .any, .any, .any, .any, .any, .any, .any, .any, .any, .any, .any, .any, .any, .any, .any, .any, .any, .any, .any, .any, .any, .any, .any, .any, .any, .any, .any, .any, .any, .any, .any, .any, .any, .any, .any, .any, .any, .any, .any, .any, .any, .any, .any, .any, .any, .any, .any, .any, .any, .any, .any, .any, .any, .any, .any, .any, .any, .any, .any, .any, .any, .any, .any, .any, .any, .any, .any, .any, .any, .any, .any, .any, .any, .any, .any, .any, .any, .any, .any, .any, .any, .any, .any, .any, .any], m⟩ K
def O125_18 (x9 x10 x11 x12 x13 x14 x16 : AV) (m : Mem) : St := ⟨[.any, .any, .any, .any, .any, .any, .any, .any, .any, x9, x10, x11, x12, x13, x14, .any, x16, .any, .any, .any, .any, .any, .any, .any, .any, .any, .any, .any, .any, .any, .any, .any, .any, .any, .any, .any, .any, .any, .any, .any, .any, .any, .any, .any, .any, .any, .any, .any, .any, .any, .any, .any, .any, .any, .any, .any, .any, .any, .any, .any, .any, .any, .any, .any, .any, .any, .any, .any, .any, .any, .any, .any, .any, .any, .any, .any, .any, .any, .any, .any, .any, .any, .any, .any, .any, .any, .any, .any, .any, .any, .any, .any, .any, .any, .any, .any, .any, .any, .any, .any, .any, .any, .any, .any, .any, .any, .any, .any, .any, .any, .any, .any, .any, .any, .any, .any, .any, .any, .any, .any, .any, .any, .any, .any, .any, .any, .any, .any, .any, .any, .any, .any, .any, .any, .any, .any, .any, .any, .any, .any, .any, .any, .any, .any, .any, .any, .any, .any, .any, .any, .any, .any, .any, .any, .any, .any, .any, .any, .any, .any, .any, .any, .any, .any, .any, .any, .any, .any, .any, .any, .any, .any, .any, .any, .any, .any, .any, .any, .any, .any, .any, .any, .any, .any, .any, .any, .any, .any, .any, .any, .any, .any, .any, .any, .any, .any, .any, .any, .any, .any, .any, .any, .any, .any, .any, .any, .any, .any, .any, .any, .any, .any, .any, .any, .any, .any, .any, .any, .any, .any, .any, .any, .any, .any, .any, .any, .any, .any, .any, .any, .any, .any, .any, .any, .any, .any, .any, .any, .any, .any, .any, .any, .any, .any, .any, .any, .any, .any, .any, .any, .any, .any, .any, .any, .any, .any, .any, .any, .any, .any, .any, .any, .any, .any, .any, .any, .any, .any, .any, .any, .any, .any, .any, .any, .any, .any, .any, .any, .any, .any, .any, .any, .any, .any, .any, .any, .any, .any, .any, .any, .any, .any, .any, .any, .any, .any, .any, .any, .any, .any, .any, .any, .any, .any, .any, .any, .any, .any, .any, .any, .any, .any, .any, .any, .any], m⟩
noncomputable def L125_18 (x9 x10 x11 x12 x13 x14 x16 x17 : AV) (m : Mem) (K : Ex → St → Option (AV × Mem)) : Option (AV × Mem) := loopW (execW cfg 125 (AP cfg) (AC cfg) (c1 (c1 (c1 (c2 (c2 (c1 (c1 (c2 (c1 (c1 (c2 (c1 (c2 (c2 (c2 (c2 (c2 (c2 (c2 (bodyOf f125))))))))))))))))))))) (cfg.mask 125 (some 18)) ⟨[.any, .any, .any, .any, .any, .any, .any, .any, .any, x9, x10, x11, x12, x13, x14, .any, x16, x17, .any, .any, .any, .any, .any, .any, .any, .any, .any, .any, .any, .any, .any, .any, .any, .any, .any, .any, .any, .any, .any, .any, .any, .any, .any, .any, .any, .any, .any, .any, .any, .any, .any, .any, .any, .any, .any, .any, .any, .any, .any, .any, .any, .any, .any, .any, .any, .any, .any, .any, .any, .any, .any, .any, .any, .any, .any, .any, .any, .any, .any, .any, .any, .any, .any, .any, .any, .any, .any, .any, .any, .any, .any, .any, .any, .any, .any, .any, .any, .any, .any, .any, .any, .any, .any, .any, .any, .any, .any, .any, .any, .any, .any, .any, .any, .any, .any, .any, .any, .any, .any, .any, .any, .any, .any, .any, .any, .any, .any, .any, .any, .any, .any, .any, .any, .any, .any, .any, .any, .any, .any, .any, .any, .any, .any, .any, .any, .any, .any, .any, .any, .any, .any, .any, .any, .any, .any, .any, .any, .any, .any, .any, .any, .any, .any, .any, .any, .any, .any, .any, .any, .any, .any, .any, .any, .any, .any, .any, .any, .any, .any, .any, .any, .any, .any, .any, .any, .any, .any, .any, .any, .any, .any, .any, .any, .any, .any, .any, .any, .any, .any, .any, .any, .any, .any, .any, .any, .any, .any, .any, .any, .any, .any, .any, .any, .any, .any, .any, .any, .any, .any, .any, .any, .any, .any, .any, .any, .any, .any, .any, .any, .any, .any, .any, .any, .any, .any, .any, .any, .any, .any, .any, .any, .any, .any, .any, .any, .any, .any, .any, .any, .any, .any, .any, .any, .any, .any, .any, .any, .any, .any, .any, .any, .any, .any, .any, .any, .any, .any, .any, .any, .any, .any, .any, .any, .any, .any, .any, .any, .any, .any, .any, .any, .any, .any, .any, .any, .any, .any, .any, .any, .any, .any, .any, .any, .any, .any, .any, .any, .any, .any, .any, .any, .any, .any, .any, .any, .any, .any, .any, .any, .any, .any, .any, .any, .any, .any], m⟩ K
def O125_24 (x9 x10 x11 x12 x13 x14 x16 x18 x19 : AV) (m : Mem) : St := ⟨[.any, .any, .any, .any, .any, .any, .any, .any, .any, x9, x10, x11, x12, x13, x14, .any, x16, .any, x18, x19, .any, .any, .any, .any, .any, .any, .any, .any, .any, .any, .any, .any, .any, .any, .any, .any, .any, .any, .any, .any, .any, .any, .any, .any, .any, .any, .any, .any, .any, .any, .any, .any, .any, .any, .any, .any, .any, .any, .any, .any, .any, .any, .any, .any, .any, .any, .any, .any, .any, .any, .any, .any, .any, .any, .any, .any, .any, .any, .any, .any, .any, .any, .any, .any, .any, .any, .any, .any, .any, .any, .any, .any, .any, .any, .any, .any, .any, .any, .any, .any, .any, .any, .any, .any, .any, .any, .any, .any, .any, .any, .any, .any, .any, .any, .any, .any, .any, .any, .any, .any, .any, .any, .any, .any, .any, .any, .any, .any, .any, .any, .any, .any, .any, .any, .any, .any, .any, .any, .any, .any, .any, .any, .any, .any, .any, .any, .any, .any, .any, .any, .any, .any, .any, .any, .any, .any, .any, .any, .any, .any, .any, .any, .any, .any, .any, .any, .any, .any, .any, .any, .any, .any, .any, .any, .any, .any, .any, .any, .any, .any, .any, .any, .any, .any, .any, .any, .any, .any, .any, .any, .any, .any, .any, .any, .any, .any, .any, .any, .any, .any, .any, .any, .any, .any, .any, .any, .any, .any, .any, .any, .any, .any, .any, .any, .any, .any, .any, .any, .any, .any, .any, .any, .any, .any, .any, .any, .any, .any, .any, .any, .any, .any, .any, .any, .any, .any, .any, .any, .any, .any, .any, .any, .any, .any, .any, .any, .any, .any, .any, .any, .any, .any, .any, .any, .any, .any, .any, .any, .any, .any, .any, .any, .any, .any, .any, .any, .any, .any, .any, .any, .any, .any, .any, .any, .any, .any, .any, .any, .any, .any, .any, .any, .any, .any, .any, .any, .any, .any, .any, .any, .any, .any, .any, .any, .any, .any, .any, .any, .any, .any, .any, .any, .any, .any, .any, .any, .any, .any, .any, .any, .any, .any, .any, .any, .any], m⟩
noncomputable def L125_24 (x9 x10 x11 x12 x13 x14 x16 x18 x19 x158 x159 : AV) (m : Mem) (K : Ex → St → Option (AV × Mem)) : Option (AV × Mem) := loopW (execW cfg 125 (AP cfg) (AC cfg) (c1 (c1 (c2 (c1 (c2 (c2 (c2 (c2 (c1 (c1 (c2 (c1 (c1 (c2 (c1 (c2 (c2 (c2 (c2 (c2 (c2 (c2 (bodyOf f125)))))))))))))))))))))))) (cfg.mask 125 (some 24)) ⟨[.any, .any, .any, .any, .any, .any, .any, .any, .any, x9, x10, x11, x12, x13, x14, .any, x16, .any, x18, x19, .any, .any, .any, .any, .any, .any, .any, .any, .any, .any, .any, .any, .any, .any, .any, .any, .any, .any, .any, .any, .any, .any, .any, .any, .any, .any, .any, .any, .any, .any, .any, .any, .any, .any, .any, .any, .any, .any, .any, .any, .any, .any, .any, .any, .any, .any, .any, .any, .any, .any, .any, .any, .any, .any, .any, .any, .any, .any, .any, .any, .any, .any, .any, .any, .any, .any, .any, .any, .any, .any, .any, .any, .any, .any, .any, .any, .any, .any, .any, .any, .any, .any, .any, .any, .any, .any, .any, .any, .any, .any, .any, .any, .any, .any, .any, .any, .any, .any, .any, .any, .any, .any, .any, .any, .any, .any, .any, .any, .any, .any, .any, .any, .any, .any, .any, .any, .any, .any, .any, .any, .any, .any, .any, .any, .any, .any, .any, .any, .any, .any, .any, .any, .any, .any, .any, .any, .any, .any, x158, x159, .any, .any, .any, .any, .any, .any, .any, .any, .any, .any, .any, .any, .any, .any, .any, .any, .any, .any, .any, .any, .any, .any, .any, .any, .any, .any, .any, .any, .any, .any, .any, .any, .any, .any, .any, .any, .any, .any, .any, .any, .any, .any, .any, .any, .any, .any, .any, .any, .any, .any, .any, .any, .any, .any, .any, .any, .any, .any, .any, .any, .any, .any, .any, .any, .any, .any, .any, .any, .any, .any, .any, .any, .any, .any, .any, .any, .any, .any, .any, .any, .any, .any, .any, .any, .any, .any, .any, .any, .any, .any, .any, .any, .any, .any, .any, .any, .any, .any, .any, .any, .any, .any, .any, .any, .any, .any, .any, .any, .any, .any, .any, .any, .any, .any, .any, .any, .any, .any, .any, .any, .any, .any, .any, .any, .any, .any, .any, .any, .any, .any, .any, .any, .any, .any, .any, .any, .any, .any, .any, .any, .any, .any, .any, .any, .any, .any, .any, .any, .any, .any, .any, .any, .any, .any, .any], m⟩ K
def O125_41 (x9 x10 x11 x12 x13 x14 x16 x19 : AV) (m : Mem) : St := ⟨[.any, .any, .any, .any, .any, .any, .any, .any, .any, x9, x10, x11, x12, x13, x14, .any, x16, .any, .any, x19, .any, .any, .any, .any, .any, .any, .any, .any, .any, .any, .any, .any, .any, .any, .any, .any, .any, .any, .any, .any, .any, .any, .any, .any, .any, .any, .any, .any, .any, .any, .any, .any, .any, .any, .any, .any, .any, .any, .any, .any, .any, .any, .any, .any, .any, .any, .any, .any, .any, .any, .any, .any, .any, .any, .any, .any, .any, .any, .any, .any, .any, .any, .any, .any, .any, .any, .any, .any, .any, .any, .any, .any, .any, .any, .any, .any, .any, .any, .any, .any, .any, .any, .any, .any, .any, .any, .any, .any, .any, .any, .any, .any, .any, .any, .any, .any, .any, .any, .any, .any, .any, .any, .any, .any, .any, .any, .any, .any, .any, .any, .any, .any, .any, .any, .any, .any, .any, .any, .any, .any, .any, .any, .any, .any, .any, .any, .any, .any, .any, .any, .any, .any, .any, .any, .any, .any, .any, .any, .any, .any, .any, .any, .any, .any, .any, .any, .any, .any, .any, .any, .any, .any, .any, .any, .any, .any, .any, .any, .any, .any, .any, .any, .any, .any, .any, .any, .any, .any, .any, .any, .any, .any, .any, .any, .any, .any, .any, .any, .any, .any, .any, .any, .any, .any, .any, .any, .any, .any, .any, .any, .any, .any, .any, .any, .any, .any, .any, .any, .any, .any, .any, .any, .any, .any, .any, .any, .any, .any, .any, .any, .any, .any, .any, .any, .any, .any, .any, .any, .any, .any, .any, .any, .any, .any, .any, .any, .any, .any, .any, .any, .any, .any, .any, .any, .any, .any, .any, .any, .any, .any, .any, .any, .any, .any, .any, .any, .any, .any, .any, .any, .any, .any, .any, .any, .any, .any, .any, .any, .any, .any, .any, .any, .any, .any, .any, .any, .any, .any, .any, .any, .any, .any, .any, .any, .any, .any, .any, .any, .any, .any, .any, .any, .any, .any, .any, .any, .any, .any, .any, .any, .any, .any, .any, .any, .any], m⟩
noncomputable def L125_41 (x9 x10 x11 x12 x13 x14 x16 x19 x235 x236 : AV) (m : Mem) (K : Ex → St → Option (AV × Mem)) : Option (AV × Mem) := loopW (execW cfg 125 (AP cfg) (AC cfg) (c1 (c1 (c2 (c1 (c2 (c2 (c1 (c2 (c1 (c2 (c2 (c2 (c2 (c2 (c2 (c2 (c2 (c1 (c1 (c2 (c1 (c1 (c2 (c1 (c2 (c2 (c2 (c2 (c2 (c2 (c2 (bodyOf f125))))))))))))))))))))))))))))))))) (cfg.mask 125 (some 41)) ⟨[.any, .any, .any, .any, .any, .any, .any, .any, .any, x9, x10, x11, x12, x13, x14, .any, x16, .any, .any, x19, .any, .any, .any, .any, .any, .any, .any, .any, .any, .any, .any, .any, .any, .any, .any, .any, .any, .any, .any, .any, .any, .any, .any, .any, .any, .any, .any, .any, .any, .any, .any, .any, .any, .any, .any, .any, .any, .any, .any, .any, .any, .any, .any, .any, .any, .any, .any, .any, .any, .any, .any, .any, .any, .any, .any, .any, .any, .any, .any, .any, .any, .any, .any, .any, .any, .any, .any, .any, .any, .any, .any, .any, .any, .any, .any, .any, .any, .any, .any, .any, .any, .any, .any, .any, .any, .any, .any, .any, .any, .any, .any, .any, .any, .any, .any, .any, .any, .any, .any, .any, .any, .any, .any, .any, .any, .any, .any, .any, .any, .any, .any, .any, .any, .any, .any, .any, .any, .any, .any, .any, .any, .any, .any, .any, .any, .any, .any, .any, .any, .any, .any, .any, .any, .any, .any, .any, .any, .any, .any, .any, .any, .any, .any, .any, .any, .any, .any, .any, .any, .any, .any, .any, .any, .any, .any, .any, .any, .any, .any, .any, .any, .any, .any, .any, .any, .any, .any, .any, .any, .any, .any, .any, .any, .any, .any, .any, .any, .any, .any, .any, .any, .any, .any, .any, .any, .any, .any, .any, .any, .any, .any, .any, .any, .any, .any, .any, .any, .any, .any, .any, .any, .any, .any, .any, .any, .any, .any, .any, .any, .any, .any, .any, .any, .any, .any, x235, x236, .any, .any, .any, .any, .any, .any, .any, .any, .any, .any, .any, .any, .any, .any, .any, .any, .any, .any, .any, .any, .any, .any, .any, .any, .any, .any, .any, .any, .any, .any, .any, .any, .any, .any, .any, .any, .any, .any, .any, .any, .any, .any, .any, .any, .any, .any, .any, .any, .any, .any, .any, .any, .any, .any, .any, .any, .any, .any, .any, .any, .any, .any, .any, .any, .any, .any, .any, .any, .any, .any, .any, .any, .any, .any, .any, .any, .any, .any], m⟩ K
def O125_51 (x13 x25 : AV) (m : Mem) : St := ⟨[.any, .any, .any, .any, .any, .any, .any, .any, .any, .any, .any, .any, .any, x13, .any, .any, .any, .any, .any, .any, .any, .any, .any, .any, .any, x25, .any, .any, .any, .any, .any, .any, .any, .any, .any, .any, .any, .any, .any, .any, .any, .any, .any, .any, .any, .any, .any, .any, .any, .any, .any, .any, .any, .any, .any, .any, .any, .any, .any, .any, .any, .any, .any, .any, .any, .any, .any, .any, .any, .any, .any, .any, .any, .any, .any, .any, .any, .any, .any, .any, .any, .any, .any, .any, .any, .any, .any, .any, .any, .any, .any, .any, .any, .any, .any, .any, .any, .any, .any, .any, .any, .any, .any, .any, .any, .any, .any, .any, .any, .any, .any, .any, .any, .any, .any, .any, .any, .any, .any, .any, .any, .any, .any, .any, .any, .any, .any, .any, .any, .any, .any, .any, .any, .any, .any, .any, .any, .any, .any, .any, .any, .any, .any, .any, .any, .any, .any, .any, .any, .any, .any, .any, .any, .any, .any, .any, .any, .any, .any, .any, .any, .any, .any, .any, .any, .any, .any, .any, .any, .any, .any, .any, .any, .any, .any, .any, .any, .any, .any, .any, .any, .any, .any, .any, .any, .any, .any, .any, .any, .any, .any, .any, .any, .any, .any, .any, .any, .any, .any, .any, .any, .any, .any, .any, .any, .any, .any, .any, .any, .any, .any, .any, .any, .any, .any, .any, .any, .any, .any, .any, .any, .any, .any, .any, .any, .any, .any, .any, .any, .any, .any, .any, .any, .any, .any, .any, .any, .any, .any, .any, .any, .any, .any, .any, .any, .any, .any, .any, .any, .any, .any, .any, .any, .any, .any, .any, .any, .any, .any, .any, .any, .any, .any, .any, .any, .any, .any, .any, .any, .any, .any, .any, .any, .any, .any, .any, .any, .any, .any, .any, .any, .any, .any, .any, .any, .any, .any, .any, .any, .any, .any, .any, .any, .any, .any, .any, .any, .any, .any, .any, .any, .any, .any, .any, .any, .any, .any, .any, .any, .any, .any, .any, .any, .any, .any], m⟩
noncomputable def L125_51 (x9 x10 x13 x25 x281 x282 : AV) (m : Mem) (K : Ex → St → Option (AV × Mem)) : Option (AV × Mem) := loopW (execW cfg 125 (AP cfg) (AC cfg) (c1 (c1 (c2 (c1 (c2 (c2 (c2 (c2 (c2 (c2 (c2 (c2 (c2 (bodyOf f125))))))))))))))) (cfg.mask 125 (some 51)) ⟨[.any, .any, .any, .any, .any, .any, .any, .any, .any, x9, x10, .any, .any, x13, .any, .any, .any, .any, .any, .any, .any, .any, .any, .any, .any, x25, .any, .any, .any, .any, .any, .any, .any, .any, .any, .any, .any, .any, .any, .any, .any, .any, .any, .any, .any, .any, .any, .any, .any, .any, .any, .any, .any, .any, .any, .any, .any, .any, .any, .any, .any, .any, .any, .any, .any, .any, .any, .any, .any, .any, .any, .any, .any, .any, .any, .any, .any, .any, .any, .any, .any, .any, .any, .any, .any, .any, .any, .any, .any, .any, .any, .any, .any, .any, .any, .any, .any, .any, .any, .any, .any, .any, .any, .any, .any, .any, .any, .any, .any, .any, .any, .any, .any, .any, .any, .any, .any, .any, .any, .any, .any, .any, .any, .any, .any, .any, .any, .any, .any, .any, .any, .any, .any, .any, .any, .any, .any, .any, .any, .any, .any, .any, .any, .any, .any, .any, .any, .any, .any, .any, .any, .any, .any, .any, .any, .any, .any, .any, .any, .any, .any, .any, .any, .any, .any, .any, .any, .any, .any, .any, .any, .any, .any, .any, .any, .any, .any, .any, .any, .any, .any, .any, .any, .any, .any, .any, .any, .any, .any, .any, .any, .any, .any, .any, .any, .any, .any, .any, .any, .any, .any, .any, .any, .any, .any, .any, .any, .any, .any, .any, .any, .any, .any, .any, .any, .any, .any, .any, .any, .any, .any, .any, .any, .any, .any, .any, .any, .any, .any, .any, .any, .any, .any, .any, .any, .any, .any, .any, .any, .any, .any, .any, .any, .any, .any, .any, .any, .any, .any, .any, .any, .any, .any, .any, .any, .any, .any, .any, .any, .any, .any, .any, .any, .any, .any, .any, .any, .any, .any, .any, .any, .any, .any, .any, .any, .any, .any, .any, .any, .any, .any, x281, x282, .any, .any, .any, .any, .any, .any, .any, .any, .any, .any, .any, .any, .any, .any, .any, .any, .any, .any, .any, .any, .any, .any, .any, .any, .any, .any, .any, .any, .any, .any, .any, .any], m⟩ K
noncomputable abbrev K125_14_0 (K : Ex → St → Option (AV × Mem)) : Ex → St → Option (AV × Mem) := seqK (fun st => execW cfg 125 (AP cfg) (AC cfg) (c2 (c2 (c2 (c2 (c2 (c2 (c2 (c2 (bodyOf f125))))))))) st K) K
noncomputable abbrev K125_14_1 (K : Ex → St → Option (AV × Mem)) : Ex → St → Option (AV × Mem) := blockK 1 (K125_14_0 K)
noncomputable abbrev K125_14 (K : Ex → St → Option (AV × Mem)) : Ex → St → Option (AV × Mem) := (K125_14_1 K)
noncomputable abbrev K125_18_0 (K : Ex → St → Option (AV × Mem)) : Ex → St → Option (AV × Mem) := seqK (fun st => execW cfg 125 (AP cfg) (AC cfg) (c2 (c2 (c1 (c1 (c2 (c1 (c2 (c2 (c2 (c2 (c2 (c2 (c2 (bodyOf f125)))))))))))))) st (roundG (fun st => loopW (execW cfg 125 (AP cfg) (AC cfg) (c1 (c1 (c2 (c1 (c2 (c2 (c2 (c2 (c2 (c2 (c2 (bodyOf f125))))))))))))) (cfg.mask 125 (some 14)) st K) (cfg.mask 125 (some 14)) K)) (roundG (fun st => loopW (execW cfg 125 (AP cfg) (AC cfg) (c1 (c1 (c2 (c1 (c2 (c2 (c2 (c2 (c2 (c2 (c2 (bodyOf f125))))))))))))) (cfg.mask 125 (some 14)) st K) (cfg.mask 125 (some 14)) K)
noncomputable abbrev K125_18_1 (K : Ex → St → Option (AV × Mem)) : Ex → St → Option (AV × Mem) := blockK 2 (K125_18_0 K)
noncomputable abbrev K125_18_2 (K : Ex → St → Option (AV × Mem)) : Ex → St → Option (AV × Mem) := seqK (fun st => execW cfg 125 (AP cfg) (AC cfg) (c2 (c2 (c2 (c1 (c1 (c2 (c1 (c1 (c2 (c1 (c2 (c2 (c2 (c2 (c2 (c2 (c2 (bodyOf f125)))))))))))))))))) st (K125_18_1 K)) (K125_18_1 K)
noncomputable abbrev K125_18_3 (K : Ex → St → Option (AV × Mem)) : Ex → St → Option (AV × Mem) := blockK 3 (K125_18_2 K)
noncomputable abbrev K125_18 (K : Ex → St → Option (AV × Mem)) : Ex → St → Option (AV × Mem) := (K125_18_3 K)
noncomputable abbrev K125_51_0 (K : Ex → St → Option (AV × Mem)) : Ex → St → Option (AV × Mem) := seqK (fun st => execW cfg 125 (AP cfg) (AC cfg) (c2 (c2 (c2 (c2 (c2 (c2 (c2 (c2 (c2 (c2 (bodyOf f125))))))))))) st K) K
noncomputable abbrev K125_51_1 (K : Ex → St → Option (AV × Mem)) : Ex → St → Option (AV × Mem) := blockK 9 (K125_51_0 K)
noncomputable abbrev K125_51 (K : Ex → St → Option (AV × Mem)) : Ex → St → Option (AV × Mem) := (K125_51_1 K)
noncomputable abbrev K125_24_0 (K : Ex → St → Option (AV × Mem)) : Ex → St → Option (AV × Mem) := seqK (fun st => execW cfg 125 (AP cfg) (AC cfg) (c2 (c2 (c1 (c1 (c2 (c1 (c2 (c2 (c2 (c2 (c2 (c2 (c2 (bodyOf f125)))))))))))))) st (roundG (fun st => loopW (execW cfg 125 (AP cfg) (AC cfg) (c1 (c1 (c2 (c1 (c2 (c2 (c2 (c2 (c2 (c2 (c2 (bodyOf f125))))))))))))) (cfg.mask 125 (some 14)) st K) (cfg.mask 125 (some 14)) K)) (roundG (fun st => loopW (execW cfg 125 (AP cfg) (AC cfg) (c1 (c1 (c2 (c1 (c2 (c2 (c2 (c2 (c2 (c2 (c2 (bodyOf f125))))))))))))) (cfg.mask 125 (some 14)) st K) (cfg.mask 125 (some 14)) K)
noncomputable abbrev K125_24_1 (K : Ex → St → Option (AV × Mem)) : Ex → St → Option (AV × Mem) := blockK 2 (K125_24_0 K)
noncomputable abbrev K125_24_2 (K : Ex → St → Option (AV × Mem)) : Ex → St → Option (AV × Mem) := seqK (fun st => execW cfg 125 (AP cfg) (AC cfg) (c2 (c2 (c2 (c2 (c2 (c1 (c1 (c2 (c1 (c1 (c2 (c1 (c2 (c2 (c2 (c2 (c2 (c2 (c2 (bodyOf f125)))))))))))))))))))) st (K125_24_1 K)) (K125_24_1 K)
noncomputable abbrev K125_24_3 (K : Ex → St → Option (AV × Mem)) : Ex → St → Option (AV × Mem) := blockK 5 (K125_24_2 K)
noncomputable abbrev K125_24 (K : Ex → St → Option (AV × Mem)) : Ex → St → Option (AV × Mem) := (K125_24_3 K)
noncomputable abbrev K125_41_0 (K : Ex → St → Option (AV × Mem)) : Ex → St → Option (AV × Mem) := seqK (fun st => execW cfg 125 (AP cfg) (AC cfg) (c2 (c2 (c1 (c1 (c2 (c1 (c2 (c2 (c2 (c2 (c2 (c2 (c2 (bodyOf f125)))))))))))))) st (roundG (fun st => loopW (execW cfg 125 (AP cfg) (AC cfg) (c1 (c1 (c2 (c1 (c2 (c2 (c2 (c2 (c2 (c2 (c2 (bodyOf f125))))))))))))) (cfg.mask 125 (some 14)) st K) (cfg.mask 125 (some 14)) K)) (roundG (fun st => loopW (execW cfg 125 (AP cfg) (AC cfg) (c1 (c1 (c2 (c1 (c2 (c2 (c2 (c2 (c2 (c2 (c2 (bodyOf f125))))))))))))) (cfg.mask 125 (some 14)) st K) (cfg.mask 125 (some 14)) K)
noncomputable abbrev K125_41_1 (K : Ex → St → Option (AV × Mem)) : Ex → St → Option (AV × Mem) := blockK 2 (K125_41_0 K)
noncomputable abbrev K125_41_2 (K : Ex → St → Option (AV × Mem)) : Ex → St → Option (AV × Mem) := seqK (fun st => execW cfg 125 (AP cfg) (AC cfg) (c2 (c2 (c2 (c2 (c2 (c2 (c2 (c2 (c2 (c1 (c1 (c2 (c1 (c1 (c2 (c1 (c2 (c2 (c2 (c2 (c2 (c2 (c2 (bodyOf f125)))))))))))))))))))))))) st (K125_41_1 K)) (K125_41_1 K)
noncomputable abbrev K125_41_3 (K : Ex → St → Option (AV × Mem)) : Ex → St → Option (AV × Mem) := seqK (fun st => execW cfg 125 (AP cfg) (AC cfg) (c2 (c2 (c2 (c1 (c2 (c1 (c2 (c2 (c2 (c2 (c2 (c2 (c2 (c2 (c1 (c1 (c2 (c1 (c1 (c2 (c1 (c2 (c2 (c2 (c2 (c2 (c2 (c2 (bodyOf f125))))))))))))))))))))))))))))) st (K125_41_2 K)) (K125_41_2 K)
noncomputable abbrev K125_41_4 (K : Ex → St → Option (AV × Mem)) : Ex → St → Option (AV × Mem) := blockK 7 (K125_41_3 K)
noncomputable abbrev K125_41 (K : Ex → St → Option (AV × Mem)) : Ex → St → Option (AV × Mem) := (K125_41_4 K)
theorem T125 (a0 a1 : AV) (m : Mem) : AC cfg 125 [a0, a1] m =
  (pcall (AP cfg) none m 124 [a0]).bind fun r1 =>
  (pcall (AP cfg) none r1.2 124 [a1]).bind fun r2 =>
  (lenA false r2.1).bind fun v3 =>
  (binA .other .eql v3 (.int .i64 0)).bind fun v4 =>
  ifA v4 (
  some ((.tup [(.lst none true .full []), (.lst none true .full []), (.int .i64 31)]), r2.2)) (
  (pcall (AP cfg) none r2.2 109 [r1.1, r2.1]).bind fun r5 =>
  (binA .other .lss r5.1 (.int .i64 0)).bind fun v6 =>
  ifA v6 (
  (pcall (AP cfg) none r5.2 123 [r1.1]).bind fun r7 =>
  some ((.tup [(.lst none true .full []), r7.1, (.int .i64 0)]), r7.2)) (
  (lenA false r2.1).bind fun v8 =>
  (binA .other .eql v8 (.int .i64 1)).bind fun v9 =>
  ifA v9 (
  (indexAddrA none r2.1 (.int .i64 0)).bind fun v10 =>
  (loadA none r5.2 v10).bind fun v11 =>
  (pcall (AP cfg) none r5.2 136 [r1.1, v11]).bind fun r12 =>
  (extractA r12.1 0).bind fun v13 =>
  (extractA r12.1 1).bind fun v14 =>
  (convA .u64 v14).bind fun v15 =>
  (pcall (AP cfg) none r12.2 93 [v15]).bind fun r16 =>
  some ((.tup [v13, r16.1, (.int .i64 0)]), r16.2)) (
  (lenA false r2.1).bind fun v17 =>
  (binA .other .sub v17 (.int .i64 1)).bind fun v18 =>
  (indexAddrA none r2.1 v18).bind fun v19 =>
  (loadA none r5.2 v19).bind fun v20 =>
  (pcall (AP cfg) none r5.2 137 [v20]).bind fun r21 =>
  (convA .u64 r21.1).bind fun v22 =>
  (AC cfg 138 [r1.1, v22] r21.2).bind fun r23 =>
  (AC cfg 138 [r2.1, v22] r23.2).bind fun r24 =>
  (pcall (AP cfg) none r24.2 124 [r24.1]).bind fun r25 =>
  (lenA false r25.1).bind fun v26 =>
  (lenA false r23.1).bind fun v27 =>
  (binA .other .sub v27 v26).bind fun v28 =>
  (makeA none 116 none (.int .u32 0) 4 r25.2 v28 v28).bind fun r29 =>
  (lenA false r23.1).bind fun v30 =>
  (binA .other .sub v30 v26).bind fun v31 =>
  (binA .other .sub v31 (.int .i64 1)).bind fun v32 =>
  L125_14 v22 r23.1 r25.1 v26 r29.1 v32 r29.2 (K125_14 (finK cfg.P f125.results.toList))))) :=
(AC_eq cfg 125 [a0, a1] m (fn := f125) (c := bodyOf f125) at125 rfl).trans (by kernel_rfl)
theorem L125_14_eq (x9 x10 x11 x12 x13 x14 : AV) (m : Mem) (K : Ex → St → Option (AV × Mem)) : L125_14 x9 x10 x11 x12 x13 x14 m K =
  (binA .other .geq x14 (.int .i64 0)).bind fun v1 =>
  ifA v1 (
  (binA .other .add x14 x12).bind fun v2 =>
  (indexAddrA none x10 v2).bind fun v3 =>
  (loadA none m v3).bind fun v4 =>
  (convA .u64 v4).bind fun v5 =>
  (binA .other .shl v5 (.int .u64 32)).bind fun v6 =>
  (binA .other .add x14 x12).bind fun v7 =>
  (binA .other .sub v7 (.int .i64 1)).bind fun v8 =>
  (indexAddrA none x10 v8).bind fun v9 =>
  (loadA none m v9).bind fun v10 =>
  (convA .u64 v10).bind fun v11 =>
  (binA .other .or v6 v11).bind fun v12 =>
  (binA .other .sub x12 (.int .i64 1)).bind fun v13 =>
  (indexAddrA none x11 v13).bind fun v14 =>
  (loadA none m v14).bind fun v15 =>
  (convA .u64 v15).bind fun v16 =>
  (binA .other .quo v12 v16).bind fun v17 =>
  (binA .other .sub x12 (.int .i64 1)).bind fun v18 =>
  (indexAddrA none x11 v18).bind fun v19 =>
  (loadA none m v19).bind fun v20 =>
  (convA .u64 v20).bind fun v21 =>
  (binA .other .rem v12 v21).bind fun v22 =>
  L125_18 x9 x10 x11 x12 x13 x14 v17 v22 m (K125_18 K)) (
  K (.exit 1) (O125_14 x9 x10 x12 x13 m)) :=
(loopW_eq (execW_lin _) _ _ _).trans (by kernel_rfl)
theorem L125_18_eq (x9 x10 x11 x12 x13 x14 x16 x17 : AV) (m : Mem) (K : Ex → St → Option (AV × Mem)) : L125_18 x9 x10 x11 x12 x13 x14 x16 x17 m K =
  (binA .other .geq x16 (.int .u64 4294967296)).bind fun v1 =>
  ifA v1 (
  (binA .other .sub x16 (.int .u64 1)).bind fun v2 =>
  (binA .other .sub x12 (.int .i64 1)).bind fun v3 =>
  (indexAddrA none x11 v3).bind fun v4 =>
  (loadA none m v4).bind fun v5 =>
  (convA .u64 v5).bind fun v6 =>
  (binA .other .add x17 v6).bind fun v7 =>
  (binA .other .geq v7 (.int .u64 4294967296)).bind fun v8 =>
  ifA v8 (
  K (.exit 3) (O125_18 x9 x10 x11 x12 x13 x14 v2 m)) (
  L125_18 x9 x10 x11 x12 x13 x14 v2 v7 m K)) (
  (binA .other .sub x12 (.int .i64 2)).bind fun v9 =>
  (indexAddrA none x11 v9).bind fun v10 =>
  (loadA none m v10).bind fun v11 =>
  (convA .u64 v11).bind fun v12 =>
  (binA .other .mul x16 v12).bind fun v13 =>
  (binA .other .shl x17 (.int .u64 32)).bind fun v14 =>
  (binA .other .add x14 x12).bind fun v15 =>
  (binA .other .sub v15 (.int .i64 2)).bind fun v16 =>
  (indexAddrA none x10 v16).bind fun v17 =>
  (loadA none m v17).bind fun v18 =>
  (convA .u64 v18).bind fun v19 =>
  (binA .other .or v14 v19).bind fun v20 =>
  (binA .other .gtr v13 v20).bind fun v21 =>
  ifA v21 (
  (binA .other .sub x16 (.int .u64 1)).bind fun v22 =>
  (binA .other .sub x12 (.int .i64 1)).bind fun v23 =>
  (indexAddrA none x11 v23).bind fun v24 =>
  (loadA none m v24).bind fun v25 =>
  (convA .u64 v25).bind fun v26 =>
  (binA .other .add x17 v26).bind fun v27 =>
  (binA .other .geq v27 (.int .u64 4294967296)).bind fun v28 =>
  ifA v28 (
  K (.exit 3) (O125_18 x9 x10 x11 x12 x13 x14 v22 m)) (
  L125_18 x9 x10 x11 x12 x13 x14 v22 v27 m K)) (
  K (.exit 3) (O125_18 x9 x10 x11 x12 x13 x14 x16 m))) :=
(loopW_eq (execW_lin _) _ _ _).trans (by kernel_rfl)
theorem L125_24_eq (x9 x10 x11 x12 x13 x14 x16 x18 x19 x158 x159 : AV) (m : Mem) (K : Ex → St → Option (AV × Mem)) : L125_24 x9 x10 x11 x12 x13 x14 x16 x18 x19 x158 x159 m K =
  (binA .other .lss x159 x158).bind fun v1 =>
  ifA v1 (
  (indexAddrA none x11 x159).bind fun v2 =>
  (loadA none m v2).bind fun v3 =>
  (convA .u64 v3).bind fun v4 =>
  (binA .other .mul x16 v4).bind fun v5 =>
  (binA .other .add x19 v5).bind fun v6 =>
  (binA .other .and v6 (.int .u64 4294967295)).bind fun v7 =>
  (binA .other .add v7 x18).bind fun v8 =>
  (binA .other .add x159 x14).bind fun v9 =>
  (indexAddrA none x10 v9).bind fun v10 =>
  (loadA none m v10).bind fun v11 =>
  (convA .u64 v11).bind fun v12 =>
  (binA .other .lss v12 v8).bind fun v13 =>
  ifA v13 (
  (binA .other .add x159 x14).bind fun v14 =>
  (binA .other .add x159 x14).bind fun v15 =>
  (indexAddrA none x10 v15).bind fun v16 =>
  (loadA none m v16).bind fun v17 =>
  (convA .u64 v17).bind fun v18 =>
  (binA .other .shl (.int .u64 1) (.int .u64 32)).bind fun v19 =>
  (binA .other .add v18 v19).bind fun v20 =>
  (binA .other .sub v20 v8).bind fun v21 =>
  (convA .u32 v21).bind fun v22 =>
  (indexAddrA none x10 v14).bind fun v23 =>
  (storeA none m v23 v22).bind fun m24 =>
  (binA .other .shr v6 (.int .u64 32)).bind fun v25 =>
  (binA .other .add x159 (.int .i64 1)).bind fun v26 =>
  L125_24 x9 x10 x11 x12 x13 x14 x16 (.int .u64 1) v25 x158 v26 m24 K) (
  (binA .other .add x159 x14).bind fun v27 =>
  (binA .other .add x159 x14).bind fun v28 =>
  (indexAddrA none x10 v28).bind fun v29 =>
  (loadA none m v29).bind fun v30 =>
  (convA .u64 v30).bind fun v31 =>
  (binA .other .shl (.int .u64 0) (.int .u64 32)).bind fun v32 =>
  (binA .other .add v31 v32).bind fun v33 =>
  (binA .other .sub v33 v8).bind fun v34 =>
  (convA .u32 v34).bind fun v35 =>
  (indexAddrA none x10 v27).bind fun v36 =>
  (storeA none m v36 v35).bind fun m37 =>
  (binA .other .shr v6 (.int .u64 32)).bind fun v38 =>
  (binA .other .add x159 (.int .i64 1)).bind fun v39 =>
  L125_24 x9 x10 x11 x12 x13 x14 x16 (.int .u64 0) v38 x158 v39 m37 K)) (
  K (.exit 5) (O125_24 x9 x10 x11 x12 x13 x14 x16 x18 x19 m)) :=
(loopW_eq (execW_lin _) _ _ _).trans (by kernel_rfl)
theorem L125_41_eq (x9 x10 x11 x12 x13 x14 x16 x19 x235 x236 : AV) (m : Mem) (K : Ex → St → Option (AV × Mem)) : L125_41 x9 x10 x11 x12 x13 x14 x16 x19 x235 x236 m K =
  (binA .other .lss x236 x235).bind fun v1 =>
  ifA v1 (
  (binA .other .add x236 x14).bind fun v2 =>
  (indexAddrA none x10 v2).bind fun v3 =>
  (loadA none m v3).bind fun v4 =>
  (convA .u64 v4).bind fun v5 =>
  (indexAddrA none x11 x236).bind fun v6 =>
  (loadA none m v6).bind fun v7 =>
  (convA .u64 v7).bind fun v8 =>
  (binA .other .add v5 v8).bind fun v9 =>
  (binA .other .add x19 v9).bind fun v10 =>
  (binA .other .add x236 x14).bind fun v11 =>
  (convA .u32 v10).bind fun v12 =>
  (indexAddrA none x10 v11).bind fun v13 =>
  (storeA none m v13 v12).bind fun m14 =>
  (binA .other .shr v10 (.int .u64 32)).bind fun v15 =>
  (binA .other .add x236 (.int .i64 1)).bind fun v16 =>
  L125_41 x9 x10 x11 x12 x13 x14 x16 v15 x235 v16 m14 K) (
  K (.exit 7) (O125_41 x9 x10 x11 x12 x13 x14 x16 x19 m)) :=
(loopW_eq (execW_lin _) _ _ _).trans (by kernel_rfl)
theorem L125_51_eq (x9 x10 x13 x25 x281 x282 : AV) (m : Mem) (K : Ex → St → Option (AV × Mem)) : L125_51 x9 x10 x13 x25 x281 x282 m K =
  (binA .other .lss x282 x281).bind fun v1 =>
  ifA v1 (
  (indexAddrA none x10 x282).bind fun v2 =>
  (loadA none m v2).bind fun v3 =>
  (binA .other .shr v3 x9).bind fun v4 =>
  (indexAddrA none x25 x282).bind fun v5 =>
  (storeA none m v5 v4).bind fun m6 =>
  (binA .other .gtr x9 (.int .u64 0)).bind fun v7 =>
  ifA v7 (
  (indexAddrA none x25 x282).bind fun v8 =>
  (loadA none m6 v8).bind fun v9 =>
  (binA .other .add x282 (.int .i64 1)).bind fun v10 =>
  (indexAddrA none x10 v10).bind fun v11 =>
  (loadA none m6 v11).bind fun v12 =>
  (binA .other .sub (.int .u64 32) x9).bind fun v13 =>
  (binA .other .shl v12 v13).bind fun v14 =>
  (binA .other .or v9 v14).bind fun v15 =>
  (indexAddrA none x25 x282).bind fun v16 =>
  (storeA none m6 v16 v15).bind fun m17 =>
  (binA .other .add x282 (.int .i64 1)).bind fun v18 =>
  L125_51 x9 x10 x13 x25 x281 v18 m17 K) (
  (binA .other .add x282 (.int .i64 1)).bind fun v19 =>
  L125_51 x9 x10 x13 x25 x281 v19 m6 K)) (
  K (.exit 9) (O125_51 x13 x25 m)) :=
(loopW_eq (execW_lin _) _ _ _).trans (by kernel_rfl)
theorem K125_14_x1 (x9 x10 x12 x13 : AV) (m : Mem) : K125_14 (finK cfg.P f125.results.toList) (.exit 1) (O125_14 x9 x10 x12 x13 m) =
  (makeA none 116 none (.int .u32 0) 4 m x12 x12).bind fun r1 =>
  L125_51 x9 x10 x13 r1.1 x12 (.int .i64 0) r1.2 (K125_51 (finK cfg.P f125.results.toList)) := by kernel_rfl
theorem K125_18_x3 (x9 x10 x11 x12 x13 x14 x16 : AV) (m : Mem) (K : Ex → St → Option (AV × Mem)) : K125_18 K (.exit 3) (O125_18 x9 x10 x11 x12 x13 x14 x16 m) =
  L125_24 x9 x10 x11 x12 x13 x14 x16 (.int .u64 0) (.int .u64 0) x12 (.int .i64 0) m (K125_24 K) := by kernel_rfl
theorem K125_51_x9 (x13 x25 : AV) (m : Mem) : K125_51 (finK cfg.P f125.results.toList) (.exit 9) (O125_51 x13 x25 m) =
  (pcall (AP cfg) none m 124 [x13]).bind fun r1 =>
  (pcall (AP cfg) none r1.2 124 [x25]).bind fun r2 =>
  some ((.tup [r1.1, r2.1, (.int .i64 0)]), r2.2) := by kernel_rfl
theorem K125_24_x5 (x9 x10 x11 x12 x13 x14 x16 x18 x19 : AV) (m : Mem) (K : Ex → St → Option (AV × Mem)) : K125_24 K (.exit 5) (O125_24 x9 x10 x11 x12 x13 x14 x16 x18 x19 m) =
  (binA .other .add x19 x18).bind fun v1 =>
  (binA .other .add x14 x12).bind fun v2 =>
  (indexAddrA none x10 v2).bind fun v3 =>
  (loadA none m v3).bind fun v4 =>
  (convA .u64 v4).bind fun v5 =>
  (binA .other .lss v5 v1).bind fun v6 =>
  (binA .other .add x14 x12).bind fun v7 =>
  (binA .other .add x14 x12).bind fun v8 =>
  (indexAddrA none x10 v8).bind fun v9 =>
  (loadA none m v9).bind fun v10 =>
  (convA .u64 v10).bind fun v11 =>
  (binA .other .sub v11 v1).bind fun v12 =>
  (convA .u32 v12).bind fun v13 =>
  (indexAddrA none x10 v7).bind fun v14 =>
  (storeA none m v14 v13).bind fun m15 =>
  ifA v6 (
  (binA .other .sub x16 (.int .u64 1)).bind fun v16 =>
  L125_41 x9 x10 x11 x12 x13 x14 v16 (.int .u64 0) x12 (.int .i64 0) m15 (K125_41 K)) (
  (convA .u32 x16).bind fun v17 =>
  (indexAddrA none x13 x14).bind fun v18 =>
  (storeA none m15 v18 v17).bind fun m19 =>
  (binA .other .sub x14 (.int .i64 1)).bind fun v20 =>
  L125_14 x9 x10 x11 x12 x13 v20 m19 K) := by kernel_rfl
theorem K125_41_x7 (x9 x10 x11 x12 x13 x14 x16 x19 : AV) (m : Mem) (K : Ex → St → Option (AV × Mem)) : K125_41 K (.exit 7) (O125_41 x9 x10 x11 x12 x13 x14 x16 x19 m) =
  (binA .other .add x14 x12).bind fun v1 =>
  (indexAddrA none x10 v1).bind fun v2 =>
  (loadA none m v2).bind fun v3 =>
  (convA .u32 x19).bind fun v4 =>
  (binA .other .add v3 v4).bind fun v5 =>
  (indexAddrA none x10 v1).bind fun v6 =>
  (storeA none m v6 v5).bind fun m7 =>
  (convA .u32 x16).bind fun v8 =>
  (indexAddrA none x13 x14).bind fun v9 =>
  (storeA none m7 v9 v8).bind fun m10 =>
  (binA .other .sub x14 (.int .i64 1)).bind fun v11 =>
  L125_14 x9 x10 x11 x12 x13 v11 m10 K := by kernel_rfl
/-! ### sortilege/nat.short -/
def O136_4 (x6 x7 : AV) (m : Mem) : St := ⟨[.any, .any, .any, .any, .any, .any, x6, x7, .any, .any, .any, .any, .any, .any, .any, .any, .any, .any, .any, .any, .any, .any, .any, .any, .any, .any, .any, .any, .any, .any, .any, .any, .any, .any, .any, .any, .any, .any, .any, .any, .any, .any, .any], m⟩
noncomputable def L136_4 (x0 x1 x6 x7 x8 : AV) (m : Mem) (K : Ex → St → Option (AV × Mem)) : Option (AV × Mem) := loopW (execW cfg 136 (AP cfg) (AC cfg) (c1 (c1 (c2 (c1 (c2 (c2 (c2 (bodyOf f136))))))))) (cfg.mask 136 (some 4)) ⟨[x0, x1, .any, .any, .any, .any, x6, x7, x8, .any, .any, .any, .any, .any, .any, .any, .any, .any, .any, .any, .any, .any, .any, .any, .any, .any, .any, .any, .any, .any, .any, .any, .any, .any, .any, .any, .any, .any, .any, .any, .any, .any, .any], m⟩ K
noncomputable abbrev K136_4_0 (K : Ex → St → Option (AV × Mem)) : Ex → St → Option (AV × Mem) := seqK (fun st => execW cfg 136 (AP cfg) (AC cfg) (c2 (c2 (c2 (c2 (bodyOf f136))))) st K) K
noncomputable abbrev K136_4_1 (K : Ex → St → Option (AV × Mem)) : Ex → St → Option (AV × Mem) := blockK 0 (K136_4_0 K)
noncomputable abbrev K136_4 (K : Ex → St → Option (AV × Mem)) : Ex → St → Option (AV × Mem) := (K136_4_1 K)
theorem T136 (a0 a1 : AV) (m : Mem) : AC cfg 136 [a0, a1] m =
  (lenA false a0).bind fun v1 =>
  (makeA none 116 none (.int .u32 0) 4 m v1 v1).bind fun r2 =>
  (lenA false a0).bind fun v3 =>
  (binA .other .sub v3 (.int .i64 1)).bind fun v4 =>
  L136_4 a0 a1 r2.1 (.int .u64 0) v4 r2.2 (K136_4 (finK cfg.P f136.results.toList)) :=
(AC_eq cfg 136 [a0, a1] m (fn := f136) (c := bodyOf f136) at136 rfl).trans (by kernel_rfl)
theorem L136_4_eq (x0 x1 x6 x7 x8 : AV) (m : Mem) (K : Ex → St → Option (AV × Mem)) : L136_4 x0 x1 x6 x7 x8 m K =
  (binA .other .geq x8 (.int .i64 0)).bind fun v1 =>
  ifA v1 (
  (binA .other .shl x7 (.int .u64 32)).bind fun v2 =>
  (indexAddrA none x0 x8).bind fun v3 =>
  (loadA none m v3).bind fun v4 =>
  (convA .u64 v4).bind fun v5 =>
  (binA .other .or v2 v5).bind fun v6 =>
  (convA .u64 x1).bind fun v7 =>
  (binA .other .quo v6 v7).bind fun v8 =>
  (convA .u32 v8).bind fun v9 =>
  (indexAddrA none x6 x8).bind fun v10 =>
  (storeA none m v10 v9).bind fun m11 =>
  (convA .u64 x1).bind fun v12 =>
  (binA .other .rem v6 v12).bind fun v13 =>
  (binA .other .sub x8 (.int .i64 1)).bind fun v14 =>
  L136_4 x0 x1 x6 v13 v14 m11 K) (
  K (.exit 0) (O136_4 x6 x7 m)) :=
(loopW_eq (execW_lin _) _ _ _).trans (by kernel_rfl)
theorem K136_4_x0 (x6 x7 : AV) (m : Mem) : K136_4 (finK cfg.P f136.results.toList) (.exit 0) (O136_4 x6 x7 m) =
  (pcall (AP cfg) none m 124 [x6]).bind fun r1 =>
  (convA .u32 x7).bind fun v2 =>
  some ((.tup [r1.1, v2]), r1.2) := by kernel_rfl
/-! ### math/bits.LeadingZeros32 -/
theorem T137 (a0 : AV) (m : Mem) : AC cfg 137 [a0] m =
  (pcall (AP cfg) none m 140 [a0]).bind fun r1 =>
  (binA .other .sub (.int .i64 32) r1.1).bind fun v2 =>
  some (v2, r1.2) :=
(AC_eq cfg 137 [a0] m (fn := f137) (c := bodyOf f137) at137 rfl).trans (by kernel_rfl)
/-! ### sortilege/nat.shifted -/
def O138_3 (x5 : AV) (m : Mem) : St := ⟨[.any, .any, .any, .any, .any, x5, .any, .any, .any, .any, .any, .any, .any, .any, .any, .any, .any, .any, .any, .any, .any, .any, .any, .any, .any, .any, .any, .any, .any, .any, .any, .any, .any, .any, .any, .any, .any, .any, .any, .any], m⟩
noncomputable def L138_3 (x1 x5 x12 x13 x14 : AV) (m : Mem) (K : Ex → St → Option (AV × Mem)) : Option (AV × Mem) := loopW (execW cfg 138 (AP cfg) (AC cfg) (c1 (c1 (c2 (c1 (c2 (c2 (bodyOf f138)))))))) (cfg.mask 138 (some 3)) ⟨[.any, x1, .any, .any, .any, x5, .any, .any, .any, .any, .any, .any, x12, x13, x14, .any, .any, .any, .any, .any, .any, .any, .any, .any, .any, .any, .any, .any, .any, .any, .any, .any, .any, .any, .any, .any, .any, .any, .any, .any], m⟩ K
noncomputable abbrev K138_3_0 (K : Ex → St → Option (AV × Mem)) : Ex → St → Option (AV × Mem) := seqK (fun st => execW cfg 138 (AP cfg) (AC cfg) (c2 (c2 (c2 (bodyOf f138)))) st K) K
noncomputable abbrev K138_3_1 (K : Ex → St → Option (AV × Mem)) : Ex → St → Option (AV × Mem) := blockK 0 (K138_3_0 K)
noncomputable abbrev K138_3 (K : Ex → St → Option (AV × Mem)) : Ex → St → Option (AV × Mem) := (K138_3_1 K)
theorem T138 (a0 a1 : AV) (m : Mem) : AC cfg 138 [a0, a1] m =
  (lenA false a0).bind fun v1 =>
  (binA .other .add v1 (.int .i64 1)).bind fun v2 =>
  (makeA none 116 none (.int .u32 0) 4 m v2 v2).bind fun r3 =>
  (lenA false a0).bind fun v4 =>
  L138_3 a1 r3.1 a0 v4 (.int .i64 0) r3.2 (K138_3 (finK cfg.P f138.results.toList)) :=
(AC_eq cfg 138 [a0, a1] m (fn := f138) (c := bodyOf f138) at138 rfl).trans (by kernel_rfl)
theorem L138_3_eq (x1 x5 x12 x13 x14 : AV) (m : Mem) (K : Ex → St → Option (AV × Mem)) : L138_3 x1 x5 x12 x13 x14 m K =
  (binA .other .lss x14 x13).bind fun v1 =>
  ifA v1 (
  (indexAddrA none x12 x14).bind fun v2 =>
  (loadA none m v2).bind fun v3 =>
  (indexAddrA none x5 x14).bind fun v4 =>
  (loadA none m v4).bind fun v5 =>
  (binA .other .shl v3 x1).bind fun v6 =>
  (binA .other .or v5 v6).bind fun v7 =>
  (indexAddrA none x5 x14).bind fun v8 =>
  (storeA none m v8 v7).bind fun m9 =>
  (binA .other .add x14 (.int .i64 1)).bind fun v10 =>
  (convA .u64 v3).bind fun v11 =>
  (binA .other .shl v11 x1).bind fun v12 =>
  (binA .other .shr v12 (.int .u64 32)).bind fun v13 =>
  (convA .u32 v13).bind fun v14 =>
  (indexAddrA none x5 v10).bind fun v15 =>
  (storeA none m9 v15 v14).bind fun m16 =>
  (binA .other .add x14 (.int .i64 1)).bind fun v17 =>
  L138_3 x1 x5 x12 x13 v17 m16 K) (
  K (.exit 0) (O138_3 x5 m)) :=
(loopW_eq (execW_lin _) _ _ _).trans (by kernel_rfl)
theorem K138_3_x0 (x5 : AV) (m : Mem) : K138_3 (finK cfg.P f138.results.toList) (.exit 0) (O138_3 x5 m) =
  some (x5, m) := by kernel_rfl
/-! ### sortilege/nat.Bits -/
theorem T139 (a0 : AV) (m : Mem) : AC cfg 139 [a0] m =
  (pcall (AP cfg) none m 124 [a0]).bind fun r1 =>
  (lenA false r1.1).bind fun v2 =>
  (binA .other .eql v2 (.int .i64 0)).bind fun v3 =>
  ifA v3 (
  some ((.int .i64 0), r1.2)) (
  (lenA false r1.1).bind fun v4 =>
  (binA .other .sub v4 (.int .i64 1)).bind fun v5 =>
  (binA .other .mul (.int .i64 32) v5).bind fun v6 =>
  (lenA false r1.1).bind fun v7 =>
  (binA .other .sub v7 (.int .i64 1)).bind fun v8 =>
  (indexAddrA none r1.1 v8).bind fun v9 =>
  (loadA none r1.2 v9).bind fun v10 =>
  (pcall (AP cfg) none r1.2 140 [v10]).bind fun r11 =>
  (binA .other .add v6 r11.1).bind fun v12 =>
  some (v12, r11.2)) :=
(AC_eq cfg 139 [a0] m (fn := f139) (c := bodyOf f139) at139 rfl).trans (by kernel_rfl)
/-! ### math/bits.Len32 -/
theorem T140 (a0 : AV) (m : Mem) : AC cfg 140 [a0] m =
  (binA .other .geq a0 (.int .u32 65536)).bind fun v1 =>
  ifA v1 (
  (binA .other .shr a0 (.int .u64 16)).bind fun v2 =>
  (binA .other .geq v2 (.int .u32 256)).bind fun v3 =>
  ifA v3 (
  (binA .other .shr v2 (.int .u64 8)).bind fun v4 =>
  (binA .other .add (.int .i64 16) (.int .i64 8)).bind fun v5 =>
  (convA .u8 v4).bind fun v6 =>
  (indexStrA (.str ⟨⟨[0, 1, 2, 2, 3, 3, 3, 3, 4, 4, 4, 4, 4, 4, 4, 4, 5, 5, 5, 5, 5, 5, 5, 5, 5, 5, 5, 5, 5, 5, 5, 5, 6, 6, 6, 6, 6, 6, 6, 6, 6, 6, 6, 6, 6, 6, 6, 6, 6, 6, 6, 6, 6, 6, 6, 6, 6, 6, 6, 6, 6, 6, 6, 6, 7, 7, 7, 7, 7, 7, 7, 7, 7, 7, 7, 7, 7, 7, 7, 7, 7, 7, 7, 7, 7, 7, 7, 7, 7, 7, 7, 7, 7, 7, 7, 7, 7, 7, 7, 7, 7, 7, 7, 7, 7, 7, 7, 7, 7, 7, 7, 7, 7, 7, 7, 7, 7, 7, 7, 7, 7, 7, 7, 7, 7, 7, 7, 7, 8, 8, 8, 8, 8, 8, 8, 8, 8, 8, 8, 8, 8, 8, 8, 8, 8, 8, 8, 8, 8, 8, 8, 8, 8, 8, 8, 8, 8, 8, 8, 8, 8, 8, 8, 8, 8, 8, 8, 8, 8, 8, 8, 8, 8, 8, 8, 8, 8, 8, 8, 8, 8, 8, 8, 8, 8, 8, 8, 8, 8, 8, 8, 8, 8, 8, 8, 8, 8, 8, 8, 8, 8, 8, 8, 8, 8, 8, 8, 8, 8, 8, 8, 8, 8, 8, 8, 8, 8, 8, 8, 8, 8, 8, 8, 8, 8, 8, 8, 8, 8, 8, 8, 8, 8, 8, 8, 8, 8, 8, 8, 8, 8, 8, 8, 8, 8, 8, 8, 8, 8, 8, 8, 8, 8, 8, 8, 8]⟩⟩) v6).bind fun v7 =>
  (convA .i64 v7).bind fun v8 =>
  (binA .other .add v5 v8).bind fun v9 =>
  some (v9, m)) (
  (convA .u8 v2).bind fun v10 =>
  (indexStrA (.str ⟨⟨[0, 1, 2, 2, 3, 3, 3, 3, 4, 4, 4, 4, 4, 4, 4, 4, 5, 5, 5, 5, 5, 5, 5, 5, 5, 5, 5, 5, 5, 5, 5, 5, 6, 6, 6, 6, 6, 6, 6, 6, 6, 6, 6, 6, 6, 6, 6, 6, 6, 6, 6, 6, 6, 6, 6, 6, 6, 6, 6, 6, 6, 6, 6, 6, 7, 7, 7, 7, 7, 7, 7, 7, 7, 7, 7, 7, 7, 7, 7, 7, 7, 7, 7, 7, 7, 7, 7, 7, 7, 7, 7, 7, 7, 7, 7, 7, 7, 7, 7, 7, 7, 7, 7, 7, 7, 7, 7, 7, 7, 7, 7, 7, 7, 7, 7, 7, 7, 7, 7, 7, 7, 7, 7, 7, 7, 7, 7, 7, 8, 8, 8, 8, 8, 8, 8, 8, 8, 8, 8, 8, 8, 8, 8, 8, 8, 8, 8, 8, 8, 8, 8, 8, 8, 8, 8, 8, 8, 8, 8, 8, 8, 8, 8, 8, 8, 8, 8, 8, 8, 8, 8, 8, 8, 8, 8, 8, 8, 8, 8, 8, 8, 8, 8, 8, 8, 8, 8, 8, 8, 8, 8, 8, 8, 8, 8, 8, 8, 8, 8, 8, 8, 8, 8, 8, 8, 8, 8, 8, 8, 8, 8, 8, 8, 8, 8, 8, 8, 8, 8, 8, 8, 8, 8, 8, 8, 8, 8, 8, 8, 8, 8, 8, 8, 8, 8, 8, 8, 8, 8, 8, 8, 8, 8, 8, 8, 8, 8, 8, 8, 8, 8, 8, 8, 8, 8, 8]⟩⟩) v10).bind fun v11 =>
  (convA .i64 v11).bind fun v12 =>
  (binA .other .add (.int .i64 16) v12).bind fun v13 =>
  some (v13, m))) (
  (binA .other .geq a0 (.int .u32 256)).bind fun v14 =>
  ifA v14 (
  (binA .other .shr a0 (.int .u64 8)).bind fun v15 =>
  (binA .other .add (.int .i64 0) (.int .i64 8)).bind fun v16 =>
  (convA .u8 v15).bind fun v17 =>
  (indexStrA (.str ⟨⟨[0, 1, 2, 2, 3, 3, 3, 3, 4, 4, 4, 4, 4, 4, 4, 4, 5, 5, 5, 5, 5, 5, 5, 5, 5, 5, 5, 5, 5, 5, 5, 5, 6, 6, 6, 6, 6, 6, 6, 6, 6, 6, 6, 6, 6, 6, 6, 6, 6, 6, 6, 6, 6, 6, 6, 6, 6, 6, 6, 6, 6, 6, 6, 6, 7, 7, 7, 7, 7, 7, 7, 7, 7, 7, 7, 7, 7, 7, 7, 7, 7, 7, 7, 7, 7, 7, 7, 7, 7, 7, 7, 7, 7, 7, 7, 7, 7, 7, 7, 7, 7, 7, 7, 7, 7, 7, 7, 7, 7, 7, 7, 7, 7, 7, 7, 7, 7, 7, 7, 7, 7, 7, 7, 7, 7, 7, 7, 7, 8, 8, 8, 8, 8, 8, 8, 8, 8, 8, 8, 8, 8, 8, 8, 8, 8, 8, 8, 8, 8, 8, 8, 8, 8, 8, 8, 8, 8, 8, 8, 8, 8, 8, 8, 8, 8, 8, 8, 8, 8, 8, 8, 8, 8, 8, 8, 8, 8, 8, 8, 8, 8, 8, 8, 8, 8, 8, 8, 8, 8, 8, 8, 8, 8, 8, 8, 8, 8, 8, 8, 8, 8, 8, 8, 8, 8, 8, 8, 8, 8, 8, 8, 8, 8, 8, 8, 8, 8, 8, 8, 8, 8, 8, 8, 8, 8, 8, 8, 8, 8, 8, 8, 8, 8, 8, 8, 8, 8, 8, 8, 8, 8, 8, 8, 8, 8, 8, 8, 8, 8, 8, 8, 8, 8, 8, 8, 8]⟩⟩) v17).bind fun v18 =>
  (convA .i64 v18).bind fun v19 =>
  (binA .other .add v16 v19).bind fun v20 =>
  some (v20, m)) (
  (convA .u8 a0).bind fun v21 =>
  (indexStrA (.str ⟨⟨[0, 1, 2, 2, 3, 3, 3, 3, 4, 4, 4, 4, 4, 4, 4, 4, 5, 5, 5, 5, 5, 5, 5, 5, 5, 5, 5, 5, 5, 5, 5, 5, 6, 6, 6, 6, 6, 6, 6, 6, 6, 6, 6, 6, 6, 6, 6, 6, 6, 6, 6, 6, 6, 6, 6, 6, 6, 6, 6, 6, 6, 6, 6, 6, 7, 7, 7, 7, 7, 7, 7, 7, 7, 7, 7, 7, 7, 7, 7, 7, 7, 7, 7, 7, 7, 7, 7, 7, 7, 7, 7, 7, 7, 7, 7, 7, 7, 7, 7, 7, 7, 7, 7, 7, 7, 7, 7, 7, 7, 7, 7, 7, 7, 7, 7, 7, 7, 7, 7, 7, 7, 7, 7, 7, 7, 7, 7, 7, 8, 8, 8, 8, 8, 8, 8, 8, 8, 8, 8, 8, 8, 8, 8, 8, 8, 8, 8, 8, 8, 8, 8, 8, 8, 8, 8, 8, 8, 8, 8, 8, 8, 8, 8, 8, 8, 8, 8, 8, 8, 8, 8, 8, 8, 8, 8, 8, 8, 8, 8, 8, 8, 8, 8, 8, 8, 8, 8, 8, 8, 8, 8, 8, 8, 8, 8, 8, 8, 8, 8, 8, 8, 8, 8, 8, 8, 8, 8, 8, 8, 8, 8, 8, 8, 8, 8, 8, 8, 8, 8, 8, 8, 8, 8, 8, 8, 8, 8, 8, 8, 8, 8, 8, 8, 8, 8, 8, 8, 8, 8, 8, 8, 8, 8, 8, 8, 8, 8, 8, 8, 8, 8, 8, 8, 8, 8, 8]⟩⟩) v21).bind fun v22 =>
  (convA .i64 v22).bind fun v23 =>
  (binA .other .add (.int .i64 0) v23).bind fun v24 =>
  some (v24, m))) :=
(AC_eq cfg 140 [a0] m (fn := f140) (c := bodyOf f140) at140 rfl).trans (by kernel_rfl)
end Go.Ab

/- Values of numbers as rows of digits, and what the interpreter's operations do on them. -/
set_option linter.unusedVariables false
set_option linter.unusedSimpArgs false
set_option linter.unusedSectionVars false
namespace Go.Ab

theorem wrap_i64_eq (x : Int) : IntKind.wrap .i64 x = if x % 18446744073709551616 ≥ 9223372036854775808 then x % 18446744073709551616 - 18446744073709551616 else x % 18446744073709551616 := by
  show (if (true && decide (x % 18446744073709551616 ≥ 9223372036854775808)) = true then x % 18446744073709551616 - 18446744073709551616 else x % 18446744073709551616) = _
  simp
theorem wrap_u64_eq (x : Int) : IntKind.wrap .u64 x = x % 18446744073709551616 := by
  rfl
theorem wrap_u32_eq (x : Int) : IntKind.wrap .u32 x = x % 4294967296 := by
  rfl
theorem wrap_i64 {x : Int} (h : -9223372036854775808 ≤ x) (h' : x < 9223372036854775808) : IntKind.wrap .i64 x = x := by
  rw [wrap_i64_eq]; split <;> omega
theorem wrap_u64 {x : Int} (h : 0 ≤ x) (h' : x < 18446744073709551616) : IntKind.wrap .u64 x = x := by
  rw [wrap_u64_eq]; omega
theorem wrap_u32 {x : Int} (h : 0 ≤ x) (h' : x < 4294967296) : IntKind.wrap .u32 x = x := by
  rw [wrap_u32_eq]; omega

/-- A number as it stands in a slice of digits. -/
structure NV where
  z : Bool
  o : Own
  ds : List Nat
def dg (d : Nat) : AV := .int .u32 d
def NV.av (x : NV) : AV := .lst none x.z x.o (x.ds.map dg)

section
variable {R : Type}
theorem binA_gtr (tk : TK) (k : IntKind) (a b : Int) : binA tk .gtr (.int k a) (.int k b) = some (.bool (decide (a > b))) := by cases tk <;> simp [binA, binInt]
theorem binA_lss (tk : TK) (k : IntKind) (a b : Int) : binA tk .lss (.int k a) (.int k b) = some (.bool (decide (a < b))) := by cases tk <;> simp [binA, binInt]
theorem binA_geq (tk : TK) (k : IntKind) (a b : Int) : binA tk .geq (.int k a) (.int k b) = some (.bool (decide (a ≥ b))) := by cases tk <;> simp [binA, binInt]
theorem binA_leq (tk : TK) (k : IntKind) (a b : Int) : binA tk .leq (.int k a) (.int k b) = some (.bool (decide (a ≤ b))) := by cases tk <;> simp [binA, binInt]
theorem binA_eql (tk : TK) (k : IntKind) (a b : Int) : binA tk .eql (.int k a) (.int k b) = some (.bool (decide (a = b))) := by cases tk <;> simp [binA, binInt] <;> rfl
theorem binA_neq (tk : TK) (k : IntKind) (a b : Int) : binA tk .neq (.int k a) (.int k b) = some (.bool (decide (a ≠ b))) := by cases tk <;> simp [binA, binInt] <;> by_cases h : a = b <;> simp [h]
theorem binA_add (tk : TK) (k : IntKind) (a b : Int) : binA tk .add (.int k a) (.int k b) = some (.int k (k.wrap (a + b))) := by cases tk <;> simp [binA, binInt]
theorem binA_sub (tk : TK) (k : IntKind) (a b : Int) : binA tk .sub (.int k a) (.int k b) = some (.int k (k.wrap (a - b))) := by cases tk <;> simp [binA, binInt]
theorem binA_mul (tk : TK) (k : IntKind) (a b : Int) : binA tk .mul (.int k a) (.int k b) = some (.int k (k.wrap (a * b))) := by cases tk <;> simp [binA, binInt]
theorem lenA_lst (sh : Sh) (z : Bool) (o : Own) (es : List AV) : lenA false (.lst sh z o es) = some (.int .i64 es.length) := rfl
theorem ifA_dec (p : Prop) [Decidable p] (x y : Option R) : ifA (.bool (decide p)) x y = if p then x else y := by
  by_cases h : p <;> simp [ifA, h]
theorem indexA_dg {z : Bool} {o : Own} {ds : List Nat} {k : IntKind} {i : Int} (h : 0 ≤ i) (h' : i < ds.length) : indexAddrA none (.lst none z o (ds.map dg)) (.int k i) = some (.vptr [dg (ds.getD i.toNat 0)]) := by
  have hi : i.toNat < ds.length := by omega
  simp [indexAddrA, h, hi, AV.cells, dg, List.getD_eq_getElem?_getD]
theorem loadA_one (m : Mem) (x : AV) : loadA none m (.vptr [x]) = some x := rfl
theorem sliceT_to {z : Bool} {o : Own} {ds : List Nat} {k : IntKind} {i : Int} (h : 0 ≤ i) (h' : i ≤ ds.length) : sliceT none (.lst none z o (ds.map dg)) none (some (.int k i)) none = some (.lst none z .no ((ds.take i.toNat).map dg)) := by
  simp [sliceT, sliceA, boundA, h, h', List.map_take]
end

/-! ### Calls that share nothing -/
def Own.fr : Own → Own
  | .tok .. => .no
  | o => o
def NV.fr (x : NV) : NV := ⟨x.z, x.o.fr, x.ds⟩
/-- The value leaves as the other, and bears no name. -/
def Fz (v v' : AV) : Prop := ∀ m, frz m fuelF v = some (v', [])
theorem fz_nv (x : NV) : Fz x.av x.fr.av := by
  intro m
  obtain ⟨z, o, ds⟩ := x
  cases o <;> rfl
theorem fz_int (k : IntKind) (n : Int) : Fz (.int k n) (.int k n) := fun _ => rfl
theorem fz_bool (b : Bool) : Fz (.bool b) (.bool b) := fun _ => rfl
section
variable {cp : Nat → List AV → Option AV} {d : Option Nat} {m : Mem} {g : Nat}
theorem pcall0 : pcall cp d m g [] = (cp g []).map fun v => (v, m) := by
  simp [pcall, mapF, kill]
theorem pcall1 {a a' : AV} (ha : Fz a a') : pcall cp d m g [a] = (cp g [a']).map fun v => (v, m) := by
  simp [pcall, mapF, kill, ha m]
theorem pcall2 {a a' b b' : AV} (ha : Fz a a') (hb : Fz b b') : pcall cp d m g [a, b] = (cp g [a', b']).map fun v => (v, m) := by
  simp [pcall, mapF, kill, ha m, hb m]
theorem pcall3 {a a' b b' c c' : AV} (ha : Fz a a') (hb : Fz b b') (hc : Fz c c') : pcall cp d m g [a, b, c] = (cp g [a', b', c']).map fun v => (v, m) := by
  simp [pcall, mapF, kill, ha m, hb m, hc m]
end
theorem AP_of {C : Cfg} {f : Nat} {args : List AV} {v v' : AV} {m : Mem} {l : List Nat} (h : AC C f args [] = some (v, m)) (hf : frz m fuelF v = some (v', l)) (hv : (noVL args || noV v') = true) : AP C f args = some v' := by
  unfold AP acallP
  rw [h]
  simp only [Option.bind_some, hf, if_pos hv]
theorem noV_nv (x : NV) : noV x.av = true := rfl

/-! ### A row that is appended to, last in memory -/
def tokM (m : Mem) (n : Nat) : Mem := m ++ [some (.tok n 1)]
theorem make_tok {e b : Nat} {z : AV} {m : Mem} {c : Int} (h : 0 < c) (h' : c * b ≤ 281474976710656) (h2 : c ≤ 9223372036854775807) : makeA none e none z b m (.int .i64 0) (.int .i64 c) = some (.lst none false (.tok m.length e) [], tokM m 0) := by
  have h3 : ¬ (0 : Int) = c := by omega
  have h4 : 0 ≤ c := by omega
  simp [makeA, h3, h4, h', h2, newAt, tokM, Sh.size]
theorem app_tok {e b : Nat} {m : Mem} {es : List AV} {z : Bool} {o : Own} {y : AV} (h : (es.length + 1) * b ≤ roomA) : appA none false e none b (tokM m es.length) (.lst none false (.tok m.length e) es) (.lst none z o [y]) = some (.lst none false (.tok m.length e) (es ++ [y]), tokM m (es.length + 1)) := by
  simp [appA, tokM, Mem.get, Sh.size, h]
theorem build_int (k : IntKind) (n : Int) : buildSliceA none [.int k n] = some (.lst none false .full [.int k n]) := rfl
theorem convA_int (k k' : IntKind) (n : Int) : convA k (.int k' n) = some (.int k (k.wrap n)) := rfl
theorem binA_shr (tk : TK) (k k' : IntKind) (a b : Int) (h : 0 ≤ b) : binA tk .shr (.int k a) (.int k' b) = some (.int k (a.fdiv (2 ^ (min b.toNat k.bits)))) := by
  have : ¬ b < 0 := by omega
  cases tk <;> simp [binA, shiftA, this]
theorem binA_shr32 (tk : TK) (k' : IntKind) (a : Int) (h : 0 ≤ a) : binA tk .shr (.int .u64 a) (.int k' 32) = some (.int .u64 (a / 4294967296)) := by
  rw [binA_shr tk .u64 k' a 32 (by omega)]
  show some (AV.int .u64 (a.fdiv 4294967296)) = _
  rw [Int.fdiv_eq_ediv_of_nonneg _ (by omega)]

/-! ### A row that is written to, last in memory -/
def objM (m : Mem) (ds : List Nat) : Mem := m ++ [some (.obj false (ds.map dg))]
theorem make_obj {e b : Nat} {m : Mem} {n : Nat} (h' : n * b ≤ 281474976710656) (h2 : n ≤ 9223372036854775807) : makeA none e none (.int .u32 0) b m (.int .i64 n) (.int .i64 n) = some (.arr m.length 0 n none, objM m (List.replicate n 0)) := by
  have h3 : (n : Int) * b ≤ 281474976710656 := by
    have := Int.ofNat_le.2 h'
    rw [Int.natCast_mul] at this
    exact this
  have h4 : (n : Int) ≤ 9223372036854775807 := by omega
  have h5 : (0 : Int) ≤ n := by omega
  simp only [makeA, h3, h4, h5, newAt, objM, zeros, Int.le_refl, and_self, if_true, Int.toNat_natCast, List.map_replicate]
  rfl
theorem obj_get (m : Mem) (ds : List Nat) : (objM m ds).obj? m.length = some (false, ds.map dg) := by
  simp [objM, Mem.obj?, Mem.get]
theorem index_arr {nm n : Nat} {k : IntKind} {i : Nat} (h : i < n) : indexAddrA none (.arr nm 0 n none) (.int k i) = some (.ptr nm i) := by
  have : (i : Int) < n := by omega
  simp [indexAddrA, this, Sh.size]
theorem load_obj {m : Mem} {ds : List Nat} {i : Nat} (h : i < ds.length) : loadA none (objM m ds) (.ptr m.length i) = some (dg (ds.getD i 0)) := by
  simp [loadA, obj_get, cutSh, List.getD_eq_getElem?_getD, h]
theorem store_obj {m : Mem} {ds : List Nat} {i v : Nat} (h : i < ds.length) : storeA none (objM m ds) (.ptr m.length i) (.int .u32 v) = some (objM m (ds.set i v)) := by
  have h1 : i + 1 ≤ ds.length := h
  simp only [storeA, obj_get, Option.bind_some, Sh.size, List.length_map, h1, if_true, shOk, atomOk, AV.cells]
  congr 1
  simp only [objM, putAt, List.length_cons, List.length_nil]
  rw [List.set_append_right _ _ (Nat.le_refl _)]
  simp only [Nat.sub_self, List.set_cons_zero]
  congr 4
  rw [List.map_set, List.set_eq_take_append_cons_drop]
  simp [h, dg, List.map_take, List.map_drop]
theorem mapF_dg (m : Mem) (k : Nat) : ∀ ds : List Nat, mapF (frz m (k + 1)) (ds.map dg) = some (ds.map dg, [])
  | [] => rfl
  | d :: ds => by
    have : frz m (k + 1) (dg d) = some (dg d, []) := rfl
    simp [mapF, this, mapF_dg m k ds]
theorem plL_dg : ∀ ds : List Nat, plL (ds.map dg) = true
  | [] => rfl
  | d :: ds => by
    have : pl (dg d) = true := rfl
    simp [plL, this, plL_dg ds]
theorem frz_arr (m : Mem) (ds : List Nat) : frz (objM m ds) fuelF (.arr m.length 0 ds.length none) = some (.lst none false .no (ds.map dg), [m.length]) := by
  have h1 : ((ds.map dg).all atomOk) = true := by simp [List.all_map, dg, atomOk]
  show ((objM m ds).obj? m.length).bind _ = _
  rw [obj_get]
  simp only [Option.bind_some, Sh.size, List.length_map, Nat.zero_add, Nat.mul_one, Nat.le_refl, decide_true, Bool.not_false, Bool.and_self, if_true, List.drop_zero, List.take_of_length_le (by simp : (ds.map dg).length ≤ ds.length)]
  rw [mapF_dg]
  simp only [Option.bind_some, h1, plL_dg, Bool.and_self, if_true, grp]
  rw [List.take_of_length_le (by simp)]
theorem pcall_arr {cp : Nat → List AV → Option AV} {m : Mem} {g : Nat} {ds : List Nat} : pcall cp none (objM m ds) g [.arr m.length 0 ds.length none] = (cp g [.lst none false .no (ds.map dg)]).map fun v => (v, m ++ [none]) := by
  simp only [pcall, mapF, frz_arr, Option.bind_some, kill, Option.isSome_none, Bool.false_and, List.append_nil, List.foldl_cons, List.foldl_nil]
  simp [objM]

theorem binA_shl32 (tk : TK) (k' : IntKind) (a : Nat) (h : a < 4294967296) : binA tk .shl (.int .u64 a) (.int k' 32) = some (.int .u64 (a * 4294967296 : Nat)) := by
  have e : binA tk .shl (.int .u64 a) (.int k' 32) = some (.int .u64 (IntKind.wrap .u64 ((a : Int) * 4294967296))) := by cases tk <;> rfl
  rw [e, wrap_u64 (by omega) (by omega)]
  rfl
theorem binA_or (tk : TK) (lo hi : Nat) (h : lo < 4294967296) (h' : hi < 4294967296) : binA tk .or (.int .u64 lo) (.int .u64 (hi * 4294967296 : Nat)) = some (.int .u64 (lo + hi * 4294967296 : Nat)) := by
  have e : binA tk .or (.int .u64 lo) (.int .u64 (hi * 4294967296 : Nat)) = some (.int .u64 (IntKind.wrap .u64 ((BitVec.ofInt 64 lo ||| BitVec.ofInt 64 (hi * 4294967296 : Nat)).toNat : Nat))) := by cases tk <;> rfl
  have e2 : (BitVec.ofInt 64 (lo : Int) ||| BitVec.ofInt 64 ((hi * 4294967296 : Nat) : Int)).toNat = lo + hi * 4294967296 := by
    rw [BitVec.toNat_or, BitVec.toNat_ofInt, BitVec.toNat_ofInt]
    have h1 : (((lo : Nat) : Int) % ((2 ^ 64 : Nat) : Int)).toNat = lo := by omega
    have h2 : (((hi * 4294967296 : Nat) : Int) % ((2 ^ 64 : Nat) : Int)).toNat = hi * 4294967296 := by omega
    rw [h1, h2, Nat.or_comm]
    have := Nat.two_pow_add_eq_or_of_lt (i := 32) (b := lo) (by omega) hi
    rw [show hi * 4294967296 = 2 ^ 32 * hi by omega, ← this]
    omega
  rw [e, e2, wrap_u64 (by omega) (by omega)]
end Go.Ab

/- Numbers as rows of digits, and what they are worth. -/
set_option linter.unusedVariables false
set_option linter.unusedSimpArgs false
set_option linter.unusedSectionVars false
namespace Go.Ab

/-- How many digits are left without those that are 0 at the end of the first n. -/
def trN (ds : List Nat) : Nat → Nat
  | 0 => 0
  | n + 1 => if ds.getD n 0 = 0 then trN ds n else n + 1
theorem trN_le (ds : List Nat) : ∀ n, trN ds n ≤ n
  | 0 => Nat.le_refl _
  | n + 1 => by
    rw [trN]
    split
    · exact Nat.le_succ_of_le (trN_le ds n)
    · exact Nat.le_refl _
def tr (ds : List Nat) : List Nat := ds.take (trN ds ds.length)
theorem tr_length (a : List Nat) : (tr a).length ≤ a.length := by simp only [tr, List.length_take]; omega
/-- Digits of a number. -/
def Dg (a : List Nat) : Prop := ∀ i, a.getD i 0 < 4294967296
theorem Dg.take {a : List Nat} (h : Dg a) (n : Nat) : Dg (a.take n) := by
  intro i
  have := h i
  simp only [List.getD_eq_getElem?_getD, List.getElem?_take] at this ⊢
  split
  · exact this
  · simp
theorem Dg.set {a : List Nat} (h : Dg a) (n v : Nat) (hv : v < 4294967296) : Dg (a.set n v) := by
  intro i
  have := h i
  simp only [List.getD_eq_getElem?_getD, List.getElem?_set] at this ⊢
  split
  · split
    · exact hv
    · simp
  · exact this
theorem tr_dg {a : List Nat} (h : Dg a) : Dg (tr a) := h.take _
theorem getD_out {l : List Nat} {i : Nat} (h : ¬ (i : Int) < (l.length : Int)) : l.getD i 0 = 0 := by
  rw [List.getD_eq_getElem?_getD, List.getElem?_eq_none (by omega)]; rfl
theorem dg_nil : Dg [] := by intro i; simp
theorem dg_cons {d : Nat} {ds : List Nat} : Dg (d :: ds) ↔ d < 4294967296 ∧ Dg ds := by
  constructor
  · intro h
    exact ⟨h 0, fun i => h (i + 1)⟩
  · intro h i
    cases i with
    | zero => exact h.1
    | succ i => exact h.2 i
theorem dg_app {a b : List Nat} (ha : Dg a) (hb : Dg b) : Dg (a ++ b) := by
  induction a with
  | nil => exact hb
  | cons d a ih => exact dg_cons.2 ⟨(dg_cons.1 ha).1, ih (dg_cons.1 ha).2⟩
theorem dg_one {d : Nat} (h : d < 4294967296) : Dg [d] := dg_cons.2 ⟨h, dg_nil⟩
theorem dg_rep (n : Nat) : Dg (List.replicate n 0) := by
  induction n with
  | zero => exact dg_nil
  | succ n ih => exact dg_cons.2 ⟨by decide, ih⟩

theorem getD_set_ne {l : List Nat} {i j v : Nat} (h : i ≠ j) : (l.set i v).getD j 0 = l.getD j 0 := by
  simp only [List.getD_eq_getElem?_getD]
  rw [List.getElem?_set_ne h]
theorem getD_set_eq {l : List Nat} {i v : Nat} (h : i < l.length) : (l.set i v).getD i 0 = v := by
  simp only [List.getD_eq_getElem?_getD]
  rw [List.getElem?_set_self h]; rfl
theorem getD_rep (n i : Nat) : (List.replicate n 0).getD i 0 = 0 := by
  simp only [List.getD_eq_getElem?_getD, List.getElem?_replicate]
  split <;> rfl
theorem pmd (p b c : Nat) : p * c = p * (c % b) + p * b * (c / b) := by
  rw [Nat.mul_assoc, ← Nat.mul_add, Nat.mod_add_div]
theorem psub (p b x s : Nat) (h : s ≤ x + b) : p * (x + b - s) + p * s = p * x + p * b := by
  rw [← Nat.mul_add, Nat.sub_add_cancel h, Nat.mul_add]
theorem psub0 (p x s : Nat) (h : s ≤ x) : p * (x - s) + p * s = p * x := by
  rw [← Nat.mul_add, Nat.sub_add_cancel h]

/-! ### What digits are worth -/
def val : List Nat → Nat
  | [] => 0
  | d :: ds => d + 4294967296 * val ds
def digs (n : Nat) : List Nat := if h : n = 0 then [] else n % 4294967296 :: digs (n / 4294967296)
termination_by n
decreasing_by exact Nat.div_lt_self (by omega) (by omega)
theorem digs_zero : digs 0 = [] := by rw [digs]; rfl
theorem digs_pos {n : Nat} (h : n ≠ 0) : digs n = n % 4294967296 :: digs (n / 4294967296) := by rw [digs, dif_neg h]
theorem val_digs (n : Nat) : val (digs n) = n := by
  induction n using Nat.strongRecOn with
  | ind n ih =>
    by_cases h : n = 0
    · subst h; rw [digs_zero]; rfl
    · rw [digs_pos h, val, ih _ (Nat.div_lt_self (by omega) (by omega))]
      omega
theorem dg_digs (n : Nat) : Dg (digs n) := by
  induction n using Nat.strongRecOn with
  | ind n ih =>
    by_cases h : n = 0
    · subst h; rw [digs_zero]; exact dg_nil
    · rw [digs_pos h]
      exact dg_cons.2 ⟨Nat.mod_lt _ (by omega), ih _ (Nat.div_lt_self (by omega) (by omega))⟩
theorem digs_length_le {k : Nat} : ∀ {n : Nat}, n < 4294967296 ^ k → (digs n).length ≤ k := by
  induction k with
  | zero => intro n h; have : n = 0 := by simpa using h
            subst this; rw [digs_zero]; exact Nat.le_refl _
  | succ k ih =>
    intro n h
    by_cases h0 : n = 0
    · subst h0; rw [digs_zero]; exact Nat.zero_le _
    · rw [digs_pos h0, List.length_cons]
      refine Nat.succ_le_succ (ih ?_)
      rw [Nat.pow_succ] at h
      exact Nat.div_lt_of_lt_mul (by rw [Nat.mul_comm]; exact h)
theorem val_lt {ds : List Nat} (h : Dg ds) : val ds < 4294967296 ^ ds.length := by
  induction ds with
  | nil => exact Nat.one_pos
  | cons d ds ih =>
    have ih := ih (dg_cons.1 h).2
    have hd := (dg_cons.1 h).1
    rw [val, List.length_cons, Nat.pow_succ]
    omega
theorem digs_length_val {ds : List Nat} (h : Dg ds) : (digs (val ds)).length ≤ ds.length := digs_length_le (val_lt h)
theorem val_pos_digs {n : Nat} : digs n = [] ↔ n = 0 := by
  constructor
  · intro h
    have := val_digs n
    rw [h] at this
    exact this.symm
  · intro h; subst h; exact digs_zero
theorem digs_inj {a b : Nat} (h : digs a = digs b) : a = b := by
  have := congrArg val h
  rwa [val_digs, val_digs] at this

/-! ### trim -/
theorem trN_cons (d : Nat) (ds : List Nat) : ∀ n, trN (d :: ds) (n + 1) = if trN ds n = 0 then (if d = 0 then 0 else 1) else trN ds n + 1
  | 0 => by
    simp only [trN, List.getD_cons_zero, if_true]
  | n + 1 => by
    rw [trN, trN_cons d ds n]
    simp only [List.getD_cons_succ]
    rw [trN]
    by_cases h : ds.getD n 0 = 0
    · rw [if_pos h, if_pos h]
    · rw [if_neg h, if_neg h, if_neg (by omega)]
theorem tr_cons (d : Nat) (ds : List Nat) : tr (d :: ds) = if tr ds = [] then (if d = 0 then [] else [d]) else d :: tr ds := by
  have h0 : tr ds = [] ↔ trN ds ds.length = 0 := by
    have := trN_le ds ds.length
    rw [tr, ← List.length_eq_zero_iff, List.length_take]
    omega
  rw [tr, List.length_cons, trN_cons]
  by_cases h : trN ds ds.length = 0
  · rw [if_pos h, if_pos (h0.2 h)]
    split <;> rfl
  · rw [if_neg h, if_neg (fun e => h (h0.1 e))]
    rfl
theorem tr_eq {ds : List Nat} (h : Dg ds) : tr ds = digs (val ds) := by
  induction ds with
  | nil => rw [val, digs_zero]; rfl
  | cons d ds ih =>
    have hd := (dg_cons.1 h).1
    rw [tr_cons, ih (dg_cons.1 h).2, val]
    by_cases h0 : val ds = 0
    · rw [if_pos (val_pos_digs.2 h0), h0]
      split
      · subst d; exact digs_zero.symm
      · rw [digs_pos (by omega), show (d + 4294967296 * 0) % 4294967296 = d by omega, show (d + 4294967296 * 0) / 4294967296 = 0 by omega, digs_zero]
    · rw [if_neg (fun e => h0 (val_pos_digs.1 e)), digs_pos (n := d + 4294967296 * val ds) (by omega), show (d + 4294967296 * val ds) % 4294967296 = d by omega, show (d + 4294967296 * val ds) / 4294967296 = val ds by omega]
theorem val_tr {ds : List Nat} (h : Dg ds) : val (tr ds) = val ds := by rw [tr_eq h, val_digs]
/-! ### Rows in parts -/
theorem val_app (a b : List Nat) : val (a ++ b) = val a + 4294967296 ^ a.length * val b := by
  induction a with
  | nil => simp [val]
  | cons d a ih =>
    rw [List.cons_append, val, val, ih, List.length_cons, Nat.pow_succ, Nat.mul_add, Nat.add_assoc, Nat.mul_comm (4294967296 ^ a.length) 4294967296, Nat.mul_assoc]
theorem val_set : ∀ (l : List Nat) (i v : Nat), i < l.length → val (l.set i v) + 4294967296 ^ i * l.getD i 0 = val l + 4294967296 ^ i * v
  | [], i, v, h => by simp at h
  | d :: l, 0, v, h => by simp [val]; omega
  | d :: l, i + 1, v, h => by
    have ih := val_set l i v (by simpa using h)
    simp only [List.set_cons_succ, val, List.getD_cons_succ, Nat.pow_succ]
    rw [Nat.mul_comm (4294967296 ^ i) 4294967296, Nat.mul_assoc, Nat.mul_assoc]
    omega
/-- What the first i digits are worth. -/
def vs (a : List Nat) (i : Nat) : Nat := val (a.take i)
theorem vs_zero (a : List Nat) : vs a 0 = 0 := rfl
theorem vs_all {a : List Nat} {i : Nat} (h : a.length ≤ i) : vs a i = val a := by rw [vs, List.take_of_length_le h]
theorem vs_succ (a : List Nat) (i : Nat) : vs a (i + 1) = vs a i + 4294967296 ^ i * a.getD i 0 := by
  by_cases h : i < a.length
  · rw [vs, List.take_succ_eq_append_getElem h, val_app, List.length_take, Nat.min_eq_left (by omega), List.getD_eq_getElem?_getD, List.getElem?_eq_getElem h, vs]
    simp [val]
  · rw [vs_all (by omega), vs_all (by omega), List.getD_eq_getElem?_getD, List.getElem?_eq_none (by omega)]
    simp
theorem vs_lt {a : List Nat} (h : Dg a) (i : Nat) : vs a i < 4294967296 ^ i := by
  have h1 := val_lt (h.take i)
  refine Nat.lt_of_lt_of_le h1 (Nat.pow_le_pow_right (by omega) ?_)
  rw [List.length_take]; omega
theorem val_rep (n : Nat) : val (List.replicate n 0) = 0 := by
  induction n with
  | zero => rfl
  | succ n ih => rw [List.replicate_succ, val, ih]

/-! ### Compare -/
def cmpN (a b : List Nat) : Nat → Int
  | 0 => 0
  | n + 1 => if a.getD n 0 < b.getD n 0 then -1 else if a.getD n 0 > b.getD n 0 then 1 else cmpN a b n
def cmpL (a b : List Nat) : Int := if a.length < b.length then -1 else if a.length > b.length then 1 else cmpN a b a.length
def cmpV (a b : Nat) : Int := if a < b then -1 else if a > b then 1 else 0
theorem cmpN_eq {a b : List Nat} (ha : Dg a) (hb : Dg b) : ∀ n, cmpN a b n = cmpV (vs a n) (vs b n)
  | 0 => by simp [cmpN, vs_zero, cmpV]
  | n + 1 => by
    have ih := cmpN_eq ha hb n
    have h1 := vs_lt ha n
    have h2 := vs_lt hb n
    rw [cmpN, vs_succ, vs_succ, ih]
    generalize 4294967296 ^ n = p at *
    generalize a.getD n 0 = x
    generalize b.getD n 0 = y
    unfold cmpV
    by_cases h : x < y
    · have : p * (x + 1) ≤ p * y := Nat.mul_le_mul_left _ h
      rw [Nat.mul_add] at this
      rw [if_pos h, if_pos (by omega)]
    · by_cases h' : x > y
      · have : p * (y + 1) ≤ p * x := Nat.mul_le_mul_left _ h'
        rw [Nat.mul_add] at this
        rw [if_neg h, if_pos h', if_neg (by omega), if_pos (by omega)]
      · have : x = y := by omega
        subst this
        rw [if_neg h, if_neg h']
        simp only [Nat.add_lt_add_iff_right, gt_iff_lt]
theorem digs_length_pos {n k : Nat} (h : k < (digs n).length) : 4294967296 ^ k ≤ n := by
  apply Classical.byContradiction
  intro hn
  have := digs_length_le (Nat.lt_of_not_le hn)
  omega
theorem cmpL_digs (a b : Nat) : cmpL (digs a) (digs b) = cmpV a b := by
  have ha := val_lt (dg_digs a)
  have hb := val_lt (dg_digs b)
  rw [val_digs] at ha hb
  unfold cmpL
  by_cases h : (digs a).length < (digs b).length
  · have := digs_length_pos h
    rw [if_pos h, cmpV, if_pos (by omega)]
  · rw [if_neg h]
    by_cases h' : (digs a).length > (digs b).length
    · have := digs_length_pos h'
      rw [if_pos h', cmpV, if_neg (by omega), if_pos (by omega)]
    · rw [if_neg h', cmpN_eq (dg_digs a) (dg_digs b), vs_all (Nat.le_refl _), vs_all (by omega), val_digs, val_digs]
theorem cmpL_tr {a b : List Nat} (ha : Dg a) (hb : Dg b) : cmpL (tr a) (tr b) = cmpV (val a) (val b) := by rw [tr_eq ha, tr_eq hb, cmpL_digs]

/-! ### Add -/
def addS (a b : List Nat) : Nat → List Nat × Nat
  | 0 => ([], 0)
  | i + 1 => ((addS a b i).1 ++ [((addS a b i).2 + a.getD i 0 + b.getD i 0) % 4294967296], ((addS a b i).2 + a.getD i 0 + b.getD i 0) / 4294967296)
theorem addS_length (a b : List Nat) : ∀ i, (addS a b i).1.length = i
  | 0 => rfl
  | i + 1 => by simp [addS, addS_length a b i]
theorem addS_carry {a b : List Nat} (ha : Dg a) (hb : Dg b) : ∀ i, (addS a b i).2 ≤ 1
  | 0 => by simp [addS]
  | i + 1 => by
    have := addS_carry ha hb i
    have h1 := ha i
    have h2 := hb i
    simp only [addS]
    omega
theorem addS_dg (a b : List Nat) : ∀ i, Dg (addS a b i).1
  | 0 => dg_nil
  | i + 1 => dg_app (addS_dg a b i) (dg_one (Nat.mod_lt _ (by omega)))
theorem addS_val (a b : List Nat) : ∀ i, val (addS a b i).1 + 4294967296 ^ i * (addS a b i).2 = vs a i + vs b i
  | 0 => by simp [addS, val, vs_zero]
  | i + 1 => by
    have ih := addS_val a b i
    simp only [addS, val_app, addS_length, val, vs_succ, Nat.pow_succ]
    have h1 := pmd (4294967296 ^ i) 4294967296 ((addS a b i).2 + a.getD i 0 + b.getD i 0)
    generalize hs : (addS a b i).2 + a.getD i 0 + b.getD i 0 = s at *
    rw [← hs, Nat.mul_add, Nat.mul_add, hs] at h1
    rw [Nat.mul_zero, Nat.add_zero]
    omega
def addL1 (a b : List Nat) : List Nat := tr ((addS a b a.length).1 ++ [(addS a b a.length).2])
def addL (a b : List Nat) : List Nat := if a.length < b.length then addL1 b a else addL1 a b
theorem addL1_eq {a b : List Nat} (ha : Dg a) (hb : Dg b) (h : b.length ≤ a.length) : addL1 a b = digs (val a + val b) := by
  have hc := addS_carry ha hb a.length
  rw [addL1, tr_eq (dg_app (addS_dg _ _ _) (dg_one (by omega))), val_app, addS_length]
  have := addS_val a b a.length
  rw [vs_all (Nat.le_refl _), vs_all h] at this
  simp only [val, Nat.mul_zero, Nat.add_zero, this]
theorem addL_eq {a b : List Nat} (ha : Dg a) (hb : Dg b) : addL a b = digs (val a + val b) := by
  unfold addL
  split
  · rw [addL1_eq hb ha (by omega), Nat.add_comm]
  · rw [addL1_eq ha hb (by omega)]
theorem addL_tr {a b : List Nat} (ha : Dg a) (hb : Dg b) : addL (tr a) (tr b) = digs (val a + val b) := by
  rw [addL_eq (tr_dg ha) (tr_dg hb), val_tr ha, val_tr hb]

/-! ### Mul -/
/-- One row of the product: out[i + k ..] += x * b[k ..], with a carry. -/
def mulS (b : List Nat) (x i : Nat) : Nat → List Nat × Nat → List Nat × Nat
  | 0, s => s
  | k + 1, s => let t := mulS b x i k s
    (t.1.set (i + k) ((t.2 + (t.1.getD (i + k) 0 + x * b.getD k 0)) % 4294967296), (t.2 + (t.1.getD (i + k) 0 + x * b.getD k 0)) / 4294967296)
theorem mulS_length (b : List Nat) (x i : Nat) (s : List Nat × Nat) : ∀ k, (mulS b x i k s).1.length = s.1.length
  | 0 => rfl
  | k + 1 => by simp [mulS, mulS_length b x i s k]
theorem mulS_bound {b : List Nat} {x i : Nat} {s : List Nat × Nat} (hb : Dg b) (hx : x < 4294967296) (hs : Dg s.1) (hc : s.2 < 4294967296) : ∀ k, Dg (mulS b x i k s).1 ∧ (mulS b x i k s).2 < 4294967296
  | 0 => ⟨hs, hc⟩
  | k + 1 => by
    obtain ⟨h1, h2⟩ := mulS_bound hb hx hs hc k
    have h3 := h1 (i + k)
    have h4 := hb k
    have h5 : x * b.getD k 0 ≤ 4294967295 * 4294967295 := Nat.mul_le_mul (by omega) (by omega)
    refine ⟨h1.set _ _ (Nat.mod_lt _ (by omega)), ?_⟩
    simp only [mulS]
    omega
theorem mulS_val (b : List Nat) (x i : Nat) (s : List Nat × Nat) : ∀ k, i + k ≤ s.1.length → val (mulS b x i k s).1 + 4294967296 ^ (i + k) * (mulS b x i k s).2 = val s.1 + 4294967296 ^ i * (s.2 + x * vs b k)
  | 0, _ => by simp [mulS, vs_zero]
  | k + 1, h => by
    have ih := mulS_val b x i s k (by omega)
    have hl := mulS_length b x i s k
    simp only [mulS, vs_succ]
    generalize mulS b x i k s = t at *
    have h1 := val_set t.1 (i + k) ((t.2 + (t.1.getD (i + k) 0 + x * b.getD k 0)) % 4294967296) (by omega)
    have h2 := pmd (4294967296 ^ (i + k)) 4294967296 (t.2 + (t.1.getD (i + k) 0 + x * b.getD k 0))
    have h3 : 4294967296 ^ i * (s.2 + x * (vs b k + 4294967296 ^ k * b.getD k 0)) = 4294967296 ^ i * (s.2 + x * vs b k) + 4294967296 ^ (i + k) * (x * b.getD k 0) := by
      rw [Nat.pow_add]
      simp only [Nat.mul_add, Nat.add_assoc]
      congr 2
      simp only [← Nat.mul_assoc]
      congr 1
      rw [Nat.mul_right_comm]
    rw [h3]
    generalize hw : t.2 + (t.1.getD (i + k) 0 + x * b.getD k 0) = w at *
    rw [← hw, Nat.mul_add, Nat.mul_add, hw] at h2
    rw [← Nat.add_assoc, Nat.pow_succ]
    omega
def mulO (a b : List Nat) : Nat → List Nat
  | 0 => List.replicate (a.length + b.length) 0
  | i + 1 => (mulS b (a.getD i 0) i b.length (mulO a b i, 0)).1.set (i + b.length) (mulS b (a.getD i 0) i b.length (mulO a b i, 0)).2
def mulL (a b : List Nat) : List Nat := tr (mulO a b a.length)
theorem mulO_length (a b : List Nat) : ∀ i, (mulO a b i).length = a.length + b.length
  | 0 => by simp [mulO]
  | i + 1 => by simp [mulO, mulS_length, mulO_length a b i]
theorem mulO_dg {a b : List Nat} (ha : Dg a) (hb : Dg b) : ∀ i, Dg (mulO a b i)
  | 0 => dg_rep _
  | i + 1 => by
    have ih := mulO_dg ha hb i
    obtain ⟨h1, h2⟩ := mulS_bound (i := i) (s := (mulO a b i, 0)) hb (ha i) ih (by simp) b.length
    exact h1.set _ _ h2
theorem mulS_keep (b : List Nat) (x i : Nat) (s : List Nat × Nat) (j : Nat) : ∀ k, i + k ≤ j → (mulS b x i k s).1.getD j 0 = s.1.getD j 0
  | 0, _ => rfl
  | k + 1, h => by
    have ih := mulS_keep b x i s j k (by omega)
    rw [← ih]
    simp only [mulS, List.getD_eq_getElem?_getD]
    rw [List.getElem?_set_ne (by omega)]
theorem mulO_keep (a b : List Nat) (j : Nat) : ∀ i, i + b.length ≤ j → (mulO a b i).getD j 0 = 0
  | 0, h => by
    simp only [mulO, List.getD_eq_getElem?_getD, List.getElem?_replicate]
    split <;> rfl
  | i + 1, h => by
    have ih := mulO_keep a b j i (by omega)
    rw [mulO, getD_set_ne (by omega), mulS_keep b (a.getD i 0) i (mulO a b i, 0) j b.length (by omega)]
    exact ih
theorem mulO_val (a b : List Nat) : ∀ i, i ≤ a.length → val (mulO a b i) = vs a i * val b
  | 0, _ => by simp [mulO, val_rep, vs_zero]
  | i + 1, h => by
    have ih := mulO_val a b i (by omega)
    have hl := mulO_length a b i
    have h1 := mulS_val b (a.getD i 0) i (mulO a b i, 0) b.length (by simp only [hl]; omega)
    have h0 : (mulS b (a.getD i 0) i b.length (mulO a b i, 0)).1.getD (i + b.length) 0 = 0 := by
      rw [mulS_keep _ _ _ _ _ _ (Nat.le_refl _)]
      exact mulO_keep a b _ i (Nat.le_refl _)
    have h2 := val_set (mulS b (a.getD i 0) i b.length (mulO a b i, 0)).1 (i + b.length) (mulS b (a.getD i 0) i b.length (mulO a b i, 0)).2 (by rw [mulS_length]; simp only [hl]; omega)
    rw [h0, Nat.mul_zero, Nat.add_zero] at h2
    rw [mulO, h2, h1, ih, vs_all (Nat.le_refl _), vs_succ, Nat.add_mul, Nat.zero_add, Nat.mul_assoc]
theorem mulL_eq {a b : List Nat} (ha : Dg a) (hb : Dg b) : mulL a b = digs (val a * val b) := by
  rw [mulL, tr_eq (mulO_dg ha hb _), mulO_val _ _ _ (Nat.le_refl _), vs_all (Nat.le_refl _)]
theorem mulL_tr {a b : List Nat} (ha : Dg a) (hb : Dg b) : mulL (tr a) (tr b) = digs (val a * val b) := by
  rw [mulL_eq (tr_dg ha) (tr_dg hb), val_tr ha, val_tr hb]

/-! ### Sub -/
def subS (a b : List Nat) : Nat → List Nat × Nat
  | 0 => (List.replicate a.length 0, 0)
  | i + 1 => if a.getD i 0 < (subS a b i).2 + b.getD i 0 then ((subS a b i).1.set i (a.getD i 0 + 4294967296 - ((subS a b i).2 + b.getD i 0)), 1)
    else ((subS a b i).1.set i (a.getD i 0 - ((subS a b i).2 + b.getD i 0)), 0)
def subL (a b : List Nat) : List Nat := tr (subS a b a.length).1
theorem subS_length (a b : List Nat) : ∀ i, (subS a b i).1.length = a.length
  | 0 => by simp [subS]
  | i + 1 => by simp only [subS]; split <;> simp [subS_length a b i]
theorem subS_borrow (a b : List Nat) : ∀ i, (subS a b i).2 ≤ 1
  | 0 => by simp [subS]
  | i + 1 => by simp only [subS]; split <;> simp
theorem subS_dg {a b : List Nat} (ha : Dg a) (hb : Dg b) : ∀ i, Dg (subS a b i).1
  | 0 => dg_rep _
  | i + 1 => by
    have := subS_borrow a b i
    have h1 := ha i
    have h2 := hb i
    simp only [subS]
    split
    · exact (subS_dg ha hb i).set _ _ (by omega)
    · exact (subS_dg ha hb i).set _ _ (by omega)
theorem subS_keep (a b : List Nat) (j : Nat) : ∀ i, i ≤ j → (subS a b i).1.getD j 0 = 0
  | 0, _ => by
    simp only [subS, List.getD_eq_getElem?_getD, List.getElem?_replicate]
    split <;> rfl
  | i + 1, h => by
    have ih := subS_keep a b j i (by omega)
    simp only [subS]
    split <;> simp only [] <;> rw [getD_set_ne (by omega), ih]
theorem subS_step {p x y b v1 : Nat} {va vb r : Nat} (ih : r + vb = va + p * b) :
    (x < b + y → b + y ≤ x + v1 → r + p * (x + v1 - (b + y)) + (vb + p * y) = va + p * x + p * v1 * 1) ∧ (¬ x < b + y → r + p * (x - (b + y)) + (vb + p * y) = va + p * x + p * v1 * 0) := by
  constructor
  · intro h h'
    have e := psub p v1 x (b + y) h'
    rw [Nat.mul_add _ b] at e
    rw [Nat.mul_one]
    omega
  · intro h
    have e := psub0 p x (b + y) (by omega)
    rw [Nat.mul_add _ b] at e
    rw [Nat.mul_zero]
    omega
theorem subS_val {a b : List Nat} (ha : Dg a) (hb : Dg b) (i : Nat) : i ≤ a.length → val (subS a b i).1 + vs b i = vs a i + 4294967296 ^ i * (subS a b i).2 := by
  induction i with
  | zero =>
    intro _
    rw [subS, val_rep, vs_zero, vs_zero]
    rfl
  | succ i ih =>
    intro h
    have ih := ih (by omega)
    have hl := subS_length a b i
    have h0 := subS_keep a b i i (Nat.le_refl _)
    have hc := subS_borrow a b i
    have h1 := ha i
    have h2 := hb i
    rw [vs_succ, vs_succ, Nat.pow_succ, subS]
    obtain ⟨s1, s2⟩ := subS_step (x := a.getD i 0) (y := b.getD i 0) (v1 := 4294967296) ih
    have hs : ∀ v, val ((subS a b i).1.set i v) = val (subS a b i).1 + 4294967296 ^ i * v := by
      intro v
      have := val_set (subS a b i).1 i v (by omega)
      rwa [h0, Nat.mul_zero, Nat.add_zero] at this
    split
    · rename_i hlt
      rw [hs]
      exact s1 hlt (by omega)
    · rename_i hlt
      rw [hs]
      exact s2 hlt
theorem vs_mono (a : List Nat) (i : Nat) : ∀ k, vs a i ≤ vs a (i + k)
  | 0 => Nat.le_refl _
  | k + 1 => by rw [← Nat.add_assoc, vs_succ]; exact Nat.le_trans (vs_mono a i k) (Nat.le_add_right _ _)
theorem vs_le (a : List Nat) (i : Nat) : vs a i ≤ val a := by
  have := vs_mono a i a.length
  rwa [vs_all (by omega : a.length ≤ i + a.length)] at this
/-- Digits of b beyond a's do not matter if they are 0, as they are where b is not the greater. -/
theorem vs_cut {a b : List Nat} (ha : Dg a) (h : val b ≤ val a) : vs b a.length = val b := by
  have h1 := val_lt ha
  apply Classical.byContradiction
  intro hn
  have hlt : vs b a.length < val b := Nat.lt_of_le_of_ne (vs_le _ _) hn
  have : ∀ k, vs b a.length < vs b (a.length + k) → 4294967296 ^ a.length ≤ vs b (a.length + k) := by
    intro k
    induction k with
    | zero => intro h; exact absurd h (Nat.lt_irrefl _)
    | succ k ih =>
      intro hk
      rw [← Nat.add_assoc, vs_succ] at hk ⊢
      by_cases h0 : vs b a.length < vs b (a.length + k)
      · exact Nat.le_trans (ih h0) (Nat.le_add_right _ _)
      · have : b.getD (a.length + k) 0 ≠ 0 := by
          intro e
          rw [e] at hk
          omega
        have h3 : 4294967296 ^ a.length ≤ 4294967296 ^ (a.length + k) := Nat.pow_le_pow_right (by omega) (by omega)
        have h4 : 4294967296 ^ (a.length + k) * 1 ≤ 4294967296 ^ (a.length + k) * b.getD (a.length + k) 0 := Nat.mul_le_mul_left _ (by omega)
        omega
  have := this b.length (by rwa [vs_all (by omega : b.length ≤ a.length + b.length)])
  rw [vs_all (by omega : b.length ≤ a.length + b.length)] at this
  omega
theorem subL_eq {a b : List Nat} (ha : Dg a) (hb : Dg b) (h : val b ≤ val a) : subL a b = digs (val a - val b) := by
  rw [subL, tr_eq (subS_dg ha hb _)]
  have h1 := subS_val ha hb a.length (Nat.le_refl _)
  rw [vs_all (Nat.le_refl _), vs_cut ha h] at h1
  have h2 := val_lt (subS_dg ha hb a.length)
  rw [subS_length] at h2
  have h3 := val_lt ha
  have hc := subS_borrow a b a.length
  congr 1
  have : (subS a b a.length).2 = 0 := by
    apply Classical.byContradiction
    intro hn
    have e : (subS a b a.length).2 = 1 := by omega
    rw [e, Nat.mul_one] at h1
    omega
  rw [this, Nat.mul_zero, Nat.add_zero] at h1
  omega
theorem subL_tr {a b : List Nat} (ha : Dg a) (hb : Dg b) (h : val b ≤ val a) : subL (tr a) (tr b) = digs (val a - val b) := by
  rw [subL_eq (tr_dg ha) (tr_dg hb) (by rwa [val_tr ha, val_tr hb]), val_tr ha, val_tr hb]
end Go.Ab

/- What the operations do on numbers of Nat; rows anywhere in memory. -/
set_option linter.unusedVariables false
set_option linter.unusedSimpArgs false
set_option linter.unusedSectionVars false
namespace Go.Ab

section
variable {tk : TK} {k k' : IntKind} {a b : Nat}
theorem n_gtr : binA tk .gtr (.int k a) (.int k b) = some (.bool (decide (a > b))) := by rw [binA_gtr]; congr 2; exact decide_eq_decide.2 (by omega)
theorem n_lss : binA tk .lss (.int k a) (.int k b) = some (.bool (decide (a < b))) := by rw [binA_lss]; congr 2; exact decide_eq_decide.2 (by omega)
theorem n_geq : binA tk .geq (.int k a) (.int k b) = some (.bool (decide (a ≥ b))) := by rw [binA_geq]; congr 2; exact decide_eq_decide.2 (by omega)
theorem n_eql : binA tk .eql (.int k a) (.int k b) = some (.bool (decide (a = b))) := by rw [binA_eql]; congr 2; exact decide_eq_decide.2 (by omega)
theorem n_neq : binA tk .neq (.int k a) (.int k b) = some (.bool (decide (a ≠ b))) := by rw [binA_neq]; congr 2; exact decide_eq_decide.2 (by omega)
theorem n_gtr0 : binA tk .gtr (.int k a) (.int k 0) = some (.bool (decide (a > 0))) := n_gtr (b := 0)
theorem n_geq0 : binA tk .geq (.int k a) (.int k 0) = some (.bool true) := by rw [binA_geq]; congr 2
theorem n_eql0 : binA tk .eql (.int k a) (.int k 0) = some (.bool (decide (a = 0))) := n_eql (b := 0)
theorem n_neq0 : binA tk .neq (.int k a) (.int k 0) = some (.bool (decide (a ≠ 0))) := n_neq (b := 0)
theorem n_eql1 : binA tk .eql (.int k a) (.int k 1) = some (.bool (decide (a = 1))) := n_eql (b := 1)
theorem n_eql2 : binA tk .eql (.int k a) (.int k 2) = some (.bool (decide (a = 2))) := n_eql (b := 2)
theorem n_geqB : binA tk .geq (.int k a) (.int k 4294967296) = some (.bool (decide (a ≥ 4294967296))) := n_geq (b := 4294967296)
theorem u_add (h : a + b < 18446744073709551616) : binA tk .add (.int .u64 a) (.int .u64 b) = some (.int .u64 (a + b : Nat)) := by
  rw [binA_add, wrap_u64 (by omega) (by omega)]; rfl
theorem u_mul (h : a * b < 18446744073709551616) : binA tk .mul (.int .u64 a) (.int .u64 b) = some (.int .u64 (a * b : Nat)) := by
  rw [binA_mul, ← Int.natCast_mul, wrap_u64 (by omega) (by omega)]
theorem u_sub (h : b ≤ a) (h' : a < 18446744073709551616) : binA tk .sub (.int .u64 a) (.int .u64 b) = some (.int .u64 (a - b : Nat)) := by
  rw [binA_sub, wrap_u64 (by omega) (by omega)]
  congr 2
  omega
theorem u_sub1 (h : 1 ≤ a) (h' : a < 18446744073709551616) : binA tk .sub (.int .u64 a) (.int .u64 1) = some (.int .u64 (a - 1 : Nat)) := u_sub (b := 1) h h'
theorem u_quo (h : b ≠ 0) (h' : a < 18446744073709551616) : binA tk .quo (.int .u64 a) (.int .u64 b) = some (.int .u64 (a / b : Nat)) := by
  have e : binA tk .quo (.int .u64 a) (.int .u64 b) = if (b : Int) = 0 then none else some (.int .u64 (IntKind.wrap .u64 ((a : Int).tdiv b))) := by cases tk <;> rfl
  rw [e, if_neg (by omega)]
  have e2 : (a : Int).tdiv b = ((a / b : Nat) : Int) := rfl
  have := Nat.div_le_self a b
  rw [e2]
  generalize a / b = q at *
  rw [wrap_u64 (by omega) (by omega)]
theorem u_rem (h : b ≠ 0) (h' : a < 18446744073709551616) : binA tk .rem (.int .u64 a) (.int .u64 b) = some (.int .u64 (a % b : Nat)) := by
  have e : binA tk .rem (.int .u64 a) (.int .u64 b) = if (b : Int) = 0 then none else some (.int .u64 ((a : Int).tmod b)) := by cases tk <;> rfl
  rw [e, if_neg (by omega)]
  rfl
theorem u_and (h' : a < 18446744073709551616) : binA tk .and (.int .u64 a) (.int .u64 4294967295) = some (.int .u64 (a % 4294967296 : Nat)) := by
  have e : binA tk .and (.int .u64 a) (.int .u64 4294967295) = some (.int .u64 (IntKind.wrap .u64 ((BitVec.ofInt 64 a &&& BitVec.ofInt 64 4294967295).toNat : Nat))) := by cases tk <;> rfl
  have e2 : (BitVec.ofInt 64 (a : Int) &&& BitVec.ofInt 64 4294967295).toNat = a % 4294967296 := by
    rw [BitVec.toNat_and, BitVec.toNat_ofInt, BitVec.toNat_ofInt]
    have h1 : (((a : Nat) : Int) % ((2 ^ 64 : Nat) : Int)).toNat = a := by omega
    have h2 : ((4294967295 : Int) % ((2 ^ 64 : Nat) : Int)).toNat = 2 ^ 32 - 1 := by omega
    rw [h1, h2, Nat.and_two_pow_sub_one_eq_mod]
  rw [e, e2, wrap_u64 (by omega) (by omega)]
theorem u_shl32 (h : a < 4294967296) : binA tk .shl (.int .u64 a) (.int k' 32) = some (.int .u64 (a * 4294967296 : Nat)) := binA_shl32 tk k' a h
theorem u_shr32 : binA tk .shr (.int .u64 a) (.int k' 32) = some (.int .u64 (a / 4294967296 : Nat)) := by
  rw [binA_shr32 tk k' a (by omega)]; rfl
theorem u_orlo (h : a < 4294967296) (h' : b < 4294967296) : binA tk .or (.int .u64 (a * 4294967296 : Nat)) (.int .u64 b) = some (.int .u64 (a * 4294967296 + b : Nat)) := by
  have e : binA tk .or (.int .u64 (a * 4294967296 : Nat)) (.int .u64 b) = some (.int .u64 (IntKind.wrap .u64 ((BitVec.ofInt 64 (a * 4294967296 : Nat) ||| BitVec.ofInt 64 b).toNat : Nat))) := by cases tk <;> rfl
  have e2 : (BitVec.ofInt 64 ((a * 4294967296 : Nat) : Int) ||| BitVec.ofInt 64 (b : Int)).toNat = a * 4294967296 + b := by
    rw [BitVec.toNat_or, BitVec.toNat_ofInt, BitVec.toNat_ofInt]
    have h1 : (((b : Nat) : Int) % ((2 ^ 64 : Nat) : Int)).toNat = b := by omega
    have h2 : (((a * 4294967296 : Nat) : Int) % ((2 ^ 64 : Nat) : Int)).toNat = a * 4294967296 := by omega
    rw [h1, h2]
    have := Nat.two_pow_add_eq_or_of_lt (i := 32) (b := b) (by omega) a
    rw [show a * 4294967296 = 2 ^ 32 * a by omega, ← this]
  rw [e, e2, wrap_u64 (by omega) (by omega)]
theorem i_add (h : a + b < 9223372036854775808) : binA tk .add (.int .i64 a) (.int .i64 b) = some (.int .i64 (a + b : Nat)) := by
  rw [binA_add, wrap_i64 (by omega) (by omega)]; rfl
theorem i_add1 (h : a + 1 < 9223372036854775808) : binA tk .add (.int .i64 a) (.int .i64 1) = some (.int .i64 (a + 1 : Nat)) := i_add (b := 1) h
theorem i_sub (h : b ≤ a) (h' : a < 9223372036854775808) : binA tk .sub (.int .i64 a) (.int .i64 b) = some (.int .i64 (a - b : Nat)) := by
  rw [binA_sub, wrap_i64 (by omega) (by omega)]
  congr 2
  omega
theorem i_sub1 (h : 1 ≤ a) (h' : a < 9223372036854775808) : binA tk .sub (.int .i64 a) (.int .i64 1) = some (.int .i64 (a - 1 : Nat)) := i_sub (b := 1) h h'
theorem i_sub2 (h : 2 ≤ a) (h' : a < 9223372036854775808) : binA tk .sub (.int .i64 a) (.int .i64 2) = some (.int .i64 (a - 2 : Nat)) := i_sub (b := 2) h h'
theorem i_sub1z (h' : a < 9223372036854775808) : binA tk .sub (.int .i64 a) (.int .i64 1) = some (.int .i64 ((a : Int) - 1)) := by
  rw [binA_sub, wrap_i64 (by omega) (by omega)]
theorem c_up (h : a < 18446744073709551616) : convA .u64 (.int k a) = some (.int .u64 a) := by rw [convA_int, wrap_u64 (by omega) (by omega)]
theorem c_dn : convA .u32 (.int k a) = some (.int .u32 (a % 4294967296 : Nat)) := by rw [convA_int, wrap_u32_eq]; rfl
theorem c_dg (d : Nat) (h : d < 4294967296) : convA .u64 (dg d) = some (.int .u64 d) := c_up (by omega)
theorem u32_shl {s : Nat} (hs : s < 32) (h : a < 4294967296) : binA tk .shl (.int .u32 a) (.int .u64 s) = some (.int .u32 (a * 2 ^ s % 4294967296 : Nat)) := by
  have e : binA tk .shl (.int .u32 a) (.int .u64 s) = shiftA true .u32 a s := by cases tk <;> rfl
  have e3 : IntKind.bits .u32 = 32 := rfl
  rw [e, shiftA, if_neg (by omega), if_pos rfl, e3, Int.toNat_natCast, Nat.min_eq_left (by omega), wrap_u32_eq]
  congr 2
theorem u32_shr {s : Nat} (hs : s < 32) : binA tk .shr (.int .u32 a) (.int .u64 s) = some (.int .u32 (a / 2 ^ s : Nat)) := by
  have e : binA tk .shr (.int .u32 a) (.int .u64 s) = shiftA false .u32 a s := by cases tk <;> rfl
  have e3 : IntKind.bits .u32 = 32 := rfl
  rw [e, shiftA, if_neg (by omega), if_neg (by decide), e3, Int.toNat_natCast, Nat.min_eq_left (by omega), Int.fdiv_eq_ediv_of_nonneg _ (by exact Int.le_of_lt (Int.pow_pos (by omega)))]
  congr 2
theorem u64_shl {s : Nat} (hs : s < 32) (h : a < 4294967296) : binA tk .shl (.int .u64 a) (.int .u64 s) = some (.int .u64 (a * 2 ^ s : Nat)) := by
  have e : binA tk .shl (.int .u64 a) (.int .u64 s) = shiftA true .u64 a s := by cases tk <;> rfl
  have e3 : IntKind.bits .u64 = 64 := rfl
  have h1 : 2 ^ s ≤ 2 ^ 31 := Nat.pow_le_pow_right (by omega) (by omega)
  have h2 : a * 2 ^ s ≤ a * 2 ^ 31 := Nat.mul_le_mul_left _ h1
  have h3 : (a : Int) * 2 ^ s = ((a * 2 ^ s : Nat) : Int) := by rw [Int.natCast_mul, Int.natCast_pow]; rfl
  rw [e, shiftA, if_neg (by omega), if_pos rfl, e3, Int.toNat_natCast, Nat.min_eq_left (by omega), h3, wrap_u64 (by omega) (by omega)]
theorem or_disj {x y s : Nat} (h : x < 2 ^ s) (hy : y % 2 ^ s = 0) : x ||| y = x + y := by
  have e : y = 2 ^ s * (y / 2 ^ s) := by have := Nat.div_add_mod y (2 ^ s); omega
  rw [e, Nat.or_comm, ← Nat.two_pow_add_eq_or_of_lt h, Nat.add_comm]
theorem u32_or {s : Nat} (h : a < 2 ^ s) (hb : b % 2 ^ s = 0) (hs : a + b < 4294967296) : binA tk .or (.int .u32 a) (.int .u32 b) = some (.int .u32 (a + b : Nat)) := by
  have e : binA tk .or (.int .u32 a) (.int .u32 b) = some (.int .u32 (IntKind.wrap .u32 ((BitVec.ofInt 32 a ||| BitVec.ofInt 32 b).toNat : Nat))) := by cases tk <;> rfl
  have e2 : (BitVec.ofInt 32 (a : Int) ||| BitVec.ofInt 32 (b : Int)).toNat = a + b := by
    rw [BitVec.toNat_or, BitVec.toNat_ofInt, BitVec.toNat_ofInt]
    have h1 : (((a : Nat) : Int) % ((2 ^ 32 : Nat) : Int)).toNat = a := by omega
    have h2 : (((b : Nat) : Int) % ((2 ^ 32 : Nat) : Int)).toNat = b := by omega
    rw [h1, h2, or_disj h hb]
  rw [e, e2, wrap_u32 (by omega) (by omega)]
theorem u32_add : binA tk .add (.int .u32 a) (.int .u32 b) = some (.int .u32 ((a + b) % 4294967296 : Nat)) := by
  rw [binA_add, wrap_u32_eq]; rfl
end

/-! ### Slices of digits -/
theorem index_nv {x : NV} {k : IntKind} {i : Nat} (h : i < x.ds.length) : indexAddrA none x.av (.int k i) = some (.vptr [dg (x.ds.getD i 0)]) := by
  rw [NV.av, indexA_dg (by omega) (by omega)]; simp
theorem index_nv0 {x : NV} {k : IntKind} (h : 0 < x.ds.length) : indexAddrA none x.av (.int k 0) = some (.vptr [dg (x.ds.getD 0 0)]) := index_nv (i := 0) h
theorem len_nv (x : NV) : lenA false x.av = some (.int .i64 x.ds.length) := by simp [NV.av, lenA]
theorem load_v {m : Mem} {x : AV} : loadA none m (.vptr [x]) = some x := rfl

/-! ### Rows in memory -/
def oc (ds : List Nat) : Option Ent := some (.obj false (ds.map dg))
theorem oc_get {m : Mem} {n : Nat} {ds : List Nat} (h : m[n]? = some (oc ds)) : m.obj? n = some (false, ds.map dg) := by
  simp [Mem.obj?, Mem.get, h, oc]
theorem load_at {m : Mem} {n : Nat} {ds : List Nat} {i : Nat} (h : m[n]? = some (oc ds)) (hi : i < ds.length) : loadA none m (.ptr n i) = some (dg (ds.getD i 0)) := by
  simp [loadA, oc_get h, cutSh, List.getD_eq_getElem?_getD, hi]
theorem store_at {m : Mem} {n : Nat} {ds : List Nat} {i v : Nat} (h : m[n]? = some (oc ds)) (hi : i < ds.length) : storeA none m (.ptr n i) (.int .u32 v) = some (m.set n (oc (ds.set i v))) := by
  have h1 : i + 1 ≤ ds.length := hi
  simp only [storeA, oc_get h, Option.bind_some, Sh.size, List.length_map, h1, if_true, shOk, atomOk, AV.cells, oc]
  congr 4
  simp only [putAt, List.length_cons, List.length_nil]
  rw [List.map_set, List.set_eq_take_append_cons_drop]
  simp [hi, dg, List.map_take, List.map_drop]
theorem make_oc {e b : Nat} {m : Mem} {n : Nat} (h' : n * b ≤ 281474976710656) (h2 : n ≤ 9223372036854775807) : makeA none e none (.int .u32 0) b m (.int .i64 n) (.int .i64 n) = some (.arr m.length 0 n none, m ++ [oc (List.replicate n 0)]) := make_obj h' h2
theorem len_arr (nm n : Nat) : lenA false (.arr nm 0 n none) = some (.int .i64 n) := rfl
theorem frz_at {m : Mem} {nm : Nat} {ds : List Nat} (h : m[nm]? = some (oc ds)) : frz m fuelF (.arr nm 0 ds.length none) = some (.lst none false .no (ds.map dg), [nm]) := by
  have h1 : ((ds.map dg).all atomOk) = true := by simp [List.all_map, dg, atomOk]
  show (m.obj? nm).bind _ = _
  rw [oc_get h]
  simp only [Option.bind_some, Sh.size, List.length_map, Nat.zero_add, Nat.mul_one, Nat.le_refl, decide_true, Bool.not_false, Bool.and_self, if_true, List.drop_zero, List.take_of_length_le (by simp : (ds.map dg).length ≤ ds.length)]
  rw [mapF_dg]
  simp only [Option.bind_some, h1, plL_dg, Bool.and_self, if_true, grp]
  rw [List.take_of_length_le (by simp)]
theorem pcall_at {cp : Nat → List AV → Option AV} {m : Mem} {g nm : Nat} {ds : List Nat} (h : m[nm]? = some (oc ds)) : pcall cp none m g [.arr nm 0 ds.length none] = (cp g [(NV.mk false .no ds).av]).map fun v => (v, m.set nm none) := by
  simp only [pcall, mapF, frz_at h, Option.bind_some, kill, Option.isSome_none, Bool.false_and, List.append_nil, List.foldl_cons, List.foldl_nil]
  rfl
end Go.Ab

/- What the functions of nat compute. -/
set_option linter.unusedVariables false
set_option linter.unusedSimpArgs false
namespace Go.Ab
open Go.Proofs.Try

theorem L124 (x : NV) (m : Mem) (K : Ex → St → Option (AV × Mem)) : ∀ n : Nat, n ≤ x.ds.length → x.ds.length < 2 ^ 62 → L124_2 x.av (.int .i64 n) m K = K (.exit 0) (O124_2 x.av (.int .i64 (trN x.ds n)) m) := by
  intro n
  induction n with
  | zero =>
    intro _ _
    rw [L124_2_eq]
    simp [binA_gtr, ifA, trN]
  | succ n ih =>
    intro hn hl
    have ih := ih (by omega) hl
    rw [L124_2_eq]
    have h1 : ((n + 1 : Nat) : Int) > 0 := by omega
    have h2 : IntKind.wrap .i64 (((n + 1 : Nat) : Int) - 1) = n := by rw [wrap_i64] <;> omega
    simp only [binA_gtr, Option.bind_some, ifA_dec, if_pos h1, binA_sub, h2]
    rw [NV.av, indexA_dg (by omega) (by omega)]
    simp only [Option.bind_some, loadA_one, dg, binA_eql, ifA_dec, Int.toNat_natCast]
    rw [trN]
    by_cases h : x.ds.getD n 0 = 0
    · rw [if_pos (by omega), if_pos h]
      exact ih
    · rw [if_neg (by omega), if_neg h]
theorem T124' (x : NV) (m : Mem) (hl : x.ds.length < 2 ^ 62) : AC cfg 124 [x.av] m = some (NV.av ⟨x.z, .no, tr x.ds⟩, m) := by
  rw [T124]
  simp only [NV.av, lenA_lst, Option.bind_some, List.length_map]
  have := L124 x m (K124_2 (finK cfg.P f124.results.toList)) x.ds.length (Nat.le_refl _) hl
  rw [NV.av] at this
  rw [this, K124_2_x0, sliceT_to (by omega) (by have := trN_le x.ds x.ds.length; omega)]
  simp [tr]
theorem P124 (x : NV) (hl : x.ds.length < 2 ^ 62) : AP cfg 124 [x.av] = some (NV.av ⟨x.z, .no, tr x.ds⟩) :=
  AP_of (T124' x [] hl) (fz_nv _ _) (by simp [noV_nv])

/-! ### Compare -/
theorem L109 (x y : NV) (m : Mem) (K : Ex → St → Option (AV × Mem)) (hl : x.ds.length < 2 ^ 62) : ∀ n : Nat, n ≤ x.ds.length → n ≤ y.ds.length →
    L109_7 x.av y.av (.int .i64 ((n : Int) - 1)) m K = if cmpN x.ds y.ds n = 0 then K (.exit 1) (O109_7 m) else K .ret (R109_7 (.int .i64 (cmpN x.ds y.ds n)) m) := by
  intro n
  induction n with
  | zero =>
    intro _ _
    rw [L109_7_eq]
    simp [binA_geq, ifA, cmpN]
  | succ n ih =>
    intro hx hy
    have ih := ih (by omega) (by omega)
    rw [L109_7_eq]
    have h1 : ((n + 1 : Nat) : Int) - 1 = n := by omega
    have h0 : (n : Int) ≥ 0 := by omega
    have h2 : IntKind.wrap .i64 ((n : Int) - 1) = (n : Int) - 1 := by rw [wrap_i64] <;> omega
    simp only [h1, binA_geq, Option.bind_some, ifA_dec, if_pos h0]
    simp only [NV.av] at ih ⊢
    rw [indexA_dg (by omega) (by omega), indexA_dg (by omega) (by omega)]
    simp only [Option.bind_some, loadA_one, dg, binA_lss, binA_gtr, ifA_dec, Int.toNat_natCast, binA_sub, h2]
    rw [cmpN]
    by_cases h : x.ds.getD n 0 < y.ds.getD n 0
    · rw [if_pos (by omega), if_pos h]
      rfl
    · rw [if_neg (by omega), if_neg h]
      by_cases h' : x.ds.getD n 0 > y.ds.getD n 0
      · rw [if_pos (by omega), if_pos h']
        rfl
      · rw [if_neg (by omega), if_neg h']
        exact ih
theorem T109' (x y : NV) (m : Mem) (hx : x.ds.length < 2 ^ 62) (hy : y.ds.length < 2 ^ 62) : AC cfg 109 [x.av, y.av] m = some (.int .i64 (cmpL (tr x.ds) (tr y.ds)), m) := by
  have ha : (tr x.ds).length < 2 ^ 62 := by simp only [tr, List.length_take]; omega
  rw [T109, pcall1 (fz_nv x), P124 x.fr hx]
  simp only [Option.map_some, Option.bind_some, pcall1 (fz_nv y), P124 y.fr hy]
  simp only [NV.av, lenA_lst, List.length_map, Option.bind_some, binA_lss, binA_gtr, ifA_dec, binA_sub, NV.fr]
  unfold cmpL
  by_cases h : (tr x.ds).length < (tr y.ds).length
  · rw [if_pos (by omega), if_pos h]
  · rw [if_neg (by omega), if_neg h]
    by_cases h' : (tr x.ds).length > (tr y.ds).length
    · rw [if_pos (by omega), if_pos h']
    · rw [if_neg (by omega), if_neg h', wrap_i64 (by omega) (by omega)]
      have := L109 ⟨x.z, .no, tr x.ds⟩ ⟨y.z, .no, tr y.ds⟩ m (K109_7 (finK cfg.P f109.results.toList)) ha (tr x.ds).length (Nat.le_refl _) (by simp only; omega)
      simp only [NV.av] at this
      rw [this, K109_7_x1, K109_7_ret]
      split
      · rename_i h0; rw [h0]
      · rfl
theorem P109 (x y : NV) (hx : x.ds.length < 2 ^ 62) (hy : y.ds.length < 2 ^ 62) : AP cfg 109 [x.av, y.av] = some (.int .i64 (cmpL (tr x.ds) (tr y.ds))) :=
  AP_of (T109' x y [] hx hy) (fz_int _ _ _) (by simp [noV])

/-! ### Add -/
theorem L108 (x y : NV) (m : Mem) (K : Ex → St → Option (AV × Mem)) (hl : x.ds.length < 2 ^ 40) (hy : y.ds.length ≤ x.ds.length) (dx : Dg x.ds) (dy : Dg y.ds) : ∀ j i : Nat, i + j = x.ds.length →
    L108_7 y.av (.lst none false (.tok m.length 116) ((addS x.ds y.ds i).1.map dg)) (.int .u64 (addS x.ds y.ds i).2) x.av (.int .i64 x.ds.length) (.int .i64 i) (tokM m i) K
      = K (.exit 0) (O108_7 (.lst none false (.tok m.length 116) ((addS x.ds y.ds x.ds.length).1.map dg)) (.int .u64 (addS x.ds y.ds x.ds.length).2) (tokM m x.ds.length)) := by
  intro j
  induction j with
  | zero =>
    intro i hi
    have : i = x.ds.length := by omega
    subst this
    rw [L108_7_eq]
    simp [binA_lss, ifA]
  | succ j ih =>
    intro i hi
    have ih := ih (i + 1) (by omega)
    have hc := addS_carry dx dy i
    have h1 := dx i
    have h2 := dy i
    rw [L108_7_eq]
    have hi' : ((i : Nat) : Int) < (x.ds.length : Int) := by omega
    have hw : IntKind.wrap .i64 ((i : Int) + 1) = ((i + 1 : Nat) : Int) := by rw [wrap_i64] <;> omega
    simp only [binA_lss, Option.bind_some, ifA_dec, if_pos hi']
    simp only [NV.av] at ih ⊢
    have hidx : indexAddrA none (.lst none x.z x.o (x.ds.map dg)) (.int .i64 i) = some (.vptr [dg (x.ds.getD i 0)]) := by
      rw [indexA_dg (by omega) (by omega)]; simp
    rw [hidx]
    have e1 : IntKind.wrap .u64 ((x.ds.getD i 0 : Nat) : Int) = (x.ds.getD i 0 : Nat) := by rw [wrap_u64] <;> omega
    have e2 : IntKind.wrap .u64 (((addS x.ds y.ds i).2 : Int) + (x.ds.getD i 0 : Nat)) = (((addS x.ds y.ds i).2 + x.ds.getD i 0 : Nat) : Int) := by rw [wrap_u64] <;> omega
    simp only [Option.bind_some, loadA_one, dg, convA_int, e1, binA_add, e2, lenA_lst, List.length_map, binA_lss, ifA_dec, hw]
    have fin : ∀ s : Nat, s = (addS x.ds y.ds i).2 + x.ds.getD i 0 + y.ds.getD i 0 → (appA none false 116 none 4 (tokM m i) (.lst none false (.tok m.length 116) ((addS x.ds y.ds i).1.map dg)) (.lst none false .full [.int .u32 (IntKind.wrap .u32 s)])) = some (.lst none false (.tok m.length 116) ((addS x.ds y.ds (i + 1)).1.map dg), tokM m (i + 1)) := by
      intro s hs
      have hlen : ((addS x.ds y.ds i).1.map dg).length = i := by rw [List.length_map, addS_length]
      have := app_tok (e := 116) (b := 4) (m := m) (es := (addS x.ds y.ds i).1.map dg) (z := false) (o := .full) (y := .int .u32 (IntKind.wrap .u32 s)) (by rw [hlen]; simp only [roomA]; omega)
      rw [hlen] at this
      rw [this]
      congr 3
      simp only [addS, List.map_append, List.map_cons, List.map_nil, dg, wrap_u32_eq, ← hs]
      rfl
    by_cases h : (i : Int) < (y.ds.length : Int)
    · rw [if_pos h]
      have hidy : indexAddrA none (.lst none y.z y.o (y.ds.map dg)) (.int .i64 i) = some (.vptr [dg (y.ds.getD i 0)]) := by
        rw [indexA_dg (by omega) (by omega)]; simp
      have e3 : IntKind.wrap .u64 ((y.ds.getD i 0 : Nat) : Int) = (y.ds.getD i 0 : Nat) := by rw [wrap_u64] <;> omega
      have e4 : IntKind.wrap .u64 ((((addS x.ds y.ds i).2 + x.ds.getD i 0 : Nat) : Int) + (y.ds.getD i 0 : Nat)) = (((addS x.ds y.ds i).2 + x.ds.getD i 0 + y.ds.getD i 0 : Nat) : Int) := by rw [wrap_u64] <;> omega
      have hidy' := hidy
      simp only [dg] at hidy'
      rw [hidy']
      simp only [Option.bind_some, loadA_one, convA_int, e3, binA_add, e4, build_int]
      have f := fin _ rfl
      rw [f]
      simp only [Option.bind_some, binA_shr32 _ _ _ (Int.natCast_nonneg _), hw]
      exact ih
    · rw [if_neg h]
      have h0 : y.ds.getD i 0 = 0 := by
        rw [List.getD_eq_getElem?_getD, List.getElem?_eq_none (by omega)]; rfl
      simp only [Option.bind_some, convA_int, build_int]
      have f := fin ((addS x.ds y.ds i).2 + x.ds.getD i 0) (by omega)
      rw [f]
      simp only [Option.bind_some, binA_shr32 _ _ _ (Int.natCast_nonneg _), binA_add, hw]
      have : (addS x.ds y.ds (i + 1)).2 = ((addS x.ds y.ds i).2 + x.ds.getD i 0) / 4294967296 := by simp only [addS, h0, Nat.add_zero]
      rw [this] at ih
      exact ih

theorem K108 (a b : List Nat) (m : Mem) (hl : a.length < 2 ^ 40) (da : Dg a) (db : Dg b) : K108_7 (finK cfg.P f108.results.toList) (.exit 0) (O108_7 (.lst none false (.tok m.length 116) ((addS a b a.length).1.map dg)) (.int .u64 (addS a b a.length).2) (tokM m a.length)) = some (NV.av ⟨false, .no, addL1 a b⟩, tokM m (a.length + 1)) := by
  have hc := addS_carry da db a.length
  have hlen : ((addS a b a.length).1.map dg).length = a.length := by rw [List.length_map, addS_length]
  rw [K108_7_x0]
  simp only [convA_int, Option.bind_some, build_int, wrap_u32 (Int.natCast_nonneg _) (by omega : (((addS a b a.length).2 : Nat) : Int) < 4294967296)]
  have := app_tok (e := 116) (b := 4) (m := m) (es := (addS a b a.length).1.map dg) (z := false) (o := .full) (y := .int .u32 (addS a b a.length).2) (by rw [hlen]; simp only [roomA]; omega)
  rw [hlen] at this
  rw [this]
  simp only [Option.bind_some]
  have e : (AV.lst none false (.tok m.length 116) ((addS a b a.length).1.map dg ++ [.int .u32 (addS a b a.length).2])) = NV.av ⟨false, .tok m.length 116, (addS a b a.length).1 ++ [(addS a b a.length).2]⟩ := by simp [NV.av, dg]
  rw [e, pcall1 (fz_nv _), P124 _ (by simp only [NV.fr, List.length_append, addS_length, List.length_cons, List.length_nil]; omega)]
  rfl
theorem T108' (x y : NV) (m : Mem) (hx : x.ds.length < 2 ^ 40) (hy : y.ds.length < 2 ^ 40) (dx : Dg x.ds) (dy : Dg y.ds) : ∃ m', AC cfg 108 [x.av, y.av] m = some (NV.av ⟨false, .no, addL (tr x.ds) (tr y.ds)⟩, m') := by
  have hx' := tr_length x.ds
  have hy' := tr_length y.ds
  have dx' := tr_dg dx
  have dy' := tr_dg dy
  rw [T108, pcall1 (fz_nv x), P124 x.fr (by simp only [NV.fr]; omega)]
  simp only [Option.map_some, Option.bind_some, pcall1 (fz_nv y), P124 y.fr (by simp only [NV.fr]; omega)]
  simp only [NV.av, lenA_lst, List.length_map, Option.bind_some, binA_lss, ifA_dec, binA_add, NV.fr]
  unfold addL
  by_cases h : (tr x.ds).length < (tr y.ds).length
  · rw [if_pos (by omega), if_pos h, wrap_i64 (by omega) (by omega), make_tok (by omega) (by omega) (by omega)]
    simp only [Option.bind_some]
    have := L108 ⟨y.z, .no, tr y.ds⟩ ⟨x.z, .no, tr x.ds⟩ m (K108_7 (finK cfg.P f108.results.toList)) (by simp only; omega) (by simp only; omega) dy' dx' (tr y.ds).length 0 (by simp)
    simp only [NV.av, addS, List.map_nil] at this
    refine ⟨_, this.trans (K108 (tr y.ds) (tr x.ds) m (by omega) dy' dx')⟩
  · rw [if_neg (by omega), if_neg h, wrap_i64 (by omega) (by omega), make_tok (by omega) (by omega) (by omega)]
    simp only [Option.bind_some]
    have := L108 ⟨x.z, .no, tr x.ds⟩ ⟨y.z, .no, tr y.ds⟩ m (K108_7 (finK cfg.P f108.results.toList)) (by simp only; omega) (by simp only; omega) dx' dy' (tr x.ds).length 0 (by simp)
    simp only [NV.av, addS, List.map_nil] at this
    refine ⟨_, this.trans (K108 (tr x.ds) (tr y.ds) m (by omega) dx' dy')⟩
theorem P108 (x y : NV) (hx : x.ds.length < 2 ^ 40) (hy : y.ds.length < 2 ^ 40) (dx : Dg x.ds) (dy : Dg y.ds) : AP cfg 108 [x.av, y.av] = some (NV.av ⟨false, .no, addL (tr x.ds) (tr y.ds)⟩) := by
  obtain ⟨m', h⟩ := T108' x y [] hx hy dx dy
  exact AP_of h (fz_nv _ _) (by simp [noV_nv])

/-! ### Mul -/
theorem L107b (y : NV) (m : Mem) (K : Ex → St → Option (AV × Mem)) (x i n : Nat) (s : List Nat × Nat) (v21 v22 v23 : AV) (hl : n < 2 ^ 42) (hn : s.1.length = n) (hi : i + y.ds.length ≤ n) (dy : Dg y.ds) (hx : x < 4294967296) (hs : Dg s.1) (hc : s.2 < 4294967296) : ∀ j k : Nat, k + j = y.ds.length →
    L107_8 y.av (.arr m.length 0 n none) (.int .i64 i) (dg x) (.int .u64 (mulS y.ds x i k s).2) v21 v22 v23 y.av (.int .i64 y.ds.length) (.int .i64 k) (objM m (mulS y.ds x i k s).1) K
      = K (.exit 2) (O107_8 y.av (.arr m.length 0 n none) (.int .i64 i) (.int .u64 (mulS y.ds x i y.ds.length s).2) v21 v22 v23 (objM m (mulS y.ds x i y.ds.length s).1)) := by
  intro j
  induction j with
  | zero =>
    intro k hk
    have : k = y.ds.length := by omega
    subst this
    rw [L107_8_eq]
    simp [binA_lss, ifA]
  | succ j ih =>
    intro k hk
    have ih := ih (k + 1) (by omega)
    obtain ⟨h1, h2⟩ := mulS_bound (i := i) dy hx hs hc k
    have h3 := h1 (i + k)
    have h4 := dy k
    have h5 : x * y.ds.getD k 0 ≤ 4294967295 * 4294967295 := Nat.mul_le_mul (by omega) (by omega)
    have hlen := mulS_length y.ds x i s k
    rw [L107_8_eq]
    have hk' : ((k : Nat) : Int) < (y.ds.length : Int) := by omega
    have hw : IntKind.wrap .i64 ((k : Int) + 1) = ((k + 1 : Nat) : Int) := by rw [wrap_i64] <;> omega
    have hw2 : IntKind.wrap .i64 ((i : Int) + k) = ((i + k : Nat) : Int) := by rw [wrap_i64] <;> omega
    simp only [binA_lss, Option.bind_some, ifA_dec, if_pos hk']
    have hidx : indexAddrA none y.av (.int .i64 k) = some (.vptr [dg (y.ds.getD k 0)]) := by
      rw [NV.av, indexA_dg (by omega) (by omega)]; simp
    rw [hidx]
    simp only [Option.bind_some, loadA_one, binA_add, hw2]
    rw [index_arr (by omega), Option.bind_some, load_obj (by omega)]
    have e1 : IntKind.wrap .u64 (((mulS y.ds x i k s).1.getD (i + k) 0 : Nat) : Int) = ((mulS y.ds x i k s).1.getD (i + k) 0 : Nat) := by rw [wrap_u64] <;> omega
    have e2 : IntKind.wrap .u64 ((x : Nat) : Int) = x := by rw [wrap_u64] <;> omega
    have e3 : IntKind.wrap .u64 ((y.ds.getD k 0 : Nat) : Int) = (y.ds.getD k 0 : Nat) := by rw [wrap_u64] <;> omega
    have e4 : IntKind.wrap .u64 ((x : Int) * (y.ds.getD k 0 : Nat)) = ((x * y.ds.getD k 0 : Nat) : Int) := by rw [← Int.natCast_mul, wrap_u64] <;> omega
    have e5 : IntKind.wrap .u64 ((((mulS y.ds x i k s).1.getD (i + k) 0 : Nat) : Int) + (x * y.ds.getD k 0 : Nat)) = (((mulS y.ds x i k s).1.getD (i + k) 0 + x * y.ds.getD k 0 : Nat) : Int) := by rw [wrap_u64] <;> omega
    have e6 : IntKind.wrap .u64 (((mulS y.ds x i k s).2 : Int) + ((mulS y.ds x i k s).1.getD (i + k) 0 + x * y.ds.getD k 0 : Nat)) = (((mulS y.ds x i k s).2 + ((mulS y.ds x i k s).1.getD (i + k) 0 + x * y.ds.getD k 0) : Nat) : Int) := by rw [wrap_u64] <;> omega
    have e7 : IntKind.wrap .u32 (((mulS y.ds x i k s).2 + ((mulS y.ds x i k s).1.getD (i + k) 0 + x * y.ds.getD k 0) : Nat) : Int) = ((((mulS y.ds x i k s).2 + ((mulS y.ds x i k s).1.getD (i + k) 0 + x * y.ds.getD k 0)) % 4294967296 : Nat) : Int) := by rw [wrap_u32_eq]; rfl
    simp only [dg, Option.bind_some, convA_int, e1, e2, e3, binA_mul, e4, e5, e6, e7, binA_add, hw2]
    rw [store_obj (by omega)]
    simp only [Option.bind_some, binA_shr32 _ _ _ (Int.natCast_nonneg _), hw]
    exact ih

theorem L107 (x y : NV) (m : Mem) (K : Ex → St → Option (AV × Mem)) (hx : x.ds.length < 2 ^ 40) (hy : y.ds.length < 2 ^ 40) (dx : Dg x.ds) (dy : Dg y.ds) : ∀ j i : Nat, i + j = x.ds.length →
    L107_4 y.av (.arr m.length 0 (x.ds.length + y.ds.length) none) x.av (.int .i64 x.ds.length) (.int .i64 i) (objM m (mulO x.ds y.ds i)) K
      = K (.exit 0) (O107_4 (.arr m.length 0 (x.ds.length + y.ds.length) none) (objM m (mulO x.ds y.ds x.ds.length))) := by
  intro j
  induction j with
  | zero =>
    intro i hi
    have : i = x.ds.length := by omega
    subst this
    rw [L107_4_eq]
    simp [binA_lss, ifA]
  | succ j ih =>
    intro i hi
    have ih := ih (i + 1) (by omega)
    rw [L107_4_eq]
    have hi' : ((i : Nat) : Int) < (x.ds.length : Int) := by omega
    have hw : IntKind.wrap .i64 ((i : Int) + 1) = ((i + 1 : Nat) : Int) := by rw [wrap_i64] <;> omega
    have hw2 : IntKind.wrap .i64 ((i : Int) + y.ds.length) = ((i + y.ds.length : Nat) : Int) := by rw [wrap_i64] <;> omega
    simp only [binA_lss, Option.bind_some, ifA_dec, if_pos hi']
    have hidx : indexAddrA none x.av (.int .i64 i) = some (.vptr [dg (x.ds.getD i 0)]) := by
      rw [NV.av, indexA_dg (by omega) (by omega)]; simp
    have hlen : lenA false y.av = some (.int .i64 y.ds.length) := by simp [NV.av, lenA]
    rw [hidx]
    simp only [Option.bind_some, loadA_one, hlen]
    have hb := L107b y m (K107_8 K) (x.ds.getD i 0) i (x.ds.length + y.ds.length) (mulO x.ds y.ds i, 0) x.av (.int .i64 x.ds.length) (.int .i64 i) (by omega) (mulO_length ..) (by omega) dy (dx i) (mulO_dg dx dy i) (by simp) y.ds.length 0 (by omega)
    simp only [mulS] at hb
    refine hb.trans ?_
    obtain ⟨h1, h2⟩ := mulS_bound (i := i) (s := (mulO x.ds y.ds i, 0)) dy (dx i) (mulO_dg dx dy i) (by simp) y.ds.length
    have hl := mulS_length y.ds (x.ds.getD i 0) i (mulO x.ds y.ds i, 0) y.ds.length
    simp only [mulO_length] at hl
    rw [K107_8_x2]
    simp only [hlen, Option.bind_some, binA_add, hw2, convA_int, wrap_u32 (Int.natCast_nonneg _) (by omega : (((mulS y.ds (x.ds.getD i 0) i y.ds.length (mulO x.ds y.ds i, 0)).2 : Nat) : Int) < 4294967296)]
    rw [index_arr (by omega), Option.bind_some, store_obj (by omega)]
    simp only [Option.bind_some, hw]
    exact ih

theorem T107' (x y : NV) (m : Mem) (hx : x.ds.length < 2 ^ 40) (hy : y.ds.length < 2 ^ 40) (dx : Dg x.ds) (dy : Dg y.ds) : AC cfg 107 [x.av, y.av] m = some (NV.av ⟨false, .no, mulL (tr x.ds) (tr y.ds)⟩, m ++ [none]) := by
  have hx' := tr_length x.ds
  have hy' := tr_length y.ds
  rw [T107, pcall1 (fz_nv x), P124 x.fr (by simp only [NV.fr]; omega)]
  simp only [Option.map_some, Option.bind_some, pcall1 (fz_nv y), P124 y.fr (by simp only [NV.fr]; omega)]
  have hl : ∀ x : NV, lenA false x.av = some (.int .i64 x.ds.length) := fun x => by simp [NV.av, lenA]
  have hw : IntKind.wrap .i64 (((tr x.ds).length : Int) + (tr y.ds).length) = (((tr x.ds).length + (tr y.ds).length : Nat) : Int) := by rw [wrap_i64] <;> omega
  simp only [hl, Option.bind_some, binA_add, NV.fr, hw]
  rw [make_obj (by omega) (by omega)]
  simp only [Option.bind_some]
  have := L107 ⟨x.z, .no, tr x.ds⟩ ⟨y.z, .no, tr y.ds⟩ m (K107_4 (finK cfg.P f107.results.toList)) (by simp only; omega) (by simp only; omega) (tr_dg dx) (tr_dg dy) (tr x.ds).length 0 (by simp)
  refine this.trans ?_
  rw [K107_4_x0]
  have hlen := mulO_length (tr x.ds) (tr y.ds) (tr x.ds).length
  have hp := pcall_arr (cp := AP cfg) (m := m) (g := 124) (ds := mulO (tr x.ds) (tr y.ds) (tr x.ds).length)
  rw [hlen] at hp
  rw [hp]
  have := P124 ⟨false, .no, mulO (tr x.ds) (tr y.ds) (tr x.ds).length⟩ (by simp only [hlen]; omega)
  simp only [NV.av] at this
  rw [this]
  rfl
theorem P107 (x y : NV) (hx : x.ds.length < 2 ^ 40) (hy : y.ds.length < 2 ^ 40) (dx : Dg x.ds) (dy : Dg y.ds) : AP cfg 107 [x.av, y.av] = some (NV.av ⟨false, .no, mulL (tr x.ds) (tr y.ds)⟩) :=
  AP_of (T107' x y [] hx hy dx dy) (fz_nv _ _) (by simp [noV_nv])

/-! ### Clone -/
def NV.ok (x : NV) : Prop := x.z = true → x.ds = []
def cloneV (x : NV) : NV := ⟨x.z, if x.ds = [] then .full else .no, x.ds⟩
theorem P123 (x : NV) (hz : x.ok) (hx : x.ds.length < 2 ^ 40) : AP cfg 123 [x.av] = some (cloneV x).av := by
  have h0 : binA .sl .eql x.av (.lst none true .full []) = some (.bool x.z) := rfl
  obtain ⟨z, o, ds⟩ := x
  cases z with
  | true =>
    have : ds = [] := hz rfl
    subst this
    refine AP_of (v := NV.av ⟨true, .full, []⟩) (m := []) ?_ (fz_nv _ _) (by simp [noV_nv])
    rw [T123, h0]
    rfl
  | false =>
    cases ds with
    | nil =>
      refine AP_of (v := NV.av ⟨false, .full, []⟩) (m := []) ?_ (fz_nv _ _) (by simp [noV_nv])
      rw [T123, h0]
      rfl
    | cons d ds =>
      refine AP_of (v := NV.av ⟨false, .tok 0 116, d :: ds⟩) (m := [some (.tok (d :: ds).length 1)]) ?_ (fz_nv _ _) (by simp [noV_nv])
      rw [T123, h0]
      have hl : (ds.length + 1) * 4 ≤ 140737488355328 := by simp only [List.length_cons] at hx; omega
      simp only [Option.bind_some, ifA, buildSliceA, List.all_nil, if_true, List.map_nil, NV.av, List.map_cons, appA, List.length_nil, List.length_cons, List.length_map, Nat.zero_add, roomA, hl, true_or, Bool.false_eq_true, if_false, newAt, List.nil_append, Sh.size]

theorem cloneV_fr (x : NV) : (cloneV x).fr = cloneV x := by
  unfold cloneV NV.fr
  simp only []
  split <;> rfl
theorem fz_clone (x : NV) : Fz (cloneV x).av (cloneV x).av := by
  have := fz_nv (cloneV x)
  rwa [cloneV_fr] at this
/-! ### Of -/
def ofL (n : Nat) : List Nat := tr [n % 4294967296, n / 4294967296]
theorem P93 (n : Nat) (hn : n < 18446744073709551616) : AP cfg 93 [.int .u64 n] = some (cloneV ⟨false, .no, ofL n⟩).av := by
  have e1 : IntKind.wrap .u32 (n : Int) = ((n % 4294967296 : Nat) : Int) := by rw [wrap_u32_eq]; rfl
  have e2 : IntKind.wrap .u32 ((n : Int) / 4294967296) = ((n / 4294967296 : Nat) : Int) := by rw [wrap_u32] <;> omega
  have hb : buildSliceA none [.int .u32 ((n % 4294967296 : Nat) : Int), .int .u32 ((n / 4294967296 : Nat) : Int)] = some (NV.av ⟨false, .full, [n % 4294967296, n / 4294967296]⟩) := rfl
  have hl : (tr [n % 4294967296, n / 4294967296]).length ≤ 2 := tr_length _
  refine AP_of (m := []) ?_ (fz_clone _ _) (by simp [noV_nv])
  rw [T93]
  simp only [convA_int, Option.bind_some, e1, binA_shr32 _ _ _ (Int.natCast_nonneg _), e2, hb]
  rw [pcall1 (fz_nv _), P124 _ (by simp [NV.fr])]
  simp only [Option.map_some, Option.bind_some]
  rw [pcall1 (fz_nv _), P123 _ (by simp [NV.ok, NV.fr]) (by simp only [NV.fr]; omega)]
  rfl

/-! ### Right -/
def rightL (a : List Nat) : Bool := decide (a.length = 0) || decide (a.getD (a.length - 1) 0 ≠ 0)
theorem P94 (x : NV) (hx : x.ds.length < 2 ^ 40) : AP cfg 94 [x.av] = some (.bool (rightL x.ds)) := by
  refine AP_of (m := []) ?_ (fz_bool _ _) (by simp [noV])
  have hl : lenA false x.av = some (.int .i64 x.ds.length) := by simp [NV.av, lenA]
  rw [T94]
  simp only [hl, Option.bind_some, binA_eql, ifA_dec]
  by_cases h : x.ds.length = 0
  · rw [if_pos (by omega)]; simp [rightL, h]
  · rw [if_neg (by omega)]
    have hw : IntKind.wrap .i64 ((x.ds.length : Int) - 1) = ((x.ds.length - 1 : Nat) : Int) := by rw [wrap_i64] <;> omega
    simp only [binA_sub, Option.bind_some, hw]
    have hidx : indexAddrA none x.av (.int .i64 ((x.ds.length - 1 : Nat) : Int)) = some (.vptr [dg (x.ds.getD (x.ds.length - 1) 0)]) := by
      rw [NV.av, indexA_dg (by omega) (by omega)]; simp
    rw [hidx]
    simp only [Option.bind_some, loadA_one, dg, binA_neq]
    congr 2
    simp only [rightL, h, decide_false, Bool.false_or, AV.bool.injEq, decide_eq_decide]
    omega

/-! ### Small -/
def smallL (a : List Nat) : AV := match a with
  | [] => .tup [.int .u64 0, .bool true]
  | [d] => .tup [.int .u64 d, .bool true]
  | [d, e] => .tup [.int .u64 (d + e * 4294967296 : Nat), .bool true]
  | _ => .tup [.int .u64 0, .bool false]
theorem fz_small (a : List Nat) : Fz (smallL a) (smallL a) ∧ noV (smallL a) = true := by
  unfold smallL
  split <;> exact ⟨fun _ => rfl, rfl⟩
theorem P95 (x : NV) (hx : x.ds.length < 2 ^ 40) (dx : Dg x.ds) : AP cfg 95 [x.av] = some (smallL (tr x.ds)) := by
  refine AP_of (m := []) ?_ ((fz_small _).1 _) (by simp [(fz_small _).2])
  have hl : ∀ x : NV, lenA false x.av = some (.int .i64 x.ds.length) := fun x => by simp [NV.av, lenA]
  rw [T95, pcall1 (fz_nv x), P124 x.fr (by simp only [NV.fr]; omega)]
  have dt := tr_dg dx
  simp only [Option.map_some, Option.bind_some, hl, binA_eql, ifA_dec, NV.fr]
  generalize tr x.ds = a at dt
  match a, dt with
  | [], _ => rfl
  | [d], dt =>
    have h0 := dt 0
    simp only [List.getD_cons_zero] at h0
    rw [if_neg (by simp), if_pos (by simp)]
    simp only [NV.av]
    rw [show indexAddrA none (.lst none x.z .no ([d].map dg)) (.int .i64 0) = some (.vptr [dg d]) from rfl]
    simp only [Option.bind_some, loadA_one, dg, convA_int, wrap_u64 (Int.natCast_nonneg d) (by omega)]
    rfl
  | [d, e], dt =>
    have h0 := dt 0
    have h1 := dt 1
    simp only [List.getD_cons_zero, List.getD_cons_succ] at h0 h1
    rw [if_neg (by simp), if_neg (by simp), if_pos (by simp)]
    simp only [NV.av]
    rw [show indexAddrA none (.lst none x.z .no ([d, e].map dg)) (.int .i64 0) = some (.vptr [dg d]) from rfl, show indexAddrA none (.lst none x.z .no ([d, e].map dg)) (.int .i64 1) = some (.vptr [dg e]) from rfl]
    simp only [Option.bind_some, loadA_one, dg, convA_int, wrap_u64 (Int.natCast_nonneg d) (by omega), wrap_u64 (Int.natCast_nonneg e) (by omega), binA_shl32 _ _ e h1, binA_or _ d e h0 h1]
    rfl
  | d :: e :: f :: l, _ =>
    rw [if_neg (by simp only [List.length_cons]; omega), if_neg (by simp only [List.length_cons]; omega), if_neg (by simp only [List.length_cons]; omega)]
    rfl

/-! ### Sub -/
theorem L110 (x y : NV) (m : Mem) (K : Ex → St → Option (AV × Mem)) (hl : x.ds.length < 2 ^ 40) (dx : Dg x.ds) (dy : Dg y.ds) : ∀ j i : Nat, i + j = x.ds.length →
    L110_7 y.av (.arr m.length 0 x.ds.length none) (.int .u64 (subS x.ds y.ds i).2) x.av (.int .i64 x.ds.length) (.int .i64 i) (objM m (subS x.ds y.ds i).1) K
      = K (.exit 0) (O110_7 (.arr m.length 0 x.ds.length none) (objM m (subS x.ds y.ds x.ds.length).1)) := by
  intro j
  induction j with
  | zero =>
    intro i hi
    have : i = x.ds.length := by omega
    subst this
    rw [L110_7_eq]
    simp [binA_lss, ifA]
  | succ j ih =>
    intro i hi
    have ih := ih (i + 1) (by omega)
    have hc := subS_borrow x.ds y.ds i
    have hlen := subS_length x.ds y.ds i
    have h1 := dx i
    have h2 := dy i
    rw [L110_7_eq]
    have hi' : ((i : Nat) : Int) < (x.ds.length : Int) := by omega
    have hw : IntKind.wrap .i64 ((i : Int) + 1) = ((i + 1 : Nat) : Int) := by rw [wrap_i64] <;> omega
    have e1 : IntKind.wrap .u64 ((x.ds.getD i 0 : Nat) : Int) = (x.ds.getD i 0 : Nat) := by rw [wrap_u64] <;> omega
    have e2 : IntKind.wrap .u64 ((y.ds.getD i 0 : Nat) : Int) = (y.ds.getD i 0 : Nat) := by rw [wrap_u64] <;> omega
    have e3 : IntKind.wrap .u64 (((subS x.ds y.ds i).2 : Int) + (y.ds.getD i 0 : Nat)) = (((subS x.ds y.ds i).2 + y.ds.getD i 0 : Nat) : Int) := by rw [wrap_u64] <;> omega
    have s1 : binA .other .shl (.int .u64 1) (.int .u64 32) = some (.int .u64 4294967296) := rfl
    have s0 : binA .other .shl (.int .u64 0) (.int .u64 32) = some (.int .u64 0) := rfl
    simp only [binA_lss, Option.bind_some, ifA_dec, if_pos hi', index_nv (by omega : i < x.ds.length), loadA_one, len_nv]
    have big : ∀ t : Nat, t = (subS x.ds y.ds i).2 + y.ds.getD i 0 → x.ds.getD i 0 < t → 
        IntKind.wrap .u32 (IntKind.wrap .u64 (IntKind.wrap .u64 ((x.ds.getD i 0 : Nat) + 4294967296 : Int) - (t : Nat))) = ((x.ds.getD i 0 + 4294967296 - t : Nat) : Int) ∧ subS x.ds y.ds (i + 1) = ((subS x.ds y.ds i).1.set i (x.ds.getD i 0 + 4294967296 - t), 1) := by
      intro t ht hlt
      refine ⟨?_, by simp only [subS, ← ht, if_pos hlt]⟩
      rw [wrap_u64 (x := ((x.ds.getD i 0 : Nat) : Int) + 4294967296) (by omega) (by omega), wrap_u64 (by omega) (by omega), wrap_u32 (by omega) (by omega)]
      omega
    have small : ∀ t : Nat, t = (subS x.ds y.ds i).2 + y.ds.getD i 0 → ¬ x.ds.getD i 0 < t → 
        IntKind.wrap .u32 (IntKind.wrap .u64 (IntKind.wrap .u64 ((x.ds.getD i 0 : Nat) + 0 : Int) - (t : Nat))) = ((x.ds.getD i 0 - t : Nat) : Int) ∧ subS x.ds y.ds (i + 1) = ((subS x.ds y.ds i).1.set i (x.ds.getD i 0 - t), 0) := by
      intro t ht hlt
      refine ⟨?_, by simp only [subS, ← ht, if_neg hlt]⟩
      rw [wrap_u64 (x := ((x.ds.getD i 0 : Nat) : Int) + 0) (by omega) (by omega), wrap_u64 (by omega) (by omega), wrap_u32 (by omega) (by omega)]
      omega
    by_cases h : (i : Int) < (y.ds.length : Int)
    · rw [if_pos h, index_nv (by omega : i < y.ds.length)]
      simp only [Option.bind_some, loadA_one, dg, convA_int, e1, e2, e3, binA_add, binA_lss, ifA_dec]
      by_cases h3 : x.ds.getD i 0 < (subS x.ds y.ds i).2 + y.ds.getD i 0
      · obtain ⟨b1, b2⟩ := big _ rfl h3
        rw [if_pos (by omega), s1]
        simp only [Option.bind_some, binA_add, binA_sub, convA_int, b1, hw]
        rw [index_arr (by omega), Option.bind_some, store_obj (by omega)]
        rw [b2] at ih
        exact ih
      · obtain ⟨b1, b2⟩ := small _ rfl h3
        rw [if_neg (by omega), s0]
        simp only [Option.bind_some, binA_add, binA_sub, convA_int, b1, hw]
        rw [index_arr (by omega), Option.bind_some, store_obj (by omega)]
        rw [b2] at ih
        exact ih
    · rw [if_neg h]
      have h0 := getD_out h
      simp only [Option.bind_some, loadA_one, dg, convA_int, e1, binA_lss, ifA_dec]
      by_cases h3 : x.ds.getD i 0 < (subS x.ds y.ds i).2
      · obtain ⟨b1, b2⟩ := big (subS x.ds y.ds i).2 (by omega) h3
        rw [if_pos (by omega), s1]
        simp only [Option.bind_some, binA_add, binA_sub, convA_int, b1, hw]
        rw [index_arr (by omega), Option.bind_some, store_obj (by omega)]
        rw [b2] at ih
        exact ih
      · obtain ⟨b1, b2⟩ := small (subS x.ds y.ds i).2 (by omega) h3
        rw [if_neg (by omega), s0]
        simp only [Option.bind_some, binA_add, binA_sub, convA_int, b1, hw]
        rw [index_arr (by omega), Option.bind_some, store_obj (by omega)]
        rw [b2] at ih
        exact ih
end Go.Ab
