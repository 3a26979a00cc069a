/- Operations whose order is left open: one order serves for all. The abstract side alone. -/
import Derived.Test.YtlapgjmmlbnehaaJP0
import Derived.Orders
import Derived.Fence
import Derived.CallsIn
import Derived.LoopNIn
import Derived.RangeFuncCalls
import Derived.RangeFuncFrom
import Derived.Test.YtlapgjmmlbnehaaProg
set_option linter.unusedVariables false
set_option linter.unusedSimpArgs false
namespace Go.Ab

section
variable {R : Type} {C : Cfg} {fid : Nat} {callP : Nat → List AV → Option AV} {callI : Nat → List AV → Mem → Option (AV × Mem)}

def opF (C : Cfg) (fid : Nat) (callP : Nat → List AV → Option AV) (callI : Nat → List AV → Mem → Option (AV × Mem)) (d : Option Nat) (o : Oper) (ρ : Operand → AV) (m : Mem) : Option (AV × Mem) := opK C fid callP callI d o ρ m fun v m => some (v, m)

theorem opK_bind (d : Option Nat) (o : Oper) (ρ : Operand → AV) (m : Mem) (K : AV → Mem → Option R) : opK C fid callP callI d o ρ m K = (opF C fid callP callI d o ρ m).bind fun r => K r.1 r.2 := by
  unfold opF opK
  split <;> first
    | rfl
    | (simp only [Option.bind_assoc, Option.bind_some]; done)
    | ((repeat' split) <;> first | rfl | (simp only [Option.bind_assoc, Option.bind_some]; done) | skip)
  · simp only [Option.bind_assoc]
    congr 1; funext gc
    unfold callK
    (repeat' split) <;> first | rfl | (simp only [Option.bind_assoc, Option.bind_some]; done)
  · unfold builtinK
    (repeat' split) <;> first | rfl | (simp only [Option.bind_assoc, Option.bind_some]; done)

theorem map_congr_ops {ρ ρ' : Operand → AV} (xs : Array Operand) (h : ∀ x ∈ xs, ρ x = ρ' x) : xs.toList.map ρ = xs.toList.map ρ' := List.map_congr_left fun x hx => h x (by simpa using hx)

theorem opF_congr {d : Option Nat} {o : Oper} {ρ ρ' : Operand → AV} {m : Mem} (h : ∀ x ∈ o.op.operands, ρ x = ρ' x) : opF C fid callP callI d o ρ m = opF C fid callP callI d o ρ' m := by
  unfold opF opK
  cases hop : o.op <;> simp only [hop, Op.operands] at h <;> simp only []
  case move x => rw [h x (by simp)]
  case assign x => rw [h x (by simp)]
  case pick c a b => rw [h c (by simp), h a (by simp), h b (by simp)]
  case box t x => rw [h x (by simp)]
  case build t ps =>
    have : ps.toList.mapM (fun p => (fieldOf C.P t p.1).map fun f => (f.1, f.2, ρ p.2)) = ps.toList.mapM (fun p => (fieldOf C.P t p.1).map fun f => (f.1, f.2, ρ' p.2)) := by
      have hps : ∀ p ∈ ps.toList, ρ p.2 = ρ' p.2 := fun p hp => h p.2 (by simp; exact ⟨p.1, by simpa using hp⟩)
      generalize ps.toList = l at hps
      induction l with
      | nil => rfl
      | cons p l ih =>
        simp only [List.mapM_cons]
        rw [hps p (by simp), ih fun q hq => hps q (by simp [hq])]
    rw [this]
  case buildSlice t n ps =>
    have : (ps.toList.map fun p => ρ p.2) = ps.toList.map fun p => ρ' p.2 := List.map_congr_left fun p hp => h p.2 (by simp; exact ⟨p.1, by simpa using hp⟩)
    rw [this]
  case load t x => rw [h x (by simp)]
  case store t x y => rw [h x (by simp), h y (by simp)]
  case nilCheck x => rw [h x (by simp)]
  case binOp op t x y ty => rw [h x (by simp), h y (by simp)]
  case unOp op t x => rw [h x (by simp)]
  case convert s t x => rw [h x (by simp)]
  case makeFunc fn fi cs =>
    rw [map_congr_ops cs fun x hx => h x (by simp [hx])]
  case makeSlice t l c => rw [h l (by simp), h c (by simp)]
  case slice t x lo hi mx =>
    have h1 : lo.map ρ = lo.map ρ' := by cases lo with | none => rfl | some y => simp only [Option.map_some]; rw [h y (by simp)]
    have h2 : hi.map ρ = hi.map ρ' := by cases hi with | none => rfl | some y => simp only [Option.map_some]; rw [h y (by simp)]
    have h3 : mx.map ρ = mx.map ρ' := by cases mx with | none => rfl | some y => simp only [Option.map_some]; rw [h y (by simp)]
    rw [h1, h2, h3, h x (by simp)]
  case fieldAddr t x f => rw [h x (by simp)]
  case field t x f => rw [h x (by simp)]
  case indexAddr t x i => rw [h x (by simp), h i (by simp)]
  case index t x i => rw [h x (by simp), h i (by simp)]
  case extract x i => rw [h x (by simp)]
  case call c =>
    cases hc : c.callee with
    | value f =>
      simp only [Call.operands, hc] at h
      rw [map_congr_ops c.args fun x hx => h x (by simp [hx])]
      simp only []
      rw [h f (by simp)]
    | builtin b =>
      simp only [Call.operands, hc] at h
      rw [map_congr_ops c.args fun x hx => h x (by simp [hx])]
    | invoke r n => rfl

/-! ### Memory that holds more -/
def Ext (m m' : Mem) : Prop := ∀ nm o, m.obj? nm = some o → m'.obj? nm = some o
theorem Ext.refl (m : Mem) : Ext m m := fun _ _ h => h

theorem mapF_mono {f f' : AV → Option (AV × List Nat)} (h : ∀ x r, f x = some r → f' x = some r) : ∀ (cs : List AV) r, mapF f cs = some r → mapF f' cs = some r
  | [], r, hr => hr
  | c :: cs, r, hr => by
    simp only [mapF, Option.bind_eq_some_iff, Option.map_eq_some_iff] at hr ⊢
    obtain ⟨x, hx, y, hy, rfl⟩ := hr
    exact ⟨x, h _ _ hx, y, mapF_mono h cs y hy, rfl⟩

theorem frz_mono {m m' : Mem} (h : Ext m m') : ∀ (k : Nat) (x : AV) r, frz m k x = some r → frz m' k x = some r := by
  intro k
  induction k with
  | zero => intro x r hr; simp [frz] at hr
  | succ k ih =>
    intro x r hr
    have hm := mapF_mono ih
    cases x <;> simp only [frz] at hr ⊢ <;> try exact hr
    · simp only [Option.bind_eq_some_iff] at hr ⊢
      obtain ⟨o, ho, hr⟩ := hr
      refine ⟨o, h _ _ ho, ?_⟩
      split at hr
      · rename_i hc
        rw [if_pos hc]
        simp only [Option.bind_eq_some_iff] at hr ⊢
        obtain ⟨y, hy, hr⟩ := hr
        exact ⟨y, hm _ _ hy, hr⟩
      · cases hr
    · simp only [Option.bind_eq_some_iff] at hr ⊢
      obtain ⟨o, ho, hr⟩ := hr
      refine ⟨o, h _ _ ho, ?_⟩
      split at hr
      · rename_i hc
        rw [if_pos hc]
        simp only [Option.map_eq_some_iff] at hr ⊢
        obtain ⟨y, hy, hr⟩ := hr
        exact ⟨y, hm _ _ hy, hr⟩
      · cases hr
    all_goals
      simp only [Option.map_eq_some_iff] at hr ⊢
      obtain ⟨y, hy, hr⟩ := hr
      exact ⟨y, hm _ _ hy, hr⟩

theorem bind_pair (x : Option AV) (m : Mem) : (x.bind fun v => some (v, m)) = ((x.bind fun v => some (v, ([] : Mem))).map fun r => (r.1, m)) := by cases x <;> rfl

theorem opF_N_eq {d : Option Nat} {o : Oper} {ρ : Operand → AV} (hc : clsOf o = .N) (m : Mem) : opF C fid callP callI d o ρ m = (opF C fid callP callI d o ρ []).map fun r => (r.1, m) := by
  unfold opF opK
  unfold clsOf at hc
  cases hop : o.op <;> simp only [hop] at hc ⊢ <;> first
    | (cases hc; done)
    | rfl
    | exact bind_pair _ _
    | ((repeat' split) <;> first | rfl | exact bind_pair _ _ | skip)
  · rename_i c _ f hc1
    rw [hc1] at hc
    cases hc
  · rename_i c _ b hc1
    rw [hc1] at hc
    unfold builtinK
    (repeat' split) <;> first | rfl | exact bind_pair _ _ | skip
    all_goals (simp at hc)

theorem opF_N {d : Option Nat} {o : Oper} {ρ : Operand → AV} {m m1 : Mem} {v : AV} (hc : clsOf o = .N) (h : opF C fid callP callI d o ρ m = some (v, m1)) : m1 = m ∧ ∀ m', opF C fid callP callI d o ρ m' = some (v, m') := by
  rw [opF_N_eq hc] at h
  obtain ⟨r, hr, h⟩ := Option.map_eq_some_iff.1 h
  simp only [Prod.mk.injEq] at h
  obtain ⟨rfl, rfl⟩ := h
  exact ⟨rfl, fun m' => by rw [opF_N_eq hc, hr]; rfl⟩

theorem opF_L {s : Nat} {o : Oper} {ρ : Operand → AV} {m m1 : Mem} {v : AV} (hc : clsOf o = .L) (h : opF C fid callP callI (some s) o ρ m = some (v, m1)) : m1 = m ∧ ∀ s' m', Ext m m' → opF C fid callP callI (some s') o ρ m' = some (v, m') := by
  unfold opF opK at h ⊢
  unfold clsOf at hc
  cases hop : o.op <;> simp only [hop] at hc h ⊢ <;> first | (cases hc; done) | skip
  case load t x =>
    split at h
    · rename_i sh hsh
      simp only [Option.bind_eq_some_iff, Option.some.injEq, Prod.mk.injEq] at h
      obtain ⟨u, hu, rfl, rfl⟩ := h
      refine ⟨rfl, fun s' m' hx => ?_⟩
      have : loadA sh m' (ρ x) = some u := by
        unfold loadA at hu ⊢
        split at hu
        · exact hu
        · simp only [Option.bind_eq_some_iff] at hu ⊢
          obtain ⟨o, ho, hu⟩ := hu
          exact ⟨o, hx _ _ ho, hu⟩
        · cases hu
      simp [this]
    · cases h
  case call c =>
    split at hc <;> first | (cases hc; done) | skip
    rename_i f hcal
    simp only [hcal] at h ⊢
    simp only [Option.bind_eq_some_iff] at h ⊢
    obtain ⟨gc, hgc, h⟩ := h
    have key : m1 = m ∧ ∀ s' m', Ext m m' → callK C fid callP callI (some s') gc.1 (List.map ρ c.args.toList ++ gc.2) m' (fun v m => some (v, m)) = some (v, m') := by
      unfold callK at h ⊢
      split at h
      · rename_i hh hlib
        simp only [Option.bind_eq_some_iff, Option.some.injEq, Prod.mk.injEq] at h
        obtain ⟨u, hu, rfl, rfl⟩ := h
        exact ⟨rfl, fun s' m' hx => by simp [hlib, hu]⟩
      · rename_i hlib
        split at h
        · simp at h
        · rename_i hinl
          simp only [Option.bind_eq_some_iff] at h
          obtain ⟨⟨u, mu⟩, hp, h⟩ := h
          simp only [Option.some.injEq, Prod.mk.injEq] at h
          obtain ⟨rfl, rfl⟩ := h
          unfold pcall at hp
          simp only [Option.bind_eq_some_iff] at hp
          obtain ⟨⟨rs, l⟩, hf, hp⟩ := hp
          split at hp
          · cases hp
          · rename_i hk
            simp only [Option.map_eq_some_iff, Prod.mk.injEq] at hp
            obtain ⟨u', hu, rfl, rfl⟩ := hp
            have hl : l = [] := by simpa using hk
            subst hl
            refine ⟨rfl, fun s' m' hx => ?_⟩
            have := mapF_mono (frz_mono hx fuelF) _ _ hf
            have hpc : pcall callP (some s') m' gc.1 (List.map ρ c.args.toList ++ gc.2) = some (u', m') := by
              unfold pcall
              simp only [this, Option.bind_some, List.isEmpty_nil, Bool.not_true, Bool.and_false, Bool.false_eq_true, if_false, hu]
              rfl
            rw [hpc]
            rfl
    exact ⟨key.1, fun s' m' hx => ⟨gc, hgc, key.2 s' m' hx⟩⟩

theorem newAt_some (s : Nat) (m : Mem) (e : Ent) : newAt (some s) m e = (s, m.set s (some e)) := rfl

theorem opF_A {s : Nat} {o : Oper} {ρ : Operand → AV} {m m1 : Mem} {v : AV} (hc : clsOf o = .A) (h : opF C fid callP callI (some s) o ρ m = some (v, m1)) : ∃ e, m1 = m.set s (some e) ∧ ∀ m', opF C fid callP callI (some s) o ρ m' = some (v, m'.set s (some e)) := by
  unfold opF opK at h ⊢
  unfold clsOf at hc
  cases hop : o.op <;> simp only [hop] at hc h ⊢ <;> first | (cases hc; done) | skip
  case alloc t =>
    split at h
    · rename_i z hz
      simp only [newAt_some, Option.some.injEq, Prod.mk.injEq] at h
      obtain ⟨rfl, rfl⟩ := h
      exact ⟨_, rfl, fun m' => rfl⟩
    · cases h
  case box t x =>
    split at h
    · rename_i sh hsh
      simp only [Option.bind_eq_some_iff] at h
      obtain ⟨r, hr, h⟩ := h
      unfold boxA at hr ⊢
      split at hr
      · rename_i hok
        simp only [newAt_some, Option.some.injEq] at hr
        subst hr
        simp only [Option.some.injEq, Prod.mk.injEq] at h
        obtain ⟨rfl, rfl⟩ := h
        exact ⟨_, rfl, fun m' => by simp [hok, newAt_some]⟩
      · cases hr
    · cases h
  case makeSlice t l c =>
    split at h
    · rename_i e he
      split at h
      · rename_i sh z hsh hz
        split at h
        · rename_i hel
          simp only [Option.bind_eq_some_iff] at h
          obtain ⟨r, hr, h⟩ := h
          simp only [Option.some.injEq, Prod.mk.injEq] at h
          obtain ⟨rfl, rfl⟩ := h
          cases htk : C.tokm fid with
          | true => rw [htk] at hr; simp [makeT] at hr
          | false =>
          rw [htk] at hr
          simp only at hr
          unfold makeA at hr
          split at hr
          · rename_i kl l' kc c' hl hcc
            split at hr
            · rename_i hcond
              split at hr
              · rename_i heq
                simp only [newAt_some, Option.some.injEq] at hr
                subst hr
                exact ⟨_, rfl, fun m' => by rw [if_pos hel]; simp only [makeA, hl, hcc, if_pos hcond, if_pos heq, newAt_some, Option.bind_some]⟩
              · rename_i hne
                split at hr
                · rename_i h0
                  simp only [newAt_some, Option.some.injEq] at hr
                  subst hr
                  exact ⟨_, rfl, fun m' => by rw [if_pos hel]; simp only [makeA, hl, hcc, if_pos hcond, if_neg hne, if_pos h0, newAt_some, Option.bind_some]⟩
                · cases hr
            · cases hr
          · cases hr
        · cases h
      · cases h
    · cases h
  case call c =>
    split at hc <;> cases hc

theorem ext_set {m : Mem} {s : Nat} {e : Option Ent} (h : ∀ bx cs, m.get s ≠ some (.obj bx cs)) : Ext m (m.set s e) := by
  intro nm o ho
  unfold Mem.obj? at ho ⊢
  rw [get_set]
  by_cases hs : nm = s
  · subst hs
    split at ho
    · rename_i hh; exact absurd hh (h _ _)
    · cases ho
  · rw [if_neg hs]; exact ho

theorem opF_Ap {s : Nat} {o : Oper} {ρ : Operand → AV} {m m1 : Mem} {v : AV} (hc : clsOf o = .Ap) (hs : m.get s = some .resv) (h : opF C fid callP callI (some s) o ρ m = some (v, m1)) : Ext m m1 := by
  have hres : ∀ e, Ext m (m.set s e) := fun e => ext_set fun bx cs hh => by rw [hs] at hh; cases hh
  unfold opF opK at h
  unfold clsOf at hc
  cases hop : o.op <;> simp only [hop] at hc h <;> first | (cases hc; done) | skip
  case call c =>
    split at hc <;> first | (cases hc; done) | skip
    rename_i hcal
    simp only [hcal] at h
    unfold builtinK at h
    split at h
    all_goals first | (rename_i hb _; cases hb; done) | skip
    · split at h
      · split at h
        · split at h
          · split at h
            · split at h
              · simp only [Option.bind_eq_some_iff, Option.some.injEq, Prod.mk.injEq] at h
                obtain ⟨r, hr, rfl, rfl⟩ := h
                unfold appA at hr
                split at hr
                · split at hr
                  · simp only [Option.some.injEq] at hr; subst hr; exact Ext.refl m
                  · split at hr
                    · split at hr
                      · split at hr
                        · cases hr
                        · split at hr
                          · split at hr <;> (simp only [newAt_some, Option.some.injEq] at hr; subst hr; exact hres _)
                          · cases hr
                        · split at hr
                          · split at hr
                            · rename_i nm e' k sz hget
                              split at hr
                              · simp only [Option.some.injEq] at hr; subst hr
                                exact ext_set fun bx cs hh => by rw [hget] at hh; cases hh
                              · cases hr
                            · cases hr
                          · cases hr
                      · cases hr
                    · cases hr
                · cases hr
              · cases h
            · cases h
          · cases h
        · cases h
      · cases h
    · cases h
end
end Go.Ab

/- One order serves for all: what is ready may be taken first. -/
set_option linter.unusedVariables false
set_option linter.unusedSimpArgs false
namespace Go.Ab

section
variable {R : Type} (C : Cfg) (fid : Nat) (callP : Nat → List AV → Option AV) (callI : Nat → List AV → Mem → Option (AV × Mem))

def opG (base : Option Nat) (ops : Array Oper) (i : Nat) (o : Oper) (ts : List AV) (m : Mem) : Option (AV × Mem) := match o.guard with
  | none => opF C fid callP callI (base.map (· + rankA ops i)) o (ev ts) m
  | some (j, want) => match (ops[j]?).bind (·.dst) with
    | none => none
    | some g => match skpd ops ts j with
      | true => match ts.getD g .any with
        | .tup cs => match cs with
          | [] => some (.tup [], m)
          | _ :: _ => none
        | _ => none
      | false => match ts.getD g .any with
        | .bool b => if b = want then opF C fid callP callI (base.map (· + rankA ops i)) o (ev ts) m else some (.tup [], m)
        | _ => none
def stepF (base : Option Nat) (ops : Array Oper) (i : Nat) (st : St) : Option St := match ops[i]? with
  | none => none
  | some o => (opG C fid callP callI base ops i o st.tmps st.mem).map fun r => ⟨setD st.tmps o.dst r.1, r.2⟩
def runF (base : Option Nat) (ops : Array Oper) : List Nat → St → Option St
  | [], st => some st
  | i :: l, st => (stepF C fid callP callI base ops i st).bind (runF base ops l)
end

section
variable {R : Type} {C : Cfg} {fid : Nat} {callP : Nat → List AV → Option AV} {callI : Nat → List AV → Mem → Option (AV × Mem)}

theorem set_self {ts : List AV} {g : Nat} {v : AV} (h : ts.getD g .any = v) (hv : v ≠ .any) : ts.set g v = ts := by
  rcases Nat.lt_or_ge g ts.length with hl | hl
  · rw [List.getD_eq_getElem?_getD, List.getElem?_eq_getElem hl] at h
    simp only [Option.getD_some] at h
    rw [← h]; exact List.set_getElem_self hl
  · rw [List.getD_eq_getElem?_getD, List.getElem?_eq_none hl] at h
    exact absurd h.symm hv

theorem runOps_eq (base : Option Nat) (ops : Array Oper) : ∀ (l : List Nat) (st : St) (K : St → Option R), runOps C fid callP callI base ops l st K = (runF C fid callP callI base ops l st).bind K
  | [], st, K => rfl
  | i :: l, st, K => by
    have ih := runOps_eq base ops l
    simp only [runOps, runF, stepF]
    cases hi : ops[i]? with
    | none => rfl
    | some o =>
      simp only []
      cases hg : o.guard with
      | none =>
        simp only [opG, hg]
        rw [opK_bind]
        simp only [ih]
        cases opF C fid callP callI (base.map (· + rankA ops i)) o (ev st.tmps) st.mem with
        | none => rfl
        | some r => rfl
      | some jw =>
        obtain ⟨j, want⟩ := jw
        simp only [opG, hg]
        cases hd : (ops[j]?).bind (·.dst) with
        | none => rfl
        | some g =>
          simp only []
          generalize hv : st.tmps.getD g .any = v
          cases skpd ops st.tmps j with
          | true =>
            simp only []
            cases v with
            | tup cs =>
              cases cs with
              | nil => simp only [ih]; rfl
              | cons c cs => rfl
            | _ => rfl
          | false =>
          simp only []
          cases v with
          | bool b =>
            have hs := set_self hv (by simp)
            have hrun : ∀ b0, st.tmps.set g (.bool b0) = st.tmps → (opK C fid callP callI (base.map (· + rankA ops i)) o (ev (st.tmps.set g (.bool b0))) st.mem fun v m => runOps C fid callP callI base ops l ⟨setD (st.tmps.set g (.bool b0)) o.dst v, m⟩ K) =
                (((opF C fid callP callI (base.map (· + rankA ops i)) o (ev st.tmps) st.mem).map fun r => (⟨setD st.tmps o.dst r.1, r.2⟩ : St)).bind (runF C fid callP callI base ops l)).bind K := by
              intro b0 hs0
              rw [hs0, opK_bind]
              simp only [ih]
              cases opF C fid callP callI (base.map (· + rankA ops i)) o (ev st.tmps) st.mem with
              | none => rfl
              | some r => rfl
            have hskip : ∀ b0, st.tmps.set g (.bool b0) = st.tmps → runOps C fid callP callI base ops l ⟨setD (st.tmps.set g (.bool b0)) o.dst (.tup []), st.mem⟩ K =
                (((some (AV.tup [], st.mem)).map fun r => (⟨setD st.tmps o.dst r.1, r.2⟩ : St)).bind (runF C fid callP callI base ops l)).bind K := by
              intro b0 hs0
              rw [hs0]
              simp only [ih]
              rfl
            cases want <;> cases b
            · exact hrun false hs
            · exact hskip true hs
            · exact hskip false hs
            · exact hrun true hs
          | _ => cases want <;> rfl

/-! ### Which slots an operation looks at -/
theorem ev_congr {ts ts' : List AV} (x : Operand) (h : ∀ t, x = .tmp t → ts.getD t .any = ts'.getD t .any) : ev ts x = ev ts' x := by
  cases x with
  | tmp t => exact h t rfl
  | _ => rfl

theorem opG_congr {base : Option Nat} {ops : Array Oper} {i : Nat} {o : Oper} {ts ts' : List AV} {m : Mem} (h : ∀ t ∈ looks ops o, ts.getD t .any = ts'.getD t .any) : opG C fid callP callI base ops i o ts m = opG C fid callP callI base ops i o ts' m := by
  have h1 : opF C fid callP callI (base.map (· + rankA ops i)) o (ev ts) m = opF C fid callP callI (base.map (· + rankA ops i)) o (ev ts') m := by
    refine opF_congr fun x hx => ev_congr x fun t ht => h t ?_
    unfold looks
    refine List.mem_append.2 (.inl (List.mem_filterMap.2 ⟨x, by simpa using hx, ?_⟩))
    rw [ht]
  unfold opG
  cases hg : o.guard with
  | none => exact h1
  | some jw =>
    obtain ⟨j, want⟩ := jw
    simp only []
    cases hd : (ops[j]?).bind (·.dst) with
    | none => rfl
    | some g =>
      simp only []
      have h2 : ts.getD g .any = ts'.getD g .any := h g (by unfold looks; rw [hg]; simp [hd])
      have h3 : skpd ops ts j = skpd ops ts' j := by
        unfold skpd
        cases hq : (ops[j]?).bind (·.guard) with
        | none => rfl
        | some jw' =>
          obtain ⟨j', w'⟩ := jw'
          simp only []
          cases hd' : (ops[j']?).bind (·.dst) with
          | none => rfl
          | some g' =>
            simp only []
            have h4 : ts.getD g' .any = ts'.getD g' .any := h g' (by unfold looks; rw [hg]; simp [hq, hd'])
            rw [h4]
      rw [h2, h1, h3]

theorem setD_getD {ts : List AV} {d : Option Nat} {v : AV} {t : Nat} (h : d ≠ some t) : (setD ts d v).getD t .any = ts.getD t .any := by
  cases d with
  | none => rfl
  | some d =>
    have : d ≠ t := fun he => h (by rw [he])
    simp [setD, List.getD_eq_getElem?_getD, List.getElem?_set, this]
theorem setD_comm {ts : List AV} {d e : Option Nat} {v u : AV} (h : d = none ∨ d ≠ e) : setD (setD ts d v) e u = setD (setD ts e u) d v := by
  cases d with
  | none => rfl
  | some d =>
    cases e with
    | none => rfl
    | some e =>
      have : d ≠ e := fun he => by rcases h with h | h <;> simp_all
      exact List.set_comm _ _ this

theorem opG_cases {base : Option Nat} {ops : Array Oper} {i : Nat} {o : Oper} {ts : List AV} {m m1 : Mem} {v : AV} (h : opG C fid callP callI base ops i o ts m = some (v, m1)) :
    (opF C fid callP callI (base.map (· + rankA ops i)) o (ev ts) m = some (v, m1) ∧ ∀ m', opG C fid callP callI base ops i o ts m' = opF C fid callP callI (base.map (· + rankA ops i)) o (ev ts) m') ∨
    (m1 = m ∧ ∀ m', opG C fid callP callI base ops i o ts m' = some (v, m')) := by
  unfold opG at h ⊢
  cases hg : o.guard with
  | none => simp only [hg] at h; exact .inl ⟨h, fun _ => rfl⟩
  | some jw =>
    obtain ⟨j, want⟩ := jw
    simp only [hg] at h ⊢
    cases hd : (ops[j]?).bind (·.dst) with
    | none => simp [hd] at h
    | some g =>
      simp only [hd] at h ⊢
      cases hsk : skpd ops ts j with
      | true =>
        simp only [hsk] at h ⊢
        cases hv : ts.getD g .any with
        | tup cs =>
          simp only [hv] at h ⊢
          cases cs with
          | nil =>
            simp only [Option.some.injEq, Prod.mk.injEq] at h
            obtain ⟨rfl, rfl⟩ := h
            exact .inr ⟨rfl, fun m' => rfl⟩
          | cons c cs => simp only at h; cases h
        | _ => simp only [hv] at h; cases h
      | false =>
      simp only [hsk] at h ⊢
      cases hv : ts.getD g .any with
      | bool b =>
        simp only [hv] at h ⊢
        by_cases hb : b = want
        · rw [if_pos hb] at h
          exact .inl ⟨h, fun _ => by rw [if_pos hb]⟩
        · rw [if_neg hb] at h
          simp only [Option.some.injEq, Prod.mk.injEq] at h
          obtain ⟨rfl, rfl⟩ := h
          exact .inr ⟨rfl, fun m' => by rw [if_neg hb]⟩
      | _ => simp only [hv] at h; cases h

/-- Where a place is kept, it stays kept, but for the operation's own. -/
theorem opF_resv {s : Nat} {o : Oper} {ρ : Operand → AV} {m m1 : Mem} {v : AV} (h : opF C fid callP callI (some s) o ρ m = some (v, m1)) (x : Nat) (hx : m.get x = some .resv) : (x = s ∧ makes o = true) ∨ m1.get x = some .resv := by
  have hset : ∀ e, makes o = true → (x = s ∧ makes o = true) ∨ Mem.get (m.set s e) x = some .resv := fun e hmk => by
    by_cases hxs : x = s
    · exact .inl ⟨hxs, hmk⟩
    · exact .inr (by rw [get_set, if_neg hxs]; exact hx)
  cases hc : clsOf o with
  | N => obtain ⟨rfl, _⟩ := opF_N hc h; exact .inr hx
  | L => obtain ⟨rfl, _⟩ := opF_L hc h; exact .inr hx
  | A =>
    obtain ⟨e, rfl, _⟩ := opF_A hc h
    refine hset _ ?_
    unfold clsOf at hc
    unfold makes
    cases hop : o.op <;> simp only [hop] at hc <;> first | rfl | (cases hc; done) | (split at hc <;> cases hc)
  | Ap =>
    have hmk : makes o = true := by
      unfold clsOf at hc
      unfold makes
      cases hop : o.op <;> simp only [hop] at hc <;> first | (cases hc; done) | skip
      split at hc <;> first | (cases hc; done) | skip
      rename_i hcal
      simp [hcal]
    unfold opF opK at h
    unfold clsOf at hc
    cases hop : o.op <;> simp only [hop] at hc h <;> first | (cases hc; done) | skip
    case call c =>
      split at hc <;> first | (cases hc; done) | skip
      rename_i hcal
      simp only [hcal] at h
      unfold builtinK at h
      split at h
      all_goals first | (rename_i hb _; cases hb; done) | skip
      · split at h
        · split at h
          · split at h
            · split at h
              · split at h
                · simp only [Option.bind_eq_some_iff, Option.some.injEq, Prod.mk.injEq] at h
                  obtain ⟨r, hr, rfl, rfl⟩ := h
                  unfold appA at hr
                  split at hr
                  · split at hr
                    · simp only [Option.some.injEq] at hr; subst hr; exact .inr hx
                    · split at hr
                      · split at hr
                        · split at hr
                          · cases hr
                          · split at hr
                            · split at hr <;> (simp only [newAt_some, Option.some.injEq] at hr; subst hr; exact hset _ hmk)
                            · cases hr
                          · split at hr
                            · split at hr
                              · rename_i nm e' k sz hget
                                split at hr
                                · simp only [Option.some.injEq] at hr; subst hr
                                  refine .inr ?_
                                  simp only []
                                  rw [get_set, if_neg (fun he => by subst he; rw [hget] at hx; cases hx)]
                                  exact hx
                                · cases hr
                              · cases hr
                            · cases hr
                        · cases hr
                      · cases hr
                  · cases hr
                · cases h
              · cases h
            · cases h
          · cases h
        · cases h
      · cases h
  | W =>
    unfold opF opK at h
    unfold clsOf at hc
    cases hop : o.op <;> simp only [hop] at hc h <;> first | (cases hc; done) | (cases h; done) | skip
    case store t y z =>
      split at h
      · rename_i sh hsh
        simp only [Option.bind_eq_some_iff, Option.some.injEq, Prod.mk.injEq] at h
        obtain ⟨m2, hm2, rfl, rfl⟩ := h
        unfold storeA at hm2
        split at hm2
        · rename_i nm off _
          simp only [Option.bind_eq_some_iff] at hm2
          obtain ⟨ob, hob, hm2⟩ := hm2
          split at hm2
          · split at hm2
            · simp only [Option.some.injEq] at hm2; subst hm2
              refine .inr ?_
              rw [get_set, if_neg (fun he => by
                subst he
                unfold Mem.obj? at hob
                rw [hx] at hob
                cases hob)]
              exact hx
            · cases hm2
          · cases hm2
        · cases hm2
      · cases h
    case call c =>
      split at hc <;> first | (cases hc; done) | skip
      rename_i hne1 hne2 hne3 hne4 hne5
      split at h
      · rename_i f hcal
        exact absurd hcal (hne5 f)
      · rename_i b hcal
        unfold builtinK at h
        split at h
        · exact absurd hcal hne1
        · exact absurd hcal hne2
        · exact absurd hcal hne3
        · exact absurd hcal hne4
        · cases h
      · cases h

/-! ### Two that may change places -/
theorem ranks_ne {ops : Array Oper} {i j : Nat} {x y : Oper} (hi : ops[i]? = some x) (hj : ops[j]? = some y) (hmi : makes x = true) (hmj : makes y = true) (hne : i ≠ j) : rankA ops i ≠ rankA ops j := by
  have key : ∀ i j x, i < j → ops[i]? = some x → makes x = true → rankA ops i < rankA ops j := by
    intro i j x hlt hi hm
    have hil : i < ops.toList.length := by
      have := (Array.getElem?_eq_some_iff.1 hi).1; simpa using this
    have h1 : rankA ops (i + 1) = rankA ops i + 1 := by
      unfold rankA
      have he : ops.toList[i] = x := by
        have := (Array.getElem?_eq_some_iff.1 hi).2; simpa using this
      rw [List.take_succ_eq_append_getElem hil, List.filter_append, List.length_append, he]
      simp [hm]
    have h2 : rankA ops (i + 1) ≤ rankA ops j := by
      unfold rankA
      have : ops.toList.take (i + 1) = (ops.toList.take j).take (i + 1) := by rw [List.take_take]; congr 1; omega
      rw [this]
      exact List.Sublist.length_le ((List.take_sublist _ _).filter _)
    omega
  rcases Nat.lt_or_gt_of_ne hne with h | h
  · exact Nat.ne_of_lt (key i j x h hi hmi)
  · exact Nat.ne_of_gt (key j i y h hj hmj)

def Kept (ops : Array Oper) (b : Nat) (m : Mem) (l : List Nat) : Prop := ∀ i ∈ l, ∀ o, ops[i]? = some o → makes o = true → m.get (b + rankA ops i) = some .resv

theorem stepF_some {base : Option Nat} {ops : Array Oper} {i : Nat} {st s1 : St} (h : stepF C fid callP callI base ops i st = some s1) : ∃ o v m1, ops[i]? = some o ∧ opG C fid callP callI base ops i o st.tmps st.mem = some (v, m1) ∧ s1 = ⟨setD st.tmps o.dst v, m1⟩ := by
  unfold stepF at h
  cases hi : ops[i]? with
  | none => simp [hi] at h
  | some o =>
    simp only [hi] at h
    obtain ⟨⟨v, m1⟩, hr, rfl⟩ := Option.map_eq_some_iff.1 h
    exact ⟨o, v, m1, rfl, hr, rfl⟩

theorem stepF_kept {b : Nat} {ops : Array Oper} {j : Nat} {st s1 : St} {l : List Nat} (h : stepF C fid callP callI (some b) ops j st = some s1) (hk : Kept ops b st.mem l) (hj : j ∉ l) : Kept ops b s1.mem l := by
  obtain ⟨o, v, m1, ho, hr, rfl⟩ := stepF_some h
  intro i hi x hx hm
  have hres := hk i hi x hx hm
  rcases opG_cases hr with ⟨hf, _⟩ | ⟨rfl, _⟩
  · rcases opF_resv (s := b + rankA ops j) hf _ hres with ⟨he, hmo⟩ | h
    · exact absurd (by omega : rankA ops i = rankA ops j) (ranks_ne hx ho hm hmo (fun he => hj (he ▸ hi)))
    · exact h
  · exact hres

theorem apart_facts {ops : Array Oper} {x y : Oper} (h : apartA ops x y = true) : (∀ d, x.dst = some d → d ∉ looks ops y) ∧ (∀ d, y.dst = some d → d ∉ looks ops x) ∧ (x.dst = none ∨ x.dst ≠ y.dst) := by
  unfold apartA at h
  simp only [Bool.and_eq_true] at h
  refine ⟨fun d hd => ?_, fun d hd => ?_, ?_⟩
  · rw [hd] at h; simp at h; exact h.1.1
  · rw [hd] at h; simp at h; exact h.2
  · cases hx : x.dst with
    | none => exact .inl rfl
    | some d =>
      rw [hx] at h; simp at h
      exact .inr fun he => h.1.2 he.symm

theorem swap {b : Nat} {ops : Array Oper} {i j : Nat} {st s1 s2 : St} {x y : Oper} (hx : ops[i]? = some x) (hy : ops[j]? = some y) (hne : i ≠ j) (hok : swapOk ops x y = true) (hk : Kept ops b st.mem [i, j])
    (h1 : stepF C fid callP callI (some b) ops i st = some s1) (h2 : stepF C fid callP callI (some b) ops j s1 = some s2) : ∃ s1', stepF C fid callP callI (some b) ops j st = some s1' ∧ stepF C fid callP callI (some b) ops i s1' = some s2 := by
  obtain ⟨x', vi, mi, hx', hri, rfl⟩ := stepF_some h1
  obtain rfl : x = x' := by simpa [hx] using hx'
  obtain ⟨y', vj, mj, hy', hrj, rfl⟩ := stepF_some h2
  obtain rfl : y = y' := by simpa [hy] using hy'
  unfold swapOk at hok
  simp only [Bool.and_eq_true] at hok
  obtain ⟨hcls, hap⟩ := hok
  obtain ⟨a1, a2, a3⟩ := apart_facts hap
  simp only at hrj
  have cj : ∀ m, opG C fid callP callI (some b) ops j y (setD st.tmps x.dst vi) m = opG C fid callP callI (some b) ops j y st.tmps m := fun m => opG_congr fun t ht => setD_getD fun hd => a1 t hd ht
  have ci : ∀ v m, opG C fid callP callI (some b) ops i x (setD st.tmps y.dst v) m = opG C fid callP callI (some b) ops i x st.tmps m := fun v m => opG_congr fun t ht => setD_getD fun hd => a2 t hd ht
  rw [cj] at hrj
  -- enough: the second from the first memory, the first behind it
  have enough : ∀ m1, opG C fid callP callI (some b) ops j y st.tmps st.mem = some (vj, m1) → opG C fid callP callI (some b) ops i x st.tmps m1 = some (vi, mj) →
      ∃ s1', stepF C fid callP callI (some b) ops j st = some s1' ∧ stepF C fid callP callI (some b) ops i s1' = some ⟨setD (setD st.tmps x.dst vi) y.dst vj, mj⟩ := by
    intro m1 e1 e2
    refine ⟨⟨setD st.tmps y.dst vj, m1⟩, by simp [stepF, hy, e1], ?_⟩
    simp only [stepF, hx, ci, e2, Option.map_some]
    rw [setD_comm a3]
  have nI : clsOf x = .N → mi = st.mem ∧ ∀ m', opG C fid callP callI (some b) ops i x st.tmps m' = some (vi, m') := fun hc => by
    rcases opG_cases hri with ⟨hf, hall⟩ | ⟨rfl, hall⟩
    · obtain ⟨rfl, h⟩ := opF_N hc hf
      exact ⟨rfl, fun m' => (hall m').trans (h m')⟩
    · exact ⟨rfl, hall⟩
  have nJ : clsOf y = .N → mj = mi ∧ ∀ m', opG C fid callP callI (some b) ops j y st.tmps m' = some (vj, m') := fun hc => by
    rcases opG_cases hrj with ⟨hf, hall⟩ | ⟨rfl, hall⟩
    · obtain ⟨rfl, h⟩ := opF_N hc hf
      exact ⟨rfl, fun m' => (hall m').trans (h m')⟩
    · exact ⟨rfl, hall⟩
  have lI : clsOf x = .L → mi = st.mem ∧ ∀ m', Ext st.mem m' → opG C fid callP callI (some b) ops i x st.tmps m' = some (vi, m') := fun hc => by
    rcases opG_cases hri with ⟨hf, hall⟩ | ⟨rfl, hall⟩
    · obtain ⟨rfl, h⟩ := opF_L (s := b + rankA ops i) hc hf
      exact ⟨rfl, fun m' hm => (hall m').trans (h _ m' hm)⟩
    · exact ⟨rfl, fun m' _ => hall m'⟩
  have kj : ∀ o, ops[j]? = some o → makes o = true → st.mem.get (b + rankA ops j) = some .resv := hk j (by simp)
  have aMk : ∀ o : Oper, clsOf o = .A ∨ clsOf o = .Ap → makes o = true := by
    intro o hc
    unfold clsOf at hc
    unfold makes
    cases hop : o.op <;> simp only [hop] at hc <;> first | rfl | (rcases hc with hc | hc <;> cases hc; done) | skip
    split at hc <;> first | (rcases hc with hc | hc <;> cases hc; done) | skip
    rename_i hcal
    simp [hcal]
  cases hcx : clsOf x with
  | N =>
    obtain ⟨rfl, hall⟩ := nI hcx
    exact enough mj hrj (hall mj)
  | L =>
    obtain ⟨rfl, hall⟩ := lI hcx
    cases hcy : clsOf y with
    | N =>
      obtain ⟨rfl, _⟩ := nJ hcy
      exact enough _ hrj (hall _ (Ext.refl _))
    | L =>
      have : mj = st.mem := by
        rcases opG_cases hrj with ⟨hf, _⟩ | ⟨rfl, _⟩
        · exact (opF_L (s := b + rankA ops j) hcy hf).1
        · rfl
      subst this
      exact enough _ hrj (hall _ (Ext.refl _))
    | A =>
      refine enough mj hrj (hall mj ?_)
      rcases opG_cases hrj with ⟨hf, _⟩ | ⟨rfl, _⟩
      · obtain ⟨e, rfl, _⟩ := opF_A (s := b + rankA ops j) hcy hf
        exact ext_set fun bx cs hh => by rw [kj y hy (aMk y (.inl hcy))] at hh; cases hh
      · exact Ext.refl _
    | Ap =>
      refine enough mj hrj (hall mj ?_)
      rcases opG_cases hrj with ⟨hf, _⟩ | ⟨rfl, _⟩
      · exact opF_Ap (s := b + rankA ops j) hcy (kj y hy (aMk y (.inr hcy))) hf
      · exact Ext.refl _
    | W => rw [hcx, hcy] at hcls; cases hcls
  | A =>
    cases hcy : clsOf y with
    | N =>
      obtain ⟨rfl, hall⟩ := nJ hcy
      exact enough _ (hall _) hri
    | A =>
      have fj : ∃ f : Mem → Mem, (∀ m', opG C fid callP callI (some b) ops j y st.tmps m' = some (vj, f m')) ∧ ((∀ m', f m' = m') ∨ ∃ e, ∀ m', f m' = m'.set (b + rankA ops j) (some e)) := by
        rcases opG_cases hrj with ⟨hf, hall⟩ | ⟨rfl, hall⟩
        · obtain ⟨e, _, h⟩ := opF_A (s := b + rankA ops j) hcy hf
          exact ⟨fun m' => m'.set (b + rankA ops j) (some e), fun m' => (hall m').trans (h m'), .inr ⟨e, fun _ => rfl⟩⟩
        · exact ⟨id, hall, .inl fun _ => rfl⟩
      have fi : ∃ f : Mem → Mem, (∀ m', opG C fid callP callI (some b) ops i x st.tmps m' = some (vi, f m')) ∧ ((∀ m', f m' = m') ∨ ∃ e, ∀ m', f m' = m'.set (b + rankA ops i) (some e)) := by
        rcases opG_cases hri with ⟨hf, hall⟩ | ⟨rfl, hall⟩
        · obtain ⟨e, _, h⟩ := opF_A (s := b + rankA ops i) hcx hf
          exact ⟨fun m' => m'.set (b + rankA ops i) (some e), fun m' => (hall m').trans (h m'), .inr ⟨e, fun _ => rfl⟩⟩
        · exact ⟨id, hall, .inl fun _ => rfl⟩
      obtain ⟨f, f1, f2⟩ := fi
      obtain ⟨h, h1, h2⟩ := fj
      have em : mi = f st.mem := by have := f1 st.mem; rw [hri] at this; simpa using this
      have ej : mj = h mi := by have := h1 mi; rw [hrj] at this; simpa using this
      refine enough _ (h1 _) ?_
      rw [f1, ej, em]
      congr 2
      have hr := ranks_ne hx hy (aMk x (.inl hcx)) (aMk y (.inl hcy)) hne
      rcases f2 with f2 | ⟨e, f2⟩ <;> rcases h2 with h2 | ⟨e', h2⟩ <;> simp only [f2, h2]
      exact (List.set_comm _ _ (by omega)).symm
    | _ => rw [hcx, hcy] at hcls; cases hcls
  | Ap =>
    cases hcy : clsOf y with
    | N =>
      obtain ⟨rfl, hall⟩ := nJ hcy
      exact enough _ (hall _) hri
    | _ => rw [hcx, hcy] at hcls; cases hcls
  | W =>
    cases hcy : clsOf y with
    | N =>
      obtain ⟨rfl, hall⟩ := nJ hcy
      exact enough _ (hall _) hri
    | _ => rw [hcx, hcy] at hcls; cases hcls

/-- What may pass all that stands ahead of it may be taken first. -/
theorem first {b : Nat} {ops : Array Oper} {i : Nat} {x : Oper} (hx : ops[i]? = some x) : ∀ (l : List Nat) (st s' : St), l.Nodup → i ∈ l → Kept ops b st.mem l → (∀ (p q : List Nat), l = p ++ i :: q → ∀ j ∈ p, ∃ y, ops[j]? = some y ∧ swapOk ops y x = true) →
    runF C fid callP callI (some b) ops l st = some s' → ∃ s1, stepF C fid callP callI (some b) ops i st = some s1 ∧ runF C fid callP callI (some b) ops (l.erase i) s1 = some s'
  | [], _, _, _, hi, _, _, _ => by simp at hi
  | j :: l, st, s', hnd, hi, hk, hsw, hr => by
    simp only [runF, Option.bind_eq_some_iff] at hr
    obtain ⟨s1, h1, hr⟩ := hr
    by_cases he : j = i
    · subst he
      exact ⟨s1, h1, by simpa using hr⟩
    · have hil : i ∈ l := by rcases List.mem_cons.1 hi with h | h <;> first | exact absurd h.symm he | exact h
      have hnd' := (List.nodup_cons.1 hnd)
      obtain ⟨s2, h2, hr2⟩ := first hx l s1 s' hnd'.2 hil (stepF_kept h1 (fun k hk' => hk k (by simp [hk'])) hnd'.1) (fun p q hpq k hkp => hsw (j :: p) q (by rw [hpq]; rfl) k (by simp [hkp])) hr
      obtain ⟨p, q, hpq⟩ := List.append_of_mem hil
      obtain ⟨y, hy, hok⟩ := hsw (j :: p) q (by rw [hpq]; rfl) j (by simp)
      obtain ⟨s1', k1, k2⟩ := swap hy hx he hok (fun k hk' => hk k (by
        simp only [List.mem_cons, List.not_mem_nil, or_false] at hk'
        rcases hk' with rfl | rfl
        · simp
        · simp [hil])) h1 h2
      refine ⟨s1', k1, ?_⟩
      have her : (j :: l).erase i = j :: l.erase i := by
        rw [List.erase_cons, if_neg (by simpa using he)]
      rw [her]
      simp only [runF, k2, Option.bind_some]
      exact hr2

/-! ### What stands ahead -/
theorem aheadTo_length (ops : Array Oper) : ∀ n, (aheadTo ops n).length = n
  | 0 => rfl
  | n + 1 => by simp [aheadTo, aheadTo_length ops n]
theorem aheadTo_get (ops : Array Oper) (i : Nat) : ∀ n, i < n → (aheadTo ops n).getD i 0 = match ops[i]? with
    | some o => (o.after.toList.filter (Region.binds .any)).foldl (fun s e => s ||| (2 ^ e.on ||| (aheadTo ops i).getD e.on 0)) 0
    | none => 0
  | 0, h => by omega
  | n + 1, h => by
    simp only [aheadTo, List.getD_eq_getElem?_getD, List.getElem?_append, aheadTo_length]
    by_cases hi : i < n
    · rw [if_pos hi]
      have := aheadTo_get ops i n hi
      simpa [List.getD_eq_getElem?_getD] using this
    · obtain rfl : i = n := by omega
      simp [List.getD_eq_getElem?_getD]
      cases ops[i]? <;> rfl

theorem foldl_bit (f : Edge → Nat) (j : Nat) : ∀ (l : List Edge) (s : Nat), (l.foldl (fun s e => s ||| (2 ^ e.on ||| f e)) s).testBit j = true → s.testBit j = true ∨ ∃ e ∈ l, e.on = j ∨ (f e).testBit j = true
  | [], s, h => .inl h
  | e :: l, s, h => by
    simp only [List.foldl_cons] at h
    rcases foldl_bit f j l _ h with h | ⟨e', he', h⟩
    · simp only [Nat.testBit_or, Bool.or_eq_true, Nat.testBit_two_pow, decide_eq_true_eq] at h
      rcases h with h | h | h
      · exact .inl h
      · exact .inr ⟨e, by simp, .inl h⟩
      · exact .inr ⟨e, by simp, .inr h⟩
    · exact .inr ⟨e', by simp [he'], h⟩

/-- Of an operation whose edges are met nothing that must stand ahead is missing. -/
theorem ahead_met {ops : Array Oper} {D : Nat → Prop} (hD : ∀ k o, D k → ops[k]? = some o → ∀ e ∈ o.after.toList, Region.binds .any e = true → D e.on) (hlt : ∀ k o, ops[k]? = some o → ∀ e ∈ o.after.toList, Region.binds .any e = true → e.on < k) :
    ∀ (n i : Nat) (o : Oper), i < n → ops[i]? = some o → (∀ e ∈ o.after.toList, Region.binds .any e = true → D e.on) → ∀ j, ((aheadTo ops n).getD i 0).testBit j = true → D j := by
  intro n
  induction n with
  | zero => intro i o h; omega
  | succ n ih =>
    intro i o hi ho he j hj
    rw [aheadTo_get ops i (n + 1) hi, ho] at hj
    rcases foldl_bit _ j _ _ hj with h | ⟨e, hem, hj⟩
    · simp at h
    · obtain ⟨h1, h2⟩ := List.mem_filter.1 hem
      rcases hj with rfl | hj
      · exact he e h1 h2
      · have hel := hlt i o ho e h1 h2
        rcases hoe : ops[e.on]? with _ | oe
        · rw [aheadTo_get ops e.on i hel, hoe] at hj; simp at hj
        · have h3 : (aheadTo ops i).getD e.on 0 = (aheadTo ops n).getD e.on 0 := by
            rw [aheadTo_get ops e.on i hel, aheadTo_get ops e.on n (by omega)]
          rw [h3] at hj
          exact ih e.on oe (by omega) hoe (fun e' he' hb => hD e.on oe (he e h1 h2) hoe e' he' hb) j hj

theorem pairsOk_split {ops : Array Oper} {ah : List Nat} : ∀ {l : List Nat}, pairsOk ops ah l = true → ∀ (p q : List Nat) (i : Nat), l = p ++ i :: q → ∀ j ∈ p, (ah.getD i 0).testBit j = true ∨ ∃ x y, ops[j]? = some x ∧ ops[i]? = some y ∧ swapOk ops x y = true
  | [], _, p, q, i, h, _, _ => by simp at h
  | k :: l, hp, p, q, i, h, j, hj => by
    simp only [pairsOk, Bool.and_eq_true, List.all_eq_true] at hp
    match p, h with
    | k' :: p, h =>
      simp only [List.cons_append, List.cons.injEq] at h
      obtain ⟨rfl, rfl⟩ := h
      rcases List.mem_cons.1 hj with rfl | hj
      · have := hp.1 i (by simp)
        rcases Bool.or_eq_true_iff.1 this with h | h
        · exact .inl h
        · refine .inr ?_
          split at h
          · exact ⟨_, _, by assumption, by assumption, h⟩
          · cases h
      · exact pairsOk_split hp.2 p q i rfl j hj
end
end Go.Ab

/- Code, and a call: the abstract run answers, and so does the machine. -/
set_option linter.unusedVariables false
set_option linter.unusedSimpArgs false
namespace Go.Ab
open Go.RowKit

def exitOf : Ex → Exit
  | .normal => .normal
  | .exit id => .exit id
  | .ret => .ret

section
variable {C : Cfg} {B : Nat} {w : World} {g : G}

/-- The state is met. -/
structure StR (B : Nat) (w : World) (g : G) (st : St) (a : Act) : Prop where
  tmp : TmpR w g st.tmps a.tmps
  mem : MemR B w g st.mem
  size : B ≤ w.heap.size

def IOk (C : Cfg) (callI : Nat → List AV → Mem → Option (AV × Mem)) : Prop := ∀ f args m v m', callI f args m = some (v, m') → CallOk C.P f args m v m' ∧ ∃ fn, C.P.funcs[f]? = some fn ∧ fn.body.isSome

theorem step_wp (hC : CfgOk C) {callI : Nat → List AV → Mem → Option (AV × Mem)} (hI : IOk C callI) {fid : Nat} {base : Option Nat} {ops : Array Oper} {i : Nat} {st s1 : St} {a : Act} (h : stepF C fid (acallP callI) callI base ops i st = some s1) (hs : StR B w g st a)
    (hk : ∀ b, base = some b → Kept ops b st.mem [i]) {Q : Exit → Act → World → Prop} {next : Act → World → Prop} (hn : ∀ a' w' g', StR B w' g' s1 a' → Step B w g w' g' → a'.defers = a.defers → next a' w') : wpOp C.P ops Q i next a w := by
  obtain ⟨o, v, m1, ho, hr, rfl⟩ := stepF_some h
  have hrun : opF C fid (acallP callI) callI (base.map (· + rankA ops i)) o (ev st.tmps) st.mem = some (v, m1) → o.wp C.P a w next Q := by
    intro hf
    obtain ⟨v2, m2, hK, hop⟩ := opK_sound (a := a) hC hI hf (ev_V hs.tmp) hs.mem hs.size (fun hmk s hb => by
      obtain ⟨b, hb1, rfl⟩ := Option.map_eq_some_iff.1 hb
      exact hk b hb1 i (by simp) o ho hmk)
    simp only [Option.some.injEq, Prod.mk.injEq] at hK
    obtain ⟨rfl, rfl⟩ := hK
    exact hop next Q fun v' w' g' s hm hv => hn _ w' g' ⟨(hs.tmp.step s).put hv o.dst, hm, Nat.le_trans hs.size s.below.size⟩ s (put_defers _ _ _)
  have hskip : v = .tup [] ∧ m1 = st.mem → next (a.put o.dst undef) w := by
    rintro ⟨rfl, rfl⟩
    exact hn _ w g ⟨hs.tmp.put (.tup [] #[] rfl (fun j hj => absurd hj (Nat.not_lt_zero j))) o.dst, hs.mem, hs.size⟩ (Step.refl _ _ _) (put_defers _ _ _)
  unfold wpOp
  simp only [ho]
  unfold opG at hr
  cases hg : o.guard with
  | none =>
    simp only [hg] at hr
    have hw : Region.wanted o (yielded ops a.tmps) = true := by simp [Region.wanted, hg]
    rw [hw, if_pos rfl]
    exact .inl (hrun hr)
  | some jw =>
    obtain ⟨j, want⟩ := jw
    simp only [hg] at hr
    cases hd : (ops[j]?).bind (·.dst) with
    | none => simp [hd] at hr
    | some d =>
      simp only [hd] at hr
      cases hsk : skpd ops st.tmps j with
      | true =>
        simp only [hsk] at hr
        cases hv : st.tmps.getD d .any with
        | tup cs =>
          simp only [hv] at hr
          cases cs with
          | nil =>
            have hV := hs.tmp.2 d
            rw [hv] at hV
            have hy : yielded ops a.tmps j = none := by
              unfold yielded
              rw [hd]
              simp only [Option.bind_some]
              generalize hx : a.tmps.getD d undef = x at hV
              cases hV
              rw [Array.getD_eq_getD_getElem?] at hx
              cases hq : a.tmps[d]? with
              | none => rfl
              | some y => rw [hq] at hx; simp only [Option.getD_some] at hx; rw [hx]
            have hw : Region.wanted o (yielded ops a.tmps) = false := by simp only [Region.wanted, hg, hy]; rfl
            rw [hw]
            simp only [Option.some.injEq, Prod.mk.injEq] at hr
            exact hskip ⟨hr.1.symm, hr.2.symm⟩
          | cons c cs => simp only at hr; cases hr
        | _ => simp only [hv] at hr; cases hr
      | false =>
      simp only [hsk] at hr
      cases hv : st.tmps.getD d .any with
      | bool b =>
        simp only [hv] at hr
        have hV := hs.tmp.2 d
        rw [hv] at hV
        have hy : yielded ops a.tmps j = some b := by
          unfold yielded
          rw [hd]
          simp only [Option.bind_some]
          generalize hx : a.tmps.getD d undef = x at hV
          cases hV
          have : a.tmps[d]? = some (.bool b) := by
            rw [Array.getD_eq_getD_getElem?] at hx
            cases hq : a.tmps[d]? with
            | none => rw [hq] at hx; cases hx
            | some y => rw [hq] at hx; simpa using hx
          rw [this]
        have hw : Region.wanted o (yielded ops a.tmps) = (some b == some want) := by simp only [Region.wanted, hg, hy]
        by_cases hb : b = want
        · rw [if_pos hb] at hr
          have : (some b == some want) = true := by simpa using hb
          rw [hw, this, if_pos rfl]
          exact .inl (hrun hr)
        · rw [if_neg hb] at hr
          have : (some b == some want) = false := by simpa using hb
          rw [hw, this]
          simp only [Option.some.injEq, Prod.mk.injEq] at hr
          exact hskip ⟨hr.1.symm, hr.2.symm⟩
      | _ => simp only [hv] at hr; cases hr

theorem runF_wp (hC : CfgOk C) {callI : Nat → List AV → Mem → Option (AV × Mem)} (hI : IOk C callI) {fid : Nat} {ops : Array Oper} {Q : Exit → Act → World → Prop} : ∀ (l : List Nat) (st s' : St) (a : Act) (w : World) (g : G), runF C fid (acallP callI) callI none ops l st = some s' → StR B w g st a →
    (∀ a' w' g', StR B w' g' s' a' → Step B w g w' g' → a'.defers = a.defers → Q .normal a' w') → wpOps C.P ops Q l a w
  | [], st, s', a, w, g, h, hs, hn => by
    simp only [runF, Option.some.injEq] at h
    subst h
    exact hn a w g hs (Step.refl _ _ _) rfl
  | i :: l, st, s', a, w, g, h, hs, hn => by
    simp only [runF, Option.bind_eq_some_iff] at h
    obtain ⟨s1, h1, h⟩ := h
    rw [wpOps_cons]
    exact step_wp hC hI h1 hs (fun b hb => by cases hb) fun a' w' g' hs' s hd => runF_wp hC hI l s1 s' a' w' g' h hs' fun a'' w'' g'' hs'' s' hd' => hn a'' w'' g'' hs'' (s.trans s') (hd'.trans hd)

theorem least : ∀ (l : List Nat), l ≠ [] → ∃ mn ∈ l, ∀ x ∈ l, mn ≤ x
  | [], h => absurd rfl h
  | [x], _ => ⟨x, by simp, by simp⟩
  | x :: y :: l, _ => by
    obtain ⟨mn, h1, h2⟩ := least (y :: l) (by simp)
    by_cases hx : x ≤ mn
    · exact ⟨x, by simp, fun z hz => by
        rcases List.mem_cons.1 hz with rfl | hz
        · exact Nat.le_refl _
        · exact Nat.le_trans hx (h2 z hz)⟩
    · exact ⟨mn, List.mem_cons_of_mem _ h1, fun z hz => by
        rcases List.mem_cons.1 hz with rfl | hz
        · omega
        · exact h2 z hz⟩

/-- Whatever order is drawn. -/
theorem any_wp (hC : CfgOk C) {callI : Nat → List AV → Mem → Option (AV × Mem)} (hI : IOk C callI) {fid b : Nat} {ops : Array Oper} {Q : Exit → Act → World → Prop} {canon : List Nat} (hlt : ∀ k o, ops[k]? = some o → ∀ e ∈ o.after.toList, Region.binds .any e = true → e.on < k)
    (hpairs : pairsOk ops (aheadOf ops) canon = true) (hnd : canon.Nodup) : ∀ (l : List Nat) (n : Nat), l.length = n → l.Sublist canon → ∀ (listed : Array Bool), listed.size = ops.size → (∀ x, x < ops.size → (listed.getD x true = true ↔ x ∉ l)) → (∀ x ∈ l, x < ops.size) →
    (∀ k o, k < ops.size → k ∉ l → ops[k]? = some o → ∀ e ∈ o.after.toList, Region.binds .any e = true → e.on ∉ l) →
    ∀ (st s' : St) (a : Act) (w : World) (g : G), runF C fid (acallP callI) callI (some b) ops l st = some s' → Kept ops b st.mem l → StR B w g st a →
    (∀ a' w' g', StR B w' g' s' a' → Step B w g w' g' → a'.defers = a.defers → Q .normal a' w') → wpAny C.P .any ops Q n listed a w := by
  intro l n hn
  induction n generalizing l with
  | zero =>
    intro hsub listed hsz hlist hin hdown st s' a w g hr hk hs hq
    have hnil : l = [] := List.eq_nil_of_length_eq_zero hn
    subst hnil
    simp only [runF, Option.some.injEq] at hr
    subst hr
    refine ⟨?_, hq a w g hs (Step.refl _ _ _) rfl⟩
    unfold Region.ready
    rw [List.filter_eq_nil_iff]
    intro x hx
    have : listed.getD x true = true := (hlist x (by simpa using hx)).2 (by simp)
    simp [this]
  | succ n ih =>
    intro hsub listed hsz hlist hin hdown st s' a w g hr hk hs hq
    have hready : ∀ i ∈ Region.ready .any ops listed, i ∈ l ∧ i < ops.size ∧ ∃ o, ops[i]? = some o ∧ ∀ e ∈ o.after.toList, Region.binds .any e = true → e.on ∉ l := by
      intro i hi
      unfold Region.ready at hi
      simp only [List.mem_filter, List.mem_range, Bool.and_eq_true, Bool.not_eq_true'] at hi
      obtain ⟨h1, h2, h3⟩ := hi
      have hil : i ∈ l := by
        by_cases h : i ∈ l
        · exact h
        · have := (hlist i h1).2 h; rw [this] at h2; cases h2
      refine ⟨hil, h1, ops[i], by simp [h1], fun e he hb hon => ?_⟩
      have ho : ops[i]? = some ops[i] := by simp [h1]
      rw [ho] at h3
      simp only [Option.map_some, Option.getD_some] at h3
      have h4 := Array.all_eq_true_iff_forall_mem.1 h3 e (by simpa using he)
      simp only [hb, Bool.not_true, Bool.false_or] at h4
      have h5 := hlt i _ ho e he hb
      have h6 : listed.getD e.on true = true := by
        have hes : e.on < listed.size := by omega
        simp only [Array.getD, hes, dif_pos] at h4 ⊢
        exact h4
      exact (hlist e.on (by omega)).1 h6 hon
    refine ⟨fun hnone => ?_, fun i hi => ?_⟩
    · -- the least that is left is ready
      exfalso
      have hne : l ≠ [] := fun h => by rw [h] at hn; simp at hn
      obtain ⟨mn, hmn, hmin⟩ : ∃ mn ∈ l, ∀ x ∈ l, mn ≤ x := by
        exact least l hne
      have hml := hin mn hmn
      have : mn ∈ Region.ready .any ops listed := by
        unfold Region.ready
        simp only [List.mem_filter, List.mem_range, Bool.and_eq_true, Bool.not_eq_true']
        refine ⟨hml, ?_, ?_⟩
        · cases hb : listed.getD mn true with
          | false => rfl
          | true => exact absurd hmn ((hlist mn hml).1 hb)
        · have ho : ops[mn]? = some ops[mn] := by simp [hml]
          rw [ho]
          simp only [Option.map_some, Option.getD_some]
          rw [Array.all_eq_true_iff_forall_mem]
          intro e he
          by_cases hb : Region.binds .any e = true
          · have h5 := hlt mn _ ho e (by simpa using he) hb
            have h6 : e.on ∉ l := fun h => by have := hmin _ h; omega
            have h7 := (hlist e.on (by omega)).2 h6
            have hes : e.on < listed.size := by omega
            have h8 : listed.getD e.on false = true := by
              simp only [Array.getD, hes, dif_pos] at h7 ⊢
              exact h7
            rw [h8]; simp
          · simp at hb; simp [hb]
      rw [hnone] at this
      simp at this
    · obtain ⟨hil, hio, x, hx, hedge⟩ := hready i hi
      obtain ⟨s1, h1, h2⟩ := first hx l st s' (hnd.sublist hsub) hil hk (fun p q hpq j hj => by
        obtain ⟨pre, post, hcan⟩ : ∃ pc qc, canon = pc ++ i :: qc ∧ ∀ y ∈ p, y ∈ pc := by
          rw [hpq] at hsub
          obtain ⟨c1, c2, hc, hs1, hs2⟩ := List.append_sublist_iff.1 hsub
          obtain ⟨d1, d2, hd, hdi⟩ : ∃ d1 d2, c2 = d1 ++ i :: d2 ∧ True := by
            have := hs2.subset (List.mem_cons_self)
            obtain ⟨d1, d2, hd⟩ := List.append_of_mem this
            exact ⟨d1, d2, hd, trivial⟩
          exact ⟨c1 ++ d1, d2, by rw [hc, hd]; simp, fun y hy => List.mem_append.2 (.inl (hs1.subset hy))⟩
        rcases pairsOk_split hpairs pre post i hcan.1 j (hcan.2 j hj) with h | ⟨y, x', hy, hx', hok⟩
        · exfalso
          have hmem : ((aheadTo ops ops.size).getD i 0).testBit j = true := h
          have := ahead_met (D := fun k => k ∉ l) (fun k o hk' hko e he hb => by
            rcases Nat.lt_or_ge k ops.size with hk1 | hk1
            · exact hdown k o hk1 hk' hko e he hb
            · rw [Array.getElem?_eq_none hk1] at hko; cases hko) hlt ops.size i x hio hx hedge j hmem
          exact this (by rw [hpq]; simp [hj])
        · obtain rfl : x = x' := by simpa [hx] using hx'
          exact ⟨y, hy, hok⟩) hr
      refine step_wp hC hI h1 hs (fun b' hb' => by cases hb'; exact fun k hk' => hk k (by simp at hk'; rw [hk']; exact hil)) fun a' w' g' hs' s hd => ?_
      have hmem : ∀ y, y ∈ l.erase i ↔ y ∈ l ∧ y ≠ i := fun y => by
        rw [(hnd.sublist hsub).mem_erase_iff]; exact And.comm
      refine ih (l.erase i) (by rw [List.length_erase_of_mem hil]; omega) (List.Sublist.trans List.erase_sublist hsub) (listed.setIfInBounds i true) (by simpa using hsz) (fun y hy => ?_) (fun y hy => hin y ((hmem y).1 hy).1) (fun k o hk1 hk2 hko e he hb hon => ?_) s1 s' a' w' g' h2 (fun k hk' o ho hm => ?_) hs' fun a'' w'' g'' hs'' s' hd' => hq a'' w'' g'' hs'' (s.trans s') (hd'.trans hd)
      · have hys : y < listed.size := by omega
        have hg : (listed.setIfInBounds i true).getD y true = if i = y then true else listed.getD y true := by
          simp only [Array.getD_eq_getD_getElem?, Array.getElem?_setIfInBounds]
          by_cases hiy : i = y
          · subst hiy; simp [hys]
          · simp [hiy]
        rw [hg, hmem]
        by_cases hiy : i = y
        · subst hiy; simp
        · rw [if_neg hiy, hlist y hy]
          constructor
          · intro h h'; exact h h'.1
          · intro h h'; exact h ⟨h', fun he => hiy he.symm⟩
      · have hon' := (hmem _).1 hon
        by_cases hki : k = i
        · subst hki
          obtain rfl : x = o := by simpa [hx] using hko
          exact hedge e he hb hon'.1
        · exact hdown k o hk1 (fun h => hk2 ((hmem k).2 ⟨h, hki⟩)) hko e he hb hon'.1
      · exact stepF_kept h1 (fun k' hk'' => hk k' ((hmem k').1 hk'').1) (fun h => ((hmem i).1 h).2 rfl) k hk' o ho hm

theorem mem_reserve {m : Mem} (hm : MemR B w g m) : ∀ k, MemR B w g (m ++ List.replicate k (some .resv)) := by
  intro k
  have hget : ∀ x, Mem.get (m ++ List.replicate k (some .resv)) x = if x < m.length then m.get x else if x < m.length + k then some .resv else none := by
    intro x
    unfold Mem.get
    rw [List.getElem?_append]
    by_cases h1 : x < m.length
    · rw [if_pos h1, if_pos h1]
    · rw [if_neg h1, if_neg h1, List.getElem?_replicate]
      by_cases h2 : x < m.length + k
      · rw [if_pos (by omega), if_pos h2]; rfl
      · rw [if_neg (by omega), if_neg h2]; rfl
  have old : ∀ x e, Mem.get (m ++ List.replicate k (some .resv)) x = some e → m.get x = some e ∨ (e = .resv ∧ m.length ≤ x) := by
    intro x e he
    rw [hget] at he
    split at he
    · exact .inl he
    · split at he
      · simp at he; exact .inr ⟨he.symm, by omega⟩
      · cases he
  have hblk : ∀ x b, blk g (m ++ List.replicate k (some .resv)) x = some b → blk g m x = some b := by
    intro x b hb
    rcases blk_some hb with ⟨bx, cs, h1, h2⟩ | ⟨n, sz, h1, h2⟩
    · rcases old _ _ h1 with h | ⟨h, _⟩
      · simp [blk, h, h2]
      · cases h
    · rcases old _ _ h1 with h | ⟨h, _⟩
      · simp [blk, h, h2]
      · cases h
  refine ⟨fun nm bx cs h => ?_, fun nm n sz h => ?_, fun nm h => ?_, fun nm h => ?_, fun nm nm' b h1 h2 => hm.inj nm nm' b (hblk _ _ h1) (hblk _ _ h2), hm.wrLt, hm.boxLt⟩
  · rcases old _ _ h with h | ⟨h, _⟩
    · exact hm.obj nm bx cs h
    · cases h
  · rcases old _ _ h with h | ⟨h, _⟩
    · exact hm.tok nm n sz h
    · cases h
  · rcases old _ _ h with h | ⟨_, h⟩
    · exact hm.resv nm h
    · exact hm.fresh nm h
  · exact hm.fresh nm (by simp at h; omega)

theorem reserve_eq (m : Mem) (c : Nat) : reserve m c = m ++ List.replicate c (some .resv) := by
  cases c with
  | zero => simp [reserve]
  | succ c => rfl

theorem kept_reserve (ops : Array Oper) (m : Mem) (l : List Nat) : Kept ops m.length (m ++ List.replicate (rankA ops ops.size) (some .resv)) l := by
  intro i _ o ho hm
  have hi := (Array.getElem?_eq_some_iff.1 ho).1
  have hlt : rankA ops i < rankA ops ops.size := by
    have hil : i < ops.toList.length := by simpa using hi
    have h1 : rankA ops (i + 1) = rankA ops i + 1 := by
      unfold rankA
      have he : ops.toList[i] = o := by
        have := (Array.getElem?_eq_some_iff.1 ho).2; simpa using this
      rw [List.take_succ_eq_append_getElem hil, List.filter_append, List.length_append, he]
      simp [hm]
    have h2 : rankA ops (i + 1) ≤ rankA ops ops.size := by
      unfold rankA
      have : ops.toList.take (i + 1) = (ops.toList.take ops.size).take (i + 1) := by rw [List.take_take]; congr 1; omega
      rw [this]
      exact List.Sublist.length_le ((List.take_sublist _ _).filter _)
    omega
  unfold Mem.get
  rw [List.getElem?_append_right (by omega), List.getElem?_replicate, if_pos (by omega)]
  rfl

theorem draw_wp (hC : CfgOk C) {callI : Nat → List AV → Mem → Option (AV × Mem)} (hI : IOk C callI) {R : Type} {fid id : Nat} {ops : Array Oper} {Q : Exit → Act → World → Prop} {canon : List Nat} (hok : drawOk C.P ops canon = true) {st : St} {K : St → Option R} {r : R} {a : Act}
    (h : runOps C fid (acallP callI) callI (some st.mem.length) ops canon ⟨st.tmps, reserve st.mem (rankA ops ops.size)⟩ K = some r) (hs : StR B w g st a)
    (hn : ∀ s' a' w' g', K s' = some r → StR B w' g' s' a' → Step B w g w' g' → a'.defers = a.defers → Q .normal a' w') : (Code.region id ops true).wp C.P Q a w := by
  unfold drawOk at hok
  simp only [Bool.and_eq_true] at hok
  obtain ⟨⟨⟨h1, h2⟩, h3⟩, h4⟩ := hok
  have hperm : canon.Perm (List.range ops.size) := List.isPerm_iff.1 h2
  have hlt : ∀ k o, ops[k]? = some o → ∀ e ∈ o.after.toList, Region.binds .any e = true → e.on < k := by
    intro k o hk e he hb
    have hkl := (Array.getElem?_eq_some_iff.1 hk).1
    have := List.all_eq_true.1 h3 k (by simpa using hkl)
    rw [hk] at this
    simp only at this
    have := Array.all_eq_true_iff_forall_mem.1 this e (by simpa using he)
    simpa [hb] using this
  rw [runOps_eq, reserve_eq] at h
  simp only [Option.bind_eq_some_iff] at h
  obtain ⟨s', hr, hK⟩ := h
  refine wp_region_any h1 ?_
  refine any_wp hC hI hlt h4 (hperm.nodup_iff.2 List.nodup_range) canon ops.size (by rw [hperm.length_eq]; simp) (List.Sublist.refl _) _ (by simp) (fun x hx => ?_) (fun x hx => by simpa using hperm.mem_iff.1 hx) (fun k o hk hk' => ?_) _ s' a _ g hr (kept_reserve ops st.mem canon) ⟨hs.tmp.step (Step.drew B w g), mem_reserve (B := B) (w := w.drew) (g := g) hs.mem.drew _, hs.size⟩ ?_
  · have : x ∈ canon := hperm.mem_iff.2 (by simpa using hx)
    simp [this, Array.getD, hx]
  · exact absurd (hperm.mem_iff.2 (by simpa using hk)) hk'
  · intro a' w' g' hs' s hd
    exact hn s' a' w' g' hK hs' ((Step.drew B w g).trans s) hd

theorem mask_tmp : ∀ (bs : List Bool) (ts : List AV) (t : Nat), (maskA bs ts).length = ts.length ∧ ((maskA bs ts).getD t .any = ts.getD t .any ∨ (maskA bs ts).getD t .any = .any)
  | bs, [], t => by cases bs <;> simp [maskA]
  | [], v :: vs, t => by
    have ih := mask_tmp [] vs
    refine ⟨by simp [maskA, (ih 0).1], ?_⟩
    cases t with
    | zero => simp [maskA]
    | succ t => simpa [maskA] using (ih t).2
  | b :: bs, v :: vs, t => by
    have ih := mask_tmp bs vs
    refine ⟨by simp [maskA, (ih 0).1], ?_⟩
    cases t with
    | zero => cases b <;> simp [maskA]
    | succ t => simpa [maskA] using (ih t).2
theorem TmpR.mask {ts : List AV} {vs : Array Value} (h : TmpR w g ts vs) (bs : List Bool) : TmpR w g (maskA bs ts) vs :=
  ⟨(mask_tmp bs ts 0).1.trans h.1, fun t => by
    rcases (mask_tmp bs ts t).2 with h' | h'
    · rw [h']; exact h.2 t
    · rw [h']; exact .any _⟩

/-- From the loop's own item on. -/
def LW (P : Program) (c : Code) (Q : Exit → Act → World → Prop) (a : Act) (w : World) : Prop :=
  ∀ (b : Frame) (k : List Item) (cs : List Frame), ∃ e a' w', Q e a' w' ∧ Arrives P (lone (b.at a (.inLoop c :: k)) cs w) b k cs e a' w'
theorem lw_round {P : Program} {c : Code} {Q : Exit → Act → World → Prop} {a : Act} {w : World} (h : c.wp P (Exit.then (LW P c Q) Q) a w) (m : List Item → Item) (b : Frame) (k : List Item) (cs : List Frame)
    (hm : step P (lone (b.at a (m k :: k)) cs w) = .next (lone (b.at a (.code c :: .inLoop c :: k)) cs w)) : ∃ e a' w', Q e a' w' ∧ Arrives P (lone (b.at a (m k :: k)) cs w) b k cs e a' w' := by
  obtain ⟨e, a₁, w₁, hq, harr⟩ := h b (.inLoop c :: k) cs
  cases e with
  | normal =>
    obtain ⟨e₂, a₂, w₂, hq₂, harr₂⟩ := hq b k cs
    exact ⟨e₂, a₂, w₂, hq₂, .of_steps (.head hm harr) harr₂⟩
  | exit id => exact ⟨_, a₁, w₁, hq, .of_steps (.one hm) (.pass (x := .inLoop c) rfl (fun _ _ => .inl (by simp)) harr)⟩
  | goto l => exact ⟨_, a₁, w₁, hq, .of_steps (.one hm) (.pass (x := .inLoop c) rfl (fun _ _ => .inl (by simp)) harr)⟩
  | ret => exact ⟨_, a₁, w₁, hq, .of_steps (.one hm) (.pass (x := .inLoop c) rfl (fun _ _ => .inl (by simp)) harr)⟩
  | panic ch => exact ⟨_, a₁, w₁, hq, .of_steps (.one hm) (.pass (x := .inLoop c) rfl (fun _ _ => .inl (by simp)) harr)⟩
  | outgrown => exact ⟨_, a₁, w₁, hq, .of_steps (.one hm) (.pass (x := .inLoop c) rfl (fun _ _ => .inl (by simp)) harr)⟩
theorem wp_loop_lw {P : Program} {c : Code} {Q : Exit → Act → World → Prop} {a : Act} {w : World} (h : c.wp P (Exit.then (LW P c Q) Q) a w) : (Code.loop c).wp P Q a w := fun b k cs => lw_round h (fun _ => .code (.loop c)) b k cs step_loop
theorem lw_again {P : Program} {c : Code} {Q : Exit → Act → World → Prop} {a : Act} {w : World} (h : c.wp P (Exit.then (LW P c Q) Q) a w) : LW P c Q a w := fun b k cs => lw_round h (fun _ => .inLoop c) b k cs step_inLoop

/-- What follows a piece of code is met. -/
def After (C : Cfg) (B : Nat) {R : Type} (w : World) (g : G) (a : Act) (K : Ex → St → Option R) (r : R) (Q : Exit → Act → World → Prop) : Prop :=
  ∀ e st' a' w' g', K e st' = some r → StR B w' g' st' a' → Step B w g w' g' → a'.defers = a.defers → Q (exitOf e) a' w'

theorem exec_sound (hC : CfgOk C) {callI : Nat → List AV → Mem → Option (AV × Mem)} (hI : IOk C callI) {R : Type} {fid n : Nat} : ∀ (c : Code) (st : St) (K : Ex → St → Option R) (r : R) (a : Act) (w : World) (g : G) (Q : Exit → Act → World → Prop),
    exec C fid (acallP callI) callI n c st K = some r → StR B w g st a → After C B w g a K r Q → c.wp C.P Q a w := by
  intro c
  induction c with
  | skip =>
    intro st K r a w g Q h hs hq
    exact wp_skip (hq .normal st a w g h hs (Step.refl _ _ _) rfl)
  | region id ops d =>
    intro st K r a w g Q h hs hq
    simp only [exec] at h
    cases d with
    | false =>
      simp only at h
      rw [runOps_eq] at h
      simp only [Option.bind_eq_some_iff] at h
      obtain ⟨s', hr, hK⟩ := h
      exact wp_region (runF_wp hC hI _ st s' a w g hr hs fun a' w' g' hs' s hd => hq .normal s' a' w' g' hK hs' s hd)
    | true =>
      simp only at h
      split at h
      · rename_i hok
        exact draw_wp hC hI hok h hs fun s' a' w' g' hK hs' s hd => hq .normal s' a' w' g' hK hs' s hd
      · cases h
  | seq x y ihx ihy =>
    intro st K r a w g Q h hs hq
    simp only [exec] at h
    refine wp_seq (ihx st _ r a w g _ h hs ?_)
    intro e st' a' w' g' hK hs' s hd
    cases e with
    | normal =>
      simp only [seqK] at hK
      exact ihy st' K r a' w' g' Q hK hs' fun e st'' a'' w'' g'' hK' hs'' s' hd' => hq e st'' a'' w'' g'' hK' hs'' (s.trans s') (hd'.trans hd)
    | exit id => exact hq (.exit id) st' a' w' g' hK hs' s hd
    | ret => exact hq .ret st' a' w' g' hK hs' s hd
  | cond co x y ihx ihy =>
    intro st K r a w g Q h hs hq
    simp only [exec] at h
    have hV := ev_V hs.tmp co
    cases hv : ev st.tmps co with
    | bool b =>
      rw [hv] at h hV
      generalize hx : a.eval co = v at hV
      cases hV
      cases b with
      | true => exact wp_cond_true hx (ihx st K r a w g Q (by simpa [ifA] using h) hs hq)
      | false => exact wp_cond_false hx (ihy st K r a w g Q (by simpa [ifA] using h) hs hq)
    | _ => rw [hv] at h; simp [ifA] at h
  | block id x ih =>
    intro st K r a w g Q h hs hq
    simp only [exec] at h
    refine wp_block (ih st _ r a w g _ h hs ?_)
    intro e st' a' w' g' hK hs' s hd
    cases e with
    | normal => exact hq .normal st' a' w' g' hK hs' s hd
    | exit j =>
      simp only [blockK] at hK
      by_cases hj : j = id
      · have hb : (j == id) = true := by simpa using hj
        rw [hb] at hK
        simp only [exitOf, Exit.inBlock, if_pos hj]
        exact hq .normal st' a' w' g' hK hs' s hd
      · have hb : (j == id) = false := by simpa using hj
        rw [hb] at hK
        simp only [exitOf, Exit.inBlock, if_neg hj]
        exact hq (.exit j) st' a' w' g' hK hs' s hd
    | ret => exact hq .ret st' a' w' g' hK hs' s hd
  | loop x ih =>
    intro st K r a w g Q h hs hq
    simp only [exec] at h
    generalize C.mask fid (keyOf x) = mk at h
    have hmask : ∀ (l : List Bool) {w : World} {g : G} {st : St} {a : Act}, StR B w g st a → StR B w g (maskS l st) a := fun l w g st a hs => ⟨hs.tmp.mask _, hs.mem, hs.size⟩
    have hs0 := hmask mk.head hs
    have round : ∀ k (st : St) (a : Act) (w : World) (g : G), loopN (exec C fid (acallP callI) callI n x) mk k st K = some r → StR B w g st a → After C B w g a K r Q → x.wp C.P (Exit.then (LW C.P x Q) Q) a w := by
      intro k
      induction k with
      | zero => intro st a w g h; simp [loopN] at h
      | succ k ihk =>
        intro st a w g h hs hq
        simp only [loopN] at h
        refine ih st _ r a w g _ h hs ?_
        intro e st' a' w' g' hK hs' s hd
        have hq' : After C B w' g' a' K r Q := fun e st'' a'' w'' g'' hK' hs'' s' hd' => hq e st'' a'' w'' g'' hK' hs'' (s.trans s') (hd'.trans hd)
        cases e with
        | normal =>
          simp only [roundK] at hK
          exact lw_again (ihk _ a' w' g' hK (hmask _ hs') hq')
        | exit id => exact hq (.exit id) _ a' w' g' hK (hmask _ hs') s hd
        | ret => exact hq .ret _ a' w' g' hK (hmask _ hs') s hd
    exact wp_loop_lw (round n _ a w g h hs0 hq)
  | exit id =>
    intro st K r a w g Q h hs hq
    exact wp_exit (hq (.exit id) st a w g h hs (Step.refl _ _ _) rfl)
  | ret =>
    intro st K r a w g Q h hs hq
    exact wp_ret (hq .ret st a w g h hs (Step.refl _ _ _) rfl)
  | rangeFunc => intro st K r a w g Q h; simp [exec] at h
  | scope => intro st K r a w g Q h; simp [exec] at h
  | label => intro st K r a w g Q h; simp [exec] at h
  | goto => intro st K r a w g Q h; simp [exec] at h
  | refuse => intro st K r a w g Q h; simp [exec] at h

def resV (vs : Array Value) : ResultVar → Sem Value
  | .tmp t => pure (vs.getD t undef)
  | .cell a t => do loadVar t (← asAddr (vs.getD a undef))
theorem results_eq (fn : Func) (vs : Array Value) : results fn vs = (do let l ← fn.results.mapM (resV vs); pure (if h : l.size = 1 then l[0] else .tuple l)) := rfl

theorem results_sound {P : Program} {m : Mem} (hm : MemR B w g m) {ts : List AV} {vs : Array Value} (ht : TmpR w g ts vs) : ∀ (rs : List ResultVar) (l : List AV), resultsA P m ts rs = some l →
    ∃ vl : List Value, (rs.mapM (resV vs)).run P w = .ok vl w ∧ vl.length = l.length ∧ ∀ j, j < l.length → V w g (l.getD j .any) (vl.getD j undef)
  | [], l, h => by simp only [resultsA, Option.some.injEq] at h; subst h; exact ⟨[], by simp, rfl, by simp⟩
  | r :: rs, l, h => by
    simp only [resultsA, Option.bind_eq_some_iff, Option.map_eq_some_iff] at h
    obtain ⟨v, hv, l', hl', rfl⟩ := h
    obtain ⟨vl, h1, h2, h3⟩ := results_sound hm ht rs l' hl'
    have hone : ∃ v', (resV vs r).run P w = .ok v' w ∧ V w g v v' := by
      cases r with
      | tmp t => simp only [resA, Option.some.injEq] at hv; subst hv; exact ⟨_, rfl, ht.2 t⟩
      | cell a t =>
        simp only [resA, Option.bind_eq_some_iff] at hv
        obtain ⟨sh, hsh, hv⟩ := hv
        obtain ⟨v', hr, hV⟩ := load_sound (P := P) hm (ht.2 a) hv t hsh
        refine ⟨v', ?_, hV⟩
        unfold Instr.loadAt at hr
        unfold loadA at hv
        have hp : ∃ p, vs.getD a undef = .pointer (some p) := by
          have hVa := ht.2 a
          split at hv
          · rename_i he; rw [he] at hVa; generalize vs.getD a undef = x at hVa; cases hVa; exact ⟨_, rfl⟩
          · rename_i he; rw [he] at hVa; generalize vs.getD a undef = x at hVa; cases hVa; exact ⟨_, rfl⟩
          · cases hv
        obtain ⟨p, hp⟩ := hp
        rw [hp] at hr
        have hrv : resV vs (.cell a t) = (do loadVar t (← asAddr (.pointer (some p)))) := by
          show (do loadVar t (← asAddr (vs.getD a undef)) : Sem Value) = _
          rw [hp]
        rw [hrv]
        simpa [Instr.sureAddr, asAddr] using hr
    obtain ⟨v', e1, e2⟩ := hone
    refine ⟨v' :: vl, ?_, by simp [h2], fun j hj => ?_⟩
    · rw [List.mapM_cons]
      simp only [Sem.run_bind, e1, Result.andThen_ok, h1, Sem.run_pure]
    · cases j with
      | zero => simpa using e2
      | succ j => simpa using h3 j (by simpa using hj)

theorem resultsK_eq {R : Type} (P : Program) (m : Mem) (ts : List AV) : ∀ (rs : List ResultVar) (K : List AV → Option R), resultsK P m ts rs K = (resultsA P m ts rs).bind K
  | [], K => rfl
  | .tmp t :: rs, K => by
    simp only [resultsK, resultsA, resA, Option.bind_some, resultsK_eq P m ts rs]
    cases resultsA P m ts rs <;> rfl
  | .cell a t :: rs, K => by
    simp only [resultsK, resultsA, resA]
    cases shOf P t with
    | none => rfl
    | some sh =>
      simp only [Option.bind_some, resultsK_eq P m ts rs]
      cases loadA sh m (ts.getD a .any) with
      | none => rfl
      | some v =>
        simp only [Option.bind_some]
        cases resultsA P m ts rs <;> rfl

theorem oneOf_V {l : List AV} {vl : List Value} (h2 : vl.length = l.length) (h3 : ∀ j, j < l.length → V w g (l.getD j .any) (vl.getD j undef)) : V w g (oneOf l) (if h : vl.toArray.size = 1 then vl.toArray[0] else .tuple vl.toArray) := by
  match l, vl, h2 with
  | [], [], _ => exact .tup [] #[] rfl (by simp)
  | [x], [y], _ => simpa [oneOf] using h3 0 (by simp)
  | x :: x' :: l, y :: y' :: vl, h2 =>
    have : ¬ (y :: y' :: vl).toArray.size = 1 := by simp
    rw [dif_neg this]
    refine .tup _ _ (by simp at h2 ⊢; omega) fun j hj => ?_
    have := h3 j hj
    simpa [List.getD_eq_getElem?_getD, Array.getD_eq_getD_getElem?] using this

theorem acall_sound (hC : CfgOk C) : ∀ k, IOk C (acall C k) := by
  intro k
  induction k with
  | zero => intro f args m v m' h; simp [acall] at h
  | succ k ih =>
    intro f args m v m' h
    simp only [acall] at h
    cases hfn : C.P.funcs[f]? with
    | none => rw [hfn] at h; simp at h
    | some fn =>
      rw [hfn] at h
      simp only at h
      cases hb : fn.body with
      | none => rw [hb] at h; simp at h
      | some c =>
        rw [hb] at h
        simp only at h
        refine ⟨?_, fn, rfl, by simp [hb]⟩
        intro B w g vs hm hB hl hv
        refine calls_of_wp hfn hb ?_
        have hts : TmpR w g (args ++ List.replicate (fn.ntmps - args.length) .any) (vs ++ Array.replicate (fn.ntmps - vs.size) undef) := by
          refine ⟨by simp [hl], fun t => ?_⟩
          simp only [List.getD_eq_getElem?_getD, Array.getD_eq_getD_getElem?, List.getElem?_append, Array.getElem?_append]
          by_cases h1 : t < args.length
          · rw [if_pos h1, if_pos (by omega)]
            simpa [List.getD_eq_getElem?_getD, Array.getD_eq_getD_getElem?] using hv t h1
          · rw [if_neg h1, if_neg (by omega), List.getElem?_replicate]
            split <;> exact .any _
        refine exec_sound hC ih c _ _ (v, m') _ w g _ h ⟨hts, hm, hB⟩ ?_
        intro e st' a' w' g' hK hs' s hd
        have fin : (resultsA C.P st'.mem st'.tmps fn.results.toList).bind (fun vs => some (oneOf vs, st'.mem)) = some (v, m') → a'.defers = [] ∧ ∃ v', (results fn a'.tmps).run C.P w' = .ok v' w' ∧ ∃ v'' g'', Ending.returned v' = Ending.returned v'' ∧ Step B w g w' g'' ∧ MemR B w' g'' m' ∧ V w' g'' v v'' := by
          intro hK
          simp only [Option.bind_eq_some_iff, Option.some.injEq, Prod.mk.injEq] at hK
          obtain ⟨l, hl1, rfl, rfl⟩ := hK
          obtain ⟨vl, r1, r2, r3⟩ := results_sound (P := C.P) hs'.mem hs'.tmp _ l hl1
          refine ⟨hd, _, ?_, _, g', rfl, s, hs'.mem, oneOf_V r2 r3⟩
          rw [results_eq, Array.mapM_eq_mapM_toList]
          simp only [Sem.run_bind, Sem.run_map, r1, Result.andThen_ok, Sem.run_pure]
        cases e with
        | normal => exact fin (by simpa only [finK, resultsK_eq] using hK)
        | exit id => simp [finK] at hK
        | ret => exact fin (by simpa only [finK, resultsK_eq] using hK)
end
end Go.Ab

/- Loads and stores that may come in either order. -/
set_option linter.unusedVariables false
set_option linter.unusedSimpArgs false
namespace Go.Ab
open Go.RowKit

/-- On a check. -/
def ifB {R : Type} (b : Bool) (x : Option R) : Option R := match b with
  | true => x
  | false => none
/-- A load or a store ahead of a store: is the first a load; the types; the slots of the places. -/
def confT (y x : Oper) : Option (Bool × Nat × Nat × Nat × Nat) := match y.guard with
  | some _ => none
  | none => match x.guard with
    | some _ => none
    | none => match x.dst with
      | some _ => none
      | none => match x.op with
        | .store t2 (.tmp u) _ => match y.op with
          | .load t1 (.tmp t) => some (true, t1, t, t2, u)
          | .store t1 (.tmp t) _ => match y.dst with
            | none => some (false, t1, t, t2, u)
            | some _ => none
          | _ => none
        | _ => none
/-- Two places have no cell in common. -/
def apartV (n1 n2 : Nat) (x y : AV) : Bool := match x, y with
  | .ptr a o, .ptr b p => !(a == b) || (decide (o + n1 ≤ p) || decide (p + n2 ≤ o))
  | _, _ => false
def namesV (x y : AV) : Bool := match y with
  | .ptr b _ => match x with
    | .vptr _ => true
    | .ptr a _ => !(a == b)
    | _ => false
  | _ => false
def dynV (P : Program) (c : Bool × Nat × Nat × Nat × Nat) (ts : List AV) : Bool := match c with
  | (b, t1, t, t2, u) => match b with
    | true => namesV (ts.getD t .any) (ts.getD u .any)
    | false => match shOf P t1 with
      | none => false
      | some s1 => match shOf P t2 with
        | none => false
        | some s2 => apartV s1.size s2.size (ts.getD t .any) (ts.getD u .any)
def dyn2 (P : Program) (ops : Array Oper) (j i : Nat) (ts : List AV) : Bool := match ops[j]? with
  | none => false
  | some y => match ops[i]? with
    | none => false
    | some x => match confT y x with
      | none => false
      | some c => dynV P c ts
def twoK {R : Type} (P : Program) (ops : Array Oper) (st : St) (K : St → Option R) : List (Nat × Nat) → Option R
  | [] => K st
  | (j, i) :: sp => match dyn2 P ops j i st.tmps with
    | true => twoK P ops st K sp
    | false => none
def confS (ops : Array Oper) (ah : List Nat) (j i : Nat) (r : List Nat) : Bool := match ops[j]? with
  | none => false
  | some y => match ops[i]? with
    | none => false
    | some x => match confT y x with
      | none => false
      | some (_, _, t, _, u) => apartA ops y x && r.all (fun k => match ops[k]? with | some o => o.dst != some t && (o.dst != some u || (ah.getD i 0).testBit k) | none => true)
def hasP : List (Nat × Nat) → Nat → Nat → Bool
  | [], _, _ => false
  | (a, b) :: l, j, i => match Nat.beq a j && Nat.beq b i with
    | true => true
    | false => hasP l j i
def pairsOk3 (ops : Array Oper) (ah : List Nat) (sp : List (Nat × Nat)) : List Nat → Bool
  | [] => true
  | j :: l => l.all (fun i => (ah.getD i 0).testBit j || (match ops[j]?, ops[i]? with | some x, some y => swapOk ops x y | _, _ => false) || (hasP sp j i && confS ops ah j i (j :: l))) && pairsOk3 ops ah sp l
def drawOk3 (P : Program) (ops : Array Oper) (l ah : List Nat) (sp : List (Nat × Nat)) : Bool := match sp with
  | [] => drawOk2 P ops l ah
  | _ :: _ => P.follows .mixedOrders && (l.isPerm (List.range ops.size) && ((List.range ops.size).all (fun i => (match ops[i]? with | some o => o.after.all fun e => !Region.binds .any e || decide (e.on < i) | none => false)) && (Nat.beq ah.length ops.size && ((List.range ops.size).all (aheadAt ops ah) && pairsOk3 ops ah sp l))))

theorem twoK_some {R : Type} {P : Program} {ops : Array Oper} {st : St} {K : St → Option R} {r : R} : ∀ sp : List (Nat × Nat), twoK P ops st K sp = some r → K st = some r ∧ ∀ j i, hasP sp j i = true → dyn2 P ops j i st.tmps = true
  | [], h => ⟨h, fun _ _ h' => by simp [hasP] at h'⟩
  | (a, b) :: sp, h => by
    simp only [twoK] at h
    split at h
    · rename_i hd
      obtain ⟨h1, h2⟩ := twoK_some sp h
      refine ⟨h1, fun j i h' => ?_⟩
      simp only [hasP] at h'
      split at h'
      · rename_i hb
        simp only [Bool.and_eq_true] at hb
        obtain rfl := Nat.eq_of_beq_eq_true hb.1
        obtain rfl := Nat.eq_of_beq_eq_true hb.2
        exact hd
      · exact h2 j i h'
    · cases h
theorem twoK_lin {R : Type} (P : Program) (ops : Array Oper) (st : St) (sp : List (Nat × Nat)) : (∀ K : St → Option R, twoK P ops st K sp = none) ∨ (∀ K : St → Option R, twoK P ops st K sp = K st) := by
  induction sp with
  | nil => exact .inr fun K => rfl
  | cons p sp ih =>
    obtain ⟨a, b⟩ := p
    cases hd : dyn2 P ops a b st.tmps with
    | true =>
      rcases ih with h | h
      · exact .inl fun K => by simp only [twoK, hd]; exact h K
      · exact .inr fun K => by simp only [twoK, hd]; exact h K
    | false => exact .inl fun K => by simp only [twoK, hd]

section
variable {C : Cfg} {B : Nat} {w : World} {g : G}
/-! ### What stands ahead, told -/
theorem ahead_told {ops : Array Oper} {ah : List Nat} (hl : ah.length = ops.size) (hlt : ∀ i o, ops[i]? = some o → ∀ e ∈ o.after.toList, Region.binds .any e = true → e.on < i)
    (h : ∀ i, i < ops.size → aheadAt ops ah i = true) : ∀ n, n ≤ ops.size → aheadTo ops n = ah.take n := by
  intro n
  induction n with
  | zero => intro _; simp [aheadTo]
  | succ n ih =>
    intro hn
    have ih := ih (by omega)
    have hx : n < ah.length := by omega
    rw [aheadTo, ih, List.take_add_one, List.getElem?_eq_getElem hx]
    have ho : ops[n]? = some ops[n] := Array.getElem?_eq_getElem (by omega)
    rw [ho]
    have hat := h n (by omega)
    unfold aheadAt at hat
    rw [ho, List.getElem?_eq_getElem hx] at hat
    simp only at hat
    have hat := Nat.eq_of_beq_eq_true hat
    simp only [Option.toList_some, List.append_cancel_left_eq, List.cons.injEq, and_true]
    rw [hat, ← Array.foldl_toList]
    have : ∀ (l : List Edge) (s : Nat), (∀ e ∈ l, Region.binds .any e = true → e.on < n) → List.foldl (fun s e => s ||| (2 ^ e.on ||| (List.take n ah).getD e.on 0)) s (l.filter (Region.binds .any)) = List.foldl (fun s e => match Region.binds .any e with
        | true => s ||| (2 ^ e.on ||| ah.getD e.on 0)
        | false => s) s l := by
      intro l
      induction l with
      | nil => intro s _; rfl
      | cons e l ihl =>
        intro s hs
        have ht := fun s => ihl s fun e' he' => hs e' (by simp [he'])
        cases hb : Region.binds .any e with
        | true =>
          have := hs e (by simp) hb
          rw [List.filter_cons_of_pos (by simpa using hb)]
          simp only [List.foldl_cons, hb]
          rw [ht]
          congr 3
          simp only [List.getD_eq_getElem?_getD, List.getElem?_take, if_pos this]
        | false =>
          rw [List.filter_cons_of_neg (by simp [hb])]
          simp only [List.foldl_cons, hb]
          rw [ht]
    exact this _ 0 (hlt n _ ho)
theorem drawOk_of {P : Program} {ops : Array Oper} {l ah : List Nat} (h : drawOk2 P ops l ah = true) : drawOk P ops l = true := by
  unfold drawOk2 at h
  simp only [Bool.and_eq_true] at h
  obtain ⟨h1, h2, h3, h4, h5, h6⟩ := h
  have hlt : ∀ k o, ops[k]? = some o → ∀ e ∈ o.after.toList, Region.binds .any e = true → e.on < k := by
    intro k o hk e he hb
    have hkl := (Array.getElem?_eq_some_iff.1 hk).1
    have := List.all_eq_true.1 h3 k (by simpa using hkl)
    rw [hk] at this
    simp only at this
    have := Array.all_eq_true_iff_forall_mem.1 this e (by simpa using he)
    simpa [hb] using this
  have hah := ahead_told (Nat.eq_of_beq_eq_true h4) hlt (fun i hi => List.all_eq_true.1 h5 i (by simpa using hi)) ops.size (Nat.le_refl _)
  rw [List.take_of_length_le (by rw [Nat.eq_of_beq_eq_true h4]; exact Nat.le_refl _)] at hah
  unfold drawOk
  simp only [Bool.and_eq_true]
  refine ⟨⟨⟨h1, h2⟩, h3⟩, ?_⟩
  unfold aheadOf
  rw [hah]
  exact h6

theorem drawOk3_facts {P : Program} {ops : Array Oper} {l ah : List Nat} {p : Nat × Nat} {sp : List (Nat × Nat)} (h : drawOk3 P ops l ah (p :: sp) = true) : P.follows .mixedOrders = true ∧ l.isPerm (List.range ops.size) = true ∧
    ((List.range ops.size).all (fun i => (match ops[i]? with | some o => o.after.all fun e => !Region.binds .any e || decide (e.on < i) | none => false))) = true ∧ pairsOk3 ops (aheadOf ops) (p :: sp) l = true := by
  unfold drawOk3 at h
  simp only [Bool.and_eq_true] at h
  obtain ⟨h1, h2, h3, h4, h5, h6⟩ := h
  have hlt : ∀ k o, ops[k]? = some o → ∀ e ∈ o.after.toList, Region.binds .any e = true → e.on < k := by
    intro k o hk e he hb
    have hkl := (Array.getElem?_eq_some_iff.1 hk).1
    have := List.all_eq_true.1 h3 k (by simpa using hkl)
    rw [hk] at this
    simp only at this
    have := Array.all_eq_true_iff_forall_mem.1 this e (by simpa using he)
    simpa [hb] using this
  have hah := ahead_told (Nat.eq_of_beq_eq_true h4) hlt (fun i hi => List.all_eq_true.1 h5 i (by simpa using hi)) ops.size (Nat.le_refl _)
  rw [List.take_of_length_le (by rw [Nat.eq_of_beq_eq_true h4]; exact Nat.le_refl _)] at hah
  refine ⟨h1, h2, h3, ?_⟩
  unfold aheadOf; rw [hah]; exact h6
theorem confT_facts {y x : Oper} {b : Bool} {t1 t t2 u : Nat} (h : confT y x = some (b, t1, t, t2, u)) : y.guard = none ∧ x.guard = none ∧ x.dst = none ∧ (∃ v, x.op = .store t2 (.tmp u) v) ∧
    ((b = true ∧ y.op = .load t1 (.tmp t)) ∨ (b = false ∧ y.dst = none ∧ ∃ v, y.op = .store t1 (.tmp t) v)) := by
  unfold confT at h
  split at h
  · cases h
  rename_i h1
  split at h
  · cases h
  rename_i h2
  split at h
  · cases h
  rename_i h3
  split at h
  case h_2 => cases h
  rename_i h4
  split at h
  · rename_i h5
    simp only [Option.some.injEq, Prod.mk.injEq] at h
    obtain ⟨rfl, rfl, rfl, rfl, rfl⟩ := h
    exact ⟨h1, h2, h3, ⟨_, h4⟩, .inl ⟨rfl, h5⟩⟩
  · rename_i h5
    split at h
    · rename_i h6
      simp only [Option.some.injEq, Prod.mk.injEq] at h
      obtain ⟨rfl, rfl, rfl, rfl, rfl⟩ := h
      exact ⟨h1, h2, h3, ⟨_, h4⟩, .inr ⟨rfl, h6, _, h5⟩⟩
    · cases h
  · cases h
theorem obj?_set {m : Mem} {nm : Nat} {e : Option Ent} {n : Nat} (h : n ≠ nm) : Mem.obj? (m.set nm e) n = m.obj? n := by
  unfold Mem.obj?
  rw [get_set, if_neg h]
theorem obj?_self {m : Mem} {nm : Nat} {bx : Bool} {cs cs' : List AV} (h : m.obj? nm = some (bx, cs)) : Mem.obj? (m.set nm (some (.obj bx cs'))) nm = some (bx, cs') := by
  unfold Mem.obj?
  rw [get_set, if_pos rfl, if_pos (get_lt (obj?_get h))]
theorem putAt_comm {cs v1 v2 : List AV} {o p : Nat} (h1 : o + v1.length ≤ cs.length) (h2 : p + v2.length ≤ cs.length) (hd : o + v1.length ≤ p ∨ p + v2.length ≤ o) : putAt (putAt cs o v1) p v2 = putAt (putAt cs p v2) o v1 := by
  have l1 := putAt_length h1
  have l2 := putAt_length h2
  have e1 : p + v2.length ≤ (putAt cs o v1).length := by omega
  have e2 : o + v1.length ≤ (putAt cs p v2).length := by omega
  apply List.ext_getElem
  · rw [putAt_length e1, putAt_length e2, l1, l2]
  · intro j hj1 hj2
    have k1 := putAt_getD e1 j
    have k2 := putAt_getD e2 j
    rw [putAt_getD h1] at k1
    rw [putAt_getD h2] at k2
    rw [List.getD_eq_getElem?_getD, List.getElem?_eq_getElem hj1, Option.getD_some] at k1
    rw [List.getD_eq_getElem?_getD, List.getElem?_eq_getElem hj2, Option.getD_some] at k2
    rw [k1, k2]
    by_cases a : p ≤ j ∧ j < p + v2.length
    · rw [if_pos a, if_neg (by omega), if_pos a]
    · rw [if_neg a]
      by_cases b : o ≤ j ∧ j < o + v1.length
      · rw [if_pos b, if_pos b]
      · rw [if_neg b, if_neg b, if_neg a]
theorem storeA_comm {s1 s2 : Sh} {m m1 m2 : Mem} {x1 x2 v1 v2 : AV} (ha : apartV s1.size s2.size x1 x2 = true) (h1 : storeA s1 m x1 v1 = some m1) (h2 : storeA s2 m1 x2 v2 = some m2) :
    ∃ m3, storeA s2 m x2 v2 = some m3 ∧ storeA s1 m3 x1 v1 = some m2 := by
  unfold apartV at ha
  split at ha
  · rename_i a o b p
    simp only [storeA, Option.bind_eq_some_iff] at h1 h2 ⊢
    obtain ⟨⟨bx, cs⟩, g1, h1⟩ := h1
    obtain ⟨⟨bx2, cs2⟩, g2, h2⟩ := h2
    simp only at h1 h2
    split at h1
    case isFalse => cases h1
    rename_i c1
    split at h1
    case isFalse => cases h1
    rename_i k1
    simp only [Option.some.injEq] at h1
    subst h1
    split at h2
    case isFalse => cases h2
    rename_i c2
    split at h2
    case isFalse => cases h2
    rename_i k2
    simp only [Option.some.injEq] at h2
    subst h2
    have z1 := shOk_size k1
    have z2 := shOk_size k2
    by_cases hab : a = b
    · subst hab
      rw [obj?_self g1] at g2
      simp only [Option.some.injEq, Prod.mk.injEq] at g2
      obtain ⟨rfl, rfl⟩ := g2
      rw [putAt_length (by omega)] at c2
      simp only [BEq.rfl, Bool.not_true, Bool.false_or, Bool.or_eq_true, decide_eq_true_eq] at ha
      refine ⟨m.set a (some (.obj bx (putAt cs p v2.cells))), ⟨⟨bx, cs⟩, g1, ?_⟩, ⟨bx, putAt cs p v2.cells⟩, obj?_self g1, ?_⟩
      · simp only
        rw [if_pos c2, if_pos k2]
      · simp only
        rw [if_pos (by rw [putAt_length (by omega)]; exact c1), if_pos k1, List.set_set, List.set_set, putAt_comm (by omega) (by omega) (by omega)]
    · rw [obj?_set (fun e => hab e.symm)] at g2
      refine ⟨m.set b (some (.obj bx2 (putAt cs2 p v2.cells))), ⟨⟨bx2, cs2⟩, g2, ?_⟩, ⟨bx, cs⟩, ?_, ?_⟩
      · simp only
        rw [if_pos c2, if_pos k2]
      · rw [obj?_set hab]; exact g1
      · simp only
        rw [if_pos c1, if_pos k1, List.set_comm _ _ hab]
  · cases ha

theorem stepF_store {fid b : Nat} {cp : Nat → List AV → Option AV} {ci : Nat → List AV → Mem → Option (AV × Mem)} {ops : Array Oper} {i : Nat} {o : Oper} {t : Nat} {x v : Operand} (ho : ops[i]? = some o) (hg : o.guard = none) (hd : o.dst = none) (hop : o.op = .store t x v) (st : St) :
    stepF C fid cp ci (some b) ops i st = (shOf C.P t).bind fun s => (storeA s st.mem (ev st.tmps x) (ev st.tmps v)).map fun m => ⟨st.tmps, m⟩ := by
  unfold stepF
  rw [ho]
  simp only [opG, hg]
  unfold opF opK
  rw [hop]
  simp only []
  cases shOf C.P t with
  | none => rfl
  | some s =>
    simp only [Option.bind_some]
    cases storeA s st.mem (ev st.tmps x) (ev st.tmps v) with
    | none => rfl
    | some m => simp only [Option.bind_some, Option.map_some, hd, setD]
theorem stepF_load {fid b : Nat} {cp : Nat → List AV → Option AV} {ci : Nat → List AV → Mem → Option (AV × Mem)} {ops : Array Oper} {i : Nat} {o : Oper} {t : Nat} {x : Operand} (ho : ops[i]? = some o) (hg : o.guard = none) (hop : o.op = .load t x) (st : St) :
    stepF C fid cp ci (some b) ops i st = (shOf C.P t).bind fun s => (loadA s st.mem (ev st.tmps x)).map fun v => ⟨setD st.tmps o.dst v, st.mem⟩ := by
  unfold stepF
  rw [ho]
  simp only [opG, hg]
  unfold opF opK
  rw [hop]
  simp only []
  cases shOf C.P t with
  | none => rfl
  | some s =>
    simp only [Option.bind_some]
    cases loadA s st.mem (ev st.tmps x) with
    | none => rfl
    | some v => rfl
theorem loadA_store {s1 s2 : Sh} {m m2 : Mem} {x1 x2 v2 : AV} (ha : namesV x1 x2 = true) (h2 : storeA s2 m x2 v2 = some m2) : loadA s1 m2 x1 = loadA s1 m x1 := by
  unfold namesV at ha
  split at ha
  · rename_i b p
    split at ha
    · rfl
    · rename_i a o
      have hab : a ≠ b := by simpa using ha
      simp only [storeA, Option.bind_eq_some_iff] at h2
      obtain ⟨⟨bx, cs⟩, g1, h2⟩ := h2
      split at h2
      · split at h2
        · simp only [Option.some.injEq] at h2
          subst h2
          simp only [loadA]
          rw [obj?_set hab]
        · cases h2
      · cases h2
    · cases ha
  · cases ha
theorem runF_tmp {fid b : Nat} {cp : Nat → List AV → Option AV} {ci : Nat → List AV → Mem → Option (AV × Mem)} {ops : Array Oper} {t : Nat} : ∀ (l : List Nat) (s s' : St), (∀ k ∈ l, ∀ o, ops[k]? = some o → o.dst ≠ some t) → runF C fid cp ci (some b) ops l s = some s' → s'.tmps.getD t .any = s.tmps.getD t .any
  | [], s, s', _, h => by simp only [runF, Option.some.injEq] at h; rw [h]
  | k :: l, s, s', hd, h => by
    simp only [runF, Option.bind_eq_some_iff] at h
    obtain ⟨s1, h1, h2⟩ := h
    rw [runF_tmp l s1 s' (fun k' hk' => hd k' (by simp [hk'])) h2]
    obtain ⟨o, v, m1, ho, _, rfl⟩ := stepF_some h1
    exact setD_getD (hd k (by simp) o ho)
theorem swap3 {fid b : Nat} {cp : Nat → List AV → Option AV} {ci : Nat → List AV → Mem → Option (AV × Mem)} {ops : Array Oper} {i j : Nat} {st s1 s2 : St} {x y : Oper} (hx : ops[i]? = some x) (hy : ops[j]? = some y) {c : Bool × Nat × Nat × Nat × Nat} (hc : confT y x = some c) (hap : apartA ops y x = true) (hdyn : dynV C.P c st.tmps = true)
    (h1 : stepF C fid cp ci (some b) ops j st = some s1) (h2 : stepF C fid cp ci (some b) ops i s1 = some s2) : ∃ s1', stepF C fid cp ci (some b) ops i st = some s1' ∧ stepF C fid cp ci (some b) ops j s1' = some s2 := by
  obtain ⟨bb, t1, t, t2, u⟩ := c
  obtain ⟨g1, g2, g3, ⟨v2, g4⟩, g5⟩ := confT_facts hc
  obtain ⟨a1, a2, a3⟩ := apart_facts hap
  rw [stepF_store hx g2 g3 g4] at h2 ⊢
  simp only [Option.bind_eq_some_iff, Option.map_eq_some_iff] at h2
  obtain ⟨sh2, k2, m2, k3, rfl⟩ := h2
  rcases g5 with ⟨rfl, g5⟩ | ⟨rfl, g6, v1, g5⟩
  · rw [stepF_load hy g1 g5] at h1
    simp only [Option.bind_eq_some_iff, Option.map_eq_some_iff] at h1
    obtain ⟨sh1, k1, v, k4, rfl⟩ := h1
    simp only at k3
    have hlook : ∀ z t', z = Operand.tmp t' → z ∈ x.op.operands.toList → y.dst ≠ some t' := by
      intro z t' hz hm hd
      refine a1 t' hd ?_
      unfold looks
      refine List.mem_append.2 (.inl (List.mem_filterMap.2 ⟨z, hm, ?_⟩))
      rw [hz]
    have hops : x.op.operands.toList = [.tmp u, v2] := by rw [g4]; rfl
    have e1 : ev (setD st.tmps y.dst v) (.tmp u) = ev st.tmps (.tmp u) := ev_congr _ fun t' ht => setD_getD (hlook _ t' ht (by rw [hops]; simp))
    have e2 : ev (setD st.tmps y.dst v) v2 = ev st.tmps v2 := ev_congr _ fun t' ht => setD_getD (hlook _ t' ht (by rw [hops]; simp))
    rw [e1, e2] at k3
    refine ⟨⟨st.tmps, m2⟩, by rw [k2, Option.bind_some, k3]; rfl, ?_⟩
    rw [stepF_load hy g1 g5, k1, Option.bind_some]
    have : loadA sh1 m2 (ev st.tmps (.tmp t)) = loadA sh1 st.mem (ev st.tmps (.tmp t)) := loadA_store hdyn k3
    simp only
    rw [this, k4]
    rfl
  · rw [stepF_store hy g1 g6 g5] at h1
    simp only [Option.bind_eq_some_iff, Option.map_eq_some_iff] at h1
    obtain ⟨sh1, k1, m1, k4, rfl⟩ := h1
    simp only at k3
    unfold dynV at hdyn
    simp only [k1, k2] at hdyn
    obtain ⟨m3, j1, j2⟩ := storeA_comm (x1 := ev st.tmps (.tmp t)) (x2 := ev st.tmps (.tmp u)) hdyn k4 k3
    refine ⟨⟨st.tmps, m3⟩, by rw [k2, Option.bind_some, j1]; rfl, ?_⟩
    rw [stepF_store hy g1 g6 g5, k1, Option.bind_some]
    simp only
    rw [j2]
    rfl
/-- May i pass j, where r is what is left from j on? -/
def Pass (C : Cfg) (ops : Array Oper) (sE : St) (i : Nat) (x : Oper) (r : List Nat) (j : Nat) : Prop := ∃ y, ops[j]? = some y ∧ (swapOk ops y x = true ∨ ∃ bb t1 t t2 u, confT y x = some (bb, t1, t, t2, u) ∧ apartA ops y x = true ∧ dynV C.P (bb, t1, t, t2, u) sE.tmps = true ∧ ∀ k ∈ r, ∀ o, ops[k]? = some o → o.dst ≠ some t ∧ o.dst ≠ some u)
theorem first3 {fid b : Nat} {cp : Nat → List AV → Option AV} {ci : Nat → List AV → Mem → Option (AV × Mem)} {ops : Array Oper} {i : Nat} {x : Oper} (hx : ops[i]? = some x) : ∀ (l : List Nat) (st s' : St), l.Nodup → i ∈ l → Kept ops b st.mem l → (∀ (p : List Nat) (j : Nat) (r : List Nat), l = p ++ j :: r → i ∈ r → Pass C ops s' i x (j :: r) j) →
    runF C fid cp ci (some b) ops l st = some s' → ∃ s1, stepF C fid cp ci (some b) ops i st = some s1 ∧ runF C fid cp ci (some b) ops (l.erase i) s1 = some s'
  | [], _, _, _, hi, _, _, _ => by simp at hi
  | j :: l, st, s', hnd, hi, hk, hsw, hr => by
    have hr0 := hr
    simp only [runF, Option.bind_eq_some_iff] at hr
    obtain ⟨s1, h1, hr⟩ := hr
    by_cases he : j = i
    · subst he
      exact ⟨s1, h1, by simpa using hr⟩
    · have hil : i ∈ l := by rcases List.mem_cons.1 hi with h | h <;> first | exact absurd h.symm he | exact h
      have hnd' := (List.nodup_cons.1 hnd)
      obtain ⟨s2, h2, hr2⟩ := first3 hx l s1 s' hnd'.2 hil (stepF_kept h1 (fun k hk' => hk k (by simp [hk'])) hnd'.1) (fun p k r hpq hir => hsw (j :: p) k r (by rw [hpq]; rfl) hir) hr
      obtain ⟨y, hy, hok⟩ := hsw [] j l rfl hil
      have hsw' : ∃ s1', stepF C fid cp ci (some b) ops i st = some s1' ∧ stepF C fid cp ci (some b) ops j s1' = some s2 := by
        rcases hok with hok | ⟨bb, t1, t, t2, u, hc, hap, hdyn, hdst⟩
        · exact swap hy hx he hok (fun k hk' => hk k (by
            simp only [List.mem_cons, List.not_mem_nil, or_false] at hk'
            rcases hk' with rfl | rfl
            · simp
            · simp [hil])) h1 h2
        · refine swap3 hx hy hc hap ?_ h1 h2
          have ht := runF_tmp (t := t) (j :: l) st s' (fun k hk' o ho => (hdst k hk' o ho).1) hr0
          have hu := runF_tmp (t := u) (j :: l) st s' (fun k hk' o ho => (hdst k hk' o ho).2) hr0
          unfold dynV at hdyn ⊢
          simp only [ht, hu] at hdyn
          exact hdyn
      obtain ⟨s1', k1, k2⟩ := hsw'
      refine ⟨s1', k1, ?_⟩
      have her : (j :: l).erase i = j :: l.erase i := by
        rw [List.erase_cons, if_neg (by simpa using he)]
      rw [her]
      simp only [runF, k2, Option.bind_some]
      exact hr2
theorem pairsOk3_split {ops : Array Oper} {ah : List Nat} {sp : List (Nat × Nat)} : ∀ {l : List Nat}, pairsOk3 ops ah sp l = true → ∀ (p : List Nat) (j : Nat) (r : List Nat), l = p ++ j :: r → ∀ i ∈ r, (ah.getD i 0).testBit j = true ∨ (∃ x y, ops[j]? = some x ∧ ops[i]? = some y ∧ swapOk ops x y = true) ∨ (hasP sp j i = true ∧ confS ops ah j i (j :: r) = true)
  | [], _, p, j, r, h, _, _ => by simp at h
  | k :: l, hp, p, j, r, h, i, hi => by
    simp only [pairsOk3, Bool.and_eq_true, List.all_eq_true] at hp
    match p, h with
    | [], h =>
      simp only [List.nil_append, List.cons.injEq] at h
      obtain ⟨rfl, rfl⟩ := h
      have := hp.1 i hi
      simp only [Bool.or_eq_true, Bool.and_eq_true] at this
      rcases this with (h | h) | h
      · exact .inl h
      · refine .inr (.inl ?_)
        split at h
        · exact ⟨_, _, by assumption, by assumption, h⟩
        · cases h
      · exact .inr (.inr h)
    | k' :: p, h =>
      simp only [List.cons_append, List.cons.injEq] at h
      obtain ⟨rfl, rfl⟩ := h
      exact pairsOk3_split hp.2 p j r rfl i hi

/-- Whatever order is drawn. -/
theorem any_wp2 (hC : CfgOk C) {callI : Nat → List AV → Mem → Option (AV × Mem)} (hI : IOk C callI) {fid b : Nat} {ops : Array Oper} {Q : Exit → Act → World → Prop} {canon : List Nat} (hlt : ∀ k o, ops[k]? = some o → ∀ e ∈ o.after.toList, Region.binds .any e = true → e.on < k)
    {sp : List (Nat × Nat)} {sE : St} (hpairs : pairsOk3 ops (aheadOf ops) sp canon = true) (hdyn : ∀ j i, hasP sp j i = true → dyn2 C.P ops j i sE.tmps = true) (hnd : canon.Nodup) : ∀ (l : List Nat) (n : Nat), l.length = n → l.Sublist canon → ∀ (listed : Array Bool), listed.size = ops.size → (∀ x, x < ops.size → (listed.getD x true = true ↔ x ∉ l)) → (∀ x ∈ l, x < ops.size) →
    (∀ k o, k < ops.size → k ∉ l → ops[k]? = some o → ∀ e ∈ o.after.toList, Region.binds .any e = true → e.on ∉ l) →
    ∀ (st s' : St) (a : Act) (w : World) (g : G), s' = sE → runF C fid (acallP callI) callI (some b) ops l st = some s' → Kept ops b st.mem l → StR B w g st a →
    (∀ a' w' g', StR B w' g' s' a' → Step B w g w' g' → a'.defers = a.defers → Q .normal a' w') → wpAny C.P .any ops Q n listed a w := by
  intro l n hn
  induction n generalizing l with
  | zero =>
    intro hsub listed hsz hlist hin hdown st s' a w g hsE hr hk hs hq
    have hnil : l = [] := List.eq_nil_of_length_eq_zero hn
    subst hnil
    simp only [runF, Option.some.injEq] at hr
    subst hr
    refine ⟨?_, hq a w g hs (Step.refl _ _ _) rfl⟩
    unfold Region.ready
    rw [List.filter_eq_nil_iff]
    intro x hx
    have : listed.getD x true = true := (hlist x (by simpa using hx)).2 (by simp)
    simp [this]
  | succ n ih =>
    intro hsub listed hsz hlist hin hdown st s' a w g hsE hr hk hs hq
    have hready : ∀ i ∈ Region.ready .any ops listed, i ∈ l ∧ i < ops.size ∧ ∃ o, ops[i]? = some o ∧ ∀ e ∈ o.after.toList, Region.binds .any e = true → e.on ∉ l := by
      intro i hi
      unfold Region.ready at hi
      simp only [List.mem_filter, List.mem_range, Bool.and_eq_true, Bool.not_eq_true'] at hi
      obtain ⟨h1, h2, h3⟩ := hi
      have hil : i ∈ l := by
        by_cases h : i ∈ l
        · exact h
        · have := (hlist i h1).2 h; rw [this] at h2; cases h2
      refine ⟨hil, h1, ops[i], by simp [h1], fun e he hb hon => ?_⟩
      have ho : ops[i]? = some ops[i] := by simp [h1]
      rw [ho] at h3
      simp only [Option.map_some, Option.getD_some] at h3
      have h4 := Array.all_eq_true_iff_forall_mem.1 h3 e (by simpa using he)
      simp only [hb, Bool.not_true, Bool.false_or] at h4
      have h5 := hlt i _ ho e he hb
      have h6 : listed.getD e.on true = true := by
        have hes : e.on < listed.size := by omega
        simp only [Array.getD, hes, dif_pos] at h4 ⊢
        exact h4
      exact (hlist e.on (by omega)).1 h6 hon
    refine ⟨fun hnone => ?_, fun i hi => ?_⟩
    · -- the least that is left is ready
      exfalso
      have hne : l ≠ [] := fun h => by rw [h] at hn; simp at hn
      obtain ⟨mn, hmn, hmin⟩ : ∃ mn ∈ l, ∀ x ∈ l, mn ≤ x := by
        exact least l hne
      have hml := hin mn hmn
      have : mn ∈ Region.ready .any ops listed := by
        unfold Region.ready
        simp only [List.mem_filter, List.mem_range, Bool.and_eq_true, Bool.not_eq_true']
        refine ⟨hml, ?_, ?_⟩
        · cases hb : listed.getD mn true with
          | false => rfl
          | true => exact absurd hmn ((hlist mn hml).1 hb)
        · have ho : ops[mn]? = some ops[mn] := by simp [hml]
          rw [ho]
          simp only [Option.map_some, Option.getD_some]
          rw [Array.all_eq_true_iff_forall_mem]
          intro e he
          by_cases hb : Region.binds .any e = true
          · have h5 := hlt mn _ ho e (by simpa using he) hb
            have h6 : e.on ∉ l := fun h => by have := hmin _ h; omega
            have h7 := (hlist e.on (by omega)).2 h6
            have hes : e.on < listed.size := by omega
            have h8 : listed.getD e.on false = true := by
              simp only [Array.getD, hes, dif_pos] at h7 ⊢
              exact h7
            rw [h8]; simp
          · simp at hb; simp [hb]
      rw [hnone] at this
      simp at this
    · obtain ⟨hil, hio, x, hx, hedge⟩ := hready i hi
      obtain ⟨s1, h1, h2⟩ := first3 hx l st s' (hnd.sublist hsub) hil hk (fun p j r hpq hir => by
        have hjl : j ∈ l := by rw [hpq]; simp
        obtain ⟨pre, post, hcan, hpost⟩ : ∃ pc qc, canon = pc ++ j :: qc ∧ ∀ y ∈ r, y ∈ qc := by
          have hsub' := hsub
          rw [hpq] at hsub'
          obtain ⟨c1, c2, hc, hs1, hs2⟩ := List.append_sublist_iff.1 hsub'
          obtain ⟨d1, d2, hd, _, hd3⟩ := List.cons_sublist_iff.1 hs2
          obtain ⟨e1, e2, he⟩ := List.append_of_mem ‹j ∈ d1›
          exact ⟨c1 ++ e1, e2 ++ d2, by rw [hc, hd, he]; simp, fun y hy => List.mem_append.2 (.inr (hd3.subset hy))⟩
        rcases pairsOk3_split hpairs pre j post hcan i (hpost i hir) with h | ⟨y, x', hy, hx', hok⟩ | ⟨hsp, hcf⟩
        · exfalso
          have hmem : ((aheadTo ops ops.size).getD i 0).testBit j = true := h
          have := ahead_met (D := fun k => k ∉ l) (fun k o hk' hko e he hb => by
            rcases Nat.lt_or_ge k ops.size with hk1 | hk1
            · exact hdown k o hk1 hk' hko e he hb
            · rw [Array.getElem?_eq_none hk1] at hko; cases hko) hlt ops.size i x hio hx hedge j hmem
          exact this hjl
        · obtain rfl : x = x' := by simpa [hx] using hx'
          exact ⟨y, hy, .inl hok⟩
        · have hd := hdyn j i hsp
          unfold dyn2 at hd
          unfold confS at hcf
          cases hy : ops[j]? with
          | none => rw [hy] at hd; cases hd
          | some y =>
            rw [hy, hx] at hd hcf
            simp only at hd hcf
            cases hct : confT y x with
            | none => rw [hct] at hd; cases hd
            | some c =>
              obtain ⟨bb, t1, t, t2, u⟩ := c
              rw [hct] at hd hcf
              simp only [Bool.and_eq_true, List.all_eq_true] at hd hcf
              refine ⟨y, hy, .inr ⟨bb, t1, t, t2, u, hct, hcf.1, by rw [hsE]; exact hd, fun k hk' o ho => ?_⟩⟩
              have hkm : k ∈ j :: post := by
                rcases List.mem_cons.1 hk' with h | h
                · simp [h]
                · exact List.mem_cons_of_mem _ (hpost k h)
              have := hcf.2 k hkm
              rw [ho] at this
              simp only [Bool.and_eq_true, Bool.or_eq_true, bne_iff_ne, ne_eq] at this
              refine ⟨this.1, this.2.resolve_right fun h => ?_⟩
              have hmem : ((aheadTo ops ops.size).getD i 0).testBit k = true := h
              have := ahead_met (D := fun k => k ∉ l) (fun k o hk' hko e he hb => by
                rcases Nat.lt_or_ge k ops.size with hk1 | hk1
                · exact hdown k o hk1 hk' hko e he hb
                · rw [Array.getElem?_eq_none hk1] at hko; cases hko) hlt ops.size i x hio hx hedge k hmem
              exact this (by rw [hpq]; exact List.mem_append.2 (.inr hk'))) hr
      refine step_wp hC hI h1 hs (fun b' hb' => by cases hb'; exact fun k hk' => hk k (by simp at hk'; rw [hk']; exact hil)) fun a' w' g' hs' s hd => ?_
      have hmem : ∀ y, y ∈ l.erase i ↔ y ∈ l ∧ y ≠ i := fun y => by
        rw [(hnd.sublist hsub).mem_erase_iff]; exact And.comm
      refine ih (l.erase i) (by rw [List.length_erase_of_mem hil]; omega) (List.Sublist.trans List.erase_sublist hsub) (listed.setIfInBounds i true) (by simpa using hsz) (fun y hy => ?_) (fun y hy => hin y ((hmem y).1 hy).1) (fun k o hk1 hk2 hko e he hb hon => ?_) s1 s' a' w' g' hsE h2 (fun k hk' o ho hm => ?_) hs' fun a'' w'' g'' hs'' s' hd' => hq a'' w'' g'' hs'' (s.trans s') (hd'.trans hd)
      · have hys : y < listed.size := by omega
        have hg : (listed.setIfInBounds i true).getD y true = if i = y then true else listed.getD y true := by
          simp only [Array.getD_eq_getD_getElem?, Array.getElem?_setIfInBounds]
          by_cases hiy : i = y
          · subst hiy; simp [hys]
          · simp [hiy]
        rw [hg, hmem]
        by_cases hiy : i = y
        · subst hiy; simp
        · rw [if_neg hiy, hlist y hy]
          constructor
          · intro h h'; exact h h'.1
          · intro h h'; exact h ⟨h', fun he => hiy he.symm⟩
      · have hon' := (hmem _).1 hon
        by_cases hki : k = i
        · subst hki
          obtain rfl : x = o := by simpa [hx] using hko
          exact hedge e he hb hon'.1
        · exact hdown k o hk1 (fun h => hk2 ((hmem k).2 ⟨h, hki⟩)) hko e he hb hon'.1
      · exact stepF_kept h1 (fun k' hk'' => hk k' ((hmem k').1 hk'').1) (fun h => ((hmem i).1 h).2 rfl) k hk' o ho hm

theorem draw_wp2 (hC : CfgOk C) {callI : Nat → List AV → Mem → Option (AV × Mem)} (hI : IOk C callI) {R : Type} {fid id : Nat} {ops : Array Oper} {Q : Exit → Act → World → Prop} {canon : List Nat} {ah : List Nat} {pr : Nat × Nat} {sp : List (Nat × Nat)} (hok : drawOk3 C.P ops canon ah (pr :: sp) = true) {st : St} {K : St → Option R} {r : R} {a : Act}
    (h : runOps C fid (acallP callI) callI (some st.mem.length) ops canon ⟨st.tmps, reserve st.mem (rankA ops ops.size)⟩ (fun st' => twoK C.P ops st' K (pr :: sp)) = some r) (hs : StR B w g st a)
    (hn : ∀ s' a' w' g', K s' = some r → StR B w' g' s' a' → Step B w g w' g' → a'.defers = a.defers → Q .normal a' w') : (Code.region id ops true).wp C.P Q a w := by
  obtain ⟨h1, h2, h3, h4⟩ := drawOk3_facts hok
  have hperm : canon.Perm (List.range ops.size) := List.isPerm_iff.1 h2
  have hlt : ∀ k o, ops[k]? = some o → ∀ e ∈ o.after.toList, Region.binds .any e = true → e.on < k := by
    intro k o hk e he hb
    have hkl := (Array.getElem?_eq_some_iff.1 hk).1
    have := List.all_eq_true.1 h3 k (by simpa using hkl)
    rw [hk] at this
    simp only at this
    have := Array.all_eq_true_iff_forall_mem.1 this e (by simpa using he)
    simpa [hb] using this
  rw [runOps_eq, reserve_eq] at h
  simp only [Option.bind_eq_some_iff] at h
  obtain ⟨s', hr, hK⟩ := h
  obtain ⟨hK, hdyn⟩ := twoK_some _ hK
  refine wp_region_any h1 ?_
  refine any_wp2 hC hI hlt h4 hdyn (hperm.nodup_iff.2 List.nodup_range) canon ops.size (by rw [hperm.length_eq]; simp) (List.Sublist.refl _) _ (by simp) (fun x hx => ?_) (fun x hx => by simpa using hperm.mem_iff.1 hx) (fun k o hk hk' => ?_) _ s' a _ g rfl hr (kept_reserve ops st.mem canon) ⟨hs.tmp.step (Step.drew B w g), mem_reserve (B := B) (w := w.drew) (g := g) hs.mem.drew _, hs.size⟩ ?_
  · have : x ∈ canon := hperm.mem_iff.2 (by simpa using hx)
    simp [this, Array.getD, hx]
  · exact absurd (hperm.mem_iff.2 (by simpa using hk)) hk'
  · intro a' w' g' hs' s hd
    exact hn s' a' w' g' hK hs' ((Step.drew B w g).trans s) hd
end
end Go.Ab

/- The interpreter without fuel: what all runs with fuel tend to. -/
set_option linter.unusedVariables false
set_option linter.unusedSimpArgs false
namespace Go.Ab

/-! ### What a rising row of answers tends to -/
def Rise {R : Type} (F : Nat → Option R) : Prop := ∀ k r, F k = some r → F (k + 1) = some r
theorem Rise.le {R : Type} {F : Nat → Option R} (h : Rise F) {k n : Nat} (hn : k ≤ n) {r : R} (hr : F k = some r) : F n = some r := by
  induction hn with
  | refl => exact hr
  | step _ ih => exact h _ _ ih
open Classical in
noncomputable def lim {R : Type} (F : Nat → Option R) : Option R := if h : ∃ k r, F k = some r then F h.choose else none
theorem lim_some {R : Type} {F : Nat → Option R} {r : R} (h : lim F = some r) : ∃ k, F k = some r := by
  unfold lim at h
  split at h
  · exact ⟨_, h⟩
  · cases h
theorem Rise.lim {R : Type} {F : Nat → Option R} (h : Rise F) {k : Nat} {r : R} (hr : F k = some r) : lim F = some r := by
  have hx : ∃ k r, F k = some r := ⟨k, r, hr⟩
  unfold Ab.lim
  rw [dif_pos hx]
  obtain ⟨r', hr'⟩ := hx.choose_spec
  have h1 := h.le (Nat.le_max_left k hx.choose) hr
  have h2 := h.le (Nat.le_max_right k hx.choose) hr'
  rw [h1] at h2
  rw [hr', ← Option.some.inj h2]
theorem opt_ext {R : Type} {x y : Option R} (h : ∀ r, x = some r ↔ y = some r) : x = y := Option.ext h

section
variable {R : Type}

/-! ### Loops -/
def fits : List Bool → List AV → Bool
  | [], [] => true
  | _ :: bs, _ :: ts => fits bs ts
  | _, _ => false
/-- The slots that the mask keeps, as they stand. -/
def rb : List Bool → List AV → List AV
  | [], _ => []
  | b :: bs, ts => (match b with | true => ts.headD .any | false => .any) :: rb bs ts.tail
theorem rb_fits : ∀ (bs : List Bool) (ts : List AV), fits bs ts = true → rb bs ts = maskA bs ts
  | [], [], _ => rfl
  | b :: bs, t :: ts, h => by
    simp only [rb, maskA, rb_fits bs ts (by simpa [fits] using h), List.tail_cons]
    cases b <;> rfl
  | [], _ :: _, h => by simp [fits] at h
  | _ :: _, [], h => by simp [fits] at h
theorem rb_idem : ∀ (bs : List Bool) (ts : List AV), rb bs (rb bs ts) = rb bs ts
  | [], _ => rfl
  | b :: bs, ts => by
    simp only [rb, List.headD_cons, List.tail_cons, rb_idem bs ts.tail]
    cases b <;> rfl
abbrev grd (bs : List Bool) (st : St) (f : St → Option R) : Option R := match fits bs st.tmps with
  | true => f ⟨rb bs st.tmps, st.mem⟩
  | false => none
abbrev roundG (again : St → Option R) (mk : Masks) (K : Ex → St → Option R) : Ex → St → Option R := fun e st' => match e with
  | .normal => grd mk.head st' again
  | .exit id => grd mk.out st' (K (.exit id))
  | .ret => grd mk.ret st' (K .ret)
def loopG (body : St → (Ex → St → Option R) → Option R) (mk : Masks) : Nat → St → (Ex → St → Option R) → Option R
  | 0, _, _ => none
  | n + 1, st, K => body st (roundG (fun st' => loopG body mk n st' K) mk K)
noncomputable def loopW (body : St → (Ex → St → Option R) → Option R) (mk : Masks) (st : St) (K : Ex → St → Option R) : Option R := lim fun n => loopG body mk n st K

section
variable (C : Cfg) (fid : Nat) (callP : Nat → List AV → Option AV) (callI : Nat → List AV → Mem → Option (AV × Mem))
noncomputable def execW : Code → St → (Ex → St → Option R) → Option R
  | .skip, st, K => K .normal st
  | .region id ops d, st, K => match d with
    | false => runOps C fid callP callI none ops (List.range ops.size) st (K .normal)
    | true => match drawOk3 C.P ops (ordOf (C.ord fid id) ops.size) (C.ahd fid id) (C.two fid id) with
      | true => runOps C fid callP callI (some st.mem.length) ops (ordOf (C.ord fid id) ops.size) ⟨st.tmps, reserve st.mem (rankA ops ops.size)⟩ (fun st' => twoK C.P ops st' (K .normal) (C.two fid id))
      | false => none
  | .seq a b, st, K => execW a st (seqK (fun st' => execW b st' K) K)
  | .cond c a b, st, K => ifA (ev st.tmps c) (execW a st K) (execW b st K)
  | .block id b, st, K => execW b st (blockK id K)
  | .loop b, st, K => grd (C.mask fid (keyOf b)).head st fun st' => loopW (execW b) (C.mask fid (keyOf b)) st' K
  | .exit id, st, K => K (.exit id) st
  | .ret, st, K => K .ret st
  | _, _, _ => none
end

/-- What runs with what follows only at its end. -/
def Lin (f : St → (Ex → St → Option R) → Option R) : Prop := ∀ st, f st = (fun _ => none) ∨ ∃ e s, f st = fun K => K e s

theorem runOps_lin (C : Cfg) (fid : Nat) (callP : Nat → List AV → Option AV) (callI : Nat → List AV → Mem → Option (AV × Mem)) (base : Option Nat) (ops : Array Oper) (l : List Nat) (st : St) :
    ((fun K : Ex → St → Option R => runOps C fid callP callI base ops l st (K .normal)) = fun _ => none) ∨ ∃ e s, (fun K : Ex → St → Option R => runOps C fid callP callI base ops l st (K .normal)) = fun K => K e s := by
  cases h : runF C fid callP callI base ops l st with
  | none => left; funext K; rw [runOps_eq, h]; rfl
  | some s => right; refine ⟨.normal, s, ?_⟩; funext K; rw [runOps_eq, h]; rfl

theorem grd_lin {bs : List Bool} {st : St} {f : St → (Ex → St → Option R) → Option R} (h : Lin f) : ((fun K => grd bs st fun s => f s K) = fun _ => none) ∨ ∃ e s, (fun K => grd bs st fun s => f s K) = fun K => K e s := by
  unfold grd
  cases fits bs st.tmps with
  | false => exact .inl rfl
  | true => exact h _

theorem roundG_mono {again again' : St → Option R} {mk : Masks} {K : Ex → St → Option R} (h : ∀ s r, again s = some r → again' s = some r) {e : Ex} {s : St} {r : R} (hr : roundG again mk K e s = some r) : roundG again' mk K e s = some r := by
  cases e with
  | normal =>
    simp only [roundG, grd] at hr ⊢
    cases hf : fits mk.head s.tmps with
    | true => rw [hf] at hr; exact h _ _ hr
    | false => rw [hf] at hr; cases hr
  | exit id => exact hr
  | ret => exact hr
theorem Lin.mono {f : St → (Ex → St → Option R) → Option R} (h : Lin f) {st : St} {K K' : Ex → St → Option R} (hK : ∀ e s r, K e s = some r → K' e s = some r) {r : R} (hr : f st K = some r) : f st K' = some r := by
  rcases h st with h | ⟨e, s, h⟩
  · rw [h] at hr; cases hr
  · rw [h] at hr ⊢; exact hK _ _ _ hr
theorem loopG_rise {body : St → (Ex → St → Option R) → Option R} (hb : Lin body) (mk : Masks) (K : Ex → St → Option R) : ∀ n st r, loopG body mk n st K = some r → loopG body mk (n + 1) st K = some r := by
  intro n
  induction n with
  | zero => intro st r h; cases h
  | succ n ih =>
    intro st r h
    rw [loopG] at h ⊢
    exact hb.mono (fun e s r hr => roundG_mono (fun s r => ih s r) hr) h
theorem loopW_eq {body : St → (Ex → St → Option R) → Option R} (hb : Lin body) (mk : Masks) (st : St) (K : Ex → St → Option R) : loopW body mk st K = body st (roundG (fun st' => loopW body mk st' K) mk K) := by
  apply opt_ext
  intro r
  have hrise : ∀ st, Rise fun n => loopG body mk n st K := fun st n r h => loopG_rise hb mk K n st r h
  constructor
  · intro h
    obtain ⟨n, hn⟩ := lim_some h
    cases n with
    | zero => cases hn
    | succ n =>
      rw [loopG] at hn
      exact hb.mono (fun e s r hr => roundG_mono (fun s r h => (hrise s).lim h) hr) hn
  · intro h
    rcases hb st with hx | ⟨e, s, hx⟩
    · rw [hx] at h; cases h
    · have : ∃ n, loopG body mk (n + 1) st K = some r := by
        rw [hx] at h
        simp only [loopG]
        rw [hx]
        simp only
        cases e with
        | normal =>
          simp only [roundG, grd] at h ⊢
          cases hf : fits mk.head s.tmps with
          | true => rw [hf] at h; exact lim_some h
          | false => rw [hf] at h; cases h
        | exit id => exact ⟨0, h⟩
        | ret => exact ⟨0, h⟩
      obtain ⟨n, hn⟩ := this
      exact (hrise st).lim hn
theorem loopG_lin {body : St → (Ex → St → Option R) → Option R} (hb : Lin body) (mk : Masks) : ∀ n, Lin (loopG body mk n)
  | 0 => fun st => .inl rfl
  | n + 1 => fun st => by
    have ih := loopG_lin hb mk n
    rcases hb st with hx | ⟨e, s, hx⟩
    · left; funext K; simp only [loopG]; rw [hx]
    · cases e with
      | normal =>
        have : loopG body mk (n + 1) st = fun K => grd mk.head s fun s' => loopG body mk n s' K := by
          funext K; simp only [loopG]; rw [hx]
        rw [this]
        exact grd_lin ih
      | exit id =>
        have : loopG body mk (n + 1) st = fun K => grd mk.out s (K (.exit id)) := by
          funext K; simp only [loopG]; rw [hx]
        rw [this]
        unfold grd
        cases fits mk.out s.tmps with
        | false => exact .inl rfl
        | true => exact .inr ⟨_, _, rfl⟩
      | ret =>
        have : loopG body mk (n + 1) st = fun K => grd mk.ret s (K .ret) := by
          funext K; simp only [loopG]; rw [hx]
        rw [this]
        unfold grd
        cases fits mk.ret s.tmps with
        | false => exact .inl rfl
        | true => exact .inr ⟨_, _, rfl⟩
open Classical in
theorem loopW_lin {body : St → (Ex → St → Option R) → Option R} (hb : Lin body) (mk : Masks) : Lin (loopW body mk) := by
  intro st
  by_cases h : ∃ n e s, loopG body mk n st = fun K => K e s
  · obtain ⟨n, e, s, hn⟩ := h
    right
    refine ⟨e, s, ?_⟩
    funext K
    apply opt_ext
    intro r
    have hrise : Rise fun n => loopG body mk n st K := fun n r h => loopG_rise hb mk K n st r h
    constructor
    · intro hr
      obtain ⟨n', hn'⟩ := lim_some hr
      have h1 : loopG body mk (max n n') st K = some r := hrise.le (Nat.le_max_right n n') hn'
      cases hk : K e s with
      | some r' =>
        have h2 : loopG body mk (max n n') st K = some r' := hrise.le (Nat.le_max_left n n') (r := r') (by simp only [hn]; exact hk)
        rw [h2] at h1
        exact h1
      | none =>
        rcases loopG_lin hb mk (max n n') st with hx | ⟨e', s', hx⟩
        · rw [hx] at h1; cases h1
        · have h3 : loopG body mk (max n n') st (fun e2 s2 => if e2 = e ∧ s2 = s then some r else none) = some r := by
            have hrise' : Rise fun n => loopG body mk n st (fun e2 s2 => if e2 = e ∧ s2 = s then some r else none) := fun n r h => loopG_rise hb mk _ n st r h
            exact hrise'.le (Nat.le_max_left n n') (by simp only [hn]; simp)
          rw [hx] at h3 h1
          simp only at h3 h1
          split at h3
          · rename_i he; obtain ⟨rfl, rfl⟩ := he; rw [hk] at h1; cases h1
          · cases h3
    · intro hr
      exact hrise.lim (k := n) (by simp only [hn]; exact hr)
  · left
    funext K
    have : ∀ r, ¬ loopW body mk st K = some r := by
      intro r hr
      obtain ⟨n, hn⟩ := lim_some hr
      rcases loopG_lin hb mk n st with hx | ⟨e, s, hx⟩
      · rw [hx] at hn; cases hn
      · exact h ⟨n, e, s, hx⟩
    cases hx : loopW body mk st K with
    | none => rfl
    | some r => exact absurd hx (this r)

section
variable {C : Cfg} {fid : Nat} {callP : Nat → List AV → Option AV} {callI : Nat → List AV → Mem → Option (AV × Mem)}
theorem execW_lin : ∀ c : Code, Lin (R := R) (execW C fid callP callI c) := by
  intro c
  induction c with
  | skip => exact fun st => .inr ⟨.normal, st, rfl⟩
  | region id ops d =>
    intro st
    cases d with
    | false =>
      have : execW (R := R) C fid callP callI (.region id ops false) st = fun K => runOps C fid callP callI none ops (List.range ops.size) st (K .normal) := by funext K; simp only [execW]
      rw [this]; exact runOps_lin ..
    | true =>
      cases hd : drawOk3 C.P ops (ordOf (C.ord fid id) ops.size) (C.ahd fid id) (C.two fid id) with
      | true =>
        have : execW (R := R) C fid callP callI (.region id ops true) st = fun K => runOps C fid callP callI (some st.mem.length) ops (ordOf (C.ord fid id) ops.size) ⟨st.tmps, reserve st.mem (rankA ops ops.size)⟩ (fun st' => twoK C.P ops st' (K .normal) (C.two fid id)) := by funext K; simp only [execW, hd]
        rw [this]
        have hl := runOps_eq (R := R) (C := C) (fid := fid) (callP := callP) (callI := callI) (some st.mem.length) ops (ordOf (C.ord fid id) ops.size) ⟨st.tmps, reserve st.mem (rankA ops ops.size)⟩
        cases hr : runF C fid callP callI (some st.mem.length) ops (ordOf (C.ord fid id) ops.size) ⟨st.tmps, reserve st.mem (rankA ops ops.size)⟩ with
        | none => left; funext K; rw [hl, hr]; rfl
        | some s =>
          rcases twoK_lin (R := R) C.P ops s (C.two fid id) with ht | ht
          · left; funext K; rw [hl, hr]; exact ht _
          · right; exact ⟨.normal, s, by funext K; rw [hl, hr]; exact ht _⟩
      | false => left; funext K; simp only [execW, hd]
  | seq a b iha ihb =>
    intro st
    rcases iha st with h | ⟨e, s, h⟩
    · left; funext K; simp only [execW, h]
    · cases e with
      | normal =>
        rcases ihb s with h' | ⟨e', s', h'⟩
        · left; funext K; simp only [execW, h, seqK, h']
        · right; refine ⟨e', s', ?_⟩; funext K; simp only [execW, h, seqK, h']
      | exit id => right; refine ⟨.exit id, s, ?_⟩; funext K; simp only [execW, h, seqK]
      | ret => right; refine ⟨.ret, s, ?_⟩; funext K; simp only [execW, h, seqK]
  | cond co a b iha ihb =>
    intro st
    cases hv : ev st.tmps co with
    | bool v =>
      cases v with
      | true =>
        have : execW (R := R) C fid callP callI (.cond co a b) st = execW C fid callP callI a st := by funext K; simp only [execW, hv, ifA]
        rw [this]; exact iha st
      | false =>
        have : execW (R := R) C fid callP callI (.cond co a b) st = execW C fid callP callI b st := by funext K; simp only [execW, hv, ifA]
        rw [this]; exact ihb st
    | _ => left; funext K; simp only [execW, hv, ifA]
  | block id b ih =>
    intro st
    rcases ih st with h | ⟨e, s, h⟩
    · left; funext K; simp only [execW, h]
    · cases e with
      | normal => right; refine ⟨.normal, s, ?_⟩; funext K; simp only [execW, h, blockK]
      | exit j =>
        cases hj : j == id with
        | true => right; refine ⟨.normal, s, ?_⟩; funext K; simp only [execW, h, blockK, hj]
        | false => right; refine ⟨.exit j, s, ?_⟩; funext K; simp only [execW, h, blockK, hj]
      | ret => right; refine ⟨.ret, s, ?_⟩; funext K; simp only [execW, h, blockK]
  | loop b ih =>
    intro st
    have : execW (R := R) C fid callP callI (.loop b) st = fun K => grd (C.mask fid (keyOf b)).head st fun st' => loopW (execW C fid callP callI b) (C.mask fid (keyOf b)) st' K := by funext K; simp only [execW]
    rw [this]; exact grd_lin (loopW_lin ih _)
  | exit id => exact fun st => .inr ⟨.exit id, st, rfl⟩
  | ret => exact fun st => .inr ⟨.ret, st, rfl⟩
  | rangeFunc => exact fun st => .inl rfl
  | scope => exact fun st => .inl rfl
  | label => exact fun st => .inl rfl
  | goto => exact fun st => .inl rfl
  | refuse => exact fun st => .inl rfl
end

/-! ### More callees known, more answers -/
section
variable {C : Cfg} {fid : Nat} {cp cp' : Nat → List AV → Option AV} {ci ci' : Nat → List AV → Mem → Option (AV × Mem)}
def CLe (cp cp' : Nat → List AV → Option AV) (ci ci' : Nat → List AV → Mem → Option (AV × Mem)) : Prop := (∀ g vs v, cp g vs = some v → cp' g vs = some v) ∧ ∀ g vs m r, ci g vs m = some r → ci' g vs m = some r
theorem callK_le (h : CLe cp cp' ci ci') {d : Option Nat} {g : Nat} {vs : List AV} {m : Mem} {K : AV → Mem → Option R} {x : R} (hx : callK C fid cp ci d g vs m K = some x) : callK C fid cp' ci' d g vs m K = some x := by
  unfold callK at hx ⊢
  cases hl : C.lib g with
  | some l => rw [hl] at hx; exact hx
  | none =>
    rw [hl] at hx
    simp only at hx ⊢
    cases hi : C.inl fid g with
    | true =>
      rw [hi] at hx
      cases d with
      | some d => exact hx
      | none =>
        simp only [Option.bind_eq_some_iff] at hx ⊢
        obtain ⟨r, hr, hx⟩ := hx
        cases ht : C.thaw fid g with
        | false => rw [ht] at hr; exact ⟨r, h.2 _ _ _ _ hr, hx⟩
        | true =>
          rw [ht] at hr
          simp only [thawCall, Option.bind_eq_some_iff] at hr ⊢
          obtain ⟨r1, h1, q, h2, h3⟩ := hr
          exact ⟨r, ⟨r1, h1, q, h.2 _ _ _ _ h2, h3⟩, hx⟩
    | false =>
      rw [hi] at hx
      simp only [Option.bind_eq_some_iff] at hx ⊢
      obtain ⟨r, hr, hx⟩ := hx
      refine ⟨r, ?_, hx⟩
      unfold pcall at hr ⊢
      simp only [Option.bind_eq_some_iff] at hr ⊢
      obtain ⟨r1, h1, h2⟩ := hr
      refine ⟨r1, h1, ?_⟩
      split at h2
      · cases h2
      · rename_i hne
        rw [if_neg hne]
        simp only [Option.map_eq_some_iff] at h2 ⊢
        obtain ⟨v, hv, h2⟩ := h2
        exact ⟨v, h.1 _ _ _ hv, h2⟩
theorem opF_le (h : CLe cp cp' ci ci') {d : Option Nat} {o : Oper} {ρ : Operand → AV} {m : Mem} {x : AV × Mem} (hx : opF C fid cp ci d o ρ m = some x) : opF C fid cp' ci' d o ρ m = some x := by
  unfold opF opK at hx ⊢
  cases ho : o.op with
  | call c =>
    rw [ho] at hx
    simp only at hx ⊢
    cases hc : c.callee with
    | value f =>
      rw [hc] at hx
      simp only [Option.bind_eq_some_iff] at hx ⊢
      obtain ⟨gc, h1, hx⟩ := hx
      exact ⟨gc, h1, callK_le h hx⟩
    | _ => rw [hc] at hx; exact hx
  | _ => rw [ho] at hx; exact hx
theorem stepF_le (h : CLe cp cp' ci ci') {base : Option Nat} {ops : Array Oper} {i : Nat} {st s : St} (hx : stepF C fid cp ci base ops i st = some s) : stepF C fid cp' ci' base ops i st = some s := by
  unfold stepF at hx ⊢
  cases hi : ops[i]? with
  | none => rw [hi] at hx; cases hx
  | some o =>
    rw [hi] at hx
    simp only [Option.map_eq_some_iff] at hx ⊢
    obtain ⟨r, hr, hx⟩ := hx
    refine ⟨r, ?_, hx⟩
    unfold opG at hr ⊢
    cases hg : o.guard with
    | none => rw [hg] at hr; exact opF_le h hr
    | some jw =>
      obtain ⟨j, want⟩ := jw
      rw [hg] at hr
      simp only at hr ⊢
      cases hd : (ops[j]?).bind (·.dst) with
      | none => rw [hd] at hr; cases hr
      | some g =>
        rw [hd] at hr
        simp only at hr ⊢
        split at hr
        · exact hr
        · split at hr
          · split at hr
            · rename_i hb; rw [if_pos hb]; exact opF_le h hr
            · rename_i hb; rw [if_neg hb]; exact hr
          · cases hr
theorem runF_le (h : CLe cp cp' ci ci') {base : Option Nat} {ops : Array Oper} : ∀ (l : List Nat) {st s : St}, runF C fid cp ci base ops l st = some s → runF C fid cp' ci' base ops l st = some s
  | [], _, _, hx => hx
  | i :: l, st, s, hx => by
    simp only [runF, Option.bind_eq_some_iff] at hx ⊢
    obtain ⟨s1, h1, h2⟩ := hx
    exact ⟨s1, stepF_le h h1, runF_le h l h2⟩
theorem runOps_le (h : CLe cp cp' ci ci') {base : Option Nat} {ops : Array Oper} {l : List Nat} {st : St} {K : St → Option R} {r : R} (hx : runOps C fid cp ci base ops l st K = some r) : runOps C fid cp' ci' base ops l st K = some r := by
  rw [runOps_eq] at hx ⊢
  simp only [Option.bind_eq_some_iff] at hx ⊢
  obtain ⟨s, h1, h2⟩ := hx
  exact ⟨s, runF_le h l h1, h2⟩
theorem execW_le (h : CLe cp cp' ci ci') : ∀ (c : Code) (st : St) (K : Ex → St → Option R) (r : R), execW C fid cp ci c st K = some r → execW C fid cp' ci' c st K = some r := by
  intro c
  induction c with
  | region id ops d =>
    intro st K r hx
    cases d with
    | false => simp only [execW] at hx ⊢; exact runOps_le h hx
    | true =>
      simp only [execW] at hx ⊢
      cases hd : drawOk3 C.P ops (ordOf (C.ord fid id) ops.size) (C.ahd fid id) (C.two fid id) with
      | true => rw [hd] at hx; exact runOps_le h hx
      | false => rw [hd] at hx; cases hx
  | seq a b iha ihb =>
    intro st K r hx
    simp only [execW] at hx ⊢
    have h1 := iha _ _ _ hx
    refine (execW_lin a).mono (fun e s r hr => ?_) h1
    cases e with
    | normal => exact ihb _ _ _ hr
    | exit id => exact hr
    | ret => exact hr
  | cond co a b iha ihb =>
    intro st K r hx
    simp only [execW] at hx ⊢
    unfold ifA at hx ⊢
    split at hx
    · split at hx
      · exact iha _ _ _ hx
      · exact ihb _ _ _ hx
    · cases hx
  | block id b ih =>
    intro st K r hx
    simp only [execW] at hx ⊢
    exact ih _ _ _ hx
  | loop b ih =>
    intro st K r hx
    simp only [execW, grd] at hx ⊢
    cases hf : fits (C.mask fid (keyOf b)).head st.tmps with
    | false => rw [hf] at hx; cases hx
    | true =>
      rw [hf] at hx
      simp only at hx ⊢
      obtain ⟨n, hn⟩ := lim_some hx
      have : ∀ n st, loopG (execW C fid cp ci b) (C.mask fid (keyOf b)) n st K = some r → loopG (execW C fid cp' ci' b) (C.mask fid (keyOf b)) n st K = some r := by
        intro n
        induction n with
        | zero => intro st hx; cases hx
        | succ n ihn =>
          intro st hx
          simp only [loopG] at hx ⊢
          have h1 := ih _ _ _ hx
          rcases execW_lin (R := R) (C := C) (fid := fid) (callP := cp') (callI := ci') b st with hl | ⟨e, s, hl⟩
          · rw [hl] at h1; cases h1
          · rw [hl] at h1 ⊢
            simp only at h1 ⊢
            cases e with
            | normal =>
              simp only [roundG, grd] at h1 ⊢
              cases hf' : fits (C.mask fid (keyOf b)).head s.tmps with
              | true => rw [hf'] at h1; exact ihn _ h1
              | false => rw [hf'] at h1; cases h1
            | exit id => exact h1
            | ret => exact h1
      exact Rise.lim (F := fun n => loopG (execW C fid cp' ci' b) (C.mask fid (keyOf b)) n _ K) (fun n r h => loopG_rise (execW_lin b) _ K n _ r h) (this n _ hn)
  | _ => intro st K r hx; exact hx
end

/-! ### At the limit -/
structure Chain where
  cp : Nat → Nat → List AV → Option AV
  ci : Nat → Nat → List AV → Mem → Option (AV × Mem)
  le : ∀ k, CLe (cp k) (cp (k + 1)) (ci k) (ci (k + 1))
theorem CLe.refl (cp : Nat → List AV → Option AV) (ci : Nat → List AV → Mem → Option (AV × Mem)) : CLe cp cp ci ci := ⟨fun _ _ _ h => h, fun _ _ _ _ h => h⟩
theorem CLe.trans {a b c : Nat → List AV → Option AV} {a' b' c' : Nat → List AV → Mem → Option (AV × Mem)} (h : CLe a b a' b') (h' : CLe b c b' c') : CLe a c a' c' := ⟨fun g vs v x => h'.1 g vs v (h.1 g vs v x), fun g vs m r x => h'.2 g vs m r (h.2 g vs m r x)⟩
theorem Chain.up (X : Chain) {k n : Nat} (h : k ≤ n) : CLe (X.cp k) (X.cp n) (X.ci k) (X.ci n) := by
  induction h with
  | refl => exact CLe.refl _ _
  | step _ ih => exact ih.trans (X.le _)
/-- All that the limit answers some one answers. -/
structure Tends (X : Chain) (cp : Nat → List AV → Option AV) (ci : Nat → List AV → Mem → Option (AV × Mem)) : Prop where
  p : ∀ g vs v, cp g vs = some v → ∃ k, X.cp k g vs = some v
  i : ∀ g vs m r, ci g vs m = some r → ∃ k, X.ci k g vs m = some r
section
variable {X : Chain} {C : Cfg} {fid : Nat} {cp : Nat → List AV → Option AV} {ci : Nat → List AV → Mem → Option (AV × Mem)}
theorem callK_at (h : Tends X cp ci) {d : Option Nat} {g : Nat} {vs : List AV} {m : Mem} {K : AV → Mem → Option R} {x : R} (hx : callK C fid cp ci d g vs m K = some x) : ∃ k, callK C fid (X.cp k) (X.ci k) d g vs m K = some x := by
  unfold callK at hx ⊢
  cases hl : C.lib g with
  | some l => rw [hl] at hx; exact ⟨0, hx⟩
  | none =>
    rw [hl] at hx
    simp only at hx ⊢
    cases hi : C.inl fid g with
    | true =>
      rw [hi] at hx
      cases d with
      | some d => exact ⟨0, hx⟩
      | none =>
        simp only [Option.bind_eq_some_iff] at hx ⊢
        obtain ⟨r, hr, hx⟩ := hx
        cases ht : C.thaw fid g with
        | false =>
          rw [ht] at hr
          obtain ⟨k, hk⟩ := h.i _ _ _ _ hr
          exact ⟨k, r, hk, hx⟩
        | true =>
          rw [ht] at hr
          simp only [thawCall, Option.bind_eq_some_iff] at hr ⊢
          obtain ⟨r1, h1, q, h2, h3⟩ := hr
          obtain ⟨k, hk⟩ := h.i _ _ _ _ h2
          exact ⟨k, r, ⟨r1, h1, q, hk, h3⟩, hx⟩
    | false =>
      rw [hi] at hx
      simp only [Option.bind_eq_some_iff] at hx ⊢
      obtain ⟨r, hr, hx⟩ := hx
      unfold pcall at hr
      simp only [Option.bind_eq_some_iff] at hr
      obtain ⟨r1, h1, h2⟩ := hr
      split at h2
      · cases h2
      · rename_i hne
        simp only [Option.map_eq_some_iff] at h2
        obtain ⟨v, hv, h2⟩ := h2
        obtain ⟨k, hk⟩ := h.p _ _ _ hv
        refine ⟨k, r, ?_, hx⟩
        unfold pcall
        simp only [Option.bind_eq_some_iff]
        refine ⟨r1, h1, ?_⟩
        rw [if_neg hne]
        simp only [Option.map_eq_some_iff]
        exact ⟨v, hk, h2⟩
theorem opF_at (h : Tends X cp ci) {d : Option Nat} {o : Oper} {ρ : Operand → AV} {m : Mem} {x : AV × Mem} (hx : opF C fid cp ci d o ρ m = some x) : ∃ k, opF C fid (X.cp k) (X.ci k) d o ρ m = some x := by
  unfold opF opK at hx ⊢
  cases ho : o.op with
  | call c =>
    rw [ho] at hx
    simp only at hx ⊢
    cases hc : c.callee with
    | value f =>
      rw [hc] at hx
      simp only [Option.bind_eq_some_iff] at hx ⊢
      obtain ⟨gc, h1, hx⟩ := hx
      obtain ⟨k, hk⟩ := callK_at h hx
      exact ⟨k, gc, h1, hk⟩
    | _ => rw [hc] at hx; exact ⟨0, hx⟩
  | _ => rw [ho] at hx; exact ⟨0, hx⟩
theorem stepF_at (h : Tends X cp ci) {base : Option Nat} {ops : Array Oper} {i : Nat} {st s : St} (hx : stepF C fid cp ci base ops i st = some s) : ∃ k, stepF C fid (X.cp k) (X.ci k) base ops i st = some s := by
  unfold stepF at hx ⊢
  cases hi : ops[i]? with
  | none => rw [hi] at hx; cases hx
  | some o =>
    rw [hi] at hx
    simp only [Option.map_eq_some_iff] at hx ⊢
    obtain ⟨r, hr, hx⟩ := hx
    unfold opG at hr ⊢
    cases hg : o.guard with
    | none => rw [hg] at hr; obtain ⟨k, hk⟩ := opF_at h hr; exact ⟨k, r, hk, hx⟩
    | some jw =>
      obtain ⟨j, want⟩ := jw
      rw [hg] at hr
      simp only at hr ⊢
      cases hd : (ops[j]?).bind (·.dst) with
      | none => rw [hd] at hr; cases hr
      | some g =>
        rw [hd] at hr
        simp only at hr ⊢
        split at hr
        · exact ⟨0, r, hr, hx⟩
        · split at hr
          · split at hr
            · rename_i hb; subst hb; obtain ⟨k, hk⟩ := opF_at h hr; exact ⟨k, r, by simpa using hk, hx⟩
            · rename_i hb; exact ⟨0, r, by rw [if_neg hb]; exact hr, hx⟩
          · cases hr
theorem runF_at (h : Tends X cp ci) {base : Option Nat} {ops : Array Oper} : ∀ (l : List Nat) {st s : St}, runF C fid cp ci base ops l st = some s → ∃ k, runF C fid (X.cp k) (X.ci k) base ops l st = some s
  | [], _, _, hx => ⟨0, hx⟩
  | i :: l, st, s, hx => by
    simp only [runF, Option.bind_eq_some_iff] at hx ⊢
    obtain ⟨s1, h1, h2⟩ := hx
    obtain ⟨k1, h1⟩ := stepF_at h h1
    obtain ⟨k2, h2⟩ := runF_at h l h2
    exact ⟨max k1 k2, s1, stepF_le (X.up (Nat.le_max_left ..)) h1, runF_le (X.up (Nat.le_max_right ..)) l h2⟩
theorem runOps_at (h : Tends X cp ci) {base : Option Nat} {ops : Array Oper} {l : List Nat} {st : St} {K : St → Option R} {r : R} (hx : runOps C fid cp ci base ops l st K = some r) : ∃ k, runOps C fid (X.cp k) (X.ci k) base ops l st K = some r := by
  rw [runOps_eq] at hx
  simp only [Option.bind_eq_some_iff] at hx
  obtain ⟨s, h1, h2⟩ := hx
  obtain ⟨k, h1⟩ := runF_at h l h1
  exact ⟨k, by rw [runOps_eq, h1]; exact h2⟩
/-- A run that ends in the row's run. -/
theorem lin_end {f : St → (Ex → St → Option R) → Option R} (hf : Lin f) {st : St} {K : Ex → St → Option R} {r : R} (h : f st K = some r) : ∃ e s, K e s = some r ∧ ∀ K', f st K' = K' e s := by
  rcases hf st with hx | ⟨e, s, hx⟩
  · rw [hx] at h; cases h
  · exact ⟨e, s, by rw [hx] at h; exact h, fun K' => by rw [hx]⟩
theorem execW_at (h : Tends X cp ci) : ∀ (c : Code) (st : St) (K : Ex → St → Option R) (r : R), execW C fid cp ci c st K = some r → ∃ k, execW C fid (X.cp k) (X.ci k) c st K = some r := by
  intro c
  induction c with
  | region id ops d =>
    intro st K r hx
    cases d with
    | false => simp only [execW] at hx ⊢; exact runOps_at h hx
    | true =>
      simp only [execW] at hx ⊢
      cases hd : drawOk3 C.P ops (ordOf (C.ord fid id) ops.size) (C.ahd fid id) (C.two fid id) with
      | true => rw [hd] at hx; exact runOps_at h hx
      | false => rw [hd] at hx; cases hx
  | seq a b iha ihb =>
    intro st K r hx
    simp only [execW] at hx ⊢
    obtain ⟨k1, h1⟩ := iha _ _ _ hx
    obtain ⟨e, s, h2, h3⟩ := lin_end (execW_lin a) h1
    cases e with
    | normal =>
      obtain ⟨k2, h4⟩ := ihb _ _ _ h2
      refine ⟨max k1 k2, ?_⟩
      have h5 : execW C fid (X.cp k1) (X.ci k1) a st (seqK (fun st' => execW C fid (X.cp (max k1 k2)) (X.ci (max k1 k2)) b st' K) K) = some r := by
        rw [h3]; exact execW_le (X.up (Nat.le_max_right ..)) b _ _ _ h4
      exact execW_le (X.up (Nat.le_max_left ..)) a _ _ _ h5
    | exit id => exact ⟨k1, by rw [h3]; exact h2⟩
    | ret => exact ⟨k1, by rw [h3]; exact h2⟩
  | cond co a b iha ihb =>
    intro st K r hx
    simp only [execW] at hx ⊢
    unfold ifA at hx ⊢
    split at hx
    · split at hx
      · exact iha _ _ _ hx
      · exact ihb _ _ _ hx
    · cases hx
  | block id b ih =>
    intro st K r hx
    simp only [execW] at hx ⊢
    exact ih _ _ _ hx
  | loop b ih =>
    intro st K r hx
    simp only [execW, grd] at hx ⊢
    cases hf : fits (C.mask fid (keyOf b)).head st.tmps with
    | false => rw [hf] at hx; cases hx
    | true =>
      rw [hf] at hx
      simp only at hx ⊢
      obtain ⟨n, hn⟩ := lim_some hx
      have : ∀ n st, loopG (execW C fid cp ci b) (C.mask fid (keyOf b)) n st K = some r → ∃ k, loopW (execW C fid (X.cp k) (X.ci k) b) (C.mask fid (keyOf b)) st K = some r := by
        intro n
        induction n with
        | zero => intro st hx; cases hx
        | succ n ihn =>
          intro st hx
          simp only [loopG] at hx
          obtain ⟨k1, h1⟩ := ih _ _ _ hx
          obtain ⟨e, s, h2, h3⟩ := lin_end (execW_lin b) h1
          have fin : (∀ k, k1 ≤ k → roundG (fun st' => loopW (execW C fid (X.cp k) (X.ci k) b) (C.mask fid (keyOf b)) st' K) (C.mask fid (keyOf b)) K e s = some r → loopW (execW C fid (X.cp k) (X.ci k) b) (C.mask fid (keyOf b)) st K = some r) := by
            intro k hk hr
            rw [loopW_eq (execW_lin b)]
            exact execW_le (X.up hk) b _ _ _ (by rw [h3]; exact hr)
          cases e with
          | normal =>
            simp only [roundG, grd] at h2
            cases hf' : fits (C.mask fid (keyOf b)).head s.tmps with
            | true =>
              rw [hf'] at h2
              obtain ⟨k2, h4⟩ := ihn _ h2
              refine ⟨max k1 k2, fin _ (Nat.le_max_left ..) ?_⟩
              simp only [roundG, grd, hf']
              have h5 : execW C fid (X.cp k2) (X.ci k2) (.loop b) ⟨rb (C.mask fid (keyOf b)).head s.tmps, s.mem⟩ K = loopW (execW C fid (X.cp k2) (X.ci k2) b) (C.mask fid (keyOf b)) ⟨rb (C.mask fid (keyOf b)).head s.tmps, s.mem⟩ K := by
                have hfr : ∀ (bs : List Bool) (ts : List AV), fits bs (rb bs ts) = true := by
                  intro bs
                  induction bs with
                  | nil => intro ts; rfl
                  | cons b bs ihb => intro ts; simp only [rb, fits]; exact ihb _
                simp only [execW, grd, hfr, rb_idem]
              have h6 := execW_le (C := C) (fid := fid) (X.up (Nat.le_max_right k1 k2)) (.loop b) _ _ _ (h5.trans h4)
              have hfr : ∀ (bs : List Bool) (ts : List AV), fits bs (rb bs ts) = true := by
                intro bs
                induction bs with
                | nil => intro ts; rfl
                | cons b bs ihb => intro ts; simp only [rb, fits]; exact ihb _
              simpa only [execW, grd, hfr, rb_idem] using h6
            | false => rw [hf'] at h2; cases h2
          | exit id => exact ⟨k1, fin _ (Nat.le_refl _) h2⟩
          | ret => exact ⟨k1, fin _ (Nat.le_refl _) h2⟩
      exact this n _ hn
  | _ => intro st K r hx; exact ⟨0, hx⟩
end

/-! ### Calls -/
noncomputable def acallW (C : Cfg) : Nat → Nat → List AV → Mem → Option (AV × Mem)
  | 0, _, _, _ => none
  | k + 1, f, args, m => match C.P.funcs[f]? with
    | none => none
    | some fn => match fn.body with
      | none => none
      | some c => execW C f (acallP (acallW C k)) (acallW C k) c ⟨args ++ List.replicate (fn.ntmps - args.length) .any, m⟩ (finK C.P fn.results.toList)
noncomputable def AC (C : Cfg) (f : Nat) (args : List AV) (m : Mem) : Option (AV × Mem) := lim fun k => acallW C k f args m
noncomputable def AP (C : Cfg) : Nat → List AV → Option AV := acallP (AC C)
theorem acallP_le {ci ci' : Nat → List AV → Mem → Option (AV × Mem)} (h : ∀ g vs m r, ci g vs m = some r → ci' g vs m = some r) : CLe (acallP ci) (acallP ci') ci ci' := by
  refine ⟨fun g vs v hx => ?_, h⟩
  unfold acallP at hx ⊢
  simp only [Option.bind_eq_some_iff] at hx ⊢
  obtain ⟨r, h1, h2⟩ := hx
  exact ⟨r, h _ _ _ _ h1, h2⟩
theorem acallW_rise (C : Cfg) : ∀ k f args m r, acallW C k f args m = some r → acallW C (k + 1) f args m = some r := by
  intro k
  induction k with
  | zero => intro f args m r h; cases h
  | succ k ih =>
    intro f args m r h
    rw [acallW] at h ⊢
    cases hf : C.P.funcs[f]? with
    | none => rw [hf] at h; cases h
    | some fn =>
      rw [hf] at h
      simp only at h ⊢
      cases hb : fn.body with
      | none => rw [hb] at h; cases h
      | some c =>
        rw [hb] at h
        exact execW_le (acallP_le fun g vs m r => ih g vs m r) c _ _ _ h
noncomputable def chainOf (C : Cfg) : Chain := ⟨fun k => acallP (acallW C k), fun k => acallW C k, fun k => acallP_le (acallW_rise C k)⟩
theorem tends (C : Cfg) : Tends (chainOf C) (AP C) (AC C) := by
  refine ⟨fun g vs v h => ?_, fun g vs m r h => lim_some h⟩
  unfold AP acallP at h
  simp only [Option.bind_eq_some_iff] at h
  obtain ⟨r, h1, h2⟩ := h
  obtain ⟨k, hk⟩ := lim_some h1
  refine ⟨k, ?_⟩
  show acallP (acallW C k) g vs = some v
  unfold acallP
  simp only [Option.bind_eq_some_iff]
  exact ⟨r, hk, h2⟩
theorem AC_eq (C : Cfg) (f : Nat) (args : List AV) (m : Mem) {fn : Func} {c : Code} (hf : C.P.funcs[f]? = some fn) (hb : fn.body = some c) :
    AC C f args m = execW C f (AP C) (AC C) c ⟨args ++ List.replicate (fn.ntmps - args.length) .any, m⟩ (finK C.P fn.results.toList) := by
  apply opt_ext
  intro r
  constructor
  · intro h
    obtain ⟨k, hk⟩ := lim_some h
    cases k with
    | zero => cases hk
    | succ k =>
      rw [acallW, hf] at hk
      simp only [hb] at hk
      exact execW_le (acallP_le fun g vs m r hr => Rise.lim (F := fun k => acallW C k g vs m) (fun k r h => acallW_rise C k g vs m r h) hr) c _ _ _ hk
  · intro h
    obtain ⟨k, hk⟩ := execW_at (tends C) c _ _ _ h
    refine Rise.lim (F := fun k => acallW C k f args m) (fun k r h => acallW_rise C k f args m r h) (k := k + 1) ?_
    show acallW C (k + 1) f args m = some r
    rw [acallW, hf]
    simp only [hb]
    exact hk
end
end Go.Ab

/- The interpreter without fuel is sound. -/
set_option linter.unusedVariables false
set_option linter.unusedSimpArgs false
namespace Go.Ab
open Go.RowKit

section
variable {C : Cfg} {B : Nat} {w : World} {g : G} {m : Mem}
theorem execW_sound (hC : CfgOk C) {callI : Nat → List AV → Mem → Option (AV × Mem)} (hI : IOk C callI) {R : Type} {fid : Nat} : ∀ (c : Code) (st : St) (K : Ex → St → Option R) (r : R) (a : Act) (w : World) (g : G) (Q : Exit → Act → World → Prop),
    execW C fid (acallP callI) callI c st K = some r → StR B w g st a → After C B w g a K r Q → c.wp C.P Q a w := by
  intro c
  induction c with
  | skip =>
    intro st K r a w g Q h hs hq
    exact wp_skip (hq .normal st a w g h hs (Step.refl _ _ _) rfl)
  | region id ops d =>
    intro st K r a w g Q h hs hq
    simp only [execW] at h
    cases d with
    | false =>
      simp only at h
      rw [runOps_eq] at h
      simp only [Option.bind_eq_some_iff] at h
      obtain ⟨s', hr, hK⟩ := h
      exact wp_region (runF_wp hC hI _ st s' a w g hr hs fun a' w' g' hs' s hd => hq .normal s' a' w' g' hK hs' s hd)
    | true =>
      simp only at h
      split at h
      · rename_i hok
        cases ht : C.two fid id with
        | nil =>
          rw [ht] at hok h
          exact draw_wp hC hI (drawOk_of hok) h hs fun s' a' w' g' hK hs' s hd => hq .normal s' a' w' g' hK hs' s hd
        | cons two sp =>
          rw [ht] at hok h
          exact draw_wp2 hC hI hok h hs fun s' a' w' g' hK hs' s hd => hq .normal s' a' w' g' hK hs' s hd
      · cases h
  | seq x y ihx ihy =>
    intro st K r a w g Q h hs hq
    simp only [execW] at h
    refine wp_seq (ihx st _ r a w g _ h hs ?_)
    intro e st' a' w' g' hK hs' s hd
    cases e with
    | normal =>
      simp only [seqK] at hK
      exact ihy st' K r a' w' g' Q hK hs' fun e st'' a'' w'' g'' hK' hs'' s' hd' => hq e st'' a'' w'' g'' hK' hs'' (s.trans s') (hd'.trans hd)
    | exit id => exact hq (.exit id) st' a' w' g' hK hs' s hd
    | ret => exact hq .ret st' a' w' g' hK hs' s hd
  | cond co x y ihx ihy =>
    intro st K r a w g Q h hs hq
    simp only [execW] at h
    have hV := ev_V hs.tmp co
    cases hv : ev st.tmps co with
    | bool b =>
      rw [hv] at h hV
      generalize hx : a.eval co = v at hV
      cases hV
      cases b with
      | true => exact wp_cond_true hx (ihx st K r a w g Q (by simpa [ifA] using h) hs hq)
      | false => exact wp_cond_false hx (ihy st K r a w g Q (by simpa [ifA] using h) hs hq)
    | _ => rw [hv] at h; simp [ifA] at h
  | block id x ih =>
    intro st K r a w g Q h hs hq
    simp only [execW] at h
    refine wp_block (ih st _ r a w g _ h hs ?_)
    intro e st' a' w' g' hK hs' s hd
    cases e with
    | normal => exact hq .normal st' a' w' g' hK hs' s hd
    | exit j =>
      simp only [blockK] at hK
      by_cases hj : j = id
      · have hb : (j == id) = true := by simpa using hj
        rw [hb] at hK
        simp only [exitOf, Exit.inBlock, if_pos hj]
        exact hq .normal st' a' w' g' hK hs' s hd
      · have hb : (j == id) = false := by simpa using hj
        rw [hb] at hK
        simp only [exitOf, Exit.inBlock, if_neg hj]
        exact hq (.exit j) st' a' w' g' hK hs' s hd
    | ret => exact hq .ret st' a' w' g' hK hs' s hd
  | loop x ih =>
    intro st K r a w g Q h hs hq
    simp only [execW] at h
    generalize C.mask fid (keyOf x) = mk at h
    have hmask : ∀ (l : List Bool) {w : World} {g : G} {st : St} {a : Act}, fits l st.tmps = true → StR B w g st a → StR B w g ⟨rb l st.tmps, st.mem⟩ a := fun l w g st a hf hs => ⟨by rw [rb_fits _ _ hf]; exact hs.tmp.mask _, hs.mem, hs.size⟩
    simp only [grd] at h
    cases hf0 : fits mk.head st.tmps with
    | false => rw [hf0] at h; cases h
    | true =>
    rw [hf0] at h
    have hs0 := hmask mk.head hf0 hs
    obtain ⟨n, hn⟩ := lim_some h
    have round : ∀ k (st : St) (a : Act) (w : World) (g : G), loopG (execW C fid (acallP callI) callI x) mk k st K = some r → StR B w g st a → After C B w g a K r Q → x.wp C.P (Exit.then (LW C.P x Q) Q) a w := by
      intro k
      induction k with
      | zero => intro st a w g h; simp [loopG] at h
      | succ k ihk =>
        intro st a w g h hs hq
        simp only [loopG] at h
        refine ih st _ r a w g _ h hs ?_
        intro e st' a' w' g' hK hs' s hd
        have hq' : After C B w' g' a' K r Q := fun e st'' a'' w'' g'' hK' hs'' s' hd' => hq e st'' a'' w'' g'' hK' hs'' (s.trans s') (hd'.trans hd)
        cases e with
        | normal =>
          simp only [roundG, grd] at hK
          cases hf : fits mk.head st'.tmps with
          | false => rw [hf] at hK; cases hK
          | true =>
            rw [hf] at hK
            exact lw_again (ihk _ a' w' g' hK (hmask _ hf hs') hq')
        | exit id =>
          simp only [roundG, grd] at hK
          cases hf : fits mk.out st'.tmps with
          | false => rw [hf] at hK; cases hK
          | true => rw [hf] at hK; exact hq (.exit id) _ a' w' g' hK (hmask _ hf hs') s hd
        | ret =>
          simp only [roundG, grd] at hK
          cases hf : fits mk.ret st'.tmps with
          | false => rw [hf] at hK; cases hK
          | true => rw [hf] at hK; exact hq .ret _ a' w' g' hK (hmask _ hf hs') s hd
    exact wp_loop_lw (round n _ a w g hn hs0 hq)
  | exit id =>
    intro st K r a w g Q h hs hq
    exact wp_exit (hq (.exit id) st a w g h hs (Step.refl _ _ _) rfl)
  | ret =>
    intro st K r a w g Q h hs hq
    exact wp_ret (hq .ret st a w g h hs (Step.refl _ _ _) rfl)
  | rangeFunc => intro st K r a w g Q h; simp [execW] at h
  | scope => intro st K r a w g Q h; simp [execW] at h
  | label => intro st K r a w g Q h; simp [execW] at h
  | goto => intro st K r a w g Q h; simp [execW] at h
  | refuse => intro st K r a w g Q h; simp [execW] at h

theorem acallW_sound (hC : CfgOk C) : ∀ k, IOk C (acallW C k) := by
  intro k
  induction k with
  | zero => intro f args m v m' h; simp [acallW] at h
  | succ k ih =>
    intro f args m v m' h
    simp only [acallW] at h
    cases hfn : C.P.funcs[f]? with
    | none => rw [hfn] at h; simp at h
    | some fn =>
      rw [hfn] at h
      simp only at h
      cases hb : fn.body with
      | none => rw [hb] at h; simp at h
      | some c =>
        rw [hb] at h
        simp only at h
        refine ⟨?_, fn, rfl, by simp [hb]⟩
        intro B w g vs hm hB hl hv
        refine calls_of_wp hfn hb ?_
        have hts : TmpR w g (args ++ List.replicate (fn.ntmps - args.length) .any) (vs ++ Array.replicate (fn.ntmps - vs.size) undef) := by
          refine ⟨by simp [hl], fun t => ?_⟩
          simp only [List.getD_eq_getElem?_getD, Array.getD_eq_getD_getElem?, List.getElem?_append, Array.getElem?_append]
          by_cases h1 : t < args.length
          · rw [if_pos h1, if_pos (by omega)]
            simpa [List.getD_eq_getElem?_getD, Array.getD_eq_getD_getElem?] using hv t h1
          · rw [if_neg h1, if_neg (by omega), List.getElem?_replicate]
            split <;> exact .any _
        refine execW_sound hC ih c _ _ (v, m') _ w g _ h ⟨hts, hm, hB⟩ ?_
        intro e st' a' w' g' hK hs' s hd
        have fin : (resultsA C.P st'.mem st'.tmps fn.results.toList).bind (fun vs => some (oneOf vs, st'.mem)) = some (v, m') → a'.defers = [] ∧ ∃ v', (results fn a'.tmps).run C.P w' = .ok v' w' ∧ ∃ v'' g'', Ending.returned v' = Ending.returned v'' ∧ Step B w g w' g'' ∧ MemR B w' g'' m' ∧ V w' g'' v v'' := by
          intro hK
          simp only [Option.bind_eq_some_iff, Option.some.injEq, Prod.mk.injEq] at hK
          obtain ⟨l, hl1, rfl, rfl⟩ := hK
          obtain ⟨vl, r1, r2, r3⟩ := results_sound (P := C.P) hs'.mem hs'.tmp _ l hl1
          refine ⟨hd, _, ?_, _, g', rfl, s, hs'.mem, oneOf_V r2 r3⟩
          rw [results_eq, Array.mapM_eq_mapM_toList]
          simp only [Sem.run_bind, Sem.run_map, r1, Result.andThen_ok, Sem.run_pure]
        cases e with
        | normal => exact fin (by simpa only [finK, resultsK_eq] using hK)
        | exit id => simp [finK] at hK
        | ret => exact fin (by simpa only [finK, resultsK_eq] using hK)

theorem AC_sound (hC : CfgOk C) : IOk C (AC C) := by
  intro f args m v m' h
  obtain ⟨k, hk⟩ := lim_some h
  exact acallW_sound hC k f args m v m' hk
end
end Go.Ab

/- The interpreter is sound inside a fence too: in the rounds of a range over a function. -/
set_option linter.unusedVariables false
set_option linter.unusedSimpArgs false
namespace Go.Ab
open Go.RowKit

/-- The widest fence, in a round or out of one. -/
def Fine (F : Fence) : Prop := F = Fence.wide ∨ ∃ l, F = Fence.wide.inRound l
theorem Fine.fn {F : Fence} (h : Fine F) (f : FuncId) : F.fn f := by
  rcases h with rfl | ⟨l, rfl⟩ <;> exact trivial
theorem Fine.depth {F : Fence} (h : Fine F) : F.depth = none := by
  rcases h with rfl | ⟨l, rfl⟩ <;> rfl
theorem Fine.calls {F : Fence} (h : Fine F) {n : Nat} {P : Program} {f : FuncId} {args : Array Value} {w : World} {R : Ending → World → Prop} (hc : Calls P f args w R) : CallsIn F n P f args w R := by
  rcases h with rfl | ⟨l, rfl⟩
  · exact callsIn_wide.2 hc
  · exact CallsIn.inRound l (callsIn_wide.2 hc)
theorem rowsIn_wide' {n : Nat} {P : Program} {row : String} {args : Array Value} {w : World} {R : Value → World → Prop} (h : Rows P row args w R) : RowsIn Fence.wide n P row args w R :=
  fun c cs _ => let ⟨v, w', r, s⟩ := h c cs; ⟨v, w', r, stepsIn_wide.2 s⟩
theorem Fine.rows {F : Fence} (h : Fine F) {n : Nat} {P : Program} {row : String} {args : Array Value} {w : World} {R : Value → World → Prop} (hc : Rows P row args w R) : RowsIn F n P row args w R := by
  rcases h with rfl | ⟨l, rfl⟩
  · exact rowsIn_wide' hc
  · exact rowsIn_wide' hc
theorem wp_in {F : Fence} (hF : Fine F) {n : Nat} {P : Program} {o : Oper} (hd : ∀ c, o.op ≠ .defer c) {a : Act} {w : World} {next : Act → World → Prop} {Q : Exit → Act → World → Prop} (h : o.wp P a w next Q) : o.wpIn F n P a w next Q := by
  refine ⟨fun f _ => hF.fn f, ?_⟩
  rw [Oper.semAt_eq _ _ _ hd]
  unfold Oper.wp at h
  have hdep : F.depth.isSome = true → 1 ≤ n := by rw [hF.depth]; intro h; cases h
  generalize (execOp a.eval o).run P w = r at h
  cases r with
  | ok x w' =>
    cases x <;> first | exact h | exact ⟨hdep, hF.calls h⟩ | exact ⟨hdep, hF.rows h⟩ | exact h.elim
  | halt s w' => cases s <;> exact h
section
variable {C : Cfg} {B : Nat} {F : Fence} {n : Nat}
theorem opF_nodefer {fid : Nat} {callP : Nat → List AV → Option AV} {callI : Nat → List AV → Mem → Option (AV × Mem)} {d : Option Nat} {o : Oper} {ρ : Operand → AV} {m : Mem} {x : AV × Mem} (h : opF C fid callP callI d o ρ m = some x) : ∀ c, o.op ≠ .defer c := by
  intro c hc
  unfold opF opK at h
  rw [hc] at h
  cases h
/-- One operation ahead of what follows, inside the fence. -/
def nextIn (F : Fence) (n : Nat) (P : Program) (ops : Array Oper) (Q : Exit → Act → World → Prop) (i : Nat) (next : Act → World → Prop) (a : Act) (w : World) : Prop :=
  match ops[i]? with
  | none => next a w
  | some o => if Region.wanted o (yielded ops a.tmps) then o.wpIn F n P a w next Q else (∀ f, o.about P w a.eval = some f → F.fn f) ∧ next (a.put o.dst undef) w
theorem wpOpsIn_cons {P : Program} {ops : Array Oper} {Q : Exit → Act → World → Prop} (i : Nat) (rest : List Nat) (a : Act) (w : World) : wpOpsIn F n P ops Q (i :: rest) a w = nextIn F n P ops Q i (wpOpsIn F n P ops Q rest) a w := by
  cases h : ops[i]? <;> simp [wpOpsIn, nextIn, h]
theorem nextIn_of {P : Program} (hF : Fine F) {ops : Array Oper} {Q : Exit → Act → World → Prop} {i : Nat} {next : Act → World → Prop} {a : Act} {w : World} (hd : ∀ o, ops[i]? = some o → Region.wanted o (yielded ops a.tmps) = true → o.wp P a w next Q ∧ ∀ c, o.op ≠ .defer c) (hs : ∀ o, ops[i]? = some o → Region.wanted o (yielded ops a.tmps) = false → next (a.put o.dst undef) w) (hn : ops[i]? = none → next a w) : nextIn F n P ops Q i next a w := by
  unfold nextIn
  cases h : ops[i]? with
  | none => exact hn h
  | some o =>
    simp only
    cases hw : Region.wanted o (yielded ops a.tmps) with
    | true => simp only [if_true]; exact wp_in hF (hd o h hw).2 (hd o h hw).1
    | false => simp only [Bool.false_eq_true, if_false]; exact ⟨fun f _ => hF.fn f, hs o h hw⟩
/-- Out of the fence the operation is followed by whatever one likes: so it is inside. -/
theorem stepIn (hC : CfgOk C) (hF : Fine F) {callI : Nat → List AV → Mem → Option (AV × Mem)} (hI : IOk C callI) {fid : Nat} {ops : Array Oper} {i : Nat} {st s1 : St} {a : Act} {w : World} {g : G} (h : stepF C fid (acallP callI) callI none ops i st = some s1) (hs : StR B w g st a)
    {Q : Exit → Act → World → Prop} {next : Act → World → Prop} (hn : ∀ a' w' g', StR B w' g' s1 a' → Step B w g w' g' → a'.defers = a.defers → next a' w') : nextIn F n C.P ops Q i next a w := by
  obtain ⟨o, v, m1, ho, hr, rfl⟩ := stepF_some h
  have hrun : opF C fid (acallP callI) callI none o (ev st.tmps) st.mem = some (v, m1) → o.wp C.P a w next Q ∧ ∀ c, o.op ≠ .defer c := by
    intro hf
    obtain ⟨v2, m2, hK, hop⟩ := opK_sound (a := a) hC hI hf (ev_V hs.tmp) hs.mem hs.size (fun hmk s hb => by cases hb)
    simp only [Option.some.injEq, Prod.mk.injEq] at hK
    obtain ⟨rfl, rfl⟩ := hK
    exact ⟨hop next Q fun v' w' g' s hm hv => hn _ w' g' ⟨(hs.tmp.step s).put hv o.dst, hm, Nat.le_trans hs.size s.below.size⟩ s (put_defers _ _ _), opF_nodefer hf⟩
  have hskip : v = .tup [] ∧ m1 = st.mem → next (a.put o.dst undef) w := by
    rintro ⟨rfl, rfl⟩
    exact hn _ w g ⟨hs.tmp.put (.tup [] #[] rfl (fun j hj => absurd hj (Nat.not_lt_zero j))) o.dst, hs.mem, hs.size⟩ (Step.refl _ _ _) (put_defers _ _ _)
  -- the same case split as out of the fence, told by the elder law at two ends
  have hyes : Region.wanted o (yielded ops a.tmps) = true → o.wp C.P a w next Q ∧ ∀ c, o.op ≠ .defer c := by
    intro hw
    unfold opG at hr
    cases hg : o.guard with
    | none => simp only [hg] at hr; exact hrun hr
    | some jw =>
      obtain ⟨j, want⟩ := jw
      simp only [hg] at hr
      cases hd : (ops[j]?).bind (·.dst) with
      | none => simp [hd] at hr
      | some d =>
        simp only [hd] at hr
        cases hsk : skpd ops st.tmps j with
        | true =>
          simp only [hsk] at hr
          cases hv : st.tmps.getD d .any with
          | tup cs =>
            have hV := hs.tmp.2 d
            rw [hv] at hV
            have hy : yielded ops a.tmps j = none := by
              unfold yielded
              rw [hd]
              simp only [Option.bind_some]
              generalize hx : a.tmps.getD d undef = x at hV
              cases hV
              rw [Array.getD_eq_getD_getElem?] at hx
              cases hq : a.tmps[d]? with
              | none => rfl
              | some y => rw [hq] at hx; simp only [Option.getD_some] at hx; rw [hx]
            have : Region.wanted o (yielded ops a.tmps) = false := by simp only [Region.wanted, hg, hy]; rfl
            rw [this] at hw; cases hw
          | _ => simp only [hv] at hr; cases hr
        | false =>
          simp only [hsk] at hr
          cases hv : st.tmps.getD d .any with
          | bool b =>
            simp only [hv] at hr
            have hV := hs.tmp.2 d
            rw [hv] at hV
            have hy : yielded ops a.tmps j = some b := by
              unfold yielded
              rw [hd]
              simp only [Option.bind_some]
              generalize hx : a.tmps.getD d undef = x at hV
              cases hV
              have : a.tmps[d]? = some (.bool b) := by
                rw [Array.getD_eq_getD_getElem?] at hx
                cases hq : a.tmps[d]? with
                | none => rw [hq] at hx; cases hx
                | some y => rw [hq] at hx; simpa using hx
              rw [this]
            have hw2 : Region.wanted o (yielded ops a.tmps) = (some b == some want) := by simp only [Region.wanted, hg, hy]
            by_cases hb : b = want
            · rw [if_pos hb] at hr
              exact hrun hr
            · have : (some b == some want) = false := by simpa using hb
              rw [hw2, this] at hw; cases hw
          | _ => simp only [hv] at hr; cases hr
  have hno : Region.wanted o (yielded ops a.tmps) = false → v = .tup [] ∧ m1 = st.mem := by
    intro hw
    unfold opG at hr
    cases hg : o.guard with
    | none =>
      have : Region.wanted o (yielded ops a.tmps) = true := by simp [Region.wanted, hg]
      rw [this] at hw; cases hw
    | some jw =>
      obtain ⟨j, want⟩ := jw
      simp only [hg] at hr
      cases hd : (ops[j]?).bind (·.dst) with
      | none => simp [hd] at hr
      | some d =>
        simp only [hd] at hr
        cases hsk : skpd ops st.tmps j with
        | true =>
          simp only [hsk] at hr
          cases hv : st.tmps.getD d .any with
          | tup cs =>
            simp only [hv] at hr
            cases cs with
            | nil =>
              simp only [Option.some.injEq, Prod.mk.injEq] at hr
              exact ⟨hr.1.symm, hr.2.symm⟩
            | cons c cs => simp only at hr; cases hr
          | _ => simp only [hv] at hr; cases hr
        | false =>
          simp only [hsk] at hr
          cases hv : st.tmps.getD d .any with
          | bool b =>
            simp only [hv] at hr
            have hV := hs.tmp.2 d
            rw [hv] at hV
            have hy : yielded ops a.tmps j = some b := by
              unfold yielded
              rw [hd]
              simp only [Option.bind_some]
              generalize hx : a.tmps.getD d undef = x at hV
              cases hV
              have : a.tmps[d]? = some (.bool b) := by
                rw [Array.getD_eq_getD_getElem?] at hx
                cases hq : a.tmps[d]? with
                | none => rw [hq] at hx; cases hx
                | some y => rw [hq] at hx; simpa using hx
              rw [this]
            have hw2 : Region.wanted o (yielded ops a.tmps) = (some b == some want) := by simp only [Region.wanted, hg, hy]
            by_cases hb : b = want
            · have : (some b == some want) = true := by simpa using hb
              rw [hw2, this] at hw; cases hw
            · rw [if_neg hb] at hr
              simp only [Option.some.injEq, Prod.mk.injEq] at hr
              exact ⟨hr.1.symm, hr.2.symm⟩
          | _ => simp only [hv] at hr; cases hr
  refine nextIn_of hF (fun o' ho' hw => ?_) (fun o' ho' hw => ?_) (fun hnone => by rw [ho] at hnone; cases hnone)
  · rw [ho] at ho'
    obtain rfl := Option.some.inj ho'
    exact hyes hw
  · rw [ho] at ho'
    obtain rfl := Option.some.inj ho'
    exact hskip (hno hw)
theorem runIn (hC : CfgOk C) (hF : Fine F) {callI : Nat → List AV → Mem → Option (AV × Mem)} (hI : IOk C callI) {fid : Nat} {ops : Array Oper} {Q : Exit → Act → World → Prop} : ∀ (l : List Nat) (st s' : St) (a : Act) (w : World) (g : G), runF C fid (acallP callI) callI none ops l st = some s' → StR B w g st a →
    (∀ a' w' g', StR B w' g' s' a' → Step B w g w' g' → a'.defers = a.defers → Q .normal a' w') → wpOpsIn F n C.P ops Q l a w
  | [], st, s', a, w, g, h, hs, hn => by
    simp only [runF, Option.some.injEq] at h
    subst h
    exact hn a w g hs (Step.refl _ _ _) rfl
  | i :: l, st, s', a, w, g, h, hs, hn => by
    simp only [runF, Option.bind_eq_some_iff] at h
    obtain ⟨s1, h1, h⟩ := h
    rw [wpOpsIn_cons]
    exact stepIn hC hF hI h1 hs fun a' w' g' hs' s hd => runIn hC hF hI l s1 s' a' w' g' h hs' fun a'' w'' g'' hs'' s' hd' => hn a'' w'' g'' hs'' (s.trans s') (hd'.trans hd)
end
end Go.Ab

/- Operations that leave the world as it is; what a turned loop record leaves alone. -/
set_option linter.unusedVariables false
set_option linter.unusedSimpArgs false
namespace Go.Ab
open Go.RowKit

section
variable {C : Cfg} {B : Nat} {w : World} {g : G} {m : Mem}
theorem pure_ok {P : Program} {a : Act} {o : Oper} {v : AV} {s : Sem Value} (h : ∃ v', s.run P w = .ok v' w ∧ V w g v v') (hs : ∀ w, (execOp a.eval o).run P w = (do pure (.value (← s)) : Sem Next).run P w) : ∃ v', (execOp a.eval o).run P w = .ok (.value v') w ∧ V w g v v' := by
  obtain ⟨v', h1, h2⟩ := h
  exact ⟨v', by rw [hs]; simp [h1], h2⟩
/-! ### What a turned record leaves alone -/
def NonCells (W : World) (row : Option Nat) : Prop := ∀ r, row = some r → ∃ o : Obj, W.heap[r]? = some o ∧ o.isCells = false
theorem grown_cell {W W' : World} {row : Option Nat} (hg : W.grownBy W' row) (hr : NonCells W row) {b off : Nat} {u : Value} (h : W.cell? ⟨b, off, none⟩ = some u) : W'.cell? ⟨b, off, none⟩ = some u := by
  refine (World.cell?_of_block (w := W) (a := ⟨b, off, none⟩) (hg.block b (cell_lt h) ?_)).trans h
  intro e
  obtain ⟨o, h1, h2⟩ := hr b e.symm
  obtain ⟨o', h3, h4⟩ := cells_of_cell h
  rw [h1] at h3
  obtain rfl := Option.some.inj h3
  rw [h2] at h4; cases h4
theorem grown_row {W W' : World} {row : Option Nat} (hg : W.grownBy W' row) (hr : NonCells W row) {b : Nat} {c : Array Value} {e : TypeId} {fr : Nat × Nat} (h : W.heap[b]? = some (Obj.cells c e fr)) : W'.heap[b]? = some (Obj.cells c e fr) := by
  refine (hg.block b (Array.getElem?_eq_some_iff.1 h).1 ?_).trans h
  intro e
  obtain ⟨o, h1, h2⟩ := hr b e.symm
  rw [h1] at h
  obtain rfl := Option.some.inj h
  cases h2
theorem V.grown {W W' : World} {row : Option Nat} (hg : W.grownBy W' row) (hr : NonCells W row) {x : AV} {v : Value} (h : V W g x v) : V W' g x v := by
  induction h with
  | any x => exact .any x
  | int k n => exact .int k n
  | bool b => exact .bool b
  | str x => exact .str x
  | nils sh o ho => exact .nils sh o ho
  | lst sh o es a cap us hs hc hm hsh hcell hv ho ih =>
    refine .lst sh o es a cap us hs hc hm hsh (fun j hj => ?_) ih ?_
    · obtain ⟨h1, h2, h3⟩ := hcell j hj
      exact ⟨grown_cell hg hr h1, h2, h3⟩
    · cases o with
      | no => trivial
      | full => exact ho
      | tok nm e =>
        obtain ⟨h1, h2, c, hc, hs⟩ := ho
        exact ⟨h1, h2, c, grown_row hg hr hc, hs⟩
  | arr nm off n sh a cap hs hc hm hl => exact .arr nm off n sh a cap hs hc hm hl
  | ptr nm off b hl => exact .ptr nm off b hl
  | vptr cs b off us hcell hv ih =>
    refine .vptr cs b off us (fun j hj => ?_) ih
    obtain ⟨h1, h2⟩ := hcell j hj
    exact ⟨grown_cell hg hr h1, h2⟩
  | nilp => exact .nilp
  | nilf => exact .nilf
  | nile => exact .nile
  | agg cs vs hl hv ih => exact .agg cs vs hl ih
  | tup cs vs hl hv ih => exact .tup cs vs hl ih
  | fn f cs vs hl hv ih => exact .fn f cs vs hl ih
theorem TmpR.grown {W W' : World} {row : Option Nat} (hg : W.grownBy W' row) (hr : NonCells W row) {ts : List AV} {vs : Array Value} (h : TmpR W g ts vs) : TmpR W' g ts vs := ⟨h.1, fun t => (h.2 t).grown hg hr⟩
theorem MemR.grown {W W' : World} {row : Option Nat} (hg : W.grownBy W' row) (hr : NonCells W row) (h : MemR B W g m) : MemR B W' g m where
  obj nm bx cs hn := by
    obtain ⟨b, c, e, h1, h2, h3, h4, h5, h6, h7⟩ := h.obj nm bx cs hn
    exact ⟨b, c, e, h1, h2, grown_row hg hr h3, h4, fun j hj => (h5 j hj).grown hg hr, h6, h7⟩
  tok nm n sz hn := by
    obtain ⟨b, c, e, h1, h2, h3, h4, h5, h6⟩ := h.tok nm n sz hn
    exact ⟨b, c, e, h1, h2, grown_row hg hr h3, h4, h5, h6⟩
  resv := h.resv
  fresh := h.fresh
  inj := h.inj
  wrLt b off hw := Nat.lt_of_lt_of_le (h.wrLt b off hw) hg.size
  boxLt b hb := Nat.lt_of_lt_of_le (h.boxLt b hb) hg.size
/-- The row lies behind all that was there at the start. -/
theorem Step.grown {w0 : World} {g0 : G} {W W' : World} {row : Option Nat} (s : Step B w0 g0 W g) (hg : W.grownBy W' row) (hr : NonCells W row) (hb : ∀ r, row = some r → w0.heap.size ≤ r) (hB : B ≤ w0.heap.size) : Step B w0 g0 W' g where
  below := s.below.grown hg (Nat.le_trans hB s.below.size) (fun k e => Nat.le_trans hB (hb k e))
  cell b off u hn hc := grown_cell hg hr (s.cell b off u hn hc)
  shape b c e fr h := by
    obtain ⟨c', h1, h2⟩ := s.shape b c e fr h
    exact ⟨c', grown_row hg hr h1, h2⟩
  wr := s.wr
  wrB := s.wrB
  box := s.box
  loc := s.loc
  tloc := s.tloc
  others k o hk ho := by
    refine (hg.block k (Array.getElem?_eq_some_iff.1 (s.others k o hk ho)).1 ?_).trans (s.others k o hk ho)
    intro e
    have := hb k e.symm
    have := (Array.getElem?_eq_some_iff.1 hk).1
    omega
end
end Go.Ab

/- What a range over a function keeps: values read in the loop's world, calls of yield. -/
set_option linter.unusedVariables false
set_option linter.unusedSimpArgs false
namespace Go.Ab
open Go.RowKit

/-- The parts of a range over a function. -/
def rA : Code → Code
  | .rangeFunc _ _ a _ => a
  | c => c
def rB : Code → Code
  | .rangeFunc _ _ _ b => b
  | c => c
section
variable {C : Cfg} {B : Nat} {w : World} {g : G} {m : Mem}
/-- Nothing bears a name. -/
def G.bare (g : G) : G := ⟨g.wr, g.box, fun _ => none, fun _ _ => none⟩
/-- What may not be written lies in W' as it lay in W, as far as w reaches. -/
structure Hold (g : G) (w W W' : World) : Prop where
  size : W.heap.size ≤ W'.heap.size
  cell : ∀ (b off : Nat) (u : Value), b < w.heap.size → ¬ g.wr b off → W.cell? ⟨b, off, none⟩ = some u → W'.cell? ⟨b, off, none⟩ = some u
theorem Hold.refl (g : G) (w W : World) : Hold g w W W := ⟨Nat.le_refl _, fun _ _ _ _ _ h => h⟩
theorem Hold.trans {g : G} {w A B C : World} (h : Hold g w A B) (k : Hold g w B C) : Hold g w A C := ⟨Nat.le_trans h.size k.size, fun b off u h1 h2 h3 => k.cell b off u h1 h2 (h.cell b off u h1 h2 h3)⟩
theorem Hold.of_below {g : G} {w W : World} (h : Below w.heap.size w W) : Hold g w w W := ⟨h.size, fun b off u h1 _ h3 => (h.cell (p := ⟨b, off, none⟩) h1).trans h3⟩
theorem Hold.of_step {g g' g1 : G} {w W W' : World} (h : Step B W g' W' g1) (hw : ∀ b off, b < w.heap.size → ¬ g.wr b off → ¬ g'.wr b off) : Hold g w W W' := ⟨h.below.size, fun b off u h1 h2 h3 => h.cell b off u (hw b off h1 h2) h3⟩
theorem Hold.book {g : G} {w w1 : World} (hs : w.heap.size ≤ w1.heap.size) (W : World) (l : Nat) (o o' : Obj) (hl : w1.heap.size ≤ l) (h : W.heap[l]? = some o) (hc : o.isCells = false) : Hold g w W (W.putObj l o') where
  size := by simp
  cell b off u h1 _ h3 := grown_cell (grownBy_putObj' W l o') (fun r e => by cases e; exact ⟨o, h, hc⟩) h3
theorem V.bare {x : AV} {v : Value} (h : V w g x v) (hc : cl x = true) : V w g.bare x v := V_cl h hc (fun _ _ h => h) (fun _ h => h)
/-- No memory: no name. -/
theorem MemR.bare {W : World} (h : MemR B w g m) (hs : w.heap.size ≤ W.heap.size) : MemR B W g.bare [] where
  obj nm bx cs hn := by simp [Mem.get] at hn
  tok nm n sz hn := by simp [Mem.get] at hn
  resv nm hn := by simp [Mem.get] at hn
  fresh nm _ := ⟨rfl, fun _ => rfl⟩
  inj nm nm' b h1 _ := by simp [blk, Mem.get] at h1
  wrLt b off hw := Nat.lt_of_lt_of_le (h.wrLt b off hw) hs
  boxLt b hb := Nat.lt_of_lt_of_le (h.boxLt b hb) hs
theorem TmpR.less {ts ts' : List AV} {vs : Array Value} (h : TmpR w g ts vs) (hl : ts'.length = ts.length) (ha : ∀ t, ts'.getD t .any = ts.getD t .any ∨ ts'.getD t .any = .any) : TmpR w g ts' vs :=
  ⟨hl.trans h.1, fun t => by
    rcases ha t with e | e
    · rw [e]; exact h.2 t
    · rw [e]; exact .any _⟩
/-- An operation that hands on what it reads. -/
theorem moveIn {F : Fence} {n : Nat} (hF : Fine F) {P : Program} {ops : Array Oper} {i : Nat} {o : Oper} {x : Operand} (ho : ops[i]? = some o) (hop : o.op = .move x) (hg : o.guard = none) {next : Act → World → Prop} {Q : Exit → Act → World → Prop} {a : Act} {w : World}
    (h : next (a.put o.dst (a.eval x)) w) : nextIn F n P ops Q i next a w := by
  refine nextIn_of hF (fun o' ho' hw => ?_) (fun o' ho' hw => ?_) (fun hnone => by rw [ho] at hnone; cases hnone)
  · rw [ho] at ho'
    obtain rfl := Option.some.inj ho'
    refine ⟨?_, fun c hc => by rw [hop] at hc; cases hc⟩
    unfold Oper.wp
    have : (execOp a.eval o).run P w = .ok (.value (a.eval x)) w := by simp [execOp, hop]
    rw [this]
    exact h
  · rw [ho] at ho'
    obtain rfl := Option.some.inj ho'
    rw [show Region.wanted o (yielded ops a.tmps) = true by simp [Region.wanted, hg]] at hw
    cases hw
/-- A call of yield. -/
theorem yieldIn {F : Fence} {n : Nat} (hF : Fine F) (hn : 1 ≤ n) {P : Program} {ops : Array Oper} {i : Nat} {o : Oper} {c : Call} {fo : Operand} {l : Nat} (ho : ops[i]? = some o) (hop : o.op = .call c) (hc : c.callee = .value fo) (hg : o.guard = none) {next : Act → World → Prop} {Q : Exit → Act → World → Prop} {a : Act} {w : World}
    (hf : a.eval fo = .func (.yield l) #[] #[]) {R : Ending → World → Prop} (hy : YieldAt F (n - 1) P l (c.args.map a.eval) w R) (hR : ∀ e w', R e w' → ∃ v, e = .returned v ∧ next (a.put o.dst v) w') : nextIn F n P ops Q i next a w := by
  obtain ⟨fn, tmps, assign, body, hrun, hround⟩ := hy
  unfold nextIn
  rw [ho]
  simp only
  have hw : Region.wanted o (yielded ops a.tmps) = true := by simp [Region.wanted, hg]
  rw [hw]
  simp only [if_true]
  refine ⟨fun f _ => hF.fn f, ?_⟩
  have hd : ∀ c', o.op ≠ .defer c' := by intro c' h; rw [hop] at h; cases h
  rw [Oper.semAt_eq _ _ _ hd]
  have : (execOp a.eval o).run P w = .ok (.round l fn tmps assign body) w := by
    simp only [execOp, hop, resolve, hc, hf, Deferred.ofValue, invoke, Sem.run_bind, Sem.run_pure, Result.andThen_ok, Array.empty_append, Array.append_empty]
    exact hrun
  rw [this, Oper.uponIn_round]
  refine ⟨fun _ => hn, hround.mono fun e w' hr => ?_⟩
  obtain ⟨v, rfl, h⟩ := hR e w' hr
  exact h
end
end Go.Ab

/- The settings of the interpreter for this seat. -/
set_option maxRecDepth 100000
namespace Go.Ab
open Go.Proofs.Try
def mkMask : Nat → Nat → List Bool
  | 0, _ => []
  | n + 1, x => Nat.beq (x % 2) 1 :: mkMask n (x / 2)
def opsOf : Code → Array Oper
  | .region _ ops _ => ops
  | _ => #[]
def masksOf : List (Nat × Nat × Masks) := [(4, 5, ⟨(mkMask 75 105), (mkMask 75 41), (mkMask 75 4)⟩),
  (11, 3, ⟨(mkMask 113 7516192776), (mkMask 113 0), (mkMask 113 16)⟩),
  (13, 3, ⟨(mkMask 92 14680118), (mkMask 92 54), (mkMask 92 16)⟩),
  (13, 11, ⟨(mkMask 92 820), (mkMask 92 272), (mkMask 92 16)⟩),
  (20, 4, ⟨(mkMask 45 240518168576), (mkMask 45 0), (mkMask 45 4)⟩),
  (21, 4, ⟨(mkMask 45 240518168576), (mkMask 45 0), (mkMask 45 4)⟩),
  (30, 10, ⟨(mkMask 51 210), (mkMask 51 80), (mkMask 51 48)⟩),
  (34, 7, ⟨(mkMask 60 1649267441756), (mkMask 60 80), (mkMask 60 48)⟩),
  (36, 5, ⟨(mkMask 41 50331740), (mkMask 41 80), (mkMask 41 48)⟩),
  (38, 5, ⟨(mkMask 48 54), (mkMask 48 20), (mkMask 48 12)⟩),
  (38, 8, ⟨(mkMask 48 118), (mkMask 48 54), (mkMask 48 12)⟩),
  (39, 4, ⟨(mkMask 46 1610612748), (mkMask 46 0), (mkMask 46 16)⟩),
  (40, 4, ⟨(mkMask 46 1610612748), (mkMask 46 0), (mkMask 46 16)⟩),
  (44, 11, ⟨(mkMask 40 214), (mkMask 40 80), (mkMask 40 48)⟩),
  (45, 6, ⟨(mkMask 35 14680084), (mkMask 35 20), (mkMask 35 4)⟩),
  (46, 4, ⟨(mkMask 40 1835008), (mkMask 40 0), (mkMask 40 4)⟩),
  (46, 7, ⟨(mkMask 40 119275536), (mkMask 40 1835024), (mkMask 40 4)⟩),
  (51, 6, ⟨(mkMask 32 7340096), (mkMask 32 64), (mkMask 32 12)⟩),
  (53, 7, ⟨(mkMask 90 15393162788956), (mkMask 90 92), (mkMask 90 48)⟩),
  (53, 16, ⟨(mkMask 90 132226261520350065985556), (mkMask 90 2064), (mkMask 90 48)⟩),
  (56, 3, ⟨(mkMask 27 28684), (mkMask 27 12), (mkMask 27 4)⟩),
  (58, 3, ⟨(mkMask 33 24774), (mkMask 33 192), (mkMask 33 64)⟩),
  (58, 6, ⟨(mkMask 33 418246), (mkMask 33 24774), (mkMask 33 64)⟩),
  (61, 3, ⟨(mkMask 24 115), (mkMask 24 48), (mkMask 24 16)⟩),
  (63, 3, ⟨(mkMask 23 29), (mkMask 23 12), (mkMask 23 4)⟩),
  (72, 4, ⟨(mkMask 73 99), (mkMask 73 32), (mkMask 73 16)⟩),
  (72, 8, ⟨(mkMask 73 483), (mkMask 73 227), (mkMask 73 16)⟩),
  (81, 3, ⟨(mkMask 74 124), (mkMask 74 48), (mkMask 74 16)⟩),
  (81, 6, ⟨(mkMask 74 252), (mkMask 74 124), (mkMask 74 16)⟩),
  (81, 9, ⟨(mkMask 74 508), (mkMask 74 252), (mkMask 74 16)⟩),
  (83, 3, ⟨(mkMask 18 908), (mkMask 18 12), (mkMask 18 4)⟩),
  (85, 3, ⟨(mkMask 32 1546), (mkMask 32 8), (mkMask 32 4)⟩),
  (87, 3, ⟨(mkMask 19 29), (mkMask 19 12), (mkMask 19 4)⟩),
  (88, 3, ⟨(mkMask 54 454), (mkMask 54 192), (mkMask 54 48)⟩),
  (88, 11, ⟨(mkMask 54 1478), (mkMask 54 454), (mkMask 54 48)⟩),
  (90, 5, ⟨(mkMask 84 1942), (mkMask 84 768), (mkMask 84 256)⟩),
  (90, 10, ⟨(mkMask 84 8086), (mkMask 84 3990), (mkMask 84 256)⟩),
  (91, 5, ⟨(mkMask 173 995), (mkMask 173 224), (mkMask 173 48)⟩),
  (91, 9, ⟨(mkMask 173 2019), (mkMask 173 2019), (mkMask 173 48)⟩),
  (91, 19, ⟨(mkMask 173 29014219670751100192951267), (mkMask 173 995), (mkMask 173 48)⟩),
  (91, 24, ⟨(mkMask 173 486777830487640090174734030865379), (mkMask 173 995), (mkMask 173 48)⟩),
  (91, 29, ⟨(mkMask 173 261336858282058570427511788682332017288163), (mkMask 173 486777830487640090174734030865379), (mkMask 173 48)⟩),
  (92, 7, ⟨(mkMask 52 1240), (mkMask 52 216), (mkMask 52 48)⟩),
  (92, 10, ⟨(mkMask 52 412316861656), (mkMask 52 1240), (mkMask 52 48)⟩),
  (96, 2, ⟨(mkMask 26 3), (mkMask 26 1), (mkMask 26 16)⟩),
  (98, 7, ⟨(mkMask 45 35), (mkMask 45 0), (mkMask 45 16)⟩),
  (99, 5, ⟨(mkMask 84 160), (mkMask 84 32), (mkMask 84 16)⟩),
  (99, 13, ⟨(mkMask 84 515), (mkMask 84 515), (mkMask 84 16)⟩),
  (99, 15, ⟨(mkMask 84 515), (mkMask 84 513), (mkMask 84 16)⟩),
  (99, 16, ⟨(mkMask 84 515), (mkMask 84 515), (mkMask 84 16)⟩),
  (99, 18, ⟨(mkMask 84 515), (mkMask 84 515), (mkMask 84 16)⟩),
  (101, 6, ⟨(mkMask 27 24), (mkMask 27 8), (mkMask 27 4)⟩),
  (102, 11, ⟨(mkMask 98 1539), (mkMask 98 513), (mkMask 98 112)⟩),
  (102, 14, ⟨(mkMask 98 7683), (mkMask 98 3587), (mkMask 98 112)⟩),
  (103, 2, ⟨(mkMask 22 9), (mkMask 22 9), (mkMask 22 4)⟩),
  (104, 3, ⟨(mkMask 54 24783), (mkMask 54 192), (mkMask 54 64)⟩),
  (107, 4, ⟨(mkMask 71 14680098), (mkMask 71 32), (mkMask 71 16)⟩),
  (107, 8, ⟨(mkMask 71 1893728738), (mkMask 71 14680418), (mkMask 71 16)⟩),
  (108, 7, ⟨(mkMask 60 117440610), (mkMask 60 96), (mkMask 60 16)⟩),
  (109, 7, ⟨(mkMask 49 35), (mkMask 49 0), (mkMask 49 16)⟩),
  (110, 7, ⟨(mkMask 59 29360322), (mkMask 59 64), (mkMask 59 48)⟩),
  (111, 4, ⟨(mkMask 44 227), (mkMask 44 32), (mkMask 44 16)⟩),
  (112, 6, ⟨(mkMask 44 451), (mkMask 44 64), (mkMask 44 48)⟩),
  (114, 1, ⟨(mkMask 26 99), (mkMask 26 0), (mkMask 26 0)⟩),
  (115, 3, ⟨(mkMask 53 396), (mkMask 53 128), (mkMask 53 64)⟩),
  (116, 2, ⟨(mkMask 51 782), (mkMask 51 0), (mkMask 51 0)⟩),
  (117, 4, ⟨(mkMask 83 6597069766934), (mkMask 83 0), (mkMask 83 0)⟩),
  (124, 2, ⟨(mkMask 21 9), (mkMask 21 9), (mkMask 21 4)⟩),
  (125, 14, ⟨(mkMask 315 32256), (mkMask 315 13824), (mkMask 315 112)⟩),
  (125, 18, ⟨(mkMask 315 228864), (mkMask 315 97792), (mkMask 315 112)⟩),
  (125, 24, ⟨(mkMask 315 1096126227998177188652763624537212264741950291456), (mkMask 315 884224), (mkMask 315 112)⟩),
  (125, 41, ⟨(mkMask 315 165641912322973530898434140694648610858826615332089277323900581371805184), (mkMask 315 622080), (mkMask 315 112)⟩),
  (125, 51, ⟨(mkMask 315 11656013353354374425516771440941113439854441034312837127510874458433425711231284553216), (mkMask 315 33562624), (mkMask 315 112)⟩),
  (129, 4, ⟨(mkMask 41 451), (mkMask 41 192), (mkMask 41 48)⟩),
  (131, 4, ⟨(mkMask 42 899), (mkMask 42 384), (mkMask 42 64)⟩),
  (136, 4, ⟨(mkMask 43 451), (mkMask 43 192), (mkMask 43 48)⟩),
  (138, 3, ⟨(mkMask 40 28706), (mkMask 40 32), (mkMask 40 16)⟩)]
def ordsOf : List (Nat × Nat × List Nat) := [(48, 1, [0, 1, 2, 4, 3, 5, 6]), (50, 3, [0, 2, 3, 1, 4, 5, 6, 7, 8, 9]), (67, 1, [0, 1, 2, 3, 5, 6, 4, 7, 8, 9]), (104, 5, [0, 1, 2, 3, 4, 5, 6, 7, 8, 9, 10, 11, 12, 13, 14, 15, 16, 17, 18, 19, 20, 21, 22, 23]), (116, 4, [0, 1, 2, 3, 4, 5, 6, 7, 8, 9, 10, 11, 12, 13, 14, 15, 16, 17, 18, 19, 20, 21, 22, 23, 24, 25, 26, 27, 28, 29, 30, 31, 32, 33, 34, 35, 36, 37, 38, 39])]
def ahsOf : List (Nat × Nat × List Nat) := [(3, 8, [0, 1, 0, 7, 15, 31, 63, 63, 63, 63, 1023, 2047, 4095, 8191, 8191, 8191, 8191, 131071, 262143, 524287, 1048575, 1048575, 1048575, 1048575, 16777215, 33554431, 67108863, 134217727, 134217727, 134217727, 1073741823, 134217727, 134217727, 134217727, 17179869183, 34359738367, 68719476735, 137438953471, 274877906943, 549755813887, 1099511627775]),
  (4, 11, [0, 0, 0, 4, 12, 31, 63, 127, 127, 127, 127, 639, 2687, 7807, 15999, 32767, 65535, 131071, 262143, 524287, 1048575]),
  (5, 1, [0, 1, 0, 7, 15, 31]),
  (5, 2, [0, 1, 0, 4, 12, 0, 32, 124, 255, 511]),
  (5, 9, [0, 0, 0, 0, 15, 31, 63, 63, 63, 63, 1023, 2047, 4095, 8191, 8191, 8191, 8191, 131071, 262143, 524287, 1048575, 1048575, 4194303, 1048575, 1048575, 33554431, 67108863, 134217727, 268435455, 536870911, 1073741823, 2147483647]),
  (6, 1, [0, 1, 0, 7, 15, 31]),
  (8, 1, [0, 1, 0, 7, 15, 31]),
  (8, 2, [0, 1, 0, 7, 15, 31, 63, 127, 63, 511, 1023, 2047]),
  (9, 5, [0, 1, 3, 7, 7, 23, 63, 127, 255, 511, 1023, 2047]),
  (10, 1, [0, 1, 0, 7, 15, 31]),
  (10, 5, [0, 0, 3, 0, 0, 31, 63, 127]),
  (10, 12, [0, 1, 3, 7, 15, 31, 63, 127, 255, 511, 1023, 2047, 2047, 2047, 14335, 32767, 65535, 131071, 262143, 262143, 1048575, 2097151, 4194303, 8388607, 16777215, 33554431]),
  (11, 1, [0, 1, 0, 7, 15, 31]),
  (11, 2, [0, 0, 2, 7, 15, 0]),
  (12, 1, [0, 1, 0, 7, 15, 31]),
  (12, 5, [0, 0, 3, 0, 0, 16, 0, 64, 0, 0, 512, 1792, 4032, 8184, 16383, 32767, 65535]),
  (13, 5, [0, 1, 0, 4, 0, 16, 48, 0, 128, 496, 1020, 2044, 4095, 8191, 16383]),
  (13, 13, [0, 1, 0, 4, 0, 0, 32, 112, 0, 0, 512, 1792, 0, 4096, 16128, 32764, 65535, 131071, 262143]),
  (29, 1, [0, 1, 0, 7, 15, 31]),
  (29, 2, [0, 1, 0, 4, 15, 0, 32, 0, 128, 480, 0, 1024, 0, 4096, 16352, 32767, 65535, 131071, 131071, 0, 786431, 2097151]),
  (30, 9, [0, 1, 0, 4, 15, 0, 63, 0, 0, 511, 1023]),
  (34, 9, [0, 1, 0, 0, 8, 0, 56, 120, 0, 256, 0, 1792, 3840, 8184, 16383, 32767]),
  (36, 7, [0, 1, 0, 0, 8, 0, 56, 120, 0, 504, 1023, 2047]),
  (38, 10, [0, 1, 0, 0, 8, 28, 0, 124, 0, 256, 0, 0, 2048, 7168, 0, 31744, 65280, 130816, 262143, 524287]),
  (39, 6, [0, 1, 0, 7, 15, 0, 32, 0, 224, 480, 1023, 2047]),
  (40, 6, [0, 1, 0, 7, 15, 0, 32, 0, 224, 480, 1023, 2047]),
  (47, 13, [0, 0, 0, 6, 14, 31, 63]),
  (48, 1, [0, 0, 2, 6, 0, 31, 63]),
  (49, 5, [0, 1, 0, 4, 15, 31, 63, 63, 0, 383, 1023]),
  (50, 3, [0, 1, 0, 4, 15, 31, 63, 63, 127, 511]),
  (51, 3, [0, 1, 0, 4, 15, 31, 63, 63, 0, 383, 1023]),
  (53, 18, [0, 1, 0, 0, 8, 28, 63, 127, 255]),
  (54, 3, [0, 0, 2, 0, 8, 30, 63, 127, 127, 511, 1023]),
  (55, 5, [0, 0, 2, 6, 15, 31, 31, 127, 255]),
  (56, 5, [0, 1, 0, 4, 12, 31, 63, 127]),
  (58, 8, [0, 1, 0, 0, 0, 28, 60, 127, 255, 511]),
  (61, 5, [0, 1, 0, 4, 15, 31, 63]),
  (63, 5, [0, 1, 0, 0, 12, 0, 60, 0, 255, 511]),
  (65, 4, [0, 1, 3, 7, 15, 31, 15, 127, 255, 511, 1023]),
  (67, 1, [0, 1, 0, 4, 12, 0, 32, 124, 255, 511]),
  (72, 10, [0, 0, 3, 7, 15, 0, 0, 96, 224, 480, 1023, 0, 0, 0, 12288, 30720, 63488, 129024, 262143, 0, 1048575, 2097151]),
  (74, 1, [0, 1, 0, 0, 8, 28, 0, 124, 255, 511, 0, 1024, 0, 0, 8192, 28672, 0, 126976, 261120, 523264, 1048575, 2097151]),
  (75, 5, [0, 1, 0, 4, 15, 0, 32, 0, 128, 511, 0, 1024, 0, 4096, 16383, 32767, 65535, 131071]),
  (75, 7, [0, 1, 0, 0, 12, 0, 63, 127]),
  (76, 1, [0, 1, 0, 7, 15, 31]),
  (76, 2, [0, 1, 0, 4, 15, 0, 32, 0, 128, 511, 0, 1024, 0, 4096, 16383, 32767, 65535, 131071]),
  (76, 3, [0, 1, 0, 0, 12, 31, 63]),
  (77, 1, [0, 1, 0, 0, 8, 28, 0, 124, 255, 511, 0, 2047, 4095]),
  (78, 1, [0, 1, 0, 4, 15, 0, 32, 0, 128, 480, 0, 1024, 0, 4096, 16352, 32767, 65535]),
  (81, 11, [0, 1, 0, 0, 8, 28, 0, 124, 0, 256, 0, 0, 2048, 7168, 0, 31744, 65280, 130816, 0, 262144, 0, 0, 2097152, 7340032, 0, 32505856, 66846720, 133955584, 0, 268435456, 0, 0, 2147483648, 7516192768, 0, 33285996544, 68451041280, 137170518016, 274877644800, 549755813632, 1099511627775, 2199023255551]),
  (87, 5, [0, 0, 0, 6, 14, 31, 63]),
  (90, 8, [0, 0, 2, 0, 0, 16, 56, 0, 248, 510, 1022, 2047, 0, 8191]),
  (90, 15, [0, 0, 0, 4, 0, 0, 62, 127, 255]),
  (91, 14, [0, 0, 0, 0, 0, 0, 48, 112, 0, 0, 768, 1792, 4083, 8179, 16383, 32767]),
  (91, 21, [0, 0, 3, 7, 0, 0, 0, 96, 224, 0, 992, 2016, 0, 8160, 16352, 32736, 32736, 65535, 196607]),
  (91, 31, [0, 0, 3, 7, 0, 0, 0, 96, 224, 0, 992, 2016, 0, 0, 0, 24576, 57344, 0, 253952, 516096, 1044480, 2097120, 4194303, 8388607]),
  (91, 36, [0, 0, 1, 7]),
  (95, 8, [0, 1, 3, 7, 0, 16, 48, 112, 240, 511, 1023, 2047]),
  (98, 9, [0, 0, 3, 7, 0, 0, 48, 112, 255]),
  (98, 10, [0, 0, 3, 7, 0, 0, 48, 112, 255]),
  (99, 6, [0, 0, 0, 6, 3, 31]),
  (100, 1, [0, 0, 2, 7, 15]),
  (104, 5, [0, 1, 0, 0, 8, 28, 0, 124, 255, 511, 0, 1024, 0, 0, 8192, 28672, 0, 126976, 261120, 523264, 0, 0, 3146751, 8388607]),
  (104, 7, [0, 0, 0, 6, 15, 31]),
  (109, 9, [0, 0, 3, 7, 0, 0, 48, 112, 255, 511]),
  (109, 11, [0, 0, 3, 7, 0, 0, 48, 112, 255, 511]),
  (113, 1, [0, 1, 0, 7, 15, 31]),
  (113, 6, [0, 0, 2, 0, 8, 30, 0, 64, 0, 256, 1022, 2046, 4095, 8191]),
  (115, 6, [0, 1, 3, 7, 15, 31, 63, 127, 255, 511, 255, 1279, 255, 255, 8447, 28927, 255, 127231, 261375, 523519, 1048575, 2097151, 4194303, 8388607]),
  (116, 4, [0, 1, 0, 0, 8, 28, 0, 124, 0, 256, 0, 0, 2048, 7168, 0, 31744, 0, 65536, 0, 0, 524288, 1835008, 0, 8126464, 16711680, 33488896, 0, 67108864, 0, 0, 536870912, 1879048192, 0, 8321499136, 17112760320, 34292629504, 68719411455, 137438888191, 274877906943, 549755813887]),
  (117, 1, [0, 1, 0, 0, 8, 28, 0, 124, 255, 511, 0, 1024, 0, 0, 8192, 28672, 0, 126976, 261120, 523264, 1048575, 2097151, 4194303, 4194303, 0, 25165823, 67108863]),
  (117, 8, [0, 1, 0, 0, 8, 28, 0, 124, 0, 256, 0, 0, 2048, 7168, 0, 31744, 65280, 130816, 0, 0, 786432, 2096896, 4194303, 8388607]),
  (119, 1, [0, 1, 0, 7, 15, 31]),
  (119, 2, [0, 1, 0, 4, 15, 0, 32, 0, 128, 480, 0, 1024, 0, 4096, 16352, 32767, 65535, 65535, 262143, 524287]),
  (121, 1, [0, 1, 0, 0, 8, 28, 0, 124, 0, 508, 1023, 2047, 0, 4096, 0, 0, 32768, 114688, 0, 507904, 1044480, 2093056, 4194303, 8388607, 16777215, 16777215, 0, 100663295, 268435455]),
  (122, 3, [0, 1, 0, 4, 15, 0, 32, 0, 128, 480, 0, 1024, 0, 4096, 16352, 32767, 65535, 131071]),
  (125, 16, [0, 0, 0, 6, 15, 31, 63, 127, 0, 0, 0, 1536, 3584, 7936, 16128, 32512, 65535, 131071]),
  (125, 17, [0, 0, 0, 4, 14, 30, 62, 127, 0, 0, 0, 1024, 3584, 7680, 15872, 32512, 255, 131071]),
  (125, 18, [0, 1, 3, 7, 7, 7, 39, 119, 247, 503, 1023, 7, 2055, 7, 7, 7, 49159, 114695, 253959, 516103, 1040391, 2095111, 4194303, 8388607]),
  (125, 43, [0, 0, 0, 0, 12, 30, 62, 126, 0, 0, 768, 1792, 3840, 8190, 16383, 32767]),
  (125, 55, [0, 0, 3, 7, 0, 0, 32, 112, 240, 0, 512, 2032, 4095, 8191, 16383]),
  (126, 8, [0, 1, 3, 7, 15, 0, 32, 96, 224, 511, 1023, 2047]),
  (130, 2, [0, 0, 0, 6, 15, 31, 0, 0, 0, 384, 896, 2015, 4095, 0, 0, 16384, 57344, 122880, 253952, 8191, 1048575]),
  (134, 1, [0, 1, 3, 0, 8, 31, 63, 127]),
  (135, 1, [0, 0, 2, 7, 15])]
def ahdGet : List (Nat × Nat × List Nat) → Nat → Nat → List Nat
  | [], _, _ => []
  | (f, k, m) :: l, f', k' => match Nat.beq f f' && Nat.beq k k' with
    | true => m
    | false => ahdGet l f' k'
def inlOf : List (Nat × Nat) := [(34, 61), (36, 61), (38, 61), (47, 56), (47, 88), (50, 56), (50, 88), (63, 61), (81, 61), (88, 115), (88, 116), (88, 117), (92, 58), (92, 88), (92, 117), (125, 138)]
def inlGet : List (Nat × Nat) → Nat → Nat → Bool
  | [], _, _ => false
  | (a, b) :: l, f, g => match Nat.beq a f && Nat.beq b g with
    | true => true
    | false => inlGet l f g
def thawOf : List (Nat × Nat) := [(34, 61), (36, 61), (38, 61), (47, 56), (50, 56), (63, 61), (81, 61), (92, 58)]
def tokOf : List Nat := [131]
def tokGet : List Nat → Nat → Bool
  | [], _ => false
  | a :: l, f => match Nat.beq a f with
    | true => true
    | false => tokGet l f
def twoOf : List (Nat × Nat × List (Nat × Nat)) := [(104, 5, [(11, 22), (14, 22), (19, 22)]), (116, 4, [(9, 37), (12, 37)])]
def twoGet : List (Nat × Nat × List (Nat × Nat)) → Nat → Nat → List (Nat × Nat)
  | [], _, _ => []
  | (a, b, p) :: l, f, k => match Nat.beq a f && Nat.beq b k with
    | true => p
    | false => twoGet l f k
noncomputable def cfg : Cfg where
  P := prog
  inl := inlGet inlOf
  arrm := fun _ => false
  tokm := tokGet tokOf
  two := twoGet twoOf
  thaw := inlGet thawOf
  mask := maskGet masksOf
  ord := ordGet ordsOf
  ahd := ahdGet ahsOf
  lib := fun g => match Nat.beq g 45 with | true => some (fun _ => none) | false => match Nat.beq g 47 with | true => some (fun _ => none) | false => none
theorem at13 : cfg.P.funcs[13]? = some f13 := by kernel_rfl
theorem at18 : cfg.P.funcs[18]? = some f18 := by kernel_rfl
theorem at20 : cfg.P.funcs[20]? = some f20 := by kernel_rfl
theorem at21 : cfg.P.funcs[21]? = some f21 := by kernel_rfl
theorem at23 : cfg.P.funcs[23]? = some f23 := by kernel_rfl
theorem at26 : cfg.P.funcs[26]? = some f26 := by kernel_rfl
theorem at29 : cfg.P.funcs[29]? = some f29 := by kernel_rfl
theorem at31 : cfg.P.funcs[31]? = some f31 := by kernel_rfl
theorem at32 : cfg.P.funcs[32]? = some f32 := by kernel_rfl
theorem at37 : cfg.P.funcs[37]? = some f37 := by kernel_rfl
theorem at41 : cfg.P.funcs[41]? = some f41 := by kernel_rfl
theorem at43 : cfg.P.funcs[43]? = some f43 := by kernel_rfl
theorem at56 : cfg.P.funcs[56]? = some f56 := by kernel_rfl
theorem at57 : cfg.P.funcs[57]? = some f57 := by kernel_rfl
theorem at58 : cfg.P.funcs[58]? = some f58 := by kernel_rfl
theorem at60 : cfg.P.funcs[60]? = some f60 := by kernel_rfl
theorem at62 : cfg.P.funcs[62]? = some f62 := by kernel_rfl
theorem at64 : cfg.P.funcs[64]? = some f64 := by kernel_rfl
theorem at65 : cfg.P.funcs[65]? = some f65 := by kernel_rfl
theorem at66 : cfg.P.funcs[66]? = some f66 := by kernel_rfl
theorem at67 : cfg.P.funcs[67]? = some f67 := by kernel_rfl
theorem at69 : cfg.P.funcs[69]? = some f69 := by kernel_rfl
theorem at70 : cfg.P.funcs[70]? = some f70 := by kernel_rfl
theorem at71 : cfg.P.funcs[71]? = some f71 := by kernel_rfl
theorem at72 : cfg.P.funcs[72]? = some f72 := by kernel_rfl
theorem at73 : cfg.P.funcs[73]? = some f73 := by kernel_rfl
theorem at75 : cfg.P.funcs[75]? = some f75 := by kernel_rfl
theorem at76 : cfg.P.funcs[76]? = some f76 := by kernel_rfl
theorem at78 : cfg.P.funcs[78]? = some f78 := by kernel_rfl
theorem at79 : cfg.P.funcs[79]? = some f79 := by kernel_rfl
theorem at82 : cfg.P.funcs[82]? = some f82 := by kernel_rfl
theorem at84 : cfg.P.funcs[84]? = some f84 := by kernel_rfl
theorem at86 : cfg.P.funcs[86]? = some f86 := by kernel_rfl
theorem at88 : cfg.P.funcs[88]? = some f88 := by kernel_rfl
theorem at89 : cfg.P.funcs[89]? = some f89 := by kernel_rfl
theorem at93 : cfg.P.funcs[93]? = some f93 := by kernel_rfl
theorem at94 : cfg.P.funcs[94]? = some f94 := by kernel_rfl
theorem at95 : cfg.P.funcs[95]? = some f95 := by kernel_rfl
theorem at96 : cfg.P.funcs[96]? = some f96 := by kernel_rfl
theorem at97 : cfg.P.funcs[97]? = some f97 := by kernel_rfl
theorem at98 : cfg.P.funcs[98]? = some f98 := by kernel_rfl
theorem at99 : cfg.P.funcs[99]? = some f99 := by kernel_rfl
theorem at100 : cfg.P.funcs[100]? = some f100 := by kernel_rfl
theorem at101 : cfg.P.funcs[101]? = some f101 := by kernel_rfl
theorem at102 : cfg.P.funcs[102]? = some f102 := by kernel_rfl
theorem at103 : cfg.P.funcs[103]? = some f103 := by kernel_rfl
theorem at104 : cfg.P.funcs[104]? = some f104 := by kernel_rfl
theorem at105 : cfg.P.funcs[105]? = some f105 := by kernel_rfl
theorem at106 : cfg.P.funcs[106]? = some f106 := by kernel_rfl
theorem at107 : cfg.P.funcs[107]? = some f107 := by kernel_rfl
theorem at108 : cfg.P.funcs[108]? = some f108 := by kernel_rfl
theorem at109 : cfg.P.funcs[109]? = some f109 := by kernel_rfl
theorem at110 : cfg.P.funcs[110]? = some f110 := by kernel_rfl
theorem at111 : cfg.P.funcs[111]? = some f111 := by kernel_rfl
theorem at112 : cfg.P.funcs[112]? = some f112 := by kernel_rfl
theorem at115 : cfg.P.funcs[115]? = some f115 := by kernel_rfl
theorem at116 : cfg.P.funcs[116]? = some f116 := by kernel_rfl
theorem at117 : cfg.P.funcs[117]? = some f117 := by kernel_rfl
theorem at118 : cfg.P.funcs[118]? = some f118 := by kernel_rfl
theorem at122 : cfg.P.funcs[122]? = some f122 := by kernel_rfl
theorem at123 : cfg.P.funcs[123]? = some f123 := by kernel_rfl
theorem at124 : cfg.P.funcs[124]? = some f124 := by kernel_rfl
theorem at125 : cfg.P.funcs[125]? = some f125 := by kernel_rfl
theorem at126 : cfg.P.funcs[126]? = some f126 := by kernel_rfl
theorem at127 : cfg.P.funcs[127]? = some f127 := by kernel_rfl
theorem at128 : cfg.P.funcs[128]? = some f128 := by kernel_rfl
theorem at129 : cfg.P.funcs[129]? = some f129 := by kernel_rfl
theorem at130 : cfg.P.funcs[130]? = some f130 := by kernel_rfl
theorem at131 : cfg.P.funcs[131]? = some f131 := by kernel_rfl
theorem at132 : cfg.P.funcs[132]? = some f132 := by kernel_rfl
theorem at133 : cfg.P.funcs[133]? = some f133 := by kernel_rfl
theorem at134 : cfg.P.funcs[134]? = some f134 := by kernel_rfl
theorem at135 : cfg.P.funcs[135]? = some f135 := by kernel_rfl
theorem at136 : cfg.P.funcs[136]? = some f136 := by kernel_rfl
theorem at137 : cfg.P.funcs[137]? = some f137 := by kernel_rfl
theorem at138 : cfg.P.funcs[138]? = some f138 := by kernel_rfl
theorem at139 : cfg.P.funcs[139]? = some f139 := by kernel_rfl
theorem at140 : cfg.P.funcs[140]? = some f140 := by kernel_rfl
end Go.Ab
