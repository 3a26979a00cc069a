/- Operations whose order is left open: one order serves for all. The abstract side alone. -/
import Derived.Test.YtlapgjmmlbnehaaAAbFrz
import Derived.Orders
set_option linter.unusedVariables false
set_option linter.unusedSimpArgs false
namespace Go.Ab

section
variable {R : Type} {C : Cfg} {fid : Nat} {callP : Nat → List AV → Option AV} {callI : Nat → List AV → Mem → Option (AV × Mem)}

def opF (C : Cfg) (fid : Nat) (callP : Nat → List AV → Option AV) (callI : Nat → List AV → Mem → Option (AV × Mem)) (d : Option Nat) (o : Oper) (ρ : Operand → AV) (m : Mem) : Option (AV × Mem) := opK C fid callP callI d o ρ m fun v m => some (v, m)

theorem opK_bind (d : Option Nat) (o : Oper) (ρ : Operand → AV) (m : Mem) (K : AV → Mem → Option R) : opK C fid callP callI d o ρ m K = (opF C fid callP callI d o ρ m).bind fun r => K r.1 r.2 := by
  unfold opF opK
  split <;> first
    | rfl
    | (simp only [Option.bind_assoc, Option.bind_some]; done)
    | ((repeat' split) <;> first | rfl | (simp only [Option.bind_assoc, Option.bind_some]; done) | skip)
  · simp only [Option.bind_assoc]
    congr 1; funext gc
    unfold callK
    (repeat' split) <;> first | rfl | (simp only [Option.bind_assoc, Option.bind_some]; done)
  · unfold builtinK
    (repeat' split) <;> first | rfl | (simp only [Option.bind_assoc, Option.bind_some]; done)

theorem map_congr_ops {ρ ρ' : Operand → AV} (xs : Array Operand) (h : ∀ x ∈ xs, ρ x = ρ' x) : xs.toList.map ρ = xs.toList.map ρ' := List.map_congr_left fun x hx => h x (by simpa using hx)

theorem opF_congr {d : Option Nat} {o : Oper} {ρ ρ' : Operand → AV} {m : Mem} (h : ∀ x ∈ o.op.operands, ρ x = ρ' x) : opF C fid callP callI d o ρ m = opF C fid callP callI d o ρ' m := by
  unfold opF opK
  cases hop : o.op <;> simp only [hop, Op.operands] at h <;> simp only []
  case move x => rw [h x (by simp)]
  case assign x => rw [h x (by simp)]
  case pick c a b => rw [h c (by simp), h a (by simp), h b (by simp)]
  case box t x => rw [h x (by simp)]
  case build t ps =>
    have : ps.toList.mapM (fun p => (fieldOf C.P t p.1).map fun f => (f.1, f.2, ρ p.2)) = ps.toList.mapM (fun p => (fieldOf C.P t p.1).map fun f => (f.1, f.2, ρ' p.2)) := by
      have hps : ∀ p ∈ ps.toList, ρ p.2 = ρ' p.2 := fun p hp => h p.2 (by simp; exact ⟨p.1, by simpa using hp⟩)
      generalize ps.toList = l at hps
      induction l with
      | nil => rfl
      | cons p l ih =>
        simp only [List.mapM_cons]
        rw [hps p (by simp), ih fun q hq => hps q (by simp [hq])]
    rw [this]
  case buildSlice t n ps =>
    have : (ps.toList.map fun p => ρ p.2) = ps.toList.map fun p => ρ' p.2 := List.map_congr_left fun p hp => h p.2 (by simp; exact ⟨p.1, by simpa using hp⟩)
    rw [this]
  case load t x => rw [h x (by simp)]
  case store t x y => rw [h x (by simp), h y (by simp)]
  case nilCheck x => rw [h x (by simp)]
  case binOp op t x y ty => rw [h x (by simp), h y (by simp)]
  case unOp op t x => rw [h x (by simp)]
  case convert s t x => rw [h x (by simp)]
  case makeFunc fn fi cs =>
    rw [map_congr_ops cs fun x hx => h x (by simp [hx])]
  case makeSlice t l c => rw [h l (by simp), h c (by simp)]
  case slice t x lo hi mx =>
    have h1 : lo.map ρ = lo.map ρ' := by cases lo with | none => rfl | some y => simp only [Option.map_some]; rw [h y (by simp)]
    have h2 : hi.map ρ = hi.map ρ' := by cases hi with | none => rfl | some y => simp only [Option.map_some]; rw [h y (by simp)]
    have h3 : mx.map ρ = mx.map ρ' := by cases mx with | none => rfl | some y => simp only [Option.map_some]; rw [h y (by simp)]
    rw [h1, h2, h3, h x (by simp)]
  case fieldAddr t x f => rw [h x (by simp)]
  case field t x f => rw [h x (by simp)]
  case indexAddr t x i => rw [h x (by simp), h i (by simp)]
  case index t x i => rw [h x (by simp), h i (by simp)]
  case extract x i => rw [h x (by simp)]
  case call c =>
    cases hc : c.callee with
    | value f =>
      simp only [Call.operands, hc] at h
      rw [map_congr_ops c.args fun x hx => h x (by simp [hx])]
      simp only []
      rw [h f (by simp)]
    | builtin b =>
      simp only [Call.operands, hc] at h
      rw [map_congr_ops c.args fun x hx => h x (by simp [hx])]
    | invoke r n => rfl

/-! ### Memory that holds more -/
def Ext (m m' : Mem) : Prop := ∀ nm o, m.obj? nm = some o → m'.obj? nm = some o
theorem Ext.refl (m : Mem) : Ext m m := fun _ _ h => h

theorem mapF_mono {f f' : AV → Option (AV × List Nat)} (h : ∀ x r, f x = some r → f' x = some r) : ∀ (cs : List AV) r, mapF f cs = some r → mapF f' cs = some r
  | [], r, hr => hr
  | c :: cs, r, hr => by
    simp only [mapF, Option.bind_eq_some_iff, Option.map_eq_some_iff] at hr ⊢
    obtain ⟨x, hx, y, hy, rfl⟩ := hr
    exact ⟨x, h _ _ hx, y, mapF_mono h cs y hy, rfl⟩

theorem frz_mono {m m' : Mem} (h : Ext m m') : ∀ (k : Nat) (x : AV) r, frz m k x = some r → frz m' k x = some r := by
  intro k
  induction k with
  | zero => intro x r hr; simp [frz] at hr
  | succ k ih =>
    intro x r hr
    have hm := mapF_mono ih
    cases x <;> simp only [frz] at hr ⊢ <;> try exact hr
    · simp only [Option.bind_eq_some_iff] at hr ⊢
      obtain ⟨o, ho, hr⟩ := hr
      refine ⟨o, h _ _ ho, ?_⟩
      split at hr
      · rename_i hc
        rw [if_pos hc]
        simp only [Option.bind_eq_some_iff] at hr ⊢
        obtain ⟨y, hy, hr⟩ := hr
        exact ⟨y, hm _ _ hy, hr⟩
      · cases hr
    · simp only [Option.bind_eq_some_iff] at hr ⊢
      obtain ⟨o, ho, hr⟩ := hr
      refine ⟨o, h _ _ ho, ?_⟩
      split at hr
      · rename_i hc
        rw [if_pos hc]
        simp only [Option.map_eq_some_iff] at hr ⊢
        obtain ⟨y, hy, hr⟩ := hr
        exact ⟨y, hm _ _ hy, hr⟩
      · cases hr
    all_goals
      simp only [Option.map_eq_some_iff] at hr ⊢
      obtain ⟨y, hy, hr⟩ := hr
      exact ⟨y, hm _ _ hy, hr⟩

theorem bind_pair (x : Option AV) (m : Mem) : (x.bind fun v => some (v, m)) = ((x.bind fun v => some (v, ([] : Mem))).map fun r => (r.1, m)) := by cases x <;> rfl

theorem opF_N_eq {d : Option Nat} {o : Oper} {ρ : Operand → AV} (hc : clsOf o = .N) (m : Mem) : opF C fid callP callI d o ρ m = (opF C fid callP callI d o ρ []).map fun r => (r.1, m) := by
  unfold opF opK
  unfold clsOf at hc
  cases hop : o.op <;> simp only [hop] at hc ⊢ <;> first
    | (cases hc; done)
    | rfl
    | exact bind_pair _ _
    | ((repeat' split) <;> first | rfl | exact bind_pair _ _ | skip)
  · rename_i c _ f hc1
    rw [hc1] at hc
    cases hc
  · rename_i c _ b hc1
    rw [hc1] at hc
    unfold builtinK
    (repeat' split) <;> first | rfl | exact bind_pair _ _ | skip
    all_goals (simp at hc)

theorem opF_N {d : Option Nat} {o : Oper} {ρ : Operand → AV} {m m1 : Mem} {v : AV} (hc : clsOf o = .N) (h : opF C fid callP callI d o ρ m = some (v, m1)) : m1 = m ∧ ∀ m', opF C fid callP callI d o ρ m' = some (v, m') := by
  rw [opF_N_eq hc] at h
  obtain ⟨r, hr, h⟩ := Option.map_eq_some_iff.1 h
  simp only [Prod.mk.injEq] at h
  obtain ⟨rfl, rfl⟩ := h
  exact ⟨rfl, fun m' => by rw [opF_N_eq hc, hr]; rfl⟩

theorem opF_L {s : Nat} {o : Oper} {ρ : Operand → AV} {m m1 : Mem} {v : AV} (hc : clsOf o = .L) (h : opF C fid callP callI (some s) o ρ m = some (v, m1)) : m1 = m ∧ ∀ s' m', Ext m m' → opF C fid callP callI (some s') o ρ m' = some (v, m') := by
  unfold opF opK at h ⊢
  unfold clsOf at hc
  cases hop : o.op <;> simp only [hop] at hc h ⊢ <;> first | (cases hc; done) | skip
  case load t x =>
    split at h
    · rename_i sh hsh
      simp only [Option.bind_eq_some_iff, Option.some.injEq, Prod.mk.injEq] at h
      obtain ⟨u, hu, rfl, rfl⟩ := h
      refine ⟨rfl, fun s' m' hx => ?_⟩
      have : loadA sh m' (ρ x) = some u := by
        unfold loadA at hu ⊢
        split at hu
        · exact hu
        · simp only [Option.bind_eq_some_iff] at hu ⊢
          obtain ⟨o, ho, hu⟩ := hu
          exact ⟨o, hx _ _ ho, hu⟩
        · cases hu
      simp [this]
    · cases h
  case call c =>
    split at hc <;> first | (cases hc; done) | skip
    rename_i f hcal
    simp only [hcal] at h ⊢
    simp only [Option.bind_eq_some_iff] at h ⊢
    obtain ⟨gc, hgc, h⟩ := h
    have key : m1 = m ∧ ∀ s' m', Ext m m' → callK C fid callP callI (some s') gc.1 (List.map ρ c.args.toList ++ gc.2) m' (fun v m => some (v, m)) = some (v, m') := by
      unfold callK at h ⊢
      split at h
      · rename_i hh hlib
        simp only [Option.bind_eq_some_iff, Option.some.injEq, Prod.mk.injEq] at h
        obtain ⟨u, hu, rfl, rfl⟩ := h
        exact ⟨rfl, fun s' m' hx => by simp [hlib, hu]⟩
      · rename_i hlib
        split at h
        · simp at h
        · rename_i hinl
          simp only [Option.bind_eq_some_iff] at h
          obtain ⟨⟨u, mu⟩, hp, h⟩ := h
          simp only [Option.some.injEq, Prod.mk.injEq] at h
          obtain ⟨rfl, rfl⟩ := h
          unfold pcall at hp
          simp only [Option.bind_eq_some_iff] at hp
          obtain ⟨⟨rs, l⟩, hf, hp⟩ := hp
          split at hp
          · cases hp
          · rename_i hk
            simp only [Option.map_eq_some_iff, Prod.mk.injEq] at hp
            obtain ⟨u', hu, rfl, rfl⟩ := hp
            have hl : l = [] := by simpa using hk
            subst hl
            refine ⟨rfl, fun s' m' hx => ?_⟩
            have := mapF_mono (frz_mono hx fuelF) _ _ hf
            have hpc : pcall callP (some s') m' gc.1 (List.map ρ c.args.toList ++ gc.2) = some (u', m') := by
              unfold pcall
              simp only [this, Option.bind_some, List.isEmpty_nil, Bool.not_true, Bool.and_false, Bool.false_eq_true, if_false, hu]
              rfl
            rw [hpc]
            rfl
    exact ⟨key.1, fun s' m' hx => ⟨gc, hgc, key.2 s' m' hx⟩⟩

theorem newAt_some (s : Nat) (m : Mem) (e : Ent) : newAt (some s) m e = (s, m.set s (some e)) := rfl

theorem opF_A {s : Nat} {o : Oper} {ρ : Operand → AV} {m m1 : Mem} {v : AV} (hc : clsOf o = .A) (h : opF C fid callP callI (some s) o ρ m = some (v, m1)) : ∃ e, m1 = m.set s (some e) ∧ ∀ m', opF C fid callP callI (some s) o ρ m' = some (v, m'.set s (some e)) := by
  unfold opF opK at h ⊢
  unfold clsOf at hc
  cases hop : o.op <;> simp only [hop] at hc h ⊢ <;> first | (cases hc; done) | skip
  case alloc t =>
    split at h
    · rename_i z hz
      simp only [newAt_some, Option.some.injEq, Prod.mk.injEq] at h
      obtain ⟨rfl, rfl⟩ := h
      exact ⟨_, rfl, fun m' => rfl⟩
    · cases h
  case box t x =>
    split at h
    · rename_i sh hsh
      simp only [Option.bind_eq_some_iff] at h
      obtain ⟨r, hr, h⟩ := h
      unfold boxA at hr ⊢
      split at hr
      · rename_i hok
        simp only [newAt_some, Option.some.injEq] at hr
        subst hr
        simp only [Option.some.injEq, Prod.mk.injEq] at h
        obtain ⟨rfl, rfl⟩ := h
        exact ⟨_, rfl, fun m' => by simp [hok, newAt_some]⟩
      · cases hr
    · cases h
  case makeSlice t l c =>
    split at h
    · rename_i e he
      split at h
      · rename_i sh z hsh hz
        split at h
        · rename_i hel
          simp only [Option.bind_eq_some_iff] at h
          obtain ⟨r, hr, h⟩ := h
          simp only [Option.some.injEq, Prod.mk.injEq] at h
          obtain ⟨rfl, rfl⟩ := h
          cases htk : C.tokm fid with
          | true => rw [htk] at hr; simp [makeT] at hr
          | false =>
          rw [htk] at hr
          simp only at hr
          unfold makeA at hr
          split at hr
          · rename_i kl l' kc c' hl hcc
            split at hr
            · rename_i hcond
              split at hr
              · rename_i heq
                simp only [newAt_some, Option.some.injEq] at hr
                subst hr
                exact ⟨_, rfl, fun m' => by rw [if_pos hel]; simp only [makeA, hl, hcc, if_pos hcond, if_pos heq, newAt_some, Option.bind_some]⟩
              · rename_i hne
                split at hr
                · rename_i h0
                  simp only [newAt_some, Option.some.injEq] at hr
                  subst hr
                  exact ⟨_, rfl, fun m' => by rw [if_pos hel]; simp only [makeA, hl, hcc, if_pos hcond, if_neg hne, if_pos h0, newAt_some, Option.bind_some]⟩
                · cases hr
            · cases hr
          · cases hr
        · cases h
      · cases h
    · cases h
  case call c =>
    split at hc <;> cases hc

theorem ext_set {m : Mem} {s : Nat} {e : Option Ent} (h : ∀ bx cs, m.get s ≠ some (.obj bx cs)) : Ext m (m.set s e) := by
  intro nm o ho
  unfold Mem.obj? at ho ⊢
  rw [get_set]
  by_cases hs : nm = s
  · subst hs
    split at ho
    · rename_i hh; exact absurd hh (h _ _)
    · cases ho
  · rw [if_neg hs]; exact ho

theorem opF_Ap {s : Nat} {o : Oper} {ρ : Operand → AV} {m m1 : Mem} {v : AV} (hc : clsOf o = .Ap) (hs : m.get s = some .resv) (h : opF C fid callP callI (some s) o ρ m = some (v, m1)) : Ext m m1 := by
  have hres : ∀ e, Ext m (m.set s e) := fun e => ext_set fun bx cs hh => by rw [hs] at hh; cases hh
  unfold opF opK at h
  unfold clsOf at hc
  cases hop : o.op <;> simp only [hop] at hc h <;> first | (cases hc; done) | skip
  case call c =>
    split at hc <;> first | (cases hc; done) | skip
    rename_i hcal
    simp only [hcal] at h
    unfold builtinK at h
    split at h
    all_goals first | (rename_i hb _; cases hb; done) | skip
    · split at h
      · split at h
        · split at h
          · split at h
            · split at h
              · simp only [Option.bind_eq_some_iff, Option.some.injEq, Prod.mk.injEq] at h
                obtain ⟨r, hr, rfl, rfl⟩ := h
                unfold appA at hr
                split at hr
                · split at hr
                  · simp only [Option.some.injEq] at hr; subst hr; exact Ext.refl m
                  · split at hr
                    · split at hr
                      · split at hr
                        · cases hr
                        · split at hr
                          · split at hr <;> (simp only [newAt_some, Option.some.injEq] at hr; subst hr; exact hres _)
                          · cases hr
                        · split at hr
                          · split at hr
                            · rename_i nm e' k sz hget
                              split at hr
                              · simp only [Option.some.injEq] at hr; subst hr
                                exact ext_set fun bx cs hh => by rw [hget] at hh; cases hh
                              · cases hr
                            · cases hr
                          · cases hr
                      · cases hr
                    · cases hr
                · cases hr
              · cases h
            · cases h
          · cases h
        · cases h
      · cases h
    · cases h
end
end Go.Ab
