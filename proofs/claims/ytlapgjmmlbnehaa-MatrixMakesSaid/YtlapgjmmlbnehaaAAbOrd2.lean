/- One order serves for all: what is ready may be taken first. -/
import Derived.Test.YtlapgjmmlbnehaaAAbOrd
set_option linter.unusedVariables false
set_option linter.unusedSimpArgs false
namespace Go.Ab

section
variable {R : Type} (C : Cfg) (fid : Nat) (callP : Nat → List AV → Option AV) (callI : Nat → List AV → Mem → Option (AV × Mem))

def opG (base : Option Nat) (ops : Array Oper) (i : Nat) (o : Oper) (ts : List AV) (m : Mem) : Option (AV × Mem) := match o.guard with
  | none => opF C fid callP callI (base.map (· + rankA ops i)) o (ev ts) m
  | some (j, want) => match (ops[j]?).bind (·.dst) with
    | none => none
    | some g => match skpd ops ts j with
      | true => match ts.getD g .any with
        | .tup cs => match cs with
          | [] => some (.tup [], m)
          | _ :: _ => none
        | _ => none
      | false => match ts.getD g .any with
        | .bool b => if b = want then opF C fid callP callI (base.map (· + rankA ops i)) o (ev ts) m else some (.tup [], m)
        | _ => none
def stepF (base : Option Nat) (ops : Array Oper) (i : Nat) (st : St) : Option St := match ops[i]? with
  | none => none
  | some o => (opG C fid callP callI base ops i o st.tmps st.mem).map fun r => ⟨setD st.tmps o.dst r.1, r.2⟩
def runF (base : Option Nat) (ops : Array Oper) : List Nat → St → Option St
  | [], st => some st
  | i :: l, st => (stepF C fid callP callI base ops i st).bind (runF base ops l)
end

section
variable {R : Type} {C : Cfg} {fid : Nat} {callP : Nat → List AV → Option AV} {callI : Nat → List AV → Mem → Option (AV × Mem)}

theorem set_self {ts : List AV} {g : Nat} {v : AV} (h : ts.getD g .any = v) (hv : v ≠ .any) : ts.set g v = ts := by
  rcases Nat.lt_or_ge g ts.length with hl | hl
  · rw [List.getD_eq_getElem?_getD, List.getElem?_eq_getElem hl] at h
    simp only [Option.getD_some] at h
    rw [← h]; exact List.set_getElem_self hl
  · rw [List.getD_eq_getElem?_getD, List.getElem?_eq_none hl] at h
    exact absurd h.symm hv

theorem runOps_eq (base : Option Nat) (ops : Array Oper) : ∀ (l : List Nat) (st : St) (K : St → Option R), runOps C fid callP callI base ops l st K = (runF C fid callP callI base ops l st).bind K
  | [], st, K => rfl
  | i :: l, st, K => by
    have ih := runOps_eq base ops l
    simp only [runOps, runF, stepF]
    cases hi : ops[i]? with
    | none => rfl
    | some o =>
      simp only []
      cases hg : o.guard with
      | none =>
        simp only [opG, hg]
        rw [opK_bind]
        simp only [ih]
        cases opF C fid callP callI (base.map (· + rankA ops i)) o (ev st.tmps) st.mem with
        | none => rfl
        | some r => rfl
      | some jw =>
        obtain ⟨j, want⟩ := jw
        simp only [opG, hg]
        cases hd : (ops[j]?).bind (·.dst) with
        | none => rfl
        | some g =>
          simp only []
          generalize hv : st.tmps.getD g .any = v
          cases skpd ops st.tmps j with
          | true =>
            simp only []
            cases v with
            | tup cs =>
              cases cs with
              | nil => simp only [ih]; rfl
              | cons c cs => rfl
            | _ => rfl
          | false =>
          simp only []
          cases v with
          | bool b =>
            have hs := set_self hv (by simp)
            have hrun : ∀ b0, st.tmps.set g (.bool b0) = st.tmps → (opK C fid callP callI (base.map (· + rankA ops i)) o (ev (st.tmps.set g (.bool b0))) st.mem fun v m => runOps C fid callP callI base ops l ⟨setD (st.tmps.set g (.bool b0)) o.dst v, m⟩ K) =
                (((opF C fid callP callI (base.map (· + rankA ops i)) o (ev st.tmps) st.mem).map fun r => (⟨setD st.tmps o.dst r.1, r.2⟩ : St)).bind (runF C fid callP callI base ops l)).bind K := by
              intro b0 hs0
              rw [hs0, opK_bind]
              simp only [ih]
              cases opF C fid callP callI (base.map (· + rankA ops i)) o (ev st.tmps) st.mem with
              | none => rfl
              | some r => rfl
            have hskip : ∀ b0, st.tmps.set g (.bool b0) = st.tmps → runOps C fid callP callI base ops l ⟨setD (st.tmps.set g (.bool b0)) o.dst (.tup []), st.mem⟩ K =
                (((some (AV.tup [], st.mem)).map fun r => (⟨setD st.tmps o.dst r.1, r.2⟩ : St)).bind (runF C fid callP callI base ops l)).bind K := by
              intro b0 hs0
              rw [hs0]
              simp only [ih]
              rfl
            cases want <;> cases b
            · exact hrun false hs
            · exact hskip true hs
            · exact hskip false hs
            · exact hrun true hs
          | _ => cases want <;> rfl

/-! ### Which slots an operation looks at -/
theorem ev_congr {ts ts' : List AV} (x : Operand) (h : ∀ t, x = .tmp t → ts.getD t .any = ts'.getD t .any) : ev ts x = ev ts' x := by
  cases x with
  | tmp t => exact h t rfl
  | _ => rfl

theorem opG_congr {base : Option Nat} {ops : Array Oper} {i : Nat} {o : Oper} {ts ts' : List AV} {m : Mem} (h : ∀ t ∈ looks ops o, ts.getD t .any = ts'.getD t .any) : opG C fid callP callI base ops i o ts m = opG C fid callP callI base ops i o ts' m := by
  have h1 : opF C fid callP callI (base.map (· + rankA ops i)) o (ev ts) m = opF C fid callP callI (base.map (· + rankA ops i)) o (ev ts') m := by
    refine opF_congr fun x hx => ev_congr x fun t ht => h t ?_
    unfold looks
    refine List.mem_append.2 (.inl (List.mem_filterMap.2 ⟨x, by simpa using hx, ?_⟩))
    rw [ht]
  unfold opG
  cases hg : o.guard with
  | none => exact h1
  | some jw =>
    obtain ⟨j, want⟩ := jw
    simp only []
    cases hd : (ops[j]?).bind (·.dst) with
    | none => rfl
    | some g =>
      simp only []
      have h2 : ts.getD g .any = ts'.getD g .any := h g (by unfold looks; rw [hg]; simp [hd])
      have h3 : skpd ops ts j = skpd ops ts' j := by
        unfold skpd
        cases hq : (ops[j]?).bind (·.guard) with
        | none => rfl
        | some jw' =>
          obtain ⟨j', w'⟩ := jw'
          simp only []
          cases hd' : (ops[j']?).bind (·.dst) with
          | none => rfl
          | some g' =>
            simp only []
            have h4 : ts.getD g' .any = ts'.getD g' .any := h g' (by unfold looks; rw [hg]; simp [hq, hd'])
            rw [h4]
      rw [h2, h1, h3]

theorem setD_getD {ts : List AV} {d : Option Nat} {v : AV} {t : Nat} (h : d ≠ some t) : (setD ts d v).getD t .any = ts.getD t .any := by
  cases d with
  | none => rfl
  | some d =>
    have : d ≠ t := fun he => h (by rw [he])
    simp [setD, List.getD_eq_getElem?_getD, List.getElem?_set, this]
theorem setD_comm {ts : List AV} {d e : Option Nat} {v u : AV} (h : d = none ∨ d ≠ e) : setD (setD ts d v) e u = setD (setD ts e u) d v := by
  cases d with
  | none => rfl
  | some d =>
    cases e with
    | none => rfl
    | some e =>
      have : d ≠ e := fun he => by rcases h with h | h <;> simp_all
      exact List.set_comm _ _ this

theorem opG_cases {base : Option Nat} {ops : Array Oper} {i : Nat} {o : Oper} {ts : List AV} {m m1 : Mem} {v : AV} (h : opG C fid callP callI base ops i o ts m = some (v, m1)) :
    (opF C fid callP callI (base.map (· + rankA ops i)) o (ev ts) m = some (v, m1) ∧ ∀ m', opG C fid callP callI base ops i o ts m' = opF C fid callP callI (base.map (· + rankA ops i)) o (ev ts) m') ∨
    (m1 = m ∧ ∀ m', opG C fid callP callI base ops i o ts m' = some (v, m')) := by
  unfold opG at h ⊢
  cases hg : o.guard with
  | none => simp only [hg] at h; exact .inl ⟨h, fun _ => rfl⟩
  | some jw =>
    obtain ⟨j, want⟩ := jw
    simp only [hg] at h ⊢
    cases hd : (ops[j]?).bind (·.dst) with
    | none => simp [hd] at h
    | some g =>
      simp only [hd] at h ⊢
      cases hsk : skpd ops ts j with
      | true =>
        simp only [hsk] at h ⊢
        cases hv : ts.getD g .any with
        | tup cs =>
          simp only [hv] at h ⊢
          cases cs with
          | nil =>
            simp only [Option.some.injEq, Prod.mk.injEq] at h
            obtain ⟨rfl, rfl⟩ := h
            exact .inr ⟨rfl, fun m' => rfl⟩
          | cons c cs => simp only at h; cases h
        | _ => simp only [hv] at h; cases h
      | false =>
      simp only [hsk] at h ⊢
      cases hv : ts.getD g .any with
      | bool b =>
        simp only [hv] at h ⊢
        by_cases hb : b = want
        · rw [if_pos hb] at h
          exact .inl ⟨h, fun _ => by rw [if_pos hb]⟩
        · rw [if_neg hb] at h
          simp only [Option.some.injEq, Prod.mk.injEq] at h
          obtain ⟨rfl, rfl⟩ := h
          exact .inr ⟨rfl, fun m' => by rw [if_neg hb]⟩
      | _ => simp only [hv] at h; cases h

/-- Where a place is kept, it stays kept, but for the operation's own. -/
theorem opF_resv {s : Nat} {o : Oper} {ρ : Operand → AV} {m m1 : Mem} {v : AV} (h : opF C fid callP callI (some s) o ρ m = some (v, m1)) (x : Nat) (hx : m.get x = some .resv) : (x = s ∧ makes o = true) ∨ m1.get x = some .resv := by
  have hset : ∀ e, makes o = true → (x = s ∧ makes o = true) ∨ Mem.get (m.set s e) x = some .resv := fun e hmk => by
    by_cases hxs : x = s
    · exact .inl ⟨hxs, hmk⟩
    · exact .inr (by rw [get_set, if_neg hxs]; exact hx)
  cases hc : clsOf o with
  | N => obtain ⟨rfl, _⟩ := opF_N hc h; exact .inr hx
  | L => obtain ⟨rfl, _⟩ := opF_L hc h; exact .inr hx
  | A =>
    obtain ⟨e, rfl, _⟩ := opF_A hc h
    refine hset _ ?_
    unfold clsOf at hc
    unfold makes
    cases hop : o.op <;> simp only [hop] at hc <;> first | rfl | (cases hc; done) | (split at hc <;> cases hc)
  | Ap =>
    have hmk : makes o = true := by
      unfold clsOf at hc
      unfold makes
      cases hop : o.op <;> simp only [hop] at hc <;> first | (cases hc; done) | skip
      split at hc <;> first | (cases hc; done) | skip
      rename_i hcal
      simp [hcal]
    unfold opF opK at h
    unfold clsOf at hc
    cases hop : o.op <;> simp only [hop] at hc h <;> first | (cases hc; done) | skip
    case call c =>
      split at hc <;> first | (cases hc; done) | skip
      rename_i hcal
      simp only [hcal] at h
      unfold builtinK at h
      split at h
      all_goals first | (rename_i hb _; cases hb; done) | skip
      · split at h
        · split at h
          · split at h
            · split at h
              · split at h
                · simp only [Option.bind_eq_some_iff, Option.some.injEq, Prod.mk.injEq] at h
                  obtain ⟨r, hr, rfl, rfl⟩ := h
                  unfold appA at hr
                  split at hr
                  · split at hr
                    · simp only [Option.some.injEq] at hr; subst hr; exact .inr hx
                    · split at hr
                      · split at hr
                        · split at hr
                          · cases hr
                          · split at hr
                            · split at hr <;> (simp only [newAt_some, Option.some.injEq] at hr; subst hr; exact hset _ hmk)
                            · cases hr
                          · split at hr
                            · split at hr
                              · rename_i nm e' k sz hget
                                split at hr
                                · simp only [Option.some.injEq] at hr; subst hr
                                  refine .inr ?_
                                  simp only []
                                  rw [get_set, if_neg (fun he => by subst he; rw [hget] at hx; cases hx)]
                                  exact hx
                                · cases hr
                              · cases hr
                            · cases hr
                        · cases hr
                      · cases hr
                  · cases hr
                · cases h
              · cases h
            · cases h
          · cases h
        · cases h
      · cases h
  | W =>
    unfold opF opK at h
    unfold clsOf at hc
    cases hop : o.op <;> simp only [hop] at hc h <;> first | (cases hc; done) | (cases h; done) | skip
    case store t y z =>
      split at h
      · rename_i sh hsh
        simp only [Option.bind_eq_some_iff, Option.some.injEq, Prod.mk.injEq] at h
        obtain ⟨m2, hm2, rfl, rfl⟩ := h
        unfold storeA at hm2
        split at hm2
        · rename_i nm off _
          simp only [Option.bind_eq_some_iff] at hm2
          obtain ⟨ob, hob, hm2⟩ := hm2
          split at hm2
          · split at hm2
            · simp only [Option.some.injEq] at hm2; subst hm2
              refine .inr ?_
              rw [get_set, if_neg (fun he => by
                subst he
                unfold Mem.obj? at hob
                rw [hx] at hob
                cases hob)]
              exact hx
            · cases hm2
          · cases hm2
        · cases hm2
      · cases h
    case call c =>
      split at hc <;> first | (cases hc; done) | skip
      rename_i hne1 hne2 hne3 hne4 hne5
      split at h
      · rename_i f hcal
        exact absurd hcal (hne5 f)
      · rename_i b hcal
        unfold builtinK at h
        split at h
        · exact absurd hcal hne1
        · exact absurd hcal hne2
        · exact absurd hcal hne3
        · exact absurd hcal hne4
        · cases h
      · cases h

/-! ### Two that may change places -/
theorem ranks_ne {ops : Array Oper} {i j : Nat} {x y : Oper} (hi : ops[i]? = some x) (hj : ops[j]? = some y) (hmi : makes x = true) (hmj : makes y = true) (hne : i ≠ j) : rankA ops i ≠ rankA ops j := by
  have key : ∀ i j x, i < j → ops[i]? = some x → makes x = true → rankA ops i < rankA ops j := by
    intro i j x hlt hi hm
    have hil : i < ops.toList.length := by
      have := (Array.getElem?_eq_some_iff.1 hi).1; simpa using this
    have h1 : rankA ops (i + 1) = rankA ops i + 1 := by
      unfold rankA
      have he : ops.toList[i] = x := by
        have := (Array.getElem?_eq_some_iff.1 hi).2; simpa using this
      rw [List.take_succ_eq_append_getElem hil, List.filter_append, List.length_append, he]
      simp [hm]
    have h2 : rankA ops (i + 1) ≤ rankA ops j := by
      unfold rankA
      have : ops.toList.take (i + 1) = (ops.toList.take j).take (i + 1) := by rw [List.take_take]; congr 1; omega
      rw [this]
      exact List.Sublist.length_le ((List.take_sublist _ _).filter _)
    omega
  rcases Nat.lt_or_gt_of_ne hne with h | h
  · exact Nat.ne_of_lt (key i j x h hi hmi)
  · exact Nat.ne_of_gt (key j i y h hj hmj)

def Kept (ops : Array Oper) (b : Nat) (m : Mem) (l : List Nat) : Prop := ∀ i ∈ l, ∀ o, ops[i]? = some o → makes o = true → m.get (b + rankA ops i) = some .resv

theorem stepF_some {base : Option Nat} {ops : Array Oper} {i : Nat} {st s1 : St} (h : stepF C fid callP callI base ops i st = some s1) : ∃ o v m1, ops[i]? = some o ∧ opG C fid callP callI base ops i o st.tmps st.mem = some (v, m1) ∧ s1 = ⟨setD st.tmps o.dst v, m1⟩ := by
  unfold stepF at h
  cases hi : ops[i]? with
  | none => simp [hi] at h
  | some o =>
    simp only [hi] at h
    obtain ⟨⟨v, m1⟩, hr, rfl⟩ := Option.map_eq_some_iff.1 h
    exact ⟨o, v, m1, rfl, hr, rfl⟩

theorem stepF_kept {b : Nat} {ops : Array Oper} {j : Nat} {st s1 : St} {l : List Nat} (h : stepF C fid callP callI (some b) ops j st = some s1) (hk : Kept ops b st.mem l) (hj : j ∉ l) : Kept ops b s1.mem l := by
  obtain ⟨o, v, m1, ho, hr, rfl⟩ := stepF_some h
  intro i hi x hx hm
  have hres := hk i hi x hx hm
  rcases opG_cases hr with ⟨hf, _⟩ | ⟨rfl, _⟩
  · rcases opF_resv (s := b + rankA ops j) hf _ hres with ⟨he, hmo⟩ | h
    · exact absurd (by omega : rankA ops i = rankA ops j) (ranks_ne hx ho hm hmo (fun he => hj (he ▸ hi)))
    · exact h
  · exact hres

theorem apart_facts {ops : Array Oper} {x y : Oper} (h : apartA ops x y = true) : (∀ d, x.dst = some d → d ∉ looks ops y) ∧ (∀ d, y.dst = some d → d ∉ looks ops x) ∧ (x.dst = none ∨ x.dst ≠ y.dst) := by
  unfold apartA at h
  simp only [Bool.and_eq_true] at h
  refine ⟨fun d hd => ?_, fun d hd => ?_, ?_⟩
  · rw [hd] at h; simp at h; exact h.1.1
  · rw [hd] at h; simp at h; exact h.2
  · cases hx : x.dst with
    | none => exact .inl rfl
    | some d =>
      rw [hx] at h; simp at h
      exact .inr fun he => h.1.2 he.symm

theorem swap {b : Nat} {ops : Array Oper} {i j : Nat} {st s1 s2 : St} {x y : Oper} (hx : ops[i]? = some x) (hy : ops[j]? = some y) (hne : i ≠ j) (hok : swapOk ops x y = true) (hk : Kept ops b st.mem [i, j])
    (h1 : stepF C fid callP callI (some b) ops i st = some s1) (h2 : stepF C fid callP callI (some b) ops j s1 = some s2) : ∃ s1', stepF C fid callP callI (some b) ops j st = some s1' ∧ stepF C fid callP callI (some b) ops i s1' = some s2 := by
  obtain ⟨x', vi, mi, hx', hri, rfl⟩ := stepF_some h1
  obtain rfl : x = x' := by simpa [hx] using hx'
  obtain ⟨y', vj, mj, hy', hrj, rfl⟩ := stepF_some h2
  obtain rfl : y = y' := by simpa [hy] using hy'
  unfold swapOk at hok
  simp only [Bool.and_eq_true] at hok
  obtain ⟨hcls, hap⟩ := hok
  obtain ⟨a1, a2, a3⟩ := apart_facts hap
  simp only at hrj
  have cj : ∀ m, opG C fid callP callI (some b) ops j y (setD st.tmps x.dst vi) m = opG C fid callP callI (some b) ops j y st.tmps m := fun m => opG_congr fun t ht => setD_getD fun hd => a1 t hd ht
  have ci : ∀ v m, opG C fid callP callI (some b) ops i x (setD st.tmps y.dst v) m = opG C fid callP callI (some b) ops i x st.tmps m := fun v m => opG_congr fun t ht => setD_getD fun hd => a2 t hd ht
  rw [cj] at hrj
  -- enough: the second from the first memory, the first behind it
  have enough : ∀ m1, opG C fid callP callI (some b) ops j y st.tmps st.mem = some (vj, m1) → opG C fid callP callI (some b) ops i x st.tmps m1 = some (vi, mj) →
      ∃ s1', stepF C fid callP callI (some b) ops j st = some s1' ∧ stepF C fid callP callI (some b) ops i s1' = some ⟨setD (setD st.tmps x.dst vi) y.dst vj, mj⟩ := by
    intro m1 e1 e2
    refine ⟨⟨setD st.tmps y.dst vj, m1⟩, by simp [stepF, hy, e1], ?_⟩
    simp only [stepF, hx, ci, e2, Option.map_some]
    rw [setD_comm a3]
  have nI : clsOf x = .N → mi = st.mem ∧ ∀ m', opG C fid callP callI (some b) ops i x st.tmps m' = some (vi, m') := fun hc => by
    rcases opG_cases hri with ⟨hf, hall⟩ | ⟨rfl, hall⟩
    · obtain ⟨rfl, h⟩ := opF_N hc hf
      exact ⟨rfl, fun m' => (hall m').trans (h m')⟩
    · exact ⟨rfl, hall⟩
  have nJ : clsOf y = .N → mj = mi ∧ ∀ m', opG C fid callP callI (some b) ops j y st.tmps m' = some (vj, m') := fun hc => by
    rcases opG_cases hrj with ⟨hf, hall⟩ | ⟨rfl, hall⟩
    · obtain ⟨rfl, h⟩ := opF_N hc hf
      exact ⟨rfl, fun m' => (hall m').trans (h m')⟩
    · exact ⟨rfl, hall⟩
  have lI : clsOf x = .L → mi = st.mem ∧ ∀ m', Ext st.mem m' → opG C fid callP callI (some b) ops i x st.tmps m' = some (vi, m') := fun hc => by
    rcases opG_cases hri with ⟨hf, hall⟩ | ⟨rfl, hall⟩
    · obtain ⟨rfl, h⟩ := opF_L (s := b + rankA ops i) hc hf
      exact ⟨rfl, fun m' hm => (hall m').trans (h _ m' hm)⟩
    · exact ⟨rfl, fun m' _ => hall m'⟩
  have kj : ∀ o, ops[j]? = some o → makes o = true → st.mem.get (b + rankA ops j) = some .resv := hk j (by simp)
  have aMk : ∀ o : Oper, clsOf o = .A ∨ clsOf o = .Ap → makes o = true := by
    intro o hc
    unfold clsOf at hc
    unfold makes
    cases hop : o.op <;> simp only [hop] at hc <;> first | rfl | (rcases hc with hc | hc <;> cases hc; done) | skip
    split at hc <;> first | (rcases hc with hc | hc <;> cases hc; done) | skip
    rename_i hcal
    simp [hcal]
  cases hcx : clsOf x with
  | N =>
    obtain ⟨rfl, hall⟩ := nI hcx
    exact enough mj hrj (hall mj)
  | L =>
    obtain ⟨rfl, hall⟩ := lI hcx
    cases hcy : clsOf y with
    | N =>
      obtain ⟨rfl, _⟩ := nJ hcy
      exact enough _ hrj (hall _ (Ext.refl _))
    | L =>
      have : mj = st.mem := by
        rcases opG_cases hrj with ⟨hf, _⟩ | ⟨rfl, _⟩
        · exact (opF_L (s := b + rankA ops j) hcy hf).1
        · rfl
      subst this
      exact enough _ hrj (hall _ (Ext.refl _))
    | A =>
      refine enough mj hrj (hall mj ?_)
      rcases opG_cases hrj with ⟨hf, _⟩ | ⟨rfl, _⟩
      · obtain ⟨e, rfl, _⟩ := opF_A (s := b + rankA ops j) hcy hf
        exact ext_set fun bx cs hh => by rw [kj y hy (aMk y (.inl hcy))] at hh; cases hh
      · exact Ext.refl _
    | Ap =>
      refine enough mj hrj (hall mj ?_)
      rcases opG_cases hrj with ⟨hf, _⟩ | ⟨rfl, _⟩
      · exact opF_Ap (s := b + rankA ops j) hcy (kj y hy (aMk y (.inr hcy))) hf
      · exact Ext.refl _
    | W => rw [hcx, hcy] at hcls; cases hcls
  | A =>
    cases hcy : clsOf y with
    | N =>
      obtain ⟨rfl, hall⟩ := nJ hcy
      exact enough _ (hall _) hri
    | A =>
      have fj : ∃ f : Mem → Mem, (∀ m', opG C fid callP callI (some b) ops j y st.tmps m' = some (vj, f m')) ∧ ((∀ m', f m' = m') ∨ ∃ e, ∀ m', f m' = m'.set (b + rankA ops j) (some e)) := by
        rcases opG_cases hrj with ⟨hf, hall⟩ | ⟨rfl, hall⟩
        · obtain ⟨e, _, h⟩ := opF_A (s := b + rankA ops j) hcy hf
          exact ⟨fun m' => m'.set (b + rankA ops j) (some e), fun m' => (hall m').trans (h m'), .inr ⟨e, fun _ => rfl⟩⟩
        · exact ⟨id, hall, .inl fun _ => rfl⟩
      have fi : ∃ f : Mem → Mem, (∀ m', opG C fid callP callI (some b) ops i x st.tmps m' = some (vi, f m')) ∧ ((∀ m', f m' = m') ∨ ∃ e, ∀ m', f m' = m'.set (b + rankA ops i) (some e)) := by
        rcases opG_cases hri with ⟨hf, hall⟩ | ⟨rfl, hall⟩
        · obtain ⟨e, _, h⟩ := opF_A (s := b + rankA ops i) hcx hf
          exact ⟨fun m' => m'.set (b + rankA ops i) (some e), fun m' => (hall m').trans (h m'), .inr ⟨e, fun _ => rfl⟩⟩
        · exact ⟨id, hall, .inl fun _ => rfl⟩
      obtain ⟨f, f1, f2⟩ := fi
      obtain ⟨h, h1, h2⟩ := fj
      have em : mi = f st.mem := by have := f1 st.mem; rw [hri] at this; simpa using this
      have ej : mj = h mi := by have := h1 mi; rw [hrj] at this; simpa using this
      refine enough _ (h1 _) ?_
      rw [f1, ej, em]
      congr 2
      have hr := ranks_ne hx hy (aMk x (.inl hcx)) (aMk y (.inl hcy)) hne
      rcases f2 with f2 | ⟨e, f2⟩ <;> rcases h2 with h2 | ⟨e', h2⟩ <;> simp only [f2, h2]
      exact (List.set_comm _ _ (by omega)).symm
    | _ => rw [hcx, hcy] at hcls; cases hcls
  | Ap =>
    cases hcy : clsOf y with
    | N =>
      obtain ⟨rfl, hall⟩ := nJ hcy
      exact enough _ (hall _) hri
    | _ => rw [hcx, hcy] at hcls; cases hcls
  | W =>
    cases hcy : clsOf y with
    | N =>
      obtain ⟨rfl, hall⟩ := nJ hcy
      exact enough _ (hall _) hri
    | _ => rw [hcx, hcy] at hcls; cases hcls

/-- What may pass all that stands ahead of it may be taken first. -/
theorem first {b : Nat} {ops : Array Oper} {i : Nat} {x : Oper} (hx : ops[i]? = some x) : ∀ (l : List Nat) (st s' : St), l.Nodup → i ∈ l → Kept ops b st.mem l → (∀ (p q : List Nat), l = p ++ i :: q → ∀ j ∈ p, ∃ y, ops[j]? = some y ∧ swapOk ops y x = true) →
    runF C fid callP callI (some b) ops l st = some s' → ∃ s1, stepF C fid callP callI (some b) ops i st = some s1 ∧ runF C fid callP callI (some b) ops (l.erase i) s1 = some s'
  | [], _, _, _, hi, _, _, _ => by simp at hi
  | j :: l, st, s', hnd, hi, hk, hsw, hr => by
    simp only [runF, Option.bind_eq_some_iff] at hr
    obtain ⟨s1, h1, hr⟩ := hr
    by_cases he : j = i
    · subst he
      exact ⟨s1, h1, by simpa using hr⟩
    · have hil : i ∈ l := by rcases List.mem_cons.1 hi with h | h <;> first | exact absurd h.symm he | exact h
      have hnd' := (List.nodup_cons.1 hnd)
      obtain ⟨s2, h2, hr2⟩ := first hx l s1 s' hnd'.2 hil (stepF_kept h1 (fun k hk' => hk k (by simp [hk'])) hnd'.1) (fun p q hpq k hkp => hsw (j :: p) q (by rw [hpq]; rfl) k (by simp [hkp])) hr
      obtain ⟨p, q, hpq⟩ := List.append_of_mem hil
      obtain ⟨y, hy, hok⟩ := hsw (j :: p) q (by rw [hpq]; rfl) j (by simp)
      obtain ⟨s1', k1, k2⟩ := swap hy hx he hok (fun k hk' => hk k (by
        simp only [List.mem_cons, List.not_mem_nil, or_false] at hk'
        rcases hk' with rfl | rfl
        · simp
        · simp [hil])) h1 h2
      refine ⟨s1', k1, ?_⟩
      have her : (j :: l).erase i = j :: l.erase i := by
        rw [List.erase_cons, if_neg (by simpa using he)]
      rw [her]
      simp only [runF, k2, Option.bind_some]
      exact hr2

/-! ### What stands ahead -/
theorem aheadTo_length (ops : Array Oper) : ∀ n, (aheadTo ops n).length = n
  | 0 => rfl
  | n + 1 => by simp [aheadTo, aheadTo_length ops n]
theorem aheadTo_get (ops : Array Oper) (i : Nat) : ∀ n, i < n → (aheadTo ops n).getD i 0 = match ops[i]? with
    | some o => (o.after.toList.filter (Region.binds .any)).foldl (fun s e => s ||| (2 ^ e.on ||| (aheadTo ops i).getD e.on 0)) 0
    | none => 0
  | 0, h => by omega
  | n + 1, h => by
    simp only [aheadTo, List.getD_eq_getElem?_getD, List.getElem?_append, aheadTo_length]
    by_cases hi : i < n
    · rw [if_pos hi]
      have := aheadTo_get ops i n hi
      simpa [List.getD_eq_getElem?_getD] using this
    · obtain rfl : i = n := by omega
      simp [List.getD_eq_getElem?_getD]
      cases ops[i]? <;> rfl

theorem foldl_bit (f : Edge → Nat) (j : Nat) : ∀ (l : List Edge) (s : Nat), (l.foldl (fun s e => s ||| (2 ^ e.on ||| f e)) s).testBit j = true → s.testBit j = true ∨ ∃ e ∈ l, e.on = j ∨ (f e).testBit j = true
  | [], s, h => .inl h
  | e :: l, s, h => by
    simp only [List.foldl_cons] at h
    rcases foldl_bit f j l _ h with h | ⟨e', he', h⟩
    · simp only [Nat.testBit_or, Bool.or_eq_true, Nat.testBit_two_pow, decide_eq_true_eq] at h
      rcases h with h | h | h
      · exact .inl h
      · exact .inr ⟨e, by simp, .inl h⟩
      · exact .inr ⟨e, by simp, .inr h⟩
    · exact .inr ⟨e', by simp [he'], h⟩

/-- Of an operation whose edges are met nothing that must stand ahead is missing. -/
theorem ahead_met {ops : Array Oper} {D : Nat → Prop} (hD : ∀ k o, D k → ops[k]? = some o → ∀ e ∈ o.after.toList, Region.binds .any e = true → D e.on) (hlt : ∀ k o, ops[k]? = some o → ∀ e ∈ o.after.toList, Region.binds .any e = true → e.on < k) :
    ∀ (n i : Nat) (o : Oper), i < n → ops[i]? = some o → (∀ e ∈ o.after.toList, Region.binds .any e = true → D e.on) → ∀ j, ((aheadTo ops n).getD i 0).testBit j = true → D j := by
  intro n
  induction n with
  | zero => intro i o h; omega
  | succ n ih =>
    intro i o hi ho he j hj
    rw [aheadTo_get ops i (n + 1) hi, ho] at hj
    rcases foldl_bit _ j _ _ hj with h | ⟨e, hem, hj⟩
    · simp at h
    · obtain ⟨h1, h2⟩ := List.mem_filter.1 hem
      rcases hj with rfl | hj
      · exact he e h1 h2
      · have hel := hlt i o ho e h1 h2
        rcases hoe : ops[e.on]? with _ | oe
        · rw [aheadTo_get ops e.on i hel, hoe] at hj; simp at hj
        · have h3 : (aheadTo ops i).getD e.on 0 = (aheadTo ops n).getD e.on 0 := by
            rw [aheadTo_get ops e.on i hel, aheadTo_get ops e.on n (by omega)]
          rw [h3] at hj
          exact ih e.on oe (by omega) hoe (fun e' he' hb => hD e.on oe (he e h1 h2) hoe e' he' hb) j hj

theorem pairsOk_split {ops : Array Oper} {ah : List Nat} : ∀ {l : List Nat}, pairsOk ops ah l = true → ∀ (p q : List Nat) (i : Nat), l = p ++ i :: q → ∀ j ∈ p, (ah.getD i 0).testBit j = true ∨ ∃ x y, ops[j]? = some x ∧ ops[i]? = some y ∧ swapOk ops x y = true
  | [], _, p, q, i, h, _, _ => by simp at h
  | k :: l, hp, p, q, i, h, j, hj => by
    simp only [pairsOk, Bool.and_eq_true, List.all_eq_true] at hp
    match p, h with
    | k' :: p, h =>
      simp only [List.cons_append, List.cons.injEq] at h
      obtain ⟨rfl, rfl⟩ := h
      rcases List.mem_cons.1 hj with rfl | hj
      · have := hp.1 i (by simp)
        rcases Bool.or_eq_true_iff.1 this with h | h
        · exact .inl h
        · refine .inr ?_
          split at h
          · exact ⟨_, _, by assumption, by assumption, h⟩
          · cases h
      · exact pairsOk_split hp.2 p q i rfl j hj
end
end Go.Ab
