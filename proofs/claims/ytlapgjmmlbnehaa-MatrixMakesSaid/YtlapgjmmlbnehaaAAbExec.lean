/- Code, and a call: the abstract run answers, and so does the machine. -/
import Derived.Test.YtlapgjmmlbnehaaAAbOpK
import Derived.Test.YtlapgjmmlbnehaaAAbOrd2
import Derived.Fence
set_option linter.unusedVariables false
set_option linter.unusedSimpArgs false
namespace Go.Ab
open Go.RowKit

def exitOf : Ex → Exit
  | .normal => .normal
  | .exit id => .exit id
  | .ret => .ret

section
variable {C : Cfg} {B : Nat} {w : World} {g : G}

/-- The state is met. -/
structure StR (B : Nat) (w : World) (g : G) (st : St) (a : Act) : Prop where
  tmp : TmpR w g st.tmps a.tmps
  mem : MemR B w g st.mem
  size : B ≤ w.heap.size

def IOk (C : Cfg) (callI : Nat → List AV → Mem → Option (AV × Mem)) : Prop := ∀ f args m v m', callI f args m = some (v, m') → CallOk C.P f args m v m' ∧ ∃ fn, C.P.funcs[f]? = some fn ∧ fn.body.isSome

theorem step_wp (hC : CfgOk C) {callI : Nat → List AV → Mem → Option (AV × Mem)} (hI : IOk C callI) {fid : Nat} {base : Option Nat} {ops : Array Oper} {i : Nat} {st s1 : St} {a : Act} (h : stepF C fid (acallP callI) callI base ops i st = some s1) (hs : StR B w g st a)
    (hk : ∀ b, base = some b → Kept ops b st.mem [i]) {Q : Exit → Act → World → Prop} {next : Act → World → Prop} (hn : ∀ a' w' g', StR B w' g' s1 a' → Step B w g w' g' → a'.defers = a.defers → next a' w') : wpOp C.P ops Q i next a w := by
  obtain ⟨o, v, m1, ho, hr, rfl⟩ := stepF_some h
  have hrun : opF C fid (acallP callI) callI (base.map (· + rankA ops i)) o (ev st.tmps) st.mem = some (v, m1) → o.wp C.P a w next Q := by
    intro hf
    obtain ⟨v2, m2, hK, hop⟩ := opK_sound (a := a) hC hI hf (ev_V hs.tmp) hs.mem hs.size (fun hmk s hb => by
      obtain ⟨b, hb1, rfl⟩ := Option.map_eq_some_iff.1 hb
      exact hk b hb1 i (by simp) o ho hmk)
    simp only [Option.some.injEq, Prod.mk.injEq] at hK
    obtain ⟨rfl, rfl⟩ := hK
    exact hop next Q fun v' w' g' s hm hv => hn _ w' g' ⟨(hs.tmp.step s).put hv o.dst, hm, Nat.le_trans hs.size s.below.size⟩ s (put_defers _ _ _)
  have hskip : v = .tup [] ∧ m1 = st.mem → next (a.put o.dst undef) w := by
    rintro ⟨rfl, rfl⟩
    exact hn _ w g ⟨hs.tmp.put (.tup [] #[] rfl (fun j hj => absurd hj (Nat.not_lt_zero j))) o.dst, hs.mem, hs.size⟩ (Step.refl _ _ _) (put_defers _ _ _)
  unfold wpOp
  simp only [ho]
  unfold opG at hr
  cases hg : o.guard with
  | none =>
    simp only [hg] at hr
    have hw : Region.wanted o (yielded ops a.tmps) = true := by simp [Region.wanted, hg]
    rw [hw, if_pos rfl]
    exact .inl (hrun hr)
  | some jw =>
    obtain ⟨j, want⟩ := jw
    simp only [hg] at hr
    cases hd : (ops[j]?).bind (·.dst) with
    | none => simp [hd] at hr
    | some d =>
      simp only [hd] at hr
      cases hsk : skpd ops st.tmps j with
      | true =>
        simp only [hsk] at hr
        cases hv : st.tmps.getD d .any with
        | tup cs =>
          simp only [hv] at hr
          cases cs with
          | nil =>
            have hV := hs.tmp.2 d
            rw [hv] at hV
            have hy : yielded ops a.tmps j = none := by
              unfold yielded
              rw [hd]
              simp only [Option.bind_some]
              generalize hx : a.tmps.getD d undef = x at hV
              cases hV
              rw [Array.getD_eq_getD_getElem?] at hx
              cases hq : a.tmps[d]? with
              | none => rfl
              | some y => rw [hq] at hx; simp only [Option.getD_some] at hx; rw [hx]
            have hw : Region.wanted o (yielded ops a.tmps) = false := by simp only [Region.wanted, hg, hy]; rfl
            rw [hw]
            simp only [Option.some.injEq, Prod.mk.injEq] at hr
            exact hskip ⟨hr.1.symm, hr.2.symm⟩
          | cons c cs => simp only at hr; cases hr
        | _ => simp only [hv] at hr; cases hr
      | false =>
      simp only [hsk] at hr
      cases hv : st.tmps.getD d .any with
      | bool b =>
        simp only [hv] at hr
        have hV := hs.tmp.2 d
        rw [hv] at hV
        have hy : yielded ops a.tmps j = some b := by
          unfold yielded
          rw [hd]
          simp only [Option.bind_some]
          generalize hx : a.tmps.getD d undef = x at hV
          cases hV
          have : a.tmps[d]? = some (.bool b) := by
            rw [Array.getD_eq_getD_getElem?] at hx
            cases hq : a.tmps[d]? with
            | none => rw [hq] at hx; cases hx
            | some y => rw [hq] at hx; simpa using hx
          rw [this]
        have hw : Region.wanted o (yielded ops a.tmps) = (some b == some want) := by simp only [Region.wanted, hg, hy]
        by_cases hb : b = want
        · rw [if_pos hb] at hr
          have : (some b == some want) = true := by simpa using hb
          rw [hw, this, if_pos rfl]
          exact .inl (hrun hr)
        · rw [if_neg hb] at hr
          have : (some b == some want) = false := by simpa using hb
          rw [hw, this]
          simp only [Option.some.injEq, Prod.mk.injEq] at hr
          exact hskip ⟨hr.1.symm, hr.2.symm⟩
      | _ => simp only [hv] at hr; cases hr

theorem runF_wp (hC : CfgOk C) {callI : Nat → List AV → Mem → Option (AV × Mem)} (hI : IOk C callI) {fid : Nat} {ops : Array Oper} {Q : Exit → Act → World → Prop} : ∀ (l : List Nat) (st s' : St) (a : Act) (w : World) (g : G), runF C fid (acallP callI) callI none ops l st = some s' → StR B w g st a →
    (∀ a' w' g', StR B w' g' s' a' → Step B w g w' g' → a'.defers = a.defers → Q .normal a' w') → wpOps C.P ops Q l a w
  | [], st, s', a, w, g, h, hs, hn => by
    simp only [runF, Option.some.injEq] at h
    subst h
    exact hn a w g hs (Step.refl _ _ _) rfl
  | i :: l, st, s', a, w, g, h, hs, hn => by
    simp only [runF, Option.bind_eq_some_iff] at h
    obtain ⟨s1, h1, h⟩ := h
    rw [wpOps_cons]
    exact step_wp hC hI h1 hs (fun b hb => by cases hb) fun a' w' g' hs' s hd => runF_wp hC hI l s1 s' a' w' g' h hs' fun a'' w'' g'' hs'' s' hd' => hn a'' w'' g'' hs'' (s.trans s') (hd'.trans hd)

theorem least : ∀ (l : List Nat), l ≠ [] → ∃ mn ∈ l, ∀ x ∈ l, mn ≤ x
  | [], h => absurd rfl h
  | [x], _ => ⟨x, by simp, by simp⟩
  | x :: y :: l, _ => by
    obtain ⟨mn, h1, h2⟩ := least (y :: l) (by simp)
    by_cases hx : x ≤ mn
    · exact ⟨x, by simp, fun z hz => by
        rcases List.mem_cons.1 hz with rfl | hz
        · exact Nat.le_refl _
        · exact Nat.le_trans hx (h2 z hz)⟩
    · exact ⟨mn, List.mem_cons_of_mem _ h1, fun z hz => by
        rcases List.mem_cons.1 hz with rfl | hz
        · omega
        · exact h2 z hz⟩

/-- Whatever order is drawn. -/
theorem any_wp (hC : CfgOk C) {callI : Nat → List AV → Mem → Option (AV × Mem)} (hI : IOk C callI) {fid b : Nat} {ops : Array Oper} {Q : Exit → Act → World → Prop} {canon : List Nat} (hlt : ∀ k o, ops[k]? = some o → ∀ e ∈ o.after.toList, Region.binds .any e = true → e.on < k)
    (hpairs : pairsOk ops (aheadOf ops) canon = true) (hnd : canon.Nodup) : ∀ (l : List Nat) (n : Nat), l.length = n → l.Sublist canon → ∀ (listed : Array Bool), listed.size = ops.size → (∀ x, x < ops.size → (listed.getD x true = true ↔ x ∉ l)) → (∀ x ∈ l, x < ops.size) →
    (∀ k o, k < ops.size → k ∉ l → ops[k]? = some o → ∀ e ∈ o.after.toList, Region.binds .any e = true → e.on ∉ l) →
    ∀ (st s' : St) (a : Act) (w : World) (g : G), runF C fid (acallP callI) callI (some b) ops l st = some s' → Kept ops b st.mem l → StR B w g st a →
    (∀ a' w' g', StR B w' g' s' a' → Step B w g w' g' → a'.defers = a.defers → Q .normal a' w') → wpAny C.P .any ops Q n listed a w := by
  intro l n hn
  induction n generalizing l with
  | zero =>
    intro hsub listed hsz hlist hin hdown st s' a w g hr hk hs hq
    have hnil : l = [] := List.eq_nil_of_length_eq_zero hn
    subst hnil
    simp only [runF, Option.some.injEq] at hr
    subst hr
    refine ⟨?_, hq a w g hs (Step.refl _ _ _) rfl⟩
    unfold Region.ready
    rw [List.filter_eq_nil_iff]
    intro x hx
    have : listed.getD x true = true := (hlist x (by simpa using hx)).2 (by simp)
    simp [this]
  | succ n ih =>
    intro hsub listed hsz hlist hin hdown st s' a w g hr hk hs hq
    have hready : ∀ i ∈ Region.ready .any ops listed, i ∈ l ∧ i < ops.size ∧ ∃ o, ops[i]? = some o ∧ ∀ e ∈ o.after.toList, Region.binds .any e = true → e.on ∉ l := by
      intro i hi
      unfold Region.ready at hi
      simp only [List.mem_filter, List.mem_range, Bool.and_eq_true, Bool.not_eq_true'] at hi
      obtain ⟨h1, h2, h3⟩ := hi
      have hil : i ∈ l := by
        by_cases h : i ∈ l
        · exact h
        · have := (hlist i h1).2 h; rw [this] at h2; cases h2
      refine ⟨hil, h1, ops[i], by simp [h1], fun e he hb hon => ?_⟩
      have ho : ops[i]? = some ops[i] := by simp [h1]
      rw [ho] at h3
      simp only [Option.map_some, Option.getD_some] at h3
      have h4 := Array.all_eq_true_iff_forall_mem.1 h3 e (by simpa using he)
      simp only [hb, Bool.not_true, Bool.false_or] at h4
      have h5 := hlt i _ ho e he hb
      have h6 : listed.getD e.on true = true := by
        have hes : e.on < listed.size := by omega
        simp only [Array.getD, hes, dif_pos] at h4 ⊢
        exact h4
      exact (hlist e.on (by omega)).1 h6 hon
    refine ⟨fun hnone => ?_, fun i hi => ?_⟩
    · -- the least that is left is ready
      exfalso
      have hne : l ≠ [] := fun h => by rw [h] at hn; simp at hn
      obtain ⟨mn, hmn, hmin⟩ : ∃ mn ∈ l, ∀ x ∈ l, mn ≤ x := by
        exact least l hne
      have hml := hin mn hmn
      have : mn ∈ Region.ready .any ops listed := by
        unfold Region.ready
        simp only [List.mem_filter, List.mem_range, Bool.and_eq_true, Bool.not_eq_true']
        refine ⟨hml, ?_, ?_⟩
        · cases hb : listed.getD mn true with
          | false => rfl
          | true => exact absurd hmn ((hlist mn hml).1 hb)
        · have ho : ops[mn]? = some ops[mn] := by simp [hml]
          rw [ho]
          simp only [Option.map_some, Option.getD_some]
          rw [Array.all_eq_true_iff_forall_mem]
          intro e he
          by_cases hb : Region.binds .any e = true
          · have h5 := hlt mn _ ho e (by simpa using he) hb
            have h6 : e.on ∉ l := fun h => by have := hmin _ h; omega
            have h7 := (hlist e.on (by omega)).2 h6
            have hes : e.on < listed.size := by omega
            have h8 : listed.getD e.on false = true := by
              simp only [Array.getD, hes, dif_pos] at h7 ⊢
              exact h7
            rw [h8]; simp
          · simp at hb; simp [hb]
      rw [hnone] at this
      simp at this
    · obtain ⟨hil, hio, x, hx, hedge⟩ := hready i hi
      obtain ⟨s1, h1, h2⟩ := first hx l st s' (hnd.sublist hsub) hil hk (fun p q hpq j hj => by
        obtain ⟨pre, post, hcan⟩ : ∃ pc qc, canon = pc ++ i :: qc ∧ ∀ y ∈ p, y ∈ pc := by
          rw [hpq] at hsub
          obtain ⟨c1, c2, hc, hs1, hs2⟩ := List.append_sublist_iff.1 hsub
          obtain ⟨d1, d2, hd, hdi⟩ : ∃ d1 d2, c2 = d1 ++ i :: d2 ∧ True := by
            have := hs2.subset (List.mem_cons_self)
            obtain ⟨d1, d2, hd⟩ := List.append_of_mem this
            exact ⟨d1, d2, hd, trivial⟩
          exact ⟨c1 ++ d1, d2, by rw [hc, hd]; simp, fun y hy => List.mem_append.2 (.inl (hs1.subset hy))⟩
        rcases pairsOk_split hpairs pre post i hcan.1 j (hcan.2 j hj) with h | ⟨y, x', hy, hx', hok⟩
        · exfalso
          have hmem : ((aheadTo ops ops.size).getD i 0).testBit j = true := h
          have := ahead_met (D := fun k => k ∉ l) (fun k o hk' hko e he hb => by
            rcases Nat.lt_or_ge k ops.size with hk1 | hk1
            · exact hdown k o hk1 hk' hko e he hb
            · rw [Array.getElem?_eq_none hk1] at hko; cases hko) hlt ops.size i x hio hx hedge j hmem
          exact this (by rw [hpq]; simp [hj])
        · obtain rfl : x = x' := by simpa [hx] using hx'
          exact ⟨y, hy, hok⟩) hr
      refine step_wp hC hI h1 hs (fun b' hb' => by cases hb'; exact fun k hk' => hk k (by simp at hk'; rw [hk']; exact hil)) fun a' w' g' hs' s hd => ?_
      have hmem : ∀ y, y ∈ l.erase i ↔ y ∈ l ∧ y ≠ i := fun y => by
        rw [(hnd.sublist hsub).mem_erase_iff]; exact And.comm
      refine ih (l.erase i) (by rw [List.length_erase_of_mem hil]; omega) (List.Sublist.trans List.erase_sublist hsub) (listed.setIfInBounds i true) (by simpa using hsz) (fun y hy => ?_) (fun y hy => hin y ((hmem y).1 hy).1) (fun k o hk1 hk2 hko e he hb hon => ?_) s1 s' a' w' g' h2 (fun k hk' o ho hm => ?_) hs' fun a'' w'' g'' hs'' s' hd' => hq a'' w'' g'' hs'' (s.trans s') (hd'.trans hd)
      · have hys : y < listed.size := by omega
        have hg : (listed.setIfInBounds i true).getD y true = if i = y then true else listed.getD y true := by
          simp only [Array.getD_eq_getD_getElem?, Array.getElem?_setIfInBounds]
          by_cases hiy : i = y
          · subst hiy; simp [hys]
          · simp [hiy]
        rw [hg, hmem]
        by_cases hiy : i = y
        · subst hiy; simp
        · rw [if_neg hiy, hlist y hy]
          constructor
          · intro h h'; exact h h'.1
          · intro h h'; exact h ⟨h', fun he => hiy he.symm⟩
      · have hon' := (hmem _).1 hon
        by_cases hki : k = i
        · subst hki
          obtain rfl : x = o := by simpa [hx] using hko
          exact hedge e he hb hon'.1
        · exact hdown k o hk1 (fun h => hk2 ((hmem k).2 ⟨h, hki⟩)) hko e he hb hon'.1
      · exact stepF_kept h1 (fun k' hk'' => hk k' ((hmem k').1 hk'').1) (fun h => ((hmem i).1 h).2 rfl) k hk' o ho hm

theorem mem_reserve {m : Mem} (hm : MemR B w g m) : ∀ k, MemR B w g (m ++ List.replicate k (some .resv)) := by
  intro k
  have hget : ∀ x, Mem.get (m ++ List.replicate k (some .resv)) x = if x < m.length then m.get x else if x < m.length + k then some .resv else none := by
    intro x
    unfold Mem.get
    rw [List.getElem?_append]
    by_cases h1 : x < m.length
    · rw [if_pos h1, if_pos h1]
    · rw [if_neg h1, if_neg h1, List.getElem?_replicate]
      by_cases h2 : x < m.length + k
      · rw [if_pos (by omega), if_pos h2]; rfl
      · rw [if_neg (by omega), if_neg h2]; rfl
  have old : ∀ x e, Mem.get (m ++ List.replicate k (some .resv)) x = some e → m.get x = some e ∨ (e = .resv ∧ m.length ≤ x) := by
    intro x e he
    rw [hget] at he
    split at he
    · exact .inl he
    · split at he
      · simp at he; exact .inr ⟨he.symm, by omega⟩
      · cases he
  have hblk : ∀ x b, blk g (m ++ List.replicate k (some .resv)) x = some b → blk g m x = some b := by
    intro x b hb
    rcases blk_some hb with ⟨bx, cs, h1, h2⟩ | ⟨n, sz, h1, h2⟩
    · rcases old _ _ h1 with h | ⟨h, _⟩
      · simp [blk, h, h2]
      · cases h
    · rcases old _ _ h1 with h | ⟨h, _⟩
      · simp [blk, h, h2]
      · cases h
  refine ⟨fun nm bx cs h => ?_, fun nm n sz h => ?_, fun nm h => ?_, fun nm h => ?_, fun nm nm' b h1 h2 => hm.inj nm nm' b (hblk _ _ h1) (hblk _ _ h2), hm.wrLt, hm.boxLt⟩
  · rcases old _ _ h with h | ⟨h, _⟩
    · exact hm.obj nm bx cs h
    · cases h
  · rcases old _ _ h with h | ⟨h, _⟩
    · exact hm.tok nm n sz h
    · cases h
  · rcases old _ _ h with h | ⟨_, h⟩
    · exact hm.resv nm h
    · exact hm.fresh nm h
  · exact hm.fresh nm (by simp at h; omega)

theorem reserve_eq (m : Mem) (c : Nat) : reserve m c = m ++ List.replicate c (some .resv) := by
  cases c with
  | zero => simp [reserve]
  | succ c => rfl

theorem kept_reserve (ops : Array Oper) (m : Mem) (l : List Nat) : Kept ops m.length (m ++ List.replicate (rankA ops ops.size) (some .resv)) l := by
  intro i _ o ho hm
  have hi := (Array.getElem?_eq_some_iff.1 ho).1
  have hlt : rankA ops i < rankA ops ops.size := by
    have hil : i < ops.toList.length := by simpa using hi
    have h1 : rankA ops (i + 1) = rankA ops i + 1 := by
      unfold rankA
      have he : ops.toList[i] = o := by
        have := (Array.getElem?_eq_some_iff.1 ho).2; simpa using this
      rw [List.take_succ_eq_append_getElem hil, List.filter_append, List.length_append, he]
      simp [hm]
    have h2 : rankA ops (i + 1) ≤ rankA ops ops.size := by
      unfold rankA
      have : ops.toList.take (i + 1) = (ops.toList.take ops.size).take (i + 1) := by rw [List.take_take]; congr 1; omega
      rw [this]
      exact List.Sublist.length_le ((List.take_sublist _ _).filter _)
    omega
  unfold Mem.get
  rw [List.getElem?_append_right (by omega), List.getElem?_replicate, if_pos (by omega)]
  rfl

theorem draw_wp (hC : CfgOk C) {callI : Nat → List AV → Mem → Option (AV × Mem)} (hI : IOk C callI) {R : Type} {fid id : Nat} {ops : Array Oper} {Q : Exit → Act → World → Prop} {canon : List Nat} (hok : drawOk C.P ops canon = true) {st : St} {K : St → Option R} {r : R} {a : Act}
    (h : runOps C fid (acallP callI) callI (some st.mem.length) ops canon ⟨st.tmps, reserve st.mem (rankA ops ops.size)⟩ K = some r) (hs : StR B w g st a)
    (hn : ∀ s' a' w' g', K s' = some r → StR B w' g' s' a' → Step B w g w' g' → a'.defers = a.defers → Q .normal a' w') : (Code.region id ops true).wp C.P Q a w := by
  unfold drawOk at hok
  simp only [Bool.and_eq_true] at hok
  obtain ⟨⟨⟨h1, h2⟩, h3⟩, h4⟩ := hok
  have hperm : canon.Perm (List.range ops.size) := List.isPerm_iff.1 h2
  have hlt : ∀ k o, ops[k]? = some o → ∀ e ∈ o.after.toList, Region.binds .any e = true → e.on < k := by
    intro k o hk e he hb
    have hkl := (Array.getElem?_eq_some_iff.1 hk).1
    have := List.all_eq_true.1 h3 k (by simpa using hkl)
    rw [hk] at this
    simp only at this
    have := Array.all_eq_true_iff_forall_mem.1 this e (by simpa using he)
    simpa [hb] using this
  rw [runOps_eq, reserve_eq] at h
  simp only [Option.bind_eq_some_iff] at h
  obtain ⟨s', hr, hK⟩ := h
  refine wp_region_any h1 ?_
  refine any_wp hC hI hlt h4 (hperm.nodup_iff.2 List.nodup_range) canon ops.size (by rw [hperm.length_eq]; simp) (List.Sublist.refl _) _ (by simp) (fun x hx => ?_) (fun x hx => by simpa using hperm.mem_iff.1 hx) (fun k o hk hk' => ?_) _ s' a _ g hr (kept_reserve ops st.mem canon) ⟨hs.tmp.step (Step.drew B w g), mem_reserve (B := B) (w := w.drew) (g := g) hs.mem.drew _, hs.size⟩ ?_
  · have : x ∈ canon := hperm.mem_iff.2 (by simpa using hx)
    simp [this, Array.getD, hx]
  · exact absurd (hperm.mem_iff.2 (by simpa using hk)) hk'
  · intro a' w' g' hs' s hd
    exact hn s' a' w' g' hK hs' ((Step.drew B w g).trans s) hd

theorem mask_tmp : ∀ (bs : List Bool) (ts : List AV) (t : Nat), (maskA bs ts).length = ts.length ∧ ((maskA bs ts).getD t .any = ts.getD t .any ∨ (maskA bs ts).getD t .any = .any)
  | bs, [], t => by cases bs <;> simp [maskA]
  | [], v :: vs, t => by
    have ih := mask_tmp [] vs
    refine ⟨by simp [maskA, (ih 0).1], ?_⟩
    cases t with
    | zero => simp [maskA]
    | succ t => simpa [maskA] using (ih t).2
  | b :: bs, v :: vs, t => by
    have ih := mask_tmp bs vs
    refine ⟨by simp [maskA, (ih 0).1], ?_⟩
    cases t with
    | zero => cases b <;> simp [maskA]
    | succ t => simpa [maskA] using (ih t).2
theorem TmpR.mask {ts : List AV} {vs : Array Value} (h : TmpR w g ts vs) (bs : List Bool) : TmpR w g (maskA bs ts) vs :=
  ⟨(mask_tmp bs ts 0).1.trans h.1, fun t => by
    rcases (mask_tmp bs ts t).2 with h' | h'
    · rw [h']; exact h.2 t
    · rw [h']; exact .any _⟩

/-- From the loop's own item on. -/
def LW (P : Program) (c : Code) (Q : Exit → Act → World → Prop) (a : Act) (w : World) : Prop :=
  ∀ (b : Frame) (k : List Item) (cs : List Frame), ∃ e a' w', Q e a' w' ∧ Arrives P (lone (b.at a (.inLoop c :: k)) cs w) b k cs e a' w'
theorem lw_round {P : Program} {c : Code} {Q : Exit → Act → World → Prop} {a : Act} {w : World} (h : c.wp P (Exit.then (LW P c Q) Q) a w) (m : List Item → Item) (b : Frame) (k : List Item) (cs : List Frame)
    (hm : step P (lone (b.at a (m k :: k)) cs w) = .next (lone (b.at a (.code c :: .inLoop c :: k)) cs w)) : ∃ e a' w', Q e a' w' ∧ Arrives P (lone (b.at a (m k :: k)) cs w) b k cs e a' w' := by
  obtain ⟨e, a₁, w₁, hq, harr⟩ := h b (.inLoop c :: k) cs
  cases e with
  | normal =>
    obtain ⟨e₂, a₂, w₂, hq₂, harr₂⟩ := hq b k cs
    exact ⟨e₂, a₂, w₂, hq₂, .of_steps (.head hm harr) harr₂⟩
  | exit id => exact ⟨_, a₁, w₁, hq, .of_steps (.one hm) (.pass (x := .inLoop c) rfl (fun _ _ => .inl (by simp)) harr)⟩
  | goto l => exact ⟨_, a₁, w₁, hq, .of_steps (.one hm) (.pass (x := .inLoop c) rfl (fun _ _ => .inl (by simp)) harr)⟩
  | ret => exact ⟨_, a₁, w₁, hq, .of_steps (.one hm) (.pass (x := .inLoop c) rfl (fun _ _ => .inl (by simp)) harr)⟩
  | panic ch => exact ⟨_, a₁, w₁, hq, .of_steps (.one hm) (.pass (x := .inLoop c) rfl (fun _ _ => .inl (by simp)) harr)⟩
  | outgrown => exact ⟨_, a₁, w₁, hq, .of_steps (.one hm) (.pass (x := .inLoop c) rfl (fun _ _ => .inl (by simp)) harr)⟩
theorem wp_loop_lw {P : Program} {c : Code} {Q : Exit → Act → World → Prop} {a : Act} {w : World} (h : c.wp P (Exit.then (LW P c Q) Q) a w) : (Code.loop c).wp P Q a w := fun b k cs => lw_round h (fun _ => .code (.loop c)) b k cs step_loop
theorem lw_again {P : Program} {c : Code} {Q : Exit → Act → World → Prop} {a : Act} {w : World} (h : c.wp P (Exit.then (LW P c Q) Q) a w) : LW P c Q a w := fun b k cs => lw_round h (fun _ => .inLoop c) b k cs step_inLoop

/-- What follows a piece of code is met. -/
def After (C : Cfg) (B : Nat) {R : Type} (w : World) (g : G) (a : Act) (K : Ex → St → Option R) (r : R) (Q : Exit → Act → World → Prop) : Prop :=
  ∀ e st' a' w' g', K e st' = some r → StR B w' g' st' a' → Step B w g w' g' → a'.defers = a.defers → Q (exitOf e) a' w'

theorem exec_sound (hC : CfgOk C) {callI : Nat → List AV → Mem → Option (AV × Mem)} (hI : IOk C callI) {R : Type} {fid n : Nat} : ∀ (c : Code) (st : St) (K : Ex → St → Option R) (r : R) (a : Act) (w : World) (g : G) (Q : Exit → Act → World → Prop),
    exec C fid (acallP callI) callI n c st K = some r → StR B w g st a → After C B w g a K r Q → c.wp C.P Q a w := by
  intro c
  induction c with
  | skip =>
    intro st K r a w g Q h hs hq
    exact wp_skip (hq .normal st a w g h hs (Step.refl _ _ _) rfl)
  | region id ops d =>
    intro st K r a w g Q h hs hq
    simp only [exec] at h
    cases d with
    | false =>
      simp only at h
      rw [runOps_eq] at h
      simp only [Option.bind_eq_some_iff] at h
      obtain ⟨s', hr, hK⟩ := h
      exact wp_region (runF_wp hC hI _ st s' a w g hr hs fun a' w' g' hs' s hd => hq .normal s' a' w' g' hK hs' s hd)
    | true =>
      simp only at h
      split at h
      · rename_i hok
        exact draw_wp hC hI hok h hs fun s' a' w' g' hK hs' s hd => hq .normal s' a' w' g' hK hs' s hd
      · cases h
  | seq x y ihx ihy =>
    intro st K r a w g Q h hs hq
    simp only [exec] at h
    refine wp_seq (ihx st _ r a w g _ h hs ?_)
    intro e st' a' w' g' hK hs' s hd
    cases e with
    | normal =>
      simp only [seqK] at hK
      exact ihy st' K r a' w' g' Q hK hs' fun e st'' a'' w'' g'' hK' hs'' s' hd' => hq e st'' a'' w'' g'' hK' hs'' (s.trans s') (hd'.trans hd)
    | exit id => exact hq (.exit id) st' a' w' g' hK hs' s hd
    | ret => exact hq .ret st' a' w' g' hK hs' s hd
  | cond co x y ihx ihy =>
    intro st K r a w g Q h hs hq
    simp only [exec] at h
    have hV := ev_V hs.tmp co
    cases hv : ev st.tmps co with
    | bool b =>
      rw [hv] at h hV
      generalize hx : a.eval co = v at hV
      cases hV
      cases b with
      | true => exact wp_cond_true hx (ihx st K r a w g Q (by simpa [ifA] using h) hs hq)
      | false => exact wp_cond_false hx (ihy st K r a w g Q (by simpa [ifA] using h) hs hq)
    | _ => rw [hv] at h; simp [ifA] at h
  | block id x ih =>
    intro st K r a w g Q h hs hq
    simp only [exec] at h
    refine wp_block (ih st _ r a w g _ h hs ?_)
    intro e st' a' w' g' hK hs' s hd
    cases e with
    | normal => exact hq .normal st' a' w' g' hK hs' s hd
    | exit j =>
      simp only [blockK] at hK
      by_cases hj : j = id
      · have hb : (j == id) = true := by simpa using hj
        rw [hb] at hK
        simp only [exitOf, Exit.inBlock, if_pos hj]
        exact hq .normal st' a' w' g' hK hs' s hd
      · have hb : (j == id) = false := by simpa using hj
        rw [hb] at hK
        simp only [exitOf, Exit.inBlock, if_neg hj]
        exact hq (.exit j) st' a' w' g' hK hs' s hd
    | ret => exact hq .ret st' a' w' g' hK hs' s hd
  | loop x ih =>
    intro st K r a w g Q h hs hq
    simp only [exec] at h
    generalize C.mask fid (keyOf x) = mk at h
    have hmask : ∀ (l : List Bool) {w : World} {g : G} {st : St} {a : Act}, StR B w g st a → StR B w g (maskS l st) a := fun l w g st a hs => ⟨hs.tmp.mask _, hs.mem, hs.size⟩
    have hs0 := hmask mk.head hs
    have round : ∀ k (st : St) (a : Act) (w : World) (g : G), loopN (exec C fid (acallP callI) callI n x) mk k st K = some r → StR B w g st a → After C B w g a K r Q → x.wp C.P (Exit.then (LW C.P x Q) Q) a w := by
      intro k
      induction k with
      | zero => intro st a w g h; simp [loopN] at h
      | succ k ihk =>
        intro st a w g h hs hq
        simp only [loopN] at h
        refine ih st _ r a w g _ h hs ?_
        intro e st' a' w' g' hK hs' s hd
        have hq' : After C B w' g' a' K r Q := fun e st'' a'' w'' g'' hK' hs'' s' hd' => hq e st'' a'' w'' g'' hK' hs'' (s.trans s') (hd'.trans hd)
        cases e with
        | normal =>
          simp only [roundK] at hK
          exact lw_again (ihk _ a' w' g' hK (hmask _ hs') hq')
        | exit id => exact hq (.exit id) _ a' w' g' hK (hmask _ hs') s hd
        | ret => exact hq .ret _ a' w' g' hK (hmask _ hs') s hd
    exact wp_loop_lw (round n _ a w g h hs0 hq)
  | exit id =>
    intro st K r a w g Q h hs hq
    exact wp_exit (hq (.exit id) st a w g h hs (Step.refl _ _ _) rfl)
  | ret =>
    intro st K r a w g Q h hs hq
    exact wp_ret (hq .ret st a w g h hs (Step.refl _ _ _) rfl)
  | rangeFunc => intro st K r a w g Q h; simp [exec] at h
  | scope => intro st K r a w g Q h; simp [exec] at h
  | label => intro st K r a w g Q h; simp [exec] at h
  | goto => intro st K r a w g Q h; simp [exec] at h
  | refuse => intro st K r a w g Q h; simp [exec] at h

def resV (vs : Array Value) : ResultVar → Sem Value
  | .tmp t => pure (vs.getD t undef)
  | .cell a t => do loadVar t (← asAddr (vs.getD a undef))
theorem results_eq (fn : Func) (vs : Array Value) : results fn vs = (do let l ← fn.results.mapM (resV vs); pure (if h : l.size = 1 then l[0] else .tuple l)) := rfl

theorem results_sound {P : Program} {m : Mem} (hm : MemR B w g m) {ts : List AV} {vs : Array Value} (ht : TmpR w g ts vs) : ∀ (rs : List ResultVar) (l : List AV), resultsA P m ts rs = some l →
    ∃ vl : List Value, (rs.mapM (resV vs)).run P w = .ok vl w ∧ vl.length = l.length ∧ ∀ j, j < l.length → V w g (l.getD j .any) (vl.getD j undef)
  | [], l, h => by simp only [resultsA, Option.some.injEq] at h; subst h; exact ⟨[], by simp, rfl, by simp⟩
  | r :: rs, l, h => by
    simp only [resultsA, Option.bind_eq_some_iff, Option.map_eq_some_iff] at h
    obtain ⟨v, hv, l', hl', rfl⟩ := h
    obtain ⟨vl, h1, h2, h3⟩ := results_sound hm ht rs l' hl'
    have hone : ∃ v', (resV vs r).run P w = .ok v' w ∧ V w g v v' := by
      cases r with
      | tmp t => simp only [resA, Option.some.injEq] at hv; subst hv; exact ⟨_, rfl, ht.2 t⟩
      | cell a t =>
        simp only [resA, Option.bind_eq_some_iff] at hv
        obtain ⟨sh, hsh, hv⟩ := hv
        obtain ⟨v', hr, hV⟩ := load_sound (P := P) hm (ht.2 a) hv t hsh
        refine ⟨v', ?_, hV⟩
        unfold Instr.loadAt at hr
        unfold loadA at hv
        have hp : ∃ p, vs.getD a undef = .pointer (some p) := by
          have hVa := ht.2 a
          split at hv
          · rename_i he; rw [he] at hVa; generalize vs.getD a undef = x at hVa; cases hVa; exact ⟨_, rfl⟩
          · rename_i he; rw [he] at hVa; generalize vs.getD a undef = x at hVa; cases hVa; exact ⟨_, rfl⟩
          · cases hv
        obtain ⟨p, hp⟩ := hp
        rw [hp] at hr
        have hrv : resV vs (.cell a t) = (do loadVar t (← asAddr (.pointer (some p)))) := by
          show (do loadVar t (← asAddr (vs.getD a undef)) : Sem Value) = _
          rw [hp]
        rw [hrv]
        simpa [Instr.sureAddr, asAddr] using hr
    obtain ⟨v', e1, e2⟩ := hone
    refine ⟨v' :: vl, ?_, by simp [h2], fun j hj => ?_⟩
    · rw [List.mapM_cons]
      simp only [Sem.run_bind, e1, Result.andThen_ok, h1, Sem.run_pure]
    · cases j with
      | zero => simpa using e2
      | succ j => simpa using h3 j (by simpa using hj)

theorem resultsK_eq {R : Type} (P : Program) (m : Mem) (ts : List AV) : ∀ (rs : List ResultVar) (K : List AV → Option R), resultsK P m ts rs K = (resultsA P m ts rs).bind K
  | [], K => rfl
  | .tmp t :: rs, K => by
    simp only [resultsK, resultsA, resA, Option.bind_some, resultsK_eq P m ts rs]
    cases resultsA P m ts rs <;> rfl
  | .cell a t :: rs, K => by
    simp only [resultsK, resultsA, resA]
    cases shOf P t with
    | none => rfl
    | some sh =>
      simp only [Option.bind_some, resultsK_eq P m ts rs]
      cases loadA sh m (ts.getD a .any) with
      | none => rfl
      | some v =>
        simp only [Option.bind_some]
        cases resultsA P m ts rs <;> rfl

theorem oneOf_V {l : List AV} {vl : List Value} (h2 : vl.length = l.length) (h3 : ∀ j, j < l.length → V w g (l.getD j .any) (vl.getD j undef)) : V w g (oneOf l) (if h : vl.toArray.size = 1 then vl.toArray[0] else .tuple vl.toArray) := by
  match l, vl, h2 with
  | [], [], _ => exact .tup [] #[] rfl (by simp)
  | [x], [y], _ => simpa [oneOf] using h3 0 (by simp)
  | x :: x' :: l, y :: y' :: vl, h2 =>
    have : ¬ (y :: y' :: vl).toArray.size = 1 := by simp
    rw [dif_neg this]
    refine .tup _ _ (by simp at h2 ⊢; omega) fun j hj => ?_
    have := h3 j hj
    simpa [List.getD_eq_getElem?_getD, Array.getD_eq_getD_getElem?] using this

theorem acall_sound (hC : CfgOk C) : ∀ k, IOk C (acall C k) := by
  intro k
  induction k with
  | zero => intro f args m v m' h; simp [acall] at h
  | succ k ih =>
    intro f args m v m' h
    simp only [acall] at h
    cases hfn : C.P.funcs[f]? with
    | none => rw [hfn] at h; simp at h
    | some fn =>
      rw [hfn] at h
      simp only at h
      cases hb : fn.body with
      | none => rw [hb] at h; simp at h
      | some c =>
        rw [hb] at h
        simp only at h
        refine ⟨?_, fn, rfl, by simp [hb]⟩
        intro B w g vs hm hB hl hv
        refine calls_of_wp hfn hb ?_
        have hts : TmpR w g (args ++ List.replicate (fn.ntmps - args.length) .any) (vs ++ Array.replicate (fn.ntmps - vs.size) undef) := by
          refine ⟨by simp [hl], fun t => ?_⟩
          simp only [List.getD_eq_getElem?_getD, Array.getD_eq_getD_getElem?, List.getElem?_append, Array.getElem?_append]
          by_cases h1 : t < args.length
          · rw [if_pos h1, if_pos (by omega)]
            simpa [List.getD_eq_getElem?_getD, Array.getD_eq_getD_getElem?] using hv t h1
          · rw [if_neg h1, if_neg (by omega), List.getElem?_replicate]
            split <;> exact .any _
        refine exec_sound hC ih c _ _ (v, m') _ w g _ h ⟨hts, hm, hB⟩ ?_
        intro e st' a' w' g' hK hs' s hd
        have fin : (resultsA C.P st'.mem st'.tmps fn.results.toList).bind (fun vs => some (oneOf vs, st'.mem)) = some (v, m') → a'.defers = [] ∧ ∃ v', (results fn a'.tmps).run C.P w' = .ok v' w' ∧ ∃ v'' g'', Ending.returned v' = Ending.returned v'' ∧ Step B w g w' g'' ∧ MemR B w' g'' m' ∧ V w' g'' v v'' := by
          intro hK
          simp only [Option.bind_eq_some_iff, Option.some.injEq, Prod.mk.injEq] at hK
          obtain ⟨l, hl1, rfl, rfl⟩ := hK
          obtain ⟨vl, r1, r2, r3⟩ := results_sound (P := C.P) hs'.mem hs'.tmp _ l hl1
          refine ⟨hd, _, ?_, _, g', rfl, s, hs'.mem, oneOf_V r2 r3⟩
          rw [results_eq, Array.mapM_eq_mapM_toList]
          simp only [Sem.run_bind, Sem.run_map, r1, Result.andThen_ok, Sem.run_pure]
        cases e with
        | normal => exact fin (by simpa only [finK, resultsK_eq] using hK)
        | exit id => simp [finK] at hK
        | ret => exact fin (by simpa only [finK, resultsK_eq] using hK)
end
end Go.Ab
