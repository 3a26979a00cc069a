/- Regions whose order is drawn and that call functions which share memory with the caller: one order stands for all. -/
import Derived.Test.YtiipgpkgcdhbfaaGreatDoorAP1
import Derived.Sort.Grow
import Derived.Sort.Row
import Derived.Lib.SlicesCompact
import Derived.Shelf.Strings.Builder1
import Derived.Shelf.Small.Bits
import Derived.Shelf.Strings.BuilderF
import Derived.Shelf.Strings.BuilderK
import Derived.Shelf.Strconv.Itoa0
import Derived.Shelf.Strconv.Itoa1
import Derived.Shelf.LaysM
import Derived.Shelf.Strconv.Itoa2
import Derived.Shelf.Strconv.Itoa3
import Derived.Shelf.Sort.Plain
import Derived.Ground.Names2Prog
import Derived.Shelf.Slices.Clone
import Derived.Shelf.Slices.CompactI
import Derived.Shelf.Slices.SearchI
import Derived.Shelf.Slices.Cells
import Derived.Shelf.Slices.In.SortNone
import Derived.Ground.SlgnProg
import Derived.Shelf.SlicesE.Clone
import Derived.Test.YtiipgpkgcdhbfaaGreatDoorProg
import Derived.WalkKit
import Derived.BigCall
set_option linter.unusedVariables false
set_option linter.unusedSimpArgs false
set_option linter.unusedSectionVars false
namespace Go.Ab
open Go.RowKit

section
variable {R : Type}
open Classical in
noncomputable def ifP (p : Prop) (x : Option R) : Option R := if p then x else none
theorem ifP_pos {p : Prop} {x : Option R} (h : p) : ifP p x = x := if_pos h
theorem ifP_neg {p : Prop} {x : Option R} (h : ¬ p) : ifP p x = none := if_neg h
def dstV (o : Oper) (ts : List AV) : AV := match o.dst with
  | some d => ts.getD d .any
  | none => .any
/-- The load, looked at again, gives what it gave. -/
def Chk (C : Cfg) (fid : Nat) (ops : Array Oper) (y : Nat) (s : St) : Prop := match ops[y]? with
  | some o => opG C fid (fun _ _ => none) (fun _ _ _ => none) none ops y o s.tmps s.mem = some (dstV o s.tmps, s.mem)
  | none => True
noncomputable def chkAll (C : Cfg) (fid : Nat) (ops : Array Oper) : List Nat → St → Option R → Option R
  | [], _, x => x
  | y :: ys, s, x => ifP (Chk C fid ops y s) (chkAll C fid ops ys s x)
theorem chkAll_pos {C : Cfg} {fid : Nat} {ops : Array Oper} : ∀ {ys : List Nat} {s : St} {x : Option R}, (∀ y ∈ ys, Chk C fid ops y s) → chkAll C fid ops ys s x = x
  | [], _, _, _ => rfl
  | y :: ys, s, x, h => by
    rw [chkAll, ifP_pos (h y List.mem_cons_self)]
    exact chkAll_pos fun z hz => h z (List.mem_cons_of_mem _ hz)
theorem chkAll_neg {C : Cfg} {fid : Nat} {ops : Array Oper} : ∀ {ys : List Nat} {s : St} {x : Option R}, ¬ (∀ y ∈ ys, Chk C fid ops y s) → chkAll C fid ops ys s x = none
  | [], _, _, h => absurd (fun _ hz => by cases hz) h
  | y :: ys, s, x, h => by
    rw [chkAll]
    by_cases hy : Chk C fid ops y s
    · rw [ifP_pos hy]
      exact chkAll_neg fun hh => h fun z hz => by
        rcases List.mem_cons.1 hz with rfl | hz
        · exact hy
        · exact hh z hz
    · exact ifP_neg hy
theorem chkAll_some {C : Cfg} {fid : Nat} {ops : Array Oper} {ys : List Nat} {s : St} {x : Option R} {r : R} (h : chkAll C fid ops ys s x = some r) : (∀ y ∈ ys, Chk C fid ops y s) ∧ x = some r := by
  by_cases hc : ∀ y ∈ ys, Chk C fid ops y s
  · rw [chkAll_pos hc] at h; exact ⟨hc, h⟩
  · rw [chkAll_neg hc] at h; cases h
noncomputable def runL (C : Cfg) (fid : Nat) (callP : Nat → List AV → Option AV) (callI : Nat → List AV → Mem → Option (AV × Mem)) (lt : List (Nat × List Nat)) (ops : Array Oper) : List Nat → St → (St → Option R) → Option R
  | [], st, K => K st
  | i :: l, st, K => runOps C fid callP callI none ops [i] st fun s1 => chkAll C fid ops (lateAt lt i) s1 (runL C fid callP callI lt ops l s1 K)
end
section
variable {C : Cfg} {fid : Nat} {callP : Nat → List AV → Option AV} {callI : Nat → List AV → Mem → Option (AV × Mem)}
theorem runL_cons {R : Type} (lt : List (Nat × List Nat)) (ops : Array Oper) (i : Nat) (l : List Nat) (st : St) (K : St → Option R) :
    runL C fid callP callI lt ops (i :: l) st K = (stepF C fid callP callI none ops i st).bind fun s1 => chkAll C fid ops (lateAt lt i) s1 (runL C fid callP callI lt ops l s1 K) := by
  rw [runL, runOps_eq]
  simp only [runF]
  cases stepF C fid callP callI none ops i st <;> rfl
/-- What the run has looked at: behind each call the loads that it may be drawn ahead of give what they gave. -/
def Good (C : Cfg) (fid : Nat) (callP : Nat → List AV → Option AV) (callI : Nat → List AV → Mem → Option (AV × Mem)) (lt : List (Nat × List Nat)) (ops : Array Oper) : List Nat → List Nat → St → Prop
  | _, [], _ => True
  | done, i :: l, st => ∀ s1, stepF C fid callP callI none ops i st = some s1 → (∀ y ∈ lateAt lt i, y ∈ done → Chk C fid ops y s1) ∧ Good C fid callP callI lt ops (i :: done) l s1
theorem Good.anti {lt : List (Nat × List Nat)} {ops : Array Oper} : ∀ {l done done' : List Nat} {st : St}, Good C fid callP callI lt ops done l st → (∀ y ∈ done', y ∈ done) → Good C fid callP callI lt ops done' l st
  | [], _, _, _, _, _ => trivial
  | i :: l, done, done', st, h, hd => fun s1 h1 => by
    obtain ⟨a, b⟩ := h s1 h1
    refine ⟨fun y hy hyd => a y hy (hd y hyd), b.anti fun y hy => ?_⟩
    rcases List.mem_cons.1 hy with rfl | hy
    · exact List.mem_cons_self
    · exact List.mem_cons_of_mem _ (hd y hy)
theorem runL_some {R : Type} {lt : List (Nat × List Nat)} {ops : Array Oper} : ∀ {l : List Nat} {st : St} {K : St → Option R} {r : R} (done : List Nat), runL C fid callP callI lt ops l st K = some r →
    ∃ s', runF C fid callP callI none ops l st = some s' ∧ K s' = some r ∧ Good C fid callP callI lt ops done l st
  | [], st, K, r, _, h => ⟨st, rfl, h, trivial⟩
  | i :: l, st, K, r, done, h => by
    rw [runL_cons, Option.bind_eq_some_iff] at h
    obtain ⟨s1, h1, h⟩ := h
    obtain ⟨hc, h⟩ := chkAll_some h
    obtain ⟨s', h2, h3, h4⟩ := runL_some (i :: done) h
    refine ⟨s', by simp only [runF, h1, Option.bind_some]; exact h2, h3, fun s1' h1' => ?_⟩
    rw [h1] at h1'
    obtain rfl := Option.some.inj h1'
    exact ⟨fun y hy _ => hc y hy, h4⟩
theorem clsS_N {o : Oper} (h : clsS o = .N) : clsOf o = .N := by
  unfold clsS at h
  split at h
  · assumption
  · split at h <;> cases h
  · cases h
theorem clsS_L {o : Oper} (h : clsS o = .L) : ∃ t x, o.op = .load t x := by
  unfold clsS at h
  split at h
  · cases h
  · split at h
    · rename_i t x ho; exact ⟨t, x, ho⟩
    · cases h
  · cases h
theorem opF_load {d : Option Nat} {o : Oper} {ρ : Operand → AV} {m m1 : Mem} {v : AV} (hc : clsS o = .L) (h : opF C fid callP callI d o ρ m = some (v, m1)) : m1 = m := by
  obtain ⟨t, x, ho⟩ := clsS_L hc
  unfold opF opK at h
  rw [ho] at h
  simp only at h
  split at h
  · obtain ⟨v', h1, h2⟩ := Option.bind_eq_some_iff.1 h
    simp only [Option.some.injEq, Prod.mk.injEq] at h2
    exact h2.2.symm
  · cases h
theorem swapS_run {ops : Array Oper} {i j : Nat} {st s1 s2 : St} {x y : Oper} (hx : ops[i]? = some x) (hy : ops[j]? = some y) (hok : swapS ops x y = true)
    (h1 : stepF C fid callP callI none ops i st = some s1) (h2 : stepF C fid callP callI none ops j s1 = some s2) : ∃ s1', stepF C fid callP callI none ops j st = some s1' ∧ stepF C fid callP callI none ops i s1' = some s2 := by
  obtain ⟨x', vi, mi, hx', hri, rfl⟩ := stepF_some h1
  obtain rfl : x = x' := by simpa [hx] using hx'
  obtain ⟨y', vj, mj, hy', hrj, rfl⟩ := stepF_some h2
  obtain rfl : y = y' := by simpa [hy] using hy'
  unfold swapS at hok
  simp only [Bool.and_eq_true] at hok
  obtain ⟨hcls, hap⟩ := hok
  obtain ⟨a1, a2, a3⟩ := apart_facts hap
  simp only at hrj
  have cj : ∀ m, opG C fid callP callI none ops j y (setD st.tmps x.dst vi) m = opG C fid callP callI none ops j y st.tmps m := fun m => opG_congr fun t ht => setD_getD fun hd => a1 t hd ht
  have ci : ∀ v m, opG C fid callP callI none ops i x (setD st.tmps y.dst v) m = opG C fid callP callI none ops i x st.tmps m := fun v m => opG_congr fun t ht => setD_getD fun hd => a2 t hd ht
  rw [cj] at hrj
  have enough : ∀ m1, opG C fid callP callI none ops j y st.tmps st.mem = some (vj, m1) → opG C fid callP callI none ops i x st.tmps m1 = some (vi, mj) →
      ∃ s1', stepF C fid callP callI none ops j st = some s1' ∧ stepF C fid callP callI none ops i s1' = some ⟨setD (setD st.tmps x.dst vi) y.dst vj, mj⟩ := by
    intro m1 e1 e2
    refine ⟨⟨setD st.tmps y.dst vj, m1⟩, by simp [stepF, hy, e1], ?_⟩
    simp only [stepF, hx, ci, e2, Option.map_some]
    rw [setD_comm a3]
  have nI : clsS x = .N → mi = st.mem ∧ ∀ m', opG C fid callP callI none ops i x st.tmps m' = some (vi, m') := fun hc => by
    rcases opG_cases hri with ⟨hf, hall⟩ | ⟨rfl, hall⟩
    · obtain ⟨rfl, h⟩ := opF_N (clsS_N hc) hf
      exact ⟨rfl, fun m' => (hall m').trans (h m')⟩
    · exact ⟨rfl, hall⟩
  have nJ : clsS y = .N → mj = mi ∧ ∀ m', opG C fid callP callI none ops j y st.tmps m' = some (vj, m') := fun hc => by
    rcases opG_cases hrj with ⟨hf, hall⟩ | ⟨rfl, hall⟩
    · obtain ⟨rfl, h⟩ := opF_N (clsS_N hc) hf
      exact ⟨rfl, fun m' => (hall m').trans (h m')⟩
    · exact ⟨rfl, hall⟩
  have lI : clsS x = .L → mi = st.mem := fun hc => by
    rcases opG_cases hri with ⟨hf, _⟩ | ⟨rfl, _⟩
    · exact opF_load hc hf
    · rfl
  have lJ : clsS y = .L → mj = mi := fun hc => by
    rcases opG_cases hrj with ⟨hf, _⟩ | ⟨rfl, _⟩
    · exact opF_load hc hf
    · rfl
  cases hcx : clsS x with
  | N =>
    obtain ⟨rfl, hall⟩ := nI hcx
    exact enough mj hrj (hall mj)
  | L =>
    obtain rfl := lI hcx
    cases hcy : clsS y with
    | N =>
      obtain ⟨rfl, hall⟩ := nJ hcy
      exact enough _ hrj hri
    | L =>
      obtain rfl := lJ hcy
      exact enough _ hrj hri
    | _ => rw [hcx, hcy] at hcls; cases hcls
  | _ =>
    cases hcy : clsS y with
    | N =>
      obtain ⟨rfl, hall⟩ := nJ hcy
      exact enough _ (hall _) hri
    | _ => rw [hcx, hcy] at hcls; cases hcls
theorem opF_load_any {cp' : Nat → List AV → Option AV} {ci' : Nat → List AV → Mem → Option (AV × Mem)} {d d' : Option Nat} {o : Oper} {ρ : Operand → AV} {m : Mem} (hc : clsS o = .L) : opF C fid callP callI d o ρ m = opF C fid cp' ci' d' o ρ m := by
  obtain ⟨t, x, ho⟩ := clsS_L hc
  unfold opF opK
  rw [ho]
theorem opG_load_any {cp' : Nat → List AV → Option AV} {ci' : Nat → List AV → Mem → Option (AV × Mem)} {ops : Array Oper} {i : Nat} {o : Oper} {ts : List AV} {m : Mem} (hc : clsS o = .L) : opG C fid callP callI none ops i o ts m = opG C fid cp' ci' none ops i o ts m := by
  unfold opG
  rw [opF_load_any (callP := callP) (callI := callI) (cp' := cp') (ci' := ci') (d' := Option.map (· + rankA ops i) none) hc]
theorem getD_setD {ts : List AV} {d : Option Nat} {v : AV} {t : Nat} : (setD ts d v).getD t .any = if d = some t ∧ t < ts.length then v else ts.getD t .any := by
  cases d with
  | none => simp [setD]
  | some d =>
    simp only [setD, List.getD_eq_getElem?_getD, List.getElem?_set, Option.some.injEq]
    by_cases h : d = t
    · subst h
      by_cases hl : d < ts.length
      · simp [hl]
      · simp [hl]
    · simp [h]
/-- Where a step leaves memory as it is and writes none of what the load looks at. -/
theorem Chk.same {ops : Array Oper} {y : Nat} {s s' : St} (hm : s'.mem = s.mem) (ht : ∀ oy, ops[y]? = some oy → (∀ t ∈ looks ops oy, s'.tmps.getD t .any = s.tmps.getD t .any) ∧ dstV oy s'.tmps = dstV oy s.tmps) (h : Chk C fid ops y s) : Chk C fid ops y s' := by
  unfold Chk at h ⊢
  cases ho : ops[y]? with
  | none => trivial
  | some oy =>
    rw [ho] at h
    simp only at h ⊢
    obtain ⟨h1, h2⟩ := ht oy ho
    rw [opG_congr h1, h2, hm]
    exact h
/-- The load j, the call i: drawn the other way round. -/
theorem swapL {ops : Array Oper} {i j : Nat} {st s1 s2 : St} {x y : Oper} (hx : ops[i]? = some x) (hy : ops[j]? = some y) (hok : lateS ops y x = true)
    (h1 : stepF C fid callP callI none ops j st = some s1) (h2 : stepF C fid callP callI none ops i s1 = some s2) (hc : Chk C fid ops j s2) : ∃ s1', stepF C fid callP callI none ops i st = some s1' ∧ stepF C fid callP callI none ops j s1' = some s2 := by
  obtain ⟨y', vj, mj, hy', hrj, rfl⟩ := stepF_some h1
  obtain rfl : y = y' := by simpa [hy] using hy'
  obtain ⟨x', vi, mi, hx', hri, rfl⟩ := stepF_some h2
  obtain rfl : x = x' := by simpa [hx] using hx'
  unfold lateS at hok
  simp only [Bool.and_eq_true] at hok
  obtain ⟨hcl, hap, hself⟩ := hok
  have hcl : clsS y = .L := by split at hcl <;> first | assumption | cases hcl
  obtain ⟨a1, a2, a3⟩ := apart_facts hap
  have hself : ∀ d, y.dst = some d → d ∉ looks ops y := fun d hd => by rw [hd] at hself; simpa using hself
  have hmj : mj = st.mem := by
    rcases opG_cases hrj with ⟨hf, _⟩ | ⟨rfl, _⟩
    · exact opF_load hcl hf
    · rfl
  subst hmj
  simp only at hri
  have hri' : opG C fid callP callI none ops i x st.tmps st.mem = some (vi, mi) := by
    rw [← hri]; exact (opG_congr fun t ht => setD_getD fun hd => a1 t hd ht).symm
  unfold Chk at hc
  rw [hy] at hc
  simp only at hc
  have hj2 : opG C fid callP callI none ops j y (setD st.tmps x.dst vi) mi = some (dstV y (setD (setD st.tmps y.dst vj) x.dst vi), mi) := by
    rw [opG_load_any (callP := callP) (callI := callI) (cp' := fun _ _ => none) (ci' := fun _ _ _ => none) hcl, ← hc]
    refine opG_congr fun t ht => ?_
    rw [getD_setD, getD_setD, getD_setD]
    have : y.dst ≠ some t := fun hd => hself t hd ht
    have hl : (setD st.tmps y.dst vj).length = st.tmps.length := by cases y.dst <;> simp [setD]
    simp only [this, false_and, if_false, hl]
  refine ⟨⟨setD st.tmps x.dst vi, mi⟩, by simp [stepF, hx, hri'], ?_⟩
  simp only [stepF, hy, hj2, Option.map_some, Option.some.injEq, St.mk.injEq, and_true]
  -- the two rows of slots are one
  cases hd : y.dst with
  | none => simp [setD]
  | some d =>
    have hxd : x.dst ≠ some d := fun he => by rcases a3 with h | h <;> simp_all
    have e1 : dstV y (setD (setD st.tmps (some d) vj) x.dst vi) = if d < st.tmps.length then vj else .any := by
      unfold dstV
      rw [hd]
      simp only
      rw [getD_setD, getD_setD]
      simp only [hxd, false_and, if_false, true_and]
      by_cases hl : d < st.tmps.length
      · rw [if_pos hl, if_pos hl]
      · rw [if_neg hl, if_neg hl]; simp [List.getD_eq_getElem?_getD, List.getElem?_eq_none (Nat.le_of_not_lt hl)]
    rw [e1]
    by_cases hl : d < st.tmps.length
    · rw [if_pos hl]
      exact (setD_comm (.inr (fun he => hxd he))).trans rfl |>.symm ▸ rfl
    · have hge : st.tmps.length ≤ d := Nat.le_of_not_lt hl
      have hn : ∀ (ts : List AV) v, ts.length = st.tmps.length → setD ts (some d) v = ts := fun ts v hle => by
        simp only [setD]; exact List.set_eq_of_length_le (hle ▸ hge)
      rw [hn _ _ (by cases x.dst <;> simp [setD]), hn st.tmps vj rfl]
/-- What a step writes. -/
theorem step_tmps {ops : Array Oper} {i : Nat} {x : Oper} {st s1 : St} {base : Option Nat} (hx : ops[i]? = some x) (h : stepF C fid callP callI base ops i st = some s1) (t : Nat) (ht : x.dst ≠ some t) : s1.tmps.getD t .any = st.tmps.getD t .any := by
  obtain ⟨x', v, m, hx', _, rfl⟩ := stepF_some h
  obtain rfl : x = x' := by simpa [hx] using hx'
  exact setD_getD ht
theorem step_mem {ops : Array Oper} {i : Nat} {x : Oper} {st s1 : St} (hx : ops[i]? = some x) (h : stepF C fid callP callI none ops i st = some s1) (hc : clsS x = .N ∨ clsS x = .L) : s1.mem = st.mem := by
  obtain ⟨x', v, m, hx', hr, rfl⟩ := stepF_some h
  obtain rfl : x = x' := by simpa [hx] using hx'
  rcases opG_cases hr with ⟨hf, _⟩ | ⟨rfl, _⟩
  · rcases hc with hc | hc
    · exact (opF_N (clsS_N hc) hf).1
    · exact opF_load hc hf
  · rfl
/-- No operation of the row writes what a load looks at, where the load is one that is looked at again. -/
def Still (ops : Array Oper) (lt : List (Nat × List Nat)) (y : Nat) (l : List Nat) : Prop := (lt.any fun p => p.2.contains y) = true → ∀ oy, ops[y]? = some oy → ∀ k ∈ l, ∀ o, ops[k]? = some o → ∀ d, o.dst = some d → d ∉ looks ops oy ∧ oy.dst ≠ some d
theorem lateAt_any {lt : List (Nat × List Nat)} {i y : Nat} (h : y ∈ lateAt lt i) : (lt.any fun p => p.2.contains y) = true := by
  induction lt with
  | nil => cases h
  | cons p lt ih =>
    obtain ⟨k, ys⟩ := p
    simp only [lateAt] at h
    simp only [List.any_cons, Bool.or_eq_true]
    split at h
    · exact .inl (by simpa using h)
    · exact .inr (ih h)
theorem steady_still {ops : Array Oper} {x : Oper} {l : List Nat} (h : steady ops x l = true) : ∀ k ∈ l, ∀ o, ops[k]? = some o → ∀ d, o.dst = some d → d ∉ looks ops x ∧ x.dst ≠ some d := by
  intro k hk o ho d hd
  have := List.all_eq_true.1 h k hk
  rw [ho] at this
  simp only [hd] at this
  simpa using this
/-- What the check of pairs gives beside the pairs, for what is left of the row. -/
structure Facts (ops : Array Oper) (lt : List (Nat × List Nat)) (l : List Nat) : Prop where
  late : ∀ j ∈ l, ∀ x, ops[j]? = some x → lateAt lt j ≠ [] → clsS x = .W
  still : ∀ (p q : List Nat) (j : Nat), l = p ++ j :: q → Still ops lt j q
theorem Facts.tail {ops : Array Oper} {lt : List (Nat × List Nat)} {j : Nat} {l : List Nat} (h : Facts ops lt (j :: l)) : Facts ops lt l :=
  ⟨fun k hk => h.late k (List.mem_cons_of_mem _ hk), fun p q k e => h.still (j :: p) q k (by rw [e]; rfl)⟩
theorem Still.sub {ops : Array Oper} {lt : List (Nat × List Nat)} {y : Nat} {l l' : List Nat} (h : Still ops lt y l) (hs : ∀ k ∈ l', k ∈ l) : Still ops lt y l' := fun a oy b k hk => h a oy b k (hs k hk)
theorem Facts.sub {ops : Array Oper} {lt : List (Nat × List Nat)} {l l' : List Nat} (h : Facts ops lt l) (hs : l'.Sublist l) : Facts ops lt l' := by
  refine ⟨fun k hk => h.late k (hs.subset hk), fun p q j e => ?_⟩
  subst e
  obtain ⟨c1, c2, rfl, hs1, hs2⟩ := List.append_sublist_iff.1 hs
  obtain ⟨d1, d2, rfl, hd1, hd2⟩ := List.cons_sublist_iff.1 hs2
  obtain ⟨e1, e2, rfl⟩ := List.append_of_mem hd1
  have := h.still (c1 ++ e1) (e2 ++ d2) j (by simp)
  exact this.sub fun k hk => List.mem_append.2 (.inr (hd2.subset hk))
theorem pairsS_facts' {ops : Array Oper} {ah : List Nat} {lt : List (Nat × List Nat)} : ∀ {l : List Nat}, pairsS ops ah lt l = true → Facts ops lt l
  | [], _ => ⟨fun _ h => by simp at h, fun p q j e => by simp at e⟩
  | j :: l, h => by
    simp only [pairsS, Bool.and_eq_true] at h
    obtain ⟨⟨_, h1⟩, h2⟩ := h
    have ih := pairsS_facts' h2
    have hj : ∀ x, ops[j]? = some x → (lateAt lt j ≠ [] → clsS x = .W) ∧ Still ops lt j l := fun x hx => by
      rw [hx] at h1
      simp only [Bool.and_eq_true, Bool.or_eq_true] at h1
      refine ⟨fun hne => ?_, fun ha oy hoy => ?_⟩
      · have := h1.1
        split at this
        · rename_i he; exact absurd he hne
        · split at this <;> first | assumption | cases this
      · obtain rfl : x = oy := by simpa [hx] using hoy
        rcases h1.2 with hh | hh
        · rw [ha] at hh; cases hh
        · exact steady_still hh
    refine ⟨fun k hk x hx => ?_, fun p q k e => ?_⟩
    · rcases List.mem_cons.1 hk with rfl | hk
      · exact (hj x hx).1
      · exact ih.late k hk x hx
    · match p, e with
      | [], e =>
        simp only [List.nil_append, List.cons.injEq] at e
        obtain ⟨rfl, rfl⟩ := e
        cases hx : ops[j]? with
        | none => intro _ oy hoy; rw [hx] at hoy; cases hoy
        | some x => exact (hj x hx).2
      | k' :: p, e =>
        simp only [List.cons_append, List.cons.injEq] at e
        exact ih.still p q k e.2
theorem pairsS_facts {ops : Array Oper} {ah : List Nat} {lt : List (Nat × List Nat)} {canon l : List Nat} (h : pairsS ops ah lt canon = true) (hs : l.Sublist canon) : Facts ops lt l := (pairsS_facts' h).sub hs
theorem swapS_cls {ops : Array Oper} {x y : Oper} (h : swapS ops x y = true) (hw : clsS x = .W) : clsS y = .N := by
  unfold swapS at h
  simp only [Bool.and_eq_true] at h
  rw [hw] at h
  cases hy : clsS y <;> rw [hy] at h <;> first | rfl | exact absurd h.1 (by simp)
theorem swapS_cls2 {ops : Array Oper} {x y : Oper} (h : swapS ops x y = true) (hw : clsS y = .W) : clsS x = .N := by
  unfold swapS at h
  simp only [Bool.and_eq_true] at h
  rw [hw] at h
  cases hy : clsS x <;> rw [hy] at h <;> first | rfl | exact absurd h.1 (by simp)
/-- What may pass all that stands ahead of it may be taken first. -/
theorem firstL {lt : List (Nat × List Nat)} {ops : Array Oper} {i : Nat} {x : Oper} (hx : ops[i]? = some x) : ∀ (l done : List Nat) (st s' : St), l.Nodup → i ∈ l → Good C fid callP callI lt ops done l st → Facts ops lt l → (∀ y ∈ done, Still ops lt y l) →
    (∀ (p q : List Nat), l = p ++ i :: q → ∀ j ∈ p, ∃ y, ops[j]? = some y ∧ (swapS ops y x = true ∨ (j ∈ lateAt lt i ∧ lateS ops y x = true))) →
    runF C fid callP callI none ops l st = some s' → ∃ s1, stepF C fid callP callI none ops i st = some s1 ∧ runF C fid callP callI none ops (l.erase i) s1 = some s' ∧ Good C fid callP callI lt ops done (l.erase i) s1 ∧ (∀ y ∈ lateAt lt i, y ∈ done → Chk C fid ops y s1)
  | [], _, _, _, _, hi, _, _, _, _, _ => by simp at hi
  | j :: l, done, st, s', hnd, hi, hgd, hfa, hst, hsw, hr => by
    simp only [runF, Option.bind_eq_some_iff] at hr
    obtain ⟨s1, h1, hr⟩ := hr
    obtain ⟨hg1, hg2⟩ := hgd s1 h1
    by_cases he : j = i
    · subst he
      refine ⟨s1, h1, by simpa using hr, ?_, hg1⟩
      rw [List.erase_cons_head]
      exact hg2.anti fun y hy => List.mem_cons_of_mem _ hy
    · have hil : i ∈ l := by rcases List.mem_cons.1 hi with h | h <;> first | exact absurd h.symm he | exact h
      have hnd' := (List.nodup_cons.1 hnd)
      have hst' : ∀ y ∈ j :: done, Still ops lt y l := fun y hy => by
        rcases List.mem_cons.1 hy with rfl | hy
        · exact hfa.still [] l y rfl
        · exact (hst y hy).sub fun k hk => List.mem_cons_of_mem _ hk
      obtain ⟨s2, h2, hr2, hgo, hch⟩ := firstL hx l (j :: done) s1 s' hnd'.2 hil hg2 hfa.tail hst' (fun p q hpq k hkp => hsw (j :: p) q (by rw [hpq]; rfl) k (by simp [hkp])) hr
      obtain ⟨p, q, hpq⟩ := List.append_of_mem hil
      obtain ⟨y, hy, hok⟩ := hsw (j :: p) q (by rw [hpq]; rfl) j (by simp)
      obtain ⟨s1', k1, k2⟩ : ∃ s1', stepF C fid callP callI none ops i st = some s1' ∧ stepF C fid callP callI none ops j s1' = some s2 := by
        rcases hok with hok | ⟨hm, hok⟩
        · exact swapS_run hy hx hok h1 h2
        · exact swapL hx hy hok h1 h2 (hch j hm List.mem_cons_self)
      have her : (j :: l).erase i = j :: l.erase i := by
        rw [List.erase_cons, if_neg (by simpa using he)]
      rw [her]
      refine ⟨s1', k1, by simp only [runF, k2, Option.bind_some]; exact hr2, fun s2' h2' => ?_, fun z hz hzd => ?_⟩
      · rw [k2] at h2'
        obtain rfl := Option.some.inj h2'
        refine ⟨fun z hz hzd => ?_, hgo⟩
        have hjw := hfa.late j List.mem_cons_self y hy (fun h => by rw [h] at hz; cases hz)
        have hxn : clsS x = .N := by
          rcases hok with hok | ⟨_, hok⟩
          · exact swapS_cls hok hjw
          · unfold lateS at hok; rw [hjw] at hok; simp at hok
        refine (hg1 z hz hzd).same (step_mem hx h2 (.inl hxn)) fun oz hoz => ?_
        have hs := hst z hzd (lateAt_any hz) oz hoz i (List.mem_cons_of_mem _ hil) x hx
        refine ⟨fun t ht => step_tmps hx h2 t fun hd => (hs t hd).1 ht, ?_⟩
        unfold dstV
        cases hd : oz.dst with
        | none => rfl
        | some d => exact step_tmps hx h2 d fun hd' => (hs d hd').2 hd
      · have hiw := hfa.late i (List.mem_cons_of_mem _ hil) x hx (fun h => by rw [h] at hz; cases hz)
        have hyn : clsS y = .N ∨ clsS y = .L := by
          rcases hok with hok | ⟨_, hok⟩
          · exact .inl (swapS_cls2 hok hiw)
          · unfold lateS at hok
            simp only [Bool.and_eq_true] at hok
            have := hok.1
            right
            split at this <;> first | assumption | cases this
        refine (hch z hz (List.mem_cons_of_mem _ hzd)).same (step_mem hy k2 hyn).symm fun oz hoz => ?_
        have hs := hst z hzd (lateAt_any hz) oz hoz j List.mem_cons_self y hy
        refine ⟨fun t ht => (step_tmps hy k2 t fun hd => (hs t hd).1 ht).symm, ?_⟩
        unfold dstV
        cases hd : oz.dst with
        | none => rfl
        | some d => exact (step_tmps hy k2 d fun hd' => (hs d hd').2 hd).symm
theorem pairsS_split {ops : Array Oper} {ah : List Nat} {lt : List (Nat × List Nat)} : ∀ {l : List Nat}, pairsS ops ah lt l = true → ∀ (p q : List Nat) (i : Nat), l = p ++ i :: q → ∀ j ∈ p, (ah.getD i 0).testBit j = true ∨ ∃ x y, ops[j]? = some x ∧ ops[i]? = some y ∧ (swapS ops x y = true ∨ (j ∈ lateAt lt i ∧ lateS ops x y = true))
  | [], _, p, q, i, h, _, _ => by simp at h
  | k :: l, hp, p, q, i, h, j, hj => by
    simp only [pairsS, Bool.and_eq_true, List.all_eq_true] at hp
    match p, h with
    | k' :: p, h =>
      simp only [List.cons_append, List.cons.injEq] at h
      obtain ⟨rfl, rfl⟩ := h
      rcases List.mem_cons.1 hj with rfl | hj
      · have := hp.1.1 i (by simp)
        rcases Bool.or_eq_true_iff.1 this with h | h
        · exact .inl h
        · refine .inr ?_
          split at h
          · refine ⟨_, _, by assumption, by assumption, ?_⟩
            rcases Bool.or_eq_true_iff.1 h with h | h
            · exact .inl h
            · simp only [Bool.and_eq_true] at h
              exact .inr ⟨by simpa using h.1, h.2⟩
          · cases h
      · exact pairsS_split hp.2 p q i rfl j hj
end
section
variable [WInv] {C : Cfg} {B : Nat} {w : World} {g : G}
/-- Whatever order is drawn. -/
theorem any_wpS (hC : CfgOk C) {callI : Nat → List AV → Mem → Option (AV × Mem)} (hI : IOk C callI) {fid : Nat} {lt : List (Nat × List Nat)} {ops : Array Oper} {Q : Exit → Act → World → Prop} {canon : List Nat} (hlt : ∀ k o, ops[k]? = some o → ∀ e ∈ o.after.toList, Region.binds .any e = true → e.on < k)
    (hpairs : pairsS ops (aheadOf ops) lt canon = true) (hnd : canon.Nodup) : ∀ (l : List Nat) (n : Nat), l.length = n → l.Sublist canon → ∀ (listed : Array Bool), listed.size = ops.size → (∀ x, x < ops.size → (listed.getD x true = true ↔ x ∉ l)) → (∀ x ∈ l, x < ops.size) →
    (∀ k o, k < ops.size → k ∉ l → ops[k]? = some o → ∀ e ∈ o.after.toList, Region.binds .any e = true → e.on ∉ l) →
    ∀ (st s' : St) (a : Act) (w : World) (g : G), runF C fid (acallP callI) callI none ops l st = some s' → Good C fid (acallP callI) callI lt ops [] l st → StR B w g st a →
    (∀ a' w' g', StR B w' g' s' a' → Step B w g w' g' → DOk C.P a' a → Q .normal a' w') → wpAny C.P .any ops Q n listed a w := by
  intro l n hn
  induction n generalizing l with
  | zero =>
    intro hsub listed hsz hlist hin hdown st s' a w g hr hgd hs hq
    have hnil : l = [] := List.eq_nil_of_length_eq_zero hn
    subst hnil
    simp only [runF, Option.some.injEq] at hr
    subst hr
    refine ⟨?_, hq a w g hs (Step.refl _ _ _) (DOk.refl _ _)⟩
    unfold Region.ready
    rw [List.filter_eq_nil_iff]
    intro x hx
    have : listed.getD x true = true := (hlist x (by simpa using hx)).2 (by simp)
    simp [this]
  | succ n ih =>
    intro hsub listed hsz hlist hin hdown st s' a w g hr hgd hs hq
    have hready : ∀ i ∈ Region.ready .any ops listed, i ∈ l ∧ i < ops.size ∧ ∃ o, ops[i]? = some o ∧ ∀ e ∈ o.after.toList, Region.binds .any e = true → e.on ∉ l := by
      intro i hi
      unfold Region.ready at hi
      simp only [List.mem_filter, List.mem_range, Bool.and_eq_true, Bool.not_eq_true'] at hi
      obtain ⟨h1, h2, h3⟩ := hi
      have hil : i ∈ l := by
        by_cases h : i ∈ l
        · exact h
        · have := (hlist i h1).2 h; rw [this] at h2; cases h2
      refine ⟨hil, h1, ops[i], by simp [h1], fun e he hb hon => ?_⟩
      have ho : ops[i]? = some ops[i] := by simp [h1]
      rw [ho] at h3
      simp only [Option.map_some, Option.getD_some] at h3
      have h4 := Array.all_eq_true_iff_forall_mem.1 h3 e (by simpa using he)
      simp only [hb, Bool.not_true, Bool.false_or] at h4
      have h5 := hlt i _ ho e he hb
      have h6 : listed.getD e.on true = true := by
        have hes : e.on < listed.size := by omega
        simp only [Array.getD, hes, dif_pos] at h4 ⊢
        exact h4
      exact (hlist e.on (by omega)).1 h6 hon
    refine ⟨fun hnone => ?_, fun i hi => ?_⟩
    · -- the least that is left is ready
      exfalso
      have hne : l ≠ [] := fun h => by rw [h] at hn; simp at hn
      obtain ⟨mn, hmn, hmin⟩ : ∃ mn ∈ l, ∀ x ∈ l, mn ≤ x := by
        exact least l hne
      have hml := hin mn hmn
      have : mn ∈ Region.ready .any ops listed := by
        unfold Region.ready
        simp only [List.mem_filter, List.mem_range, Bool.and_eq_true, Bool.not_eq_true']
        refine ⟨hml, ?_, ?_⟩
        · cases hb : listed.getD mn true with
          | false => rfl
          | true => exact absurd hmn ((hlist mn hml).1 hb)
        · have ho : ops[mn]? = some ops[mn] := by simp [hml]
          rw [ho]
          simp only [Option.map_some, Option.getD_some]
          rw [Array.all_eq_true_iff_forall_mem]
          intro e he
          by_cases hb : Region.binds .any e = true
          · have h5 := hlt mn _ ho e (by simpa using he) hb
            have h6 : e.on ∉ l := fun h => by have := hmin _ h; omega
            have h7 := (hlist e.on (by omega)).2 h6
            have hes : e.on < listed.size := by omega
            have h8 : listed.getD e.on false = true := by
              simp only [Array.getD, hes, dif_pos] at h7 ⊢
              exact h7
            rw [h8]; simp
          · simp at hb; simp [hb]
      rw [hnone] at this
      simp at this
    · obtain ⟨hil, hio, x, hx, hedge⟩ := hready i hi
      obtain ⟨s1, h1, h2, hg2, _⟩ := firstL hx l [] st s' (hnd.sublist hsub) hil hgd (pairsS_facts hpairs hsub) (fun y hy => by simp at hy) (fun p q hpq j hj => by
        obtain ⟨pre, post, hcan⟩ : ∃ pc qc, canon = pc ++ i :: qc ∧ ∀ y ∈ p, y ∈ pc := by
          rw [hpq] at hsub
          obtain ⟨c1, c2, hc, hs1, hs2⟩ := List.append_sublist_iff.1 hsub
          obtain ⟨d1, d2, hd, hdi⟩ : ∃ d1 d2, c2 = d1 ++ i :: d2 ∧ True := by
            have := hs2.subset (List.mem_cons_self)
            obtain ⟨d1, d2, hd⟩ := List.append_of_mem this
            exact ⟨d1, d2, hd, trivial⟩
          exact ⟨c1 ++ d1, d2, by rw [hc, hd]; simp, fun y hy => List.mem_append.2 (.inl (hs1.subset hy))⟩
        rcases pairsS_split hpairs pre post i hcan.1 j (hcan.2 j hj) with h | ⟨y, x', hy, hx', hok⟩
        · exfalso
          have hmem : ((aheadTo ops ops.size).getD i 0).testBit j = true := h
          have := ahead_met (D := fun k => k ∉ l) (fun k o hk' hko e he hb => by
            rcases Nat.lt_or_ge k ops.size with hk1 | hk1
            · exact hdown k o hk1 hk' hko e he hb
            · rw [Array.getElem?_eq_none hk1] at hko; cases hko) hlt ops.size i x hio hx hedge j hmem
          exact this (by rw [hpq]; simp [hj])
        · obtain rfl : x = x' := by simpa [hx] using hx'
          exact ⟨y, hy, hok⟩) hr
      refine step_wp hC hI h1 hs (fun b' hb' => by cases hb') fun a' w' g' hs' s hd => ?_
      have hmem : ∀ y, y ∈ l.erase i ↔ y ∈ l ∧ y ≠ i := fun y => by
        rw [(hnd.sublist hsub).mem_erase_iff]; exact And.comm
      refine ih (l.erase i) (by rw [List.length_erase_of_mem hil]; omega) (List.Sublist.trans List.erase_sublist hsub) (listed.setIfInBounds i true) (by simpa using hsz) (fun y hy => ?_) (fun y hy => hin y ((hmem y).1 hy).1) (fun k o hk1 hk2 hko e he hb hon => ?_) s1 s' a' w' g' h2 hg2 hs' fun a'' w'' g'' hs'' s' hd' => hq a'' w'' g'' hs'' (s.trans s') (hd'.trans hd)
      · have hys : y < listed.size := by omega
        have hg : (listed.setIfInBounds i true).getD y true = if i = y then true else listed.getD y true := by
          simp only [Array.getD_eq_getD_getElem?, Array.getElem?_setIfInBounds]
          by_cases hiy : i = y
          · subst hiy; simp [hys]
          · simp [hiy]
        rw [hg, hmem]
        by_cases hiy : i = y
        · subst hiy; simp
        · rw [if_neg hiy, hlist y hy]
          constructor
          · intro h h'; exact h h'.1
          · intro h h'; exact h ⟨h', fun he => hiy he.symm⟩
      · have hon' := (hmem _).1 hon
        by_cases hki : k = i
        · subst hki
          obtain rfl : x = o := by simpa [hx] using hko
          exact hedge e he hb hon'.1
        · exact hdown k o hk1 (fun h => hk2 ((hmem k).2 ⟨h, hki⟩)) hko e he hb hon'.1

theorem drawS_facts {P : Program} {ops : Array Oper} {l ah : List Nat} {lt : List (Nat × List Nat)} (h : drawS P ops l ah lt = true) : P.follows .mixedOrders = true ∧ l.isPerm (List.range ops.size) = true ∧
    ((List.range ops.size).all (fun i => (match ops[i]? with | some o => o.after.all fun e => !Region.binds .any e || decide (e.on < i) | none => false))) = true ∧ pairsS ops (aheadOf ops) lt l = true := by
  unfold drawS at h
  simp only [Bool.and_eq_true] at h
  obtain ⟨h1, h2, h3, h4, h5, h6⟩ := h
  have hlt : ∀ k o, ops[k]? = some o → ∀ e ∈ o.after.toList, Region.binds .any e = true → e.on < k := by
    intro k o hk e he hb
    have hkl := (Array.getElem?_eq_some_iff.1 hk).1
    have := List.all_eq_true.1 h3 k (by simpa using hkl)
    rw [hk] at this
    simp only at this
    have := Array.all_eq_true_iff_forall_mem.1 this e (by simpa using he)
    simpa [hb] using this
  have hah := ahead_told (Nat.eq_of_beq_eq_true h4) hlt (fun i hi => List.all_eq_true.1 h5 i (by simpa using hi)) ops.size (Nat.le_refl _)
  rw [List.take_of_length_le (by rw [Nat.eq_of_beq_eq_true h4]; exact Nat.le_refl _)] at hah
  refine ⟨h1, h2, h3, ?_⟩
  unfold aheadOf
  rw [hah]
  exact h6
theorem drawS_wp (hC : CfgOk C) {callI : Nat → List AV → Mem → Option (AV × Mem)} (hI : IOk C callI) {R : Type} {fid id : Nat} {ops : Array Oper} {Q : Exit → Act → World → Prop} {canon ah : List Nat} {lt : List (Nat × List Nat)} (hok : drawS C.P ops canon ah lt = true) {st : St} {K : St → Option R} {r : R} {a : Act}
    (h : runL C fid (acallP callI) callI lt ops canon st K = some r) (hs : StR B w g st a)
    (hn : ∀ s' a' w' g', K s' = some r → StR B w' g' s' a' → Step B w g w' g' → DOk C.P a' a → Q .normal a' w') : (Code.region id ops true).wp C.P Q a w := by
  obtain ⟨h1, h2, h3, h4⟩ := drawS_facts hok
  have hperm : canon.Perm (List.range ops.size) := List.isPerm_iff.1 h2
  have hlt : ∀ k o, ops[k]? = some o → ∀ e ∈ o.after.toList, Region.binds .any e = true → e.on < k := by
    intro k o hk e he hb
    have hkl := (Array.getElem?_eq_some_iff.1 hk).1
    have := List.all_eq_true.1 h3 k (by simpa using hkl)
    rw [hk] at this
    simp only at this
    have := Array.all_eq_true_iff_forall_mem.1 this e (by simpa using he)
    simpa [hb] using this
  obtain ⟨s', hr, hK, hgd⟩ := runL_some [] h
  refine wp_region_any h1 ?_
  refine any_wpS hC hI hlt h4 (hperm.nodup_iff.2 List.nodup_range) canon ops.size (by rw [hperm.length_eq]; simp) (List.Sublist.refl _) _ (by simp) (fun x hx => ?_) (fun x hx => by simpa using hperm.mem_iff.1 hx) (fun k o hk hk' => ?_) _ s' a _ g hr hgd ⟨hs.tmp.step (Step.drew B w g), hs.mem.drew, hs.size⟩ ?_
  · have : x ∈ canon := hperm.mem_iff.2 (by simpa using hx)
    simp [this, Array.getD, hx]
  · exact absurd (hperm.mem_iff.2 (by simpa using hk)) hk'
  · intro a' w' g' hs' s hd
    exact hn s' a' w' g' hK hs' ((Step.drew B w g).trans s) hd
end
end Go.Ab

/- The interpreter without fuel: what all runs with fuel tend to. -/
set_option linter.unusedVariables false
set_option linter.unusedSimpArgs false
set_option linter.unusedSectionVars false
namespace Go.Ab

/-! ### What a rising row of answers tends to -/
def Rise {R : Type} (F : Nat → Option R) : Prop := ∀ k r, F k = some r → F (k + 1) = some r
theorem Rise.le {R : Type} {F : Nat → Option R} (h : Rise F) {k n : Nat} (hn : k ≤ n) {r : R} (hr : F k = some r) : F n = some r := by
  induction hn with
  | refl => exact hr
  | step _ ih => exact h _ _ ih
open Classical in
noncomputable def lim {R : Type} (F : Nat → Option R) : Option R := if h : ∃ k r, F k = some r then F h.choose else none
theorem lim_some {R : Type} {F : Nat → Option R} {r : R} (h : lim F = some r) : ∃ k, F k = some r := by
  unfold lim at h
  split at h
  · exact ⟨_, h⟩
  · cases h
theorem Rise.lim {R : Type} {F : Nat → Option R} (h : Rise F) {k : Nat} {r : R} (hr : F k = some r) : lim F = some r := by
  have hx : ∃ k r, F k = some r := ⟨k, r, hr⟩
  unfold Ab.lim
  rw [dif_pos hx]
  obtain ⟨r', hr'⟩ := hx.choose_spec
  have h1 := h.le (Nat.le_max_left k hx.choose) hr
  have h2 := h.le (Nat.le_max_right k hx.choose) hr'
  rw [h1] at h2
  rw [hr', ← Option.some.inj h2]
theorem opt_ext {R : Type} {x y : Option R} (h : ∀ r, x = some r ↔ y = some r) : x = y := Option.ext h

section
variable {R : Type}

/-! ### Loops -/
def fits : List Bool → List AV → Bool
  | [], [] => true
  | _ :: bs, _ :: ts => fits bs ts
  | _, _ => false
/-- The slots that the mask keeps, as they stand. -/
def rb : List Bool → List AV → List AV
  | [], _ => []
  | b :: bs, ts => (match b with | true => ts.headD .any | false => .any) :: rb bs ts.tail
theorem rb_fits : ∀ (bs : List Bool) (ts : List AV), fits bs ts = true → rb bs ts = maskA bs ts
  | [], [], _ => rfl
  | b :: bs, t :: ts, h => by
    simp only [rb, maskA, rb_fits bs ts (by simpa [fits] using h), List.tail_cons]
    cases b <;> rfl
  | [], _ :: _, h => by simp [fits] at h
  | _ :: _, [], h => by simp [fits] at h
theorem rb_idem : ∀ (bs : List Bool) (ts : List AV), rb bs (rb bs ts) = rb bs ts
  | [], _ => rfl
  | b :: bs, ts => by
    simp only [rb, List.headD_cons, List.tail_cons, rb_idem bs ts.tail]
    cases b <;> rfl
abbrev grd (bs : List Bool) (st : St) (f : St → Option R) : Option R := match fits bs st.tmps with
  | true => f ⟨rb bs st.tmps, st.mem⟩
  | false => none
abbrev roundG (again : St → Option R) (mk : Masks) (K : Ex → St → Option R) : Ex → St → Option R := fun e st' => match e with
  | .normal => grd mk.head st' again
  | .exit id => grd mk.out st' (K (.exit id))
  | .ret => grd mk.ret st' (K .ret)
def loopG (body : St → (Ex → St → Option R) → Option R) (mk : Masks) : Nat → St → (Ex → St → Option R) → Option R
  | 0, _, _ => none
  | n + 1, st, K => body st (roundG (fun st' => loopG body mk n st' K) mk K)
noncomputable def loopW (body : St → (Ex → St → Option R) → Option R) (mk : Masks) (st : St) (K : Ex → St → Option R) : Option R := lim fun n => loopG body mk n st K

section
variable (C : Cfg) (fid : Nat) (callP : Nat → List AV → Option AV) (callI : Nat → List AV → Mem → Option (AV × Mem))
noncomputable def execW : Code → St → (Ex → St → Option R) → Option R
  | .skip, st, K => K .normal st
  | .region id ops d, st, K => match d with
    | false => runOps C fid callP callI none ops (List.range ops.size) st (K .normal)
    | true => match C.seqm fid id with
    | true => (match drawS C.P ops (ordOf (C.ord fid id) ops.size) (C.ahd fid id) (C.late fid id) with
      | true => runL C fid callP callI (C.late fid id) ops (ordOf (C.ord fid id) ops.size) st (K .normal)
      | false => none)
    | false => match drawOk3 C.P ops (ordOf (C.ord fid id) ops.size) (C.ahd fid id) (C.two fid id) with
      | true => runOps C fid callP callI (some st.mem.length) ops (ordOf (C.ord fid id) ops.size) ⟨st.tmps, reserve st.mem (rankA ops ops.size)⟩ (fun st' => twoK C.P ops st' (K .normal) (C.two fid id))
      | false => none
  | .seq a b, st, K => execW a st (seqK (fun st' => execW b st' K) K)
  | .cond c a b, st, K => ifA (ev st.tmps c) (execW a st K) (execW b st K)
  | .block id b, st, K => execW b st (blockK id K)
  | .loop b, st, K => grd (C.mask fid (keyOf b)).head st fun st' => loopW (execW b) (C.mask fid (keyOf b)) st' K
  | .exit id, st, K => K (.exit id) st
  | .ret, st, K => K .ret st
  | _, _, _ => none
end

/-- What runs with what follows only at its end. -/
def Lin (f : St → (Ex → St → Option R) → Option R) : Prop := ∀ st, f st = (fun _ => none) ∨ ∃ e s, f st = fun K => K e s

theorem runOps_lin (C : Cfg) (fid : Nat) (callP : Nat → List AV → Option AV) (callI : Nat → List AV → Mem → Option (AV × Mem)) (base : Option Nat) (ops : Array Oper) (l : List Nat) (st : St) :
    ((fun K : Ex → St → Option R => runOps C fid callP callI base ops l st (K .normal)) = fun _ => none) ∨ ∃ e s, (fun K : Ex → St → Option R => runOps C fid callP callI base ops l st (K .normal)) = fun K => K e s := by
  cases h : runF C fid callP callI base ops l st with
  | none => left; funext K; rw [runOps_eq, h]; rfl
  | some s => right; refine ⟨.normal, s, ?_⟩; funext K; rw [runOps_eq, h]; rfl

theorem runL_lin (C : Cfg) (fid : Nat) (callP : Nat → List AV → Option AV) (callI : Nat → List AV → Mem → Option (AV × Mem)) (lt : List (Nat × List Nat)) (ops : Array Oper) : ∀ (l : List Nat) (st : St),
    ((fun K : Ex → St → Option R => runL C fid callP callI lt ops l st (K .normal)) = fun _ => none) ∨ ∃ e s, (fun K : Ex → St → Option R => runL C fid callP callI lt ops l st (K .normal)) = fun K => K e s
  | [], st => .inr ⟨.normal, st, rfl⟩
  | i :: l, st => by
    cases h : stepF C fid callP callI none ops i st with
    | none => left; funext K; rw [runL_cons, h]; rfl
    | some s1 =>
      by_cases hc : ∀ y ∈ lateAt lt i, Chk C fid ops y s1
      · rcases runL_lin C fid callP callI lt ops l s1 with hh | ⟨e, s, hh⟩
        · left; funext K; rw [runL_cons, h, Option.bind_some, chkAll_pos hc]; exact congrFun hh K
        · right; exact ⟨e, s, by funext K; rw [runL_cons, h, Option.bind_some, chkAll_pos hc]; exact congrFun hh K⟩
      · left; funext K; rw [runL_cons, h, Option.bind_some, chkAll_neg hc]
theorem grd_lin {bs : List Bool} {st : St} {f : St → (Ex → St → Option R) → Option R} (h : Lin f) : ((fun K => grd bs st fun s => f s K) = fun _ => none) ∨ ∃ e s, (fun K => grd bs st fun s => f s K) = fun K => K e s := by
  unfold grd
  cases fits bs st.tmps with
  | false => exact .inl rfl
  | true => exact h _

theorem roundG_mono {again again' : St → Option R} {mk : Masks} {K : Ex → St → Option R} (h : ∀ s r, again s = some r → again' s = some r) {e : Ex} {s : St} {r : R} (hr : roundG again mk K e s = some r) : roundG again' mk K e s = some r := by
  cases e with
  | normal =>
    simp only [roundG, grd] at hr ⊢
    cases hf : fits mk.head s.tmps with
    | true => rw [hf] at hr; exact h _ _ hr
    | false => rw [hf] at hr; cases hr
  | exit id => exact hr
  | ret => exact hr
theorem Lin.mono {f : St → (Ex → St → Option R) → Option R} (h : Lin f) {st : St} {K K' : Ex → St → Option R} (hK : ∀ e s r, K e s = some r → K' e s = some r) {r : R} (hr : f st K = some r) : f st K' = some r := by
  rcases h st with h | ⟨e, s, h⟩
  · rw [h] at hr; cases hr
  · rw [h] at hr ⊢; exact hK _ _ _ hr
theorem loopG_rise {body : St → (Ex → St → Option R) → Option R} (hb : Lin body) (mk : Masks) (K : Ex → St → Option R) : ∀ n st r, loopG body mk n st K = some r → loopG body mk (n + 1) st K = some r := by
  intro n
  induction n with
  | zero => intro st r h; cases h
  | succ n ih =>
    intro st r h
    rw [loopG] at h ⊢
    exact hb.mono (fun e s r hr => roundG_mono (fun s r => ih s r) hr) h
theorem loopW_eq {body : St → (Ex → St → Option R) → Option R} (hb : Lin body) (mk : Masks) (st : St) (K : Ex → St → Option R) : loopW body mk st K = body st (roundG (fun st' => loopW body mk st' K) mk K) := by
  apply opt_ext
  intro r
  have hrise : ∀ st, Rise fun n => loopG body mk n st K := fun st n r h => loopG_rise hb mk K n st r h
  constructor
  · intro h
    obtain ⟨n, hn⟩ := lim_some h
    cases n with
    | zero => cases hn
    | succ n =>
      rw [loopG] at hn
      exact hb.mono (fun e s r hr => roundG_mono (fun s r h => (hrise s).lim h) hr) hn
  · intro h
    rcases hb st with hx | ⟨e, s, hx⟩
    · rw [hx] at h; cases h
    · have : ∃ n, loopG body mk (n + 1) st K = some r := by
        rw [hx] at h
        simp only [loopG]
        rw [hx]
        simp only
        cases e with
        | normal =>
          simp only [roundG, grd] at h ⊢
          cases hf : fits mk.head s.tmps with
          | true => rw [hf] at h; exact lim_some h
          | false => rw [hf] at h; cases h
        | exit id => exact ⟨0, h⟩
        | ret => exact ⟨0, h⟩
      obtain ⟨n, hn⟩ := this
      exact (hrise st).lim hn
theorem loopG_lin {body : St → (Ex → St → Option R) → Option R} (hb : Lin body) (mk : Masks) : ∀ n, Lin (loopG body mk n)
  | 0 => fun st => .inl rfl
  | n + 1 => fun st => by
    have ih := loopG_lin hb mk n
    rcases hb st with hx | ⟨e, s, hx⟩
    · left; funext K; simp only [loopG]; rw [hx]
    · cases e with
      | normal =>
        have : loopG body mk (n + 1) st = fun K => grd mk.head s fun s' => loopG body mk n s' K := by
          funext K; simp only [loopG]; rw [hx]
        rw [this]
        exact grd_lin ih
      | exit id =>
        have : loopG body mk (n + 1) st = fun K => grd mk.out s (K (.exit id)) := by
          funext K; simp only [loopG]; rw [hx]
        rw [this]
        unfold grd
        cases fits mk.out s.tmps with
        | false => exact .inl rfl
        | true => exact .inr ⟨_, _, rfl⟩
      | ret =>
        have : loopG body mk (n + 1) st = fun K => grd mk.ret s (K .ret) := by
          funext K; simp only [loopG]; rw [hx]
        rw [this]
        unfold grd
        cases fits mk.ret s.tmps with
        | false => exact .inl rfl
        | true => exact .inr ⟨_, _, rfl⟩
open Classical in
theorem loopW_lin {body : St → (Ex → St → Option R) → Option R} (hb : Lin body) (mk : Masks) : Lin (loopW body mk) := by
  intro st
  by_cases h : ∃ n e s, loopG body mk n st = fun K => K e s
  · obtain ⟨n, e, s, hn⟩ := h
    right
    refine ⟨e, s, ?_⟩
    funext K
    apply opt_ext
    intro r
    have hrise : Rise fun n => loopG body mk n st K := fun n r h => loopG_rise hb mk K n st r h
    constructor
    · intro hr
      obtain ⟨n', hn'⟩ := lim_some hr
      have h1 : loopG body mk (max n n') st K = some r := hrise.le (Nat.le_max_right n n') hn'
      cases hk : K e s with
      | some r' =>
        have h2 : loopG body mk (max n n') st K = some r' := hrise.le (Nat.le_max_left n n') (r := r') (by simp only [hn]; exact hk)
        rw [h2] at h1
        exact h1
      | none =>
        rcases loopG_lin hb mk (max n n') st with hx | ⟨e', s', hx⟩
        · rw [hx] at h1; cases h1
        · have h3 : loopG body mk (max n n') st (fun e2 s2 => if e2 = e ∧ s2 = s then some r else none) = some r := by
            have hrise' : Rise fun n => loopG body mk n st (fun e2 s2 => if e2 = e ∧ s2 = s then some r else none) := fun n r h => loopG_rise hb mk _ n st r h
            exact hrise'.le (Nat.le_max_left n n') (by simp only [hn]; simp)
          rw [hx] at h3 h1
          simp only at h3 h1
          split at h3
          · rename_i he; obtain ⟨rfl, rfl⟩ := he; rw [hk] at h1; cases h1
          · cases h3
    · intro hr
      exact hrise.lim (k := n) (by simp only [hn]; exact hr)
  · left
    funext K
    have : ∀ r, ¬ loopW body mk st K = some r := by
      intro r hr
      obtain ⟨n, hn⟩ := lim_some hr
      rcases loopG_lin hb mk n st with hx | ⟨e, s, hx⟩
      · rw [hx] at hn; cases hn
      · exact h ⟨n, e, s, hx⟩
    cases hx : loopW body mk st K with
    | none => rfl
    | some r => exact absurd hx (this r)

section
variable {C : Cfg} {fid : Nat} {callP : Nat → List AV → Option AV} {callI : Nat → List AV → Mem → Option (AV × Mem)}
theorem execW_lin : ∀ c : Code, Lin (R := R) (execW C fid callP callI c) := by
  intro c
  induction c with
  | skip => exact fun st => .inr ⟨.normal, st, rfl⟩
  | region id ops d =>
    intro st
    cases d with
    | false =>
      have : execW (R := R) C fid callP callI (.region id ops false) st = fun K => runOps C fid callP callI none ops (List.range ops.size) st (K .normal) := by funext K; simp only [execW]
      rw [this]; exact runOps_lin ..
    | true =>
      cases hq : C.seqm fid id with
      | true =>
        cases hd : drawS C.P ops (ordOf (C.ord fid id) ops.size) (C.ahd fid id) (C.late fid id) with
        | true =>
          have : execW (R := R) C fid callP callI (.region id ops true) st = fun K => runL C fid callP callI (C.late fid id) ops (ordOf (C.ord fid id) ops.size) st (K .normal) := by funext K; simp only [execW, hq, hd]
          rw [this]; exact runL_lin ..
        | false => left; funext K; simp only [execW, hq, hd]
      | false =>
      cases hd : drawOk3 C.P ops (ordOf (C.ord fid id) ops.size) (C.ahd fid id) (C.two fid id) with
      | true =>
        have : execW (R := R) C fid callP callI (.region id ops true) st = fun K => runOps C fid callP callI (some st.mem.length) ops (ordOf (C.ord fid id) ops.size) ⟨st.tmps, reserve st.mem (rankA ops ops.size)⟩ (fun st' => twoK C.P ops st' (K .normal) (C.two fid id)) := by funext K; simp only [execW, hq, hd]
        rw [this]
        have hl := runOps_eq (R := R) (C := C) (fid := fid) (callP := callP) (callI := callI) (some st.mem.length) ops (ordOf (C.ord fid id) ops.size) ⟨st.tmps, reserve st.mem (rankA ops ops.size)⟩
        cases hr : runF C fid callP callI (some st.mem.length) ops (ordOf (C.ord fid id) ops.size) ⟨st.tmps, reserve st.mem (rankA ops ops.size)⟩ with
        | none => left; funext K; rw [hl, hr]; rfl
        | some s =>
          rcases twoK_lin (R := R) C.P ops s (C.two fid id) with ht | ht
          · left; funext K; rw [hl, hr]; exact ht _
          · right; exact ⟨.normal, s, by funext K; rw [hl, hr]; exact ht _⟩
      | false => left; funext K; simp only [execW, hq, hd]
  | seq a b iha ihb =>
    intro st
    rcases iha st with h | ⟨e, s, h⟩
    · left; funext K; simp only [execW, h]
    · cases e with
      | normal =>
        rcases ihb s with h' | ⟨e', s', h'⟩
        · left; funext K; simp only [execW, h, seqK, h']
        · right; refine ⟨e', s', ?_⟩; funext K; simp only [execW, h, seqK, h']
      | exit id => right; refine ⟨.exit id, s, ?_⟩; funext K; simp only [execW, h, seqK]
      | ret => right; refine ⟨.ret, s, ?_⟩; funext K; simp only [execW, h, seqK]
  | cond co a b iha ihb =>
    intro st
    cases hv : ev st.tmps co with
    | bool v =>
      cases v with
      | true =>
        have : execW (R := R) C fid callP callI (.cond co a b) st = execW C fid callP callI a st := by funext K; simp only [execW, hv, ifA]
        rw [this]; exact iha st
      | false =>
        have : execW (R := R) C fid callP callI (.cond co a b) st = execW C fid callP callI b st := by funext K; simp only [execW, hv, ifA]
        rw [this]; exact ihb st
    | _ => left; funext K; simp only [execW, hv, ifA]
  | block id b ih =>
    intro st
    rcases ih st with h | ⟨e, s, h⟩
    · left; funext K; simp only [execW, h]
    · cases e with
      | normal => right; refine ⟨.normal, s, ?_⟩; funext K; simp only [execW, h, blockK]
      | exit j =>
        cases hj : j == id with
        | true => right; refine ⟨.normal, s, ?_⟩; funext K; simp only [execW, h, blockK, hj]
        | false => right; refine ⟨.exit j, s, ?_⟩; funext K; simp only [execW, h, blockK, hj]
      | ret => right; refine ⟨.ret, s, ?_⟩; funext K; simp only [execW, h, blockK]
  | loop b ih =>
    intro st
    have : execW (R := R) C fid callP callI (.loop b) st = fun K => grd (C.mask fid (keyOf b)).head st fun st' => loopW (execW C fid callP callI b) (C.mask fid (keyOf b)) st' K := by funext K; simp only [execW]
    rw [this]; exact grd_lin (loopW_lin ih _)
  | exit id => exact fun st => .inr ⟨.exit id, st, rfl⟩
  | ret => exact fun st => .inr ⟨.ret, st, rfl⟩
  | rangeFunc => exact fun st => .inl rfl
  | scope => exact fun st => .inl rfl
  | label => exact fun st => .inl rfl
  | goto => exact fun st => .inl rfl
  | refuse => exact fun st => .inl rfl
end

/-! ### More callees known, more answers -/
section
variable {C : Cfg} {fid : Nat} {cp cp' : Nat → List AV → Option AV} {ci ci' : Nat → List AV → Mem → Option (AV × Mem)}
def CLe (cp cp' : Nat → List AV → Option AV) (ci ci' : Nat → List AV → Mem → Option (AV × Mem)) : Prop := (∀ g vs v, cp g vs = some v → cp' g vs = some v) ∧ ∀ g vs m r, ci g vs m = some r → ci' g vs m = some r
theorem callK_le (h : CLe cp cp' ci ci') {d : Option Nat} {g : Nat} {vs : List AV} {m : Mem} {K : AV → Mem → Option R} {x : R} (hx : callK C fid cp ci d g vs m K = some x) : callK C fid cp' ci' d g vs m K = some x := by
  unfold callK at hx ⊢
  cases hlm : C.libm g with
  | some l => rw [hlm] at hx; exact hx
  | none =>
  rw [hlm] at hx
  simp only at hx ⊢
  cases hl : C.lib g with
  | some l => rw [hl] at hx; exact hx
  | none =>
    rw [hl] at hx
    simp only at hx ⊢
    cases hi : C.inl fid g with
    | true =>
      rw [hi] at hx
      cases d with
      | some d => exact hx
      | none =>
        simp only [Option.bind_eq_some_iff] at hx ⊢
        obtain ⟨r, hr, hx⟩ := hx
        cases hz : C.frzc fid g with
        | true =>
          rw [hz] at hr
          simp only [frzCall, Option.bind_eq_some_iff] at hr ⊢
          obtain ⟨r1, h1, h2⟩ := hr
          exact ⟨r, ⟨r1, h1, h.2 _ _ _ _ h2⟩, hx⟩
        | false =>
        rw [hz] at hr
        simp only at hr ⊢
        cases ht : C.thaw fid g with
        | false => rw [ht] at hr; exact ⟨r, h.2 _ _ _ _ hr, hx⟩
        | true =>
          rw [ht] at hr
          simp only [thawCall, Option.bind_eq_some_iff] at hr ⊢
          obtain ⟨r1, h1, q, h2, h3⟩ := hr
          exact ⟨r, ⟨r1, h1, q, h.2 _ _ _ _ h2, h3⟩, hx⟩
    | false =>
      rw [hi] at hx
      simp only [Option.bind_eq_some_iff] at hx ⊢
      obtain ⟨r, hr, hx⟩ := hx
      refine ⟨r, ?_, hx⟩
      unfold pcall at hr ⊢
      simp only [Option.bind_eq_some_iff] at hr ⊢
      obtain ⟨r1, h1, h2⟩ := hr
      refine ⟨r1, h1, ?_⟩
      split at h2
      · cases h2
      · rename_i hne
        rw [if_neg hne]
        simp only [Option.map_eq_some_iff] at h2 ⊢
        obtain ⟨v, hv, h2⟩ := h2
        exact ⟨v, h.1 _ _ _ hv, h2⟩
theorem opF_le (h : CLe cp cp' ci ci') {d : Option Nat} {o : Oper} {ρ : Operand → AV} {m : Mem} {x : AV × Mem} (hx : opF C fid cp ci d o ρ m = some x) : opF C fid cp' ci' d o ρ m = some x := by
  unfold opF opK at hx ⊢
  cases ho : o.op with
  | call c =>
    rw [ho] at hx
    simp only at hx ⊢
    cases hc : c.callee with
    | value f =>
      rw [hc] at hx
      simp only [Option.bind_eq_some_iff] at hx ⊢
      obtain ⟨gc, h1, hx⟩ := hx
      exact ⟨gc, h1, callK_le h hx⟩
    | _ => rw [hc] at hx; exact hx
  | _ => rw [ho] at hx; exact hx
theorem stepF_le (h : CLe cp cp' ci ci') {base : Option Nat} {ops : Array Oper} {i : Nat} {st s : St} (hx : stepF C fid cp ci base ops i st = some s) : stepF C fid cp' ci' base ops i st = some s := by
  unfold stepF at hx ⊢
  cases hi : ops[i]? with
  | none => rw [hi] at hx; cases hx
  | some o =>
    rw [hi] at hx
    simp only [Option.map_eq_some_iff] at hx ⊢
    obtain ⟨r, hr, hx⟩ := hx
    refine ⟨r, ?_, hx⟩
    unfold opG at hr ⊢
    cases hg : o.guard with
    | none => rw [hg] at hr; exact opF_le h hr
    | some jw =>
      obtain ⟨j, want⟩ := jw
      rw [hg] at hr
      simp only at hr ⊢
      cases hd : (ops[j]?).bind (·.dst) with
      | none => rw [hd] at hr; cases hr
      | some g =>
        rw [hd] at hr
        simp only at hr ⊢
        split at hr
        · exact hr
        · split at hr
          · split at hr
            · rename_i hb; rw [if_pos hb]; exact opF_le h hr
            · rename_i hb; rw [if_neg hb]; exact hr
          · cases hr
theorem runF_le (h : CLe cp cp' ci ci') {base : Option Nat} {ops : Array Oper} : ∀ (l : List Nat) {st s : St}, runF C fid cp ci base ops l st = some s → runF C fid cp' ci' base ops l st = some s
  | [], _, _, hx => hx
  | i :: l, st, s, hx => by
    simp only [runF, Option.bind_eq_some_iff] at hx ⊢
    obtain ⟨s1, h1, h2⟩ := hx
    exact ⟨s1, stepF_le h h1, runF_le h l h2⟩
theorem runOps_le (h : CLe cp cp' ci ci') {base : Option Nat} {ops : Array Oper} {l : List Nat} {st : St} {K : St → Option R} {r : R} (hx : runOps C fid cp ci base ops l st K = some r) : runOps C fid cp' ci' base ops l st K = some r := by
  rw [runOps_eq] at hx ⊢
  simp only [Option.bind_eq_some_iff] at hx ⊢
  obtain ⟨s, h1, h2⟩ := hx
  exact ⟨s, runF_le h l h1, h2⟩
theorem runL_le (h : CLe cp cp' ci ci') {lt : List (Nat × List Nat)} {ops : Array Oper} : ∀ (l : List Nat) {st : St} {K : St → Option R} {r : R}, runL C fid cp ci lt ops l st K = some r → runL C fid cp' ci' lt ops l st K = some r
  | [], _, _, _, hx => hx
  | i :: l, st, K, r, hx => by
    rw [runL_cons, Option.bind_eq_some_iff] at hx ⊢
    obtain ⟨s1, h1, h2⟩ := hx
    obtain ⟨h3, h4⟩ := chkAll_some h2
    exact ⟨s1, stepF_le h h1, by rw [chkAll_pos h3]; exact runL_le h l h4⟩
theorem execW_le (h : CLe cp cp' ci ci') : ∀ (c : Code) (st : St) (K : Ex → St → Option R) (r : R), execW C fid cp ci c st K = some r → execW C fid cp' ci' c st K = some r := by
  intro c
  induction c with
  | region id ops d =>
    intro st K r hx
    cases d with
    | false => simp only [execW] at hx ⊢; exact runOps_le h hx
    | true =>
      simp only [execW] at hx ⊢
      cases hq : C.seqm fid id with
      | true =>
        rw [hq] at hx
        simp only at hx ⊢
        cases hd : drawS C.P ops (ordOf (C.ord fid id) ops.size) (C.ahd fid id) (C.late fid id) with
        | true => rw [hd] at hx; exact runL_le h _ hx
        | false => rw [hd] at hx; cases hx
      | false =>
      rw [hq] at hx
      simp only at hx ⊢
      cases hd : drawOk3 C.P ops (ordOf (C.ord fid id) ops.size) (C.ahd fid id) (C.two fid id) with
      | true => rw [hd] at hx; exact runOps_le h hx
      | false => rw [hd] at hx; cases hx
  | seq a b iha ihb =>
    intro st K r hx
    simp only [execW] at hx ⊢
    have h1 := iha _ _ _ hx
    refine (execW_lin a).mono (fun e s r hr => ?_) h1
    cases e with
    | normal => exact ihb _ _ _ hr
    | exit id => exact hr
    | ret => exact hr
  | cond co a b iha ihb =>
    intro st K r hx
    simp only [execW] at hx ⊢
    unfold ifA at hx ⊢
    split at hx
    · split at hx
      · exact iha _ _ _ hx
      · exact ihb _ _ _ hx
    · cases hx
  | block id b ih =>
    intro st K r hx
    simp only [execW] at hx ⊢
    exact ih _ _ _ hx
  | loop b ih =>
    intro st K r hx
    simp only [execW, grd] at hx ⊢
    cases hf : fits (C.mask fid (keyOf b)).head st.tmps with
    | false => rw [hf] at hx; cases hx
    | true =>
      rw [hf] at hx
      simp only at hx ⊢
      obtain ⟨n, hn⟩ := lim_some hx
      have : ∀ n st, loopG (execW C fid cp ci b) (C.mask fid (keyOf b)) n st K = some r → loopG (execW C fid cp' ci' b) (C.mask fid (keyOf b)) n st K = some r := by
        intro n
        induction n with
        | zero => intro st hx; cases hx
        | succ n ihn =>
          intro st hx
          simp only [loopG] at hx ⊢
          have h1 := ih _ _ _ hx
          rcases execW_lin (R := R) (C := C) (fid := fid) (callP := cp') (callI := ci') b st with hl | ⟨e, s, hl⟩
          · rw [hl] at h1; cases h1
          · rw [hl] at h1 ⊢
            simp only at h1 ⊢
            cases e with
            | normal =>
              simp only [roundG, grd] at h1 ⊢
              cases hf' : fits (C.mask fid (keyOf b)).head s.tmps with
              | true => rw [hf'] at h1; exact ihn _ h1
              | false => rw [hf'] at h1; cases h1
            | exit id => exact h1
            | ret => exact h1
      exact Rise.lim (F := fun n => loopG (execW C fid cp' ci' b) (C.mask fid (keyOf b)) n _ K) (fun n r h => loopG_rise (execW_lin b) _ K n _ r h) (this n _ hn)
  | _ => intro st K r hx; exact hx
end

/-! ### At the limit -/
structure Chain where
  cp : Nat → Nat → List AV → Option AV
  ci : Nat → Nat → List AV → Mem → Option (AV × Mem)
  le : ∀ k, CLe (cp k) (cp (k + 1)) (ci k) (ci (k + 1))
theorem CLe.refl (cp : Nat → List AV → Option AV) (ci : Nat → List AV → Mem → Option (AV × Mem)) : CLe cp cp ci ci := ⟨fun _ _ _ h => h, fun _ _ _ _ h => h⟩
theorem CLe.trans {a b c : Nat → List AV → Option AV} {a' b' c' : Nat → List AV → Mem → Option (AV × Mem)} (h : CLe a b a' b') (h' : CLe b c b' c') : CLe a c a' c' := ⟨fun g vs v x => h'.1 g vs v (h.1 g vs v x), fun g vs m r x => h'.2 g vs m r (h.2 g vs m r x)⟩
theorem Chain.up (X : Chain) {k n : Nat} (h : k ≤ n) : CLe (X.cp k) (X.cp n) (X.ci k) (X.ci n) := by
  induction h with
  | refl => exact CLe.refl _ _
  | step _ ih => exact ih.trans (X.le _)
/-- All that the limit answers some one answers. -/
structure Tends (X : Chain) (cp : Nat → List AV → Option AV) (ci : Nat → List AV → Mem → Option (AV × Mem)) : Prop where
  p : ∀ g vs v, cp g vs = some v → ∃ k, X.cp k g vs = some v
  i : ∀ g vs m r, ci g vs m = some r → ∃ k, X.ci k g vs m = some r
section
variable {X : Chain} {C : Cfg} {fid : Nat} {cp : Nat → List AV → Option AV} {ci : Nat → List AV → Mem → Option (AV × Mem)}
theorem callK_at (h : Tends X cp ci) {d : Option Nat} {g : Nat} {vs : List AV} {m : Mem} {K : AV → Mem → Option R} {x : R} (hx : callK C fid cp ci d g vs m K = some x) : ∃ k, callK C fid (X.cp k) (X.ci k) d g vs m K = some x := by
  unfold callK at hx ⊢
  cases hlm : C.libm g with
  | some l => rw [hlm] at hx; exact ⟨0, hx⟩
  | none =>
  rw [hlm] at hx
  simp only at hx ⊢
  cases hl : C.lib g with
  | some l => rw [hl] at hx; exact ⟨0, hx⟩
  | none =>
    rw [hl] at hx
    simp only at hx ⊢
    cases hi : C.inl fid g with
    | true =>
      rw [hi] at hx
      cases d with
      | some d => exact ⟨0, hx⟩
      | none =>
        simp only [Option.bind_eq_some_iff] at hx ⊢
        obtain ⟨r, hr, hx⟩ := hx
        cases hz : C.frzc fid g with
        | true =>
          rw [hz] at hr
          simp only [frzCall, Option.bind_eq_some_iff] at hr ⊢
          obtain ⟨r1, h1, h2⟩ := hr
          obtain ⟨k, hk⟩ := h.i _ _ _ _ h2
          exact ⟨k, r, ⟨r1, h1, hk⟩, hx⟩
        | false =>
        rw [hz] at hr
        simp only at hr ⊢
        cases ht : C.thaw fid g with
        | false =>
          rw [ht] at hr
          obtain ⟨k, hk⟩ := h.i _ _ _ _ hr
          exact ⟨k, r, hk, hx⟩
        | true =>
          rw [ht] at hr
          simp only [thawCall, Option.bind_eq_some_iff] at hr ⊢
          obtain ⟨r1, h1, q, h2, h3⟩ := hr
          obtain ⟨k, hk⟩ := h.i _ _ _ _ h2
          exact ⟨k, r, ⟨r1, h1, q, hk, h3⟩, hx⟩
    | false =>
      rw [hi] at hx
      simp only [Option.bind_eq_some_iff] at hx ⊢
      obtain ⟨r, hr, hx⟩ := hx
      unfold pcall at hr
      simp only [Option.bind_eq_some_iff] at hr
      obtain ⟨r1, h1, h2⟩ := hr
      split at h2
      · cases h2
      · rename_i hne
        simp only [Option.map_eq_some_iff] at h2
        obtain ⟨v, hv, h2⟩ := h2
        obtain ⟨k, hk⟩ := h.p _ _ _ hv
        refine ⟨k, r, ?_, hx⟩
        unfold pcall
        simp only [Option.bind_eq_some_iff]
        refine ⟨r1, h1, ?_⟩
        rw [if_neg hne]
        simp only [Option.map_eq_some_iff]
        exact ⟨v, hk, h2⟩
theorem opF_at (h : Tends X cp ci) {d : Option Nat} {o : Oper} {ρ : Operand → AV} {m : Mem} {x : AV × Mem} (hx : opF C fid cp ci d o ρ m = some x) : ∃ k, opF C fid (X.cp k) (X.ci k) d o ρ m = some x := by
  unfold opF opK at hx ⊢
  cases ho : o.op with
  | call c =>
    rw [ho] at hx
    simp only at hx ⊢
    cases hc : c.callee with
    | value f =>
      rw [hc] at hx
      simp only [Option.bind_eq_some_iff] at hx ⊢
      obtain ⟨gc, h1, hx⟩ := hx
      obtain ⟨k, hk⟩ := callK_at h hx
      exact ⟨k, gc, h1, hk⟩
    | _ => rw [hc] at hx; exact ⟨0, hx⟩
  | _ => rw [ho] at hx; exact ⟨0, hx⟩
theorem stepF_at (h : Tends X cp ci) {base : Option Nat} {ops : Array Oper} {i : Nat} {st s : St} (hx : stepF C fid cp ci base ops i st = some s) : ∃ k, stepF C fid (X.cp k) (X.ci k) base ops i st = some s := by
  unfold stepF at hx ⊢
  cases hi : ops[i]? with
  | none => rw [hi] at hx; cases hx
  | some o =>
    rw [hi] at hx
    simp only [Option.map_eq_some_iff] at hx ⊢
    obtain ⟨r, hr, hx⟩ := hx
    unfold opG at hr ⊢
    cases hg : o.guard with
    | none => rw [hg] at hr; obtain ⟨k, hk⟩ := opF_at h hr; exact ⟨k, r, hk, hx⟩
    | some jw =>
      obtain ⟨j, want⟩ := jw
      rw [hg] at hr
      simp only at hr ⊢
      cases hd : (ops[j]?).bind (·.dst) with
      | none => rw [hd] at hr; cases hr
      | some g =>
        rw [hd] at hr
        simp only at hr ⊢
        split at hr
        · exact ⟨0, r, hr, hx⟩
        · split at hr
          · split at hr
            · rename_i hb; subst hb; obtain ⟨k, hk⟩ := opF_at h hr; exact ⟨k, r, by simpa using hk, hx⟩
            · rename_i hb; exact ⟨0, r, by rw [if_neg hb]; exact hr, hx⟩
          · cases hr
theorem runF_at (h : Tends X cp ci) {base : Option Nat} {ops : Array Oper} : ∀ (l : List Nat) {st s : St}, runF C fid cp ci base ops l st = some s → ∃ k, runF C fid (X.cp k) (X.ci k) base ops l st = some s
  | [], _, _, hx => ⟨0, hx⟩
  | i :: l, st, s, hx => by
    simp only [runF, Option.bind_eq_some_iff] at hx ⊢
    obtain ⟨s1, h1, h2⟩ := hx
    obtain ⟨k1, h1⟩ := stepF_at h h1
    obtain ⟨k2, h2⟩ := runF_at h l h2
    exact ⟨max k1 k2, s1, stepF_le (X.up (Nat.le_max_left ..)) h1, runF_le (X.up (Nat.le_max_right ..)) l h2⟩
theorem runOps_at (h : Tends X cp ci) {base : Option Nat} {ops : Array Oper} {l : List Nat} {st : St} {K : St → Option R} {r : R} (hx : runOps C fid cp ci base ops l st K = some r) : ∃ k, runOps C fid (X.cp k) (X.ci k) base ops l st K = some r := by
  rw [runOps_eq] at hx
  simp only [Option.bind_eq_some_iff] at hx
  obtain ⟨s, h1, h2⟩ := hx
  obtain ⟨k, h1⟩ := runF_at h l h1
  exact ⟨k, by rw [runOps_eq, h1]; exact h2⟩
theorem runL_at (h : Tends X cp ci) {lt : List (Nat × List Nat)} {ops : Array Oper} : ∀ (l : List Nat) {st : St} {K : St → Option R} {r : R}, runL C fid cp ci lt ops l st K = some r → ∃ k, runL C fid (X.cp k) (X.ci k) lt ops l st K = some r
  | [], _, _, _, hx => ⟨0, hx⟩
  | i :: l, st, K, r, hx => by
    rw [runL_cons, Option.bind_eq_some_iff] at hx
    obtain ⟨s1, h1, h2⟩ := hx
    obtain ⟨h3, h4⟩ := chkAll_some h2
    obtain ⟨k1, h1⟩ := stepF_at h h1
    obtain ⟨k2, h2⟩ := runL_at h l h4
    refine ⟨max k1 k2, ?_⟩
    rw [runL_cons, Option.bind_eq_some_iff]
    exact ⟨s1, stepF_le (X.up (Nat.le_max_left ..)) h1, by rw [chkAll_pos h3]; exact runL_le (X.up (Nat.le_max_right ..)) l h2⟩
/-- A run that ends in the row's run. -/
theorem lin_end {f : St → (Ex → St → Option R) → Option R} (hf : Lin f) {st : St} {K : Ex → St → Option R} {r : R} (h : f st K = some r) : ∃ e s, K e s = some r ∧ ∀ K', f st K' = K' e s := by
  rcases hf st with hx | ⟨e, s, hx⟩
  · rw [hx] at h; cases h
  · exact ⟨e, s, by rw [hx] at h; exact h, fun K' => by rw [hx]⟩
theorem execW_at (h : Tends X cp ci) : ∀ (c : Code) (st : St) (K : Ex → St → Option R) (r : R), execW C fid cp ci c st K = some r → ∃ k, execW C fid (X.cp k) (X.ci k) c st K = some r := by
  intro c
  induction c with
  | region id ops d =>
    intro st K r hx
    cases d with
    | false => simp only [execW] at hx ⊢; exact runOps_at h hx
    | true =>
      simp only [execW] at hx ⊢
      cases hq : C.seqm fid id with
      | true =>
        rw [hq] at hx
        simp only at hx ⊢
        cases hd : drawS C.P ops (ordOf (C.ord fid id) ops.size) (C.ahd fid id) (C.late fid id) with
        | true => rw [hd] at hx; exact runL_at h _ hx
        | false => rw [hd] at hx; cases hx
      | false =>
      rw [hq] at hx
      simp only at hx ⊢
      cases hd : drawOk3 C.P ops (ordOf (C.ord fid id) ops.size) (C.ahd fid id) (C.two fid id) with
      | true => rw [hd] at hx; exact runOps_at h hx
      | false => rw [hd] at hx; cases hx
  | seq a b iha ihb =>
    intro st K r hx
    simp only [execW] at hx ⊢
    obtain ⟨k1, h1⟩ := iha _ _ _ hx
    obtain ⟨e, s, h2, h3⟩ := lin_end (execW_lin a) h1
    cases e with
    | normal =>
      obtain ⟨k2, h4⟩ := ihb _ _ _ h2
      refine ⟨max k1 k2, ?_⟩
      have h5 : execW C fid (X.cp k1) (X.ci k1) a st (seqK (fun st' => execW C fid (X.cp (max k1 k2)) (X.ci (max k1 k2)) b st' K) K) = some r := by
        rw [h3]; exact execW_le (X.up (Nat.le_max_right ..)) b _ _ _ h4
      exact execW_le (X.up (Nat.le_max_left ..)) a _ _ _ h5
    | exit id => exact ⟨k1, by rw [h3]; exact h2⟩
    | ret => exact ⟨k1, by rw [h3]; exact h2⟩
  | cond co a b iha ihb =>
    intro st K r hx
    simp only [execW] at hx ⊢
    unfold ifA at hx ⊢
    split at hx
    · split at hx
      · exact iha _ _ _ hx
      · exact ihb _ _ _ hx
    · cases hx
  | block id b ih =>
    intro st K r hx
    simp only [execW] at hx ⊢
    exact ih _ _ _ hx
  | loop b ih =>
    intro st K r hx
    simp only [execW, grd] at hx ⊢
    cases hf : fits (C.mask fid (keyOf b)).head st.tmps with
    | false => rw [hf] at hx; cases hx
    | true =>
      rw [hf] at hx
      simp only at hx ⊢
      obtain ⟨n, hn⟩ := lim_some hx
      have : ∀ n st, loopG (execW C fid cp ci b) (C.mask fid (keyOf b)) n st K = some r → ∃ k, loopW (execW C fid (X.cp k) (X.ci k) b) (C.mask fid (keyOf b)) st K = some r := by
        intro n
        induction n with
        | zero => intro st hx; cases hx
        | succ n ihn =>
          intro st hx
          simp only [loopG] at hx
          obtain ⟨k1, h1⟩ := ih _ _ _ hx
          obtain ⟨e, s, h2, h3⟩ := lin_end (execW_lin b) h1
          have fin : (∀ k, k1 ≤ k → roundG (fun st' => loopW (execW C fid (X.cp k) (X.ci k) b) (C.mask fid (keyOf b)) st' K) (C.mask fid (keyOf b)) K e s = some r → loopW (execW C fid (X.cp k) (X.ci k) b) (C.mask fid (keyOf b)) st K = some r) := by
            intro k hk hr
            rw [loopW_eq (execW_lin b)]
            exact execW_le (X.up hk) b _ _ _ (by rw [h3]; exact hr)
          cases e with
          | normal =>
            simp only [roundG, grd] at h2
            cases hf' : fits (C.mask fid (keyOf b)).head s.tmps with
            | true =>
              rw [hf'] at h2
              obtain ⟨k2, h4⟩ := ihn _ h2
              refine ⟨max k1 k2, fin _ (Nat.le_max_left ..) ?_⟩
              simp only [roundG, grd, hf']
              have h5 : execW C fid (X.cp k2) (X.ci k2) (.loop b) ⟨rb (C.mask fid (keyOf b)).head s.tmps, s.mem⟩ K = loopW (execW C fid (X.cp k2) (X.ci k2) b) (C.mask fid (keyOf b)) ⟨rb (C.mask fid (keyOf b)).head s.tmps, s.mem⟩ K := by
                have hfr : ∀ (bs : List Bool) (ts : List AV), fits bs (rb bs ts) = true := by
                  intro bs
                  induction bs with
                  | nil => intro ts; rfl
                  | cons b bs ihb => intro ts; simp only [rb, fits]; exact ihb _
                simp only [execW, grd, hfr, rb_idem]
              have h6 := execW_le (C := C) (fid := fid) (X.up (Nat.le_max_right k1 k2)) (.loop b) _ _ _ (h5.trans h4)
              have hfr : ∀ (bs : List Bool) (ts : List AV), fits bs (rb bs ts) = true := by
                intro bs
                induction bs with
                | nil => intro ts; rfl
                | cons b bs ihb => intro ts; simp only [rb, fits]; exact ihb _
              simpa only [execW, grd, hfr, rb_idem] using h6
            | false => rw [hf'] at h2; cases h2
          | exit id => exact ⟨k1, fin _ (Nat.le_refl _) h2⟩
          | ret => exact ⟨k1, fin _ (Nat.le_refl _) h2⟩
      exact this n _ hn
  | _ => intro st K r hx; exact ⟨0, hx⟩
end

/-! ### Calls -/
noncomputable def acallW (C : Cfg) : Nat → Nat → List AV → Mem → Option (AV × Mem)
  | 0, _, _, _ => none
  | k + 1, f, args, m => match C.P.funcs[f]? with
    | none => none
    | some fn => match fn.body with
      | none => none
      | some c => execW C f (acallP (acallW C k)) (acallW C k) c ⟨args ++ List.replicate (fn.ntmps - args.length) .any, m⟩ (finK C.P fn.results.toList)
noncomputable def AC (C : Cfg) (f : Nat) (args : List AV) (m : Mem) : Option (AV × Mem) := lim fun k => acallW C k f args m
noncomputable def AP (C : Cfg) : Nat → List AV → Option AV := acallP (AC C)
theorem acallP_le {ci ci' : Nat → List AV → Mem → Option (AV × Mem)} (h : ∀ g vs m r, ci g vs m = some r → ci' g vs m = some r) : CLe (acallP ci) (acallP ci') ci ci' := by
  refine ⟨fun g vs v hx => ?_, h⟩
  unfold acallP at hx ⊢
  simp only [Option.bind_eq_some_iff] at hx ⊢
  obtain ⟨r, h1, h2⟩ := hx
  exact ⟨r, h _ _ _ _ h1, h2⟩
theorem acallW_rise (C : Cfg) : ∀ k f args m r, acallW C k f args m = some r → acallW C (k + 1) f args m = some r := by
  intro k
  induction k with
  | zero => intro f args m r h; cases h
  | succ k ih =>
    intro f args m r h
    rw [acallW] at h ⊢
    cases hf : C.P.funcs[f]? with
    | none => rw [hf] at h; cases h
    | some fn =>
      rw [hf] at h
      simp only at h ⊢
      cases hb : fn.body with
      | none => rw [hb] at h; cases h
      | some c =>
        rw [hb] at h
        exact execW_le (acallP_le fun g vs m r => ih g vs m r) c _ _ _ h
noncomputable def chainOf (C : Cfg) : Chain := ⟨fun k => acallP (acallW C k), fun k => acallW C k, fun k => acallP_le (acallW_rise C k)⟩
theorem tends (C : Cfg) : Tends (chainOf C) (AP C) (AC C) := by
  refine ⟨fun g vs v h => ?_, fun g vs m r h => lim_some h⟩
  unfold AP acallP at h
  simp only [Option.bind_eq_some_iff] at h
  obtain ⟨r, h1, h2⟩ := h
  obtain ⟨k, hk⟩ := lim_some h1
  refine ⟨k, ?_⟩
  show acallP (acallW C k) g vs = some v
  unfold acallP
  simp only [Option.bind_eq_some_iff]
  exact ⟨r, hk, h2⟩
theorem AC_eq (C : Cfg) (f : Nat) (args : List AV) (m : Mem) {fn : Func} {c : Code} (hf : C.P.funcs[f]? = some fn) (hb : fn.body = some c) :
    AC C f args m = execW C f (AP C) (AC C) c ⟨args ++ List.replicate (fn.ntmps - args.length) .any, m⟩ (finK C.P fn.results.toList) := by
  apply opt_ext
  intro r
  constructor
  · intro h
    obtain ⟨k, hk⟩ := lim_some h
    cases k with
    | zero => cases hk
    | succ k =>
      rw [acallW, hf] at hk
      simp only [hb] at hk
      exact execW_le (acallP_le fun g vs m r hr => Rise.lim (F := fun k => acallW C k g vs m) (fun k r h => acallW_rise C k g vs m r h) hr) c _ _ _ hk
  · intro h
    obtain ⟨k, hk⟩ := execW_at (tends C) c _ _ _ h
    refine Rise.lim (F := fun k => acallW C k f args m) (fun k r h => acallW_rise C k f args m r h) (k := k + 1) ?_
    show acallW C (k + 1) f args m = some r
    rw [acallW, hf]
    simp only [hb]
    exact hk
end
end Go.Ab

/- The interpreter without fuel is sound. -/
set_option linter.unusedVariables false
set_option linter.unusedSimpArgs false
set_option linter.unusedSectionVars false
namespace Go.Ab
open Go.RowKit

section
variable [WInv] {C : Cfg} {B : Nat} {w : World} {g : G} {m : Mem}
theorem execW_sound (hC : CfgOk C) {callI : Nat → List AV → Mem → Option (AV × Mem)} (hI : IOk C callI) {R : Type} {fid : Nat} : ∀ (c : Code) (st : St) (K : Ex → St → Option R) (r : R) (a : Act) (w : World) (g : G) (Q : Exit → Act → World → Prop),
    execW C fid (acallP callI) callI c st K = some r → StR B w g st a → After C B w g a K r Q → c.wp C.P Q a w := by
  intro c
  induction c with
  | skip =>
    intro st K r a w g Q h hs hq
    exact wp_skip (hq .normal st a w g h hs (Step.refl _ _ _) (DOk.refl _ _))
  | region id ops d =>
    intro st K r a w g Q h hs hq
    simp only [execW] at h
    cases d with
    | false =>
      simp only at h
      rw [runOps_eq] at h
      simp only [Option.bind_eq_some_iff] at h
      obtain ⟨s', hr, hK⟩ := h
      exact wp_region (runF_wp hC hI _ st s' a w g hr hs fun a' w' g' hs' s hd => hq .normal s' a' w' g' hK hs' s hd)
    | true =>
      simp only at h
      cases hsq : C.seqm fid id with
      | true =>
        rw [hsq] at h
        simp only at h
        split at h
        · rename_i hok
          exact drawS_wp hC hI hok h hs fun s' a' w' g' hK hs' s hd => hq .normal s' a' w' g' hK hs' s hd
        · cases h
      | false =>
      rw [hsq] at h
      simp only at h
      split at h
      · rename_i hok
        cases ht : C.two fid id with
        | nil =>
          rw [ht] at hok h
          exact draw_wp hC hI (drawOk_of hok) h hs fun s' a' w' g' hK hs' s hd => hq .normal s' a' w' g' hK hs' s hd
        | cons two sp =>
          rw [ht] at hok h
          exact draw_wp2 hC hI hok h hs fun s' a' w' g' hK hs' s hd => hq .normal s' a' w' g' hK hs' s hd
      · cases h
  | seq x y ihx ihy =>
    intro st K r a w g Q h hs hq
    simp only [execW] at h
    refine wp_seq (ihx st _ r a w g _ h hs ?_)
    intro e st' a' w' g' hK hs' s hd
    cases e with
    | normal =>
      simp only [seqK] at hK
      exact ihy st' K r a' w' g' Q hK hs' fun e st'' a'' w'' g'' hK' hs'' s' hd' => hq e st'' a'' w'' g'' hK' hs'' (s.trans s') (hd'.trans hd)
    | exit id => exact hq (.exit id) st' a' w' g' hK hs' s hd
    | ret => exact hq .ret st' a' w' g' hK hs' s hd
  | cond co x y ihx ihy =>
    intro st K r a w g Q h hs hq
    simp only [execW] at h
    have hV := ev_V hs.tmp co
    cases hv : ev st.tmps co with
    | bool b =>
      rw [hv] at h hV
      generalize hx : a.eval co = v at hV
      cases hV
      cases b with
      | true => exact wp_cond_true hx (ihx st K r a w g Q (by simpa [ifA] using h) hs hq)
      | false => exact wp_cond_false hx (ihy st K r a w g Q (by simpa [ifA] using h) hs hq)
    | _ => rw [hv] at h; simp [ifA] at h
  | block id x ih =>
    intro st K r a w g Q h hs hq
    simp only [execW] at h
    refine wp_block (ih st _ r a w g _ h hs ?_)
    intro e st' a' w' g' hK hs' s hd
    cases e with
    | normal => exact hq .normal st' a' w' g' hK hs' s hd
    | exit j =>
      simp only [blockK] at hK
      by_cases hj : j = id
      · have hb : (j == id) = true := by simpa using hj
        rw [hb] at hK
        simp only [exitOf, Exit.inBlock, if_pos hj]
        exact hq .normal st' a' w' g' hK hs' s hd
      · have hb : (j == id) = false := by simpa using hj
        rw [hb] at hK
        simp only [exitOf, Exit.inBlock, if_neg hj]
        exact hq (.exit j) st' a' w' g' hK hs' s hd
    | ret => exact hq .ret st' a' w' g' hK hs' s hd
  | loop x ih =>
    intro st K r a w g Q h hs hq
    simp only [execW] at h
    generalize C.mask fid (keyOf x) = mk at h
    have hmask : ∀ (l : List Bool) {w : World} {g : G} {st : St} {a : Act}, fits l st.tmps = true → StR B w g st a → StR B w g ⟨rb l st.tmps, st.mem⟩ a := fun l w g st a hf hs => ⟨by rw [rb_fits _ _ hf]; exact hs.tmp.mask _, hs.mem, hs.size⟩
    simp only [grd] at h
    cases hf0 : fits mk.head st.tmps with
    | false => rw [hf0] at h; cases h
    | true =>
    rw [hf0] at h
    have hs0 := hmask mk.head hf0 hs
    obtain ⟨n, hn⟩ := lim_some h
    have round : ∀ k (st : St) (a : Act) (w : World) (g : G), loopG (execW C fid (acallP callI) callI x) mk k st K = some r → StR B w g st a → After C B w g a K r Q → x.wp C.P (Exit.then (LW C.P x Q) Q) a w := by
      intro k
      induction k with
      | zero => intro st a w g h; simp [loopG] at h
      | succ k ihk =>
        intro st a w g h hs hq
        simp only [loopG] at h
        refine ih st _ r a w g _ h hs ?_
        intro e st' a' w' g' hK hs' s hd
        have hq' : After C B w' g' a' K r Q := fun e st'' a'' w'' g'' hK' hs'' s' hd' => hq e st'' a'' w'' g'' hK' hs'' (s.trans s') (hd'.trans hd)
        cases e with
        | normal =>
          simp only [roundG, grd] at hK
          cases hf : fits mk.head st'.tmps with
          | false => rw [hf] at hK; cases hK
          | true =>
            rw [hf] at hK
            exact lw_again (ihk _ a' w' g' hK (hmask _ hf hs') hq')
        | exit id =>
          simp only [roundG, grd] at hK
          cases hf : fits mk.out st'.tmps with
          | false => rw [hf] at hK; cases hK
          | true => rw [hf] at hK; exact hq (.exit id) _ a' w' g' hK (hmask _ hf hs') s hd
        | ret =>
          simp only [roundG, grd] at hK
          cases hf : fits mk.ret st'.tmps with
          | false => rw [hf] at hK; cases hK
          | true => rw [hf] at hK; exact hq .ret _ a' w' g' hK (hmask _ hf hs') s hd
    exact wp_loop_lw (round n _ a w g hn hs0 hq)
  | exit id =>
    intro st K r a w g Q h hs hq
    exact wp_exit (hq (.exit id) st a w g h hs (Step.refl _ _ _) (DOk.refl _ _))
  | ret =>
    intro st K r a w g Q h hs hq
    exact wp_ret (hq .ret st a w g h hs (Step.refl _ _ _) (DOk.refl _ _))
  | rangeFunc => intro st K r a w g Q h; simp [execW] at h
  | scope => intro st K r a w g Q h; simp [execW] at h
  | label => intro st K r a w g Q h; simp [execW] at h
  | goto => intro st K r a w g Q h; simp [execW] at h
  | refuse => intro st K r a w g Q h; simp [execW] at h

theorem acallW_sound (hC : CfgOk C) : ∀ k, IOk C (acallW C k) := by
  intro k
  induction k with
  | zero => intro f args m v m' h; simp [acallW] at h
  | succ k ih =>
    intro f args m v m' h
    simp only [acallW] at h
    cases hfn : C.P.funcs[f]? with
    | none => rw [hfn] at h; simp at h
    | some fn =>
      rw [hfn] at h
      simp only at h
      cases hb : fn.body with
      | none => rw [hb] at h; simp at h
      | some c =>
        rw [hb] at h
        simp only at h
        refine ⟨?_, fn, rfl, by simp [hb]⟩
        intro B w g vs hm hB hl hv
        refine calls_of_wp_defers hfn hb ?_
        have hts : TmpR w g (args ++ List.replicate (fn.ntmps - args.length) .any) (vs ++ Array.replicate (fn.ntmps - vs.size) undef) := by
          refine ⟨by simp [hl], fun t => ?_⟩
          simp only [List.getD_eq_getElem?_getD, Array.getD_eq_getD_getElem?, List.getElem?_append, Array.getElem?_append]
          by_cases h1 : t < args.length
          · rw [if_pos h1, if_pos (by omega)]
            simpa [List.getD_eq_getElem?_getD, Array.getD_eq_getD_getElem?] using hv t h1
          · rw [if_neg h1, if_neg (by omega), List.getElem?_replicate]
            split <;> exact .any _
        refine execW_sound hC ih c _ _ (v, m') _ w g _ h ⟨hts, hm, hB⟩ ?_
        intro e st' a' w' g' hK hs' s hd
        have fin : (resultsA C.P st'.mem st'.tmps fn.results.toList).bind (fun vs => some (oneOf vs, st'.mem)) = some (v, m') → Leaves C.P fn a'.tmps (fun e w' => ∃ v'' g'', e = Ending.returned v'' ∧ Step B w g w' g'' ∧ MemR B w' g'' m' ∧ V w' g'' v v'') a'.defers .returning w' := by
          intro hK
          simp only [Option.bind_eq_some_iff, Option.some.injEq, Prod.mk.injEq] at hK
          obtain ⟨l, hl1, rfl, rfl⟩ := hK
          obtain ⟨vl, r1, r2, r3⟩ := results_sound (P := C.P) hs'.mem hs'.tmp _ l hl1
          refine leaves_ben ⟨_, ?_, _, g', rfl, s, hs'.mem, oneOf_V r2 r3⟩ _ (hd (fun d hd => by cases hd))
          rw [results_eq, Array.mapM_eq_mapM_toList]
          simp only [Sem.run_bind, Sem.run_map, r1, Result.andThen_ok, Sem.run_pure]
        cases e with
        | normal => exact fin (by simpa only [finK, resultsK_eq] using hK)
        | exit id => simp [finK] at hK
        | ret => exact fin (by simpa only [finK, resultsK_eq] using hK)

theorem AC_sound (hC : CfgOk C) : IOk C (AC C) := by
  intro f args m v m' h
  obtain ⟨k, hk⟩ := lim_some h
  exact acallW_sound hC k f args m v m' hk
end
end Go.Ab

/- Library functions that write a row: slices.Sort and slices.Compact of whole numbers, by their contracts. -/
set_option linter.unusedVariables false
set_option linter.unusedSimpArgs false
set_option linter.unusedSectionVars false
namespace Go.Ab
open Go.RowKit Go.Sort

def intsM : List AV → Option (List Int)
  | [] => some []
  | .int .i64 n :: l => (intsM l).map fun ns => n :: ns
  | _ => none
theorem intsM_eq : ∀ {ks : List AV} {ns : List Int}, intsM ks = some ns → ks = ns.map (AV.int .i64)
  | [], ns, h => by simp [intsM] at h; subst h; rfl
  | x :: l, ns, h => by
    unfold intsM at h
    split at h
    · rename_i he; cases he
    · rename_i n l' he
      cases he
      obtain ⟨ms, hm, rfl⟩ := Option.map_eq_some_iff.1 h
      rw [intsM_eq hm]; rfl
    · cases h
def sortI (ns : List Int) : List Int := ns.mergeSort fun x y => decide (x ≤ y)
/-- slices.Sort of a row of whole numbers. -/
def sortA : List AV → Mem → Option (AV × Mem)
  | [.lst _ _ _ []], m => some (.tup [], m)
  | [.arr nm off n sh], m => match sh with
    | some _ => none
    | none => (m.obj? nm).bind fun o => if o.1 = false ∧ off = 0 ∧ 0 < n ∧ n = o.2.length ∧ n ≤ 1000000 then (intsM o.2).map fun ns => (.tup [], m.set nm (some (.obj false ((sortI ns).map (AV.int .i64))))) else none
  | _, _ => none
/-- slices.Compact of a row of whole numbers. -/
def compactA : List AV → Mem → Option (AV × Mem)
  | [.lst sh z o []], m => some (.lst sh z o [], m)
  | [.arr nm off n sh], m => match sh with
    | some _ => none
    | none => (m.obj? nm).bind fun o => if o.1 = false ∧ off = 0 ∧ 0 < n ∧ n = o.2.length ∧ n ≤ 1000000 then (intsM o.2).map fun ns => (.arr nm 0 (Lib.compact ns).length none, m.set nm (some (.obj false ((Lib.compact ns ++ List.replicate (ns.length - (Lib.compact ns).length) 0).map (AV.int .i64))))) else none
  | _, _ => none

abbrev encI : Int → Value := Value.int .i64
section
variable [WInv] {P : Program} {B : Nat} {w : World} {g : G} {m : Mem}
theorem put_below {w : World} {b : Nat} {d : Array Int} {c : Array Value} {e : TypeId} {fr : Nat × Nat} (hb : w.heap[b]? = some (Obj.cells c e fr)) (n : Nat) (os : Array Obj) :
    Below (w.setRow b (putCells encI 0 d c)).heap.size (w.setRow b (putCells encI 0 d c)) (grow (putRow encI (Sort.ahead w n) b 0 d) os) := by
  have hsz : (w.setRow b (putCells encI 0 d c)).heap.size = w.heap.size := by simp
  have hsz2 : (putRow encI (Sort.ahead w n) b 0 d).heap.size = w.heap.size := by simp [putRow, mapBlock, Sort.ahead]
  refine ⟨rfl, rfl, rfl, ?_, fun k hk => ?_⟩
  · show _ ≤ ((putRow encI (Sort.ahead w n) b 0 d).heap ++ os).size
    rw [Array.size_append, hsz, hsz2]; omega
  · rw [hsz] at hk
    rw [heap_grow_old _ os (by rw [hsz2]; exact hk)]
    by_cases he : k = b
    · subst he
      rw [setRow_heap w k c _ e fr hb]
      simp only [putRow, mapBlock, Sort.ahead, Array.getElem?_modify, if_true, hb, Option.map_some, onCells]
    · rw [setRow_other w b k _ he]
      simp only [putRow, mapBlock, Sort.ahead, Array.getElem?_modify]
      rw [if_neg (fun h => he h.symm)]
theorem putCells_get {d : Array Int} {c : Array Value} {j : Nat} (hj : j < d.size) (hc : d.size ≤ c.size) : (putCells encI 0 d c).getD j undef = .int .i64 d[j]! := by
  have hjc : j < c.size := by omega
  simp [putCells, Array.getD_eq_getD_getElem?, Array.getElem?_mapIdx, hjc, hj]
/-- A row of whole numbers has been written anew. -/
theorem put_row (hm : MemR B w g m) (hB : B ≤ w.heap.size) {nm b : Nat} {cs : List AV} {c : Array Value} {e : TypeId} (hn : m.get nm = some (.obj false cs)) (hl : g.loc nm = some b) (hb : w.heap[b]? = some (Obj.cells c e (0, 0))) (hcl : cs.length ≤ c.size) {ds : List Int} (hd : ds.length = cs.length) (n : Nat) (os : Array Obj) :
    Step B w g (grow (putRow encI (Sort.ahead w n) b 0 ds.toArray) os) g ∧ MemR B (grow (putRow encI (Sort.ahead w n) b 0 ds.toArray) os) g (m.set nm (some (.obj false (ds.map (AV.int .i64))))) := by
  have hsz : (putCells encI 0 ds.toArray c).size = c.size := by simp [putCells]
  obtain ⟨s1, hm1⟩ := hm.write (cs' := ds.map (AV.int .i64)) (c' := putCells encI 0 ds.toArray c) hn hl hb hsz (by rw [hsz, List.length_map]; omega) (fun j hj => by
    rw [List.length_map] at hj
    rw [putCells_get (by simpa using hj) (by simp; omega)]
    have e1 : (ds.map (AV.int .i64)).getD j .any = .int .i64 ds[j] := by simp [List.getD_eq_getElem?_getD, hj]
    have e2 : ds.toArray[j]! = ds[j] := by simp [hj]
    rw [e1, e2]
    exact .int _ _)
  have hbl := put_below (d := ds.toArray) hb n os
  have hB1 : B ≤ (w.setRow b (putCells encI 0 ds.toArray c)).heap.size := by simpa using hB
  have s2 : Step B (w.setRow b (putCells encI 0 ds.toArray c)) g (grow (putRow encI (Sort.ahead w n) b 0 ds.toArray) os) g :=
    ⟨hbl.mono hB1, fun b' off u _ hc => (hbl.cell (p := ⟨b', off, none⟩) (cell_lt hc)).trans hc, fun b' c' e' fr hb' => ⟨c', (hbl.block b' (Array.getElem?_eq_some_iff.1 hb').1).trans hb', rfl⟩, fun _ _ _ h => h, fun _ _ _ => Iff.rfl, fun _ _ => Iff.rfl, fun _ _ h => h, fun _ _ _ h => h⟩
  exact ⟨s1.trans s2, hm1.keep s2 (fun b' _ hb' => hbl.block b' hb') (fun _ _ h => h) rfl rfl (fun b' off hw => Nat.lt_of_lt_of_le (hm1.wrLt b' off hw) hbl.size) (fun b' hw => Nat.lt_of_lt_of_le (hm1.boxLt b' hw) hbl.size)⟩
theorem holds_row {b : Nat} {cs : List AV} {c : Array Value} {e : TypeId} (hb : w.heap[b]? = some (Obj.cells c e (0, 0))) (hcl : cs.length ≤ c.size) {ns : List Int} (hc : cs = ns.map (AV.int .i64)) (hv : ∀ j, j < cs.length → V w g (cs.getD j .any) (c.getD j undef)) : Holds encI w b 0 ns.toArray := by
  intro j hj
  have hj' : j < ns.length := by simpa using hj
  have hjc : j < cs.length := by rw [hc, List.length_map]; exact hj'
  have h1 := hv j hjc
  have e1 : cs.getD j .any = .int .i64 ns[j] := by rw [hc]; simp [List.getD_eq_getElem?_getD, hj']
  rw [e1] at h1
  have e3 : c.getD j undef = .int .i64 ns[j] := by
    generalize c.getD j undef = u at h1
    cases h1; rfl
  refine ⟨?_, by simp [World.frozen?, hb]⟩
  rw [cell_of_row w _ _ c e (0, 0) hb]
  have hjs : j < c.size := by omega
  simp only [Nat.zero_add]
  rw [Array.getD_eq_getD_getElem?, Array.getElem?_eq_getElem hjs, Option.getD_some] at e3
  rw [Array.getElem?_eq_getElem hjs, e3]
  simp [hj']
theorem sort_ok {f : Nat} (hS : ∀ (blk cap : Nat) (zs : List Int) (w : World), Holds encI w blk 0 zs.toArray → blk < w.heap.size → zs.length < 4611686018427387904 → Calls P f #[.slice (some ⟨blk, 0, none⟩) zs.length cap] w fun e w' => e = .returned (.tuple #[]) ∧ ∃ n os, w' = grow (putRow encI (Sort.ahead w n) blk 0 (sortI zs).toArray) os)
    (hN : ∀ (p : Option Addr) (cap : Nat) (w : World), Calls P f #[.slice p 0 cap] w fun e w' => e = .returned (.tuple #[]) ∧ w' = w) (vs : List AV) (m : Mem) (v : AV) (m' : Mem) (h : sortA vs m = some (v, m')) : CallOk P f vs m v m' := by
  intro B w g us hm hB hus hV
  have one : ∀ x, vs = [x] → ∃ u, us = #[u] ∧ V w g x u := fun x hx => by
    subst hx
    have hsz : us.size = 1 := by simpa using hus.symm
    have h0 := hV 0 (by simp)
    simp only [List.getD_cons_zero] at h0
    refine ⟨us.getD 0 undef, ?_, h0⟩
    apply Array.ext (by simpa using hsz)
    intro i hi1 hi2
    obtain rfl : i = 0 := by simp at hi2; omega
    simp [Array.getD, hi1]
  unfold sortA at h
  split at h
  · rename_i m0 sh z o
    simp only [Option.some.injEq, Prod.mk.injEq] at h
    obtain ⟨rfl, rfl⟩ := h
    obtain ⟨u, rfl, hu⟩ := one _ rfl
    have hus : ∃ p cap, u = .slice p 0 cap := by cases hu <;> exact ⟨_, _, rfl⟩
    obtain ⟨p, cap, rfl⟩ := hus
    refine (hN p cap w).mono ?_
    rintro e w' ⟨rfl, rfl⟩
    exact ⟨_, g, rfl, Step.refl _ _ _, hm, .tup [] #[] rfl (fun j hj => absurd hj (Nat.not_lt_zero j))⟩
  · rename_i m0 nm off n sh
    split at h
    · cases h
    · obtain ⟨⟨bx, cs⟩, ho, h2⟩ := Option.bind_eq_some_iff.1 h
      clear h
      simp only at h2
      split at h2
      · rename_i hc
        obtain ⟨rfl, rfl, hn0, rfl, hnb⟩ := hc
        obtain ⟨ns, hns, h3⟩ := Option.map_eq_some_iff.1 h2
        simp only [Prod.mk.injEq] at h3
        obtain ⟨rfl, rfl⟩ := h3
        have hcs := intsM_eq hns
        obtain ⟨u, rfl, hu⟩ := one _ rfl
        have hget := obj?_get ho
        obtain ⟨b, c, e, o1, o2, o3, o4, o5, o6, o7⟩ := hm.obj nm false cs hget
        cases hu with
        | arr _ _ _ _ a cap hs hcc hmx hl =>
          obtain ⟨l1, l2, _⟩ := hl.resolve_left (by omega)
          obtain rfl : b = a.block := by simpa [o1] using l1
          have hlen : cs.length = ns.length := by rw [hcs, List.length_map]
          have hH := holds_row (g := g) o3 o4 hcs o5
          rw [l2, hlen]
          refine (hS a.block cap ns w hH (Array.getElem?_eq_some_iff.1 o3).1 (by omega)).mono ?_
          rintro e' w' ⟨rfl, k, os, rfl⟩
          obtain ⟨s, hm'⟩ := put_row hm hB hget o1 o3 o4 (ds := sortI ns) (by rw [sortI, List.length_mergeSort, hlen]) k os
          exact ⟨_, g, rfl, s, hm', .tup [] #[] rfl (fun j hj => absurd hj (Nat.not_lt_zero j))⟩
      · cases h2
  · cases h
theorem compact_ok {f : Nat} (hS : ∀ (blk cap : Nat) (zs : List Int) (w : World), Holds encI w blk 0 zs.toArray → zs.length ≤ 9223372036854775807 → zs.length ≤ cap → Calls P f #[.slice (some ⟨blk, 0, none⟩) zs.length cap] w fun e w' => e = .returned (.slice (some ⟨blk, 0, none⟩) (Lib.compact zs).length cap) ∧ ∃ q, w' = putRow encI (Sort.ahead w q) blk 0 (Lib.compact zs ++ List.replicate (zs.length - (Lib.compact zs).length) 0).toArray)
    (hN : ∀ (p : Option Addr) (cap : Nat) (w : World), Calls P f #[.slice p 0 cap] w fun e w' => e = .returned (.slice p 0 cap) ∧ w' = w) (hle : ∀ zs : List Int, (Lib.compact zs).length ≤ zs.length) (vs : List AV) (m : Mem) (v : AV) (m' : Mem) (h : compactA vs m = some (v, m')) : CallOk P f vs m v m' := by
  intro B w g us hm hB hus hV
  have one : ∀ x, vs = [x] → ∃ u, us = #[u] ∧ V w g x u := fun x hx => by
    subst hx
    have hsz : us.size = 1 := by simpa using hus.symm
    have h0 := hV 0 (by simp)
    simp only [List.getD_cons_zero] at h0
    refine ⟨us.getD 0 undef, ?_, h0⟩
    apply Array.ext (by simpa using hsz)
    intro i hi1 hi2
    obtain rfl : i = 0 := by simp at hi2; omega
    simp [Array.getD, hi1]
  unfold compactA at h
  split at h
  · rename_i m0 sh z o
    simp only [Option.some.injEq, Prod.mk.injEq] at h
    obtain ⟨rfl, rfl⟩ := h
    obtain ⟨u, rfl, hu⟩ := one _ rfl
    have hus : ∃ p cap, u = .slice p 0 cap := by cases hu <;> exact ⟨_, _, rfl⟩
    obtain ⟨p, cap, rfl⟩ := hus
    refine (hN p cap w).mono ?_
    rintro e w' ⟨rfl, rfl⟩
    exact ⟨_, g, rfl, Step.refl _ _ _, hm, hu⟩
  · rename_i m0 nm off n sh
    split at h
    · cases h
    · obtain ⟨⟨bx, cs⟩, ho, h2⟩ := Option.bind_eq_some_iff.1 h
      clear h
      simp only at h2
      split at h2
      · rename_i hc
        obtain ⟨rfl, rfl, hn0, rfl, hnb⟩ := hc
        obtain ⟨ns, hns, h3⟩ := Option.map_eq_some_iff.1 h2
        simp only [Prod.mk.injEq] at h3
        obtain ⟨rfl, rfl⟩ := h3
        have hcs := intsM_eq hns
        obtain ⟨u, rfl, hu⟩ := one _ rfl
        have hget := obj?_get ho
        obtain ⟨b, c, e, o1, o2, o3, o4, o5, o6, o7⟩ := hm.obj nm false cs hget
        cases hu with
        | arr _ _ _ _ a cap hs hcc hmx hl =>
          obtain ⟨l1, l2, c2, e2, l3, l4⟩ := hl.resolve_left (by omega)
          obtain rfl : b = a.block := by simpa [o1] using l1
          have hlen : cs.length = ns.length := by rw [hcs, List.length_map]
          have hH := holds_row (g := g) o3 o4 hcs o5
          rw [hlen] at hcc
          rw [l2, hlen]
          refine (hS a.block cap ns w hH (by omega) hcc).mono ?_
          rintro e' w' ⟨rfl, k, rfl⟩
          have hcl := hle ns
          obtain ⟨s, hm'⟩ := put_row hm hB hget o1 o3 o4 (ds := Lib.compact ns ++ List.replicate (ns.length - (Lib.compact ns).length) 0) (by rw [List.length_append, List.length_replicate]; omega) k #[]
          have eg : grow (putRow encI (Sort.ahead w k) a.block 0 (Lib.compact ns ++ List.replicate (ns.length - (Lib.compact ns).length) 0).toArray) #[] = putRow encI (Sort.ahead w k) a.block 0 (Lib.compact ns ++ List.replicate (ns.length - (Lib.compact ns).length) 0).toArray := by
            simp only [grow, Array.append_empty]
          rw [eg] at s hm'
          refine ⟨_, g, rfl, s, hm', .arr _ _ _ _ _ _ (.inr rfl) (by omega) hmx (.inr ⟨o1, rfl, ?_⟩)⟩
          obtain ⟨c', k1, k2⟩ := s.shape _ _ _ _ l3
          exact ⟨c', e2, k1, by omega⟩
      · cases h2
  · cases h
end
end Go.Ab

/-
  DERIVED: THE SHELF's CONTRACTS AT THIS DUMP, IN PLAIN WORDS (tools/lay-plain.mjs out of 'YzShelf0.lean', which tools/lay-shelf.mjs wrote): THE SAME DECLARATIONS UNDER THE SAME NAMES: 'import', 'namespace', 'open', 'def', 'theorem' AND NOTHING ELSE: no command of the shelf's: FOR A HAND-IN. Each laying: the table of numbers ('.._ren') and one theorem, a field a fact of the dump's own or the kernel's comparison; each contract: ONE APPLICATION.
-/
namespace Go.Proofs
open Go.Shelf
def Tryz.lays169_ren : Go.Shelf.Ren := ⟨fun | 169 => 176 | n => n, fun | 70 => 200 | 9 => 9 | 0 => 0 | 72 => 203 | 37 => 201 | 127 => 215 | 3 => 3 | 5 => 5 | n => n, fun | n => n⟩
theorem Tryz.lays169 : Go.Proofs.Lays.n169 Tryz.prog Tryz.lays169_ren := {
  mixed := by kernel_rfl
  f169 := Tryz.func176.trans (congrArg some (by kernel_rfl))
  t0 := Tryz.underlying0
  a0 := Tryz.isAgg0
  z0 := Tryz.sizeOf0
  v0 := Tryz.zeroValue0
  t3 := Tryz.underlying3
  a3 := Tryz.isAgg3
  z3 := Tryz.sizeOf3
  v3 := Tryz.zeroValue3
  t9 := Tryz.underlying9
  a9 := Tryz.isAgg9
  z9 := Tryz.sizeOf9
  v9 := Tryz.zeroValue9
  t37 := Tryz.underlying201
  a37 := Tryz.isAgg201
  z37 := Tryz.sizeOf201
  v37 := Tryz.zeroValue201
  t70 := Tryz.underlying200
  a70 := Tryz.isAgg200
  z70 := Tryz.sizeOf200
  v70 := Tryz.zeroValue200
  t72 := Tryz.underlying203
  a72 := Tryz.isAgg203
  z72 := Tryz.sizeOf203
  v72 := Tryz.zeroValue203
  t127 := Tryz.underlying215
  a127 := Tryz.isAgg215
  z127 := Tryz.sizeOf215
  v127 := Tryz.zeroValue215 }
theorem Tryz.Builder_Extra_169 : Builder.Extra Tryz.prog Tryz.lays169_ren := {
  sizeBuilder := by kernel_rfl
  liesBuilder := by kernel_rfl
  t5 := Tryz.underlying5
  a5 := Tryz.isAgg5
  z5 := Tryz.sizeOf5
  v5 := Tryz.zeroValue5
  infoByte := by kernel_rfl
  cellsByte := by kernel_rfl
  sizeByte := by kernel_rfl
  neB5 := by decide }
open Go.RowKit in
/-- (*strings.Builder).String: "String returns the accumulated string.": WHATEVER THE BUILDER HOLDS; THE FORM '_k': OVER 'Lib.IsBuilderF' (a builder that 'String()' may have read), AND WITH THE FRAME THAT REACHES ABOVE THE BUILDER: 'Lib.OthersKept': every block that is not b and is no row of uint8's stands as it stood: the iterator of a range among them. (LAID: no walk: one application.) -/
theorem Tryz.Builder_String_any_k (B b : Nat) (l : List UInt8) (w : World) (h : Lib.IsBuilderF 203 5 B b (Lib.byteCells l) w) (hBw : B ≤ w.heap.size) :
    Calls Tryz.prog 176 #[.pointer (some ⟨b, 0, none⟩)] w fun e w' => e = .returned (.string ⟨l.toArray⟩) ∧ (Lib.IsBuilderF 203 5 B b (Lib.byteCells l) w' ∧ Below B w w' ∧ Lib.OthersKept 5 (some b) w w') := Any.Builder_String_any_k Tryz.lays169 Tryz.Builder_Extra_169 B b l w h hBw
def Tryz.laysM171_ren : Go.Shelf.Ren := ⟨fun | 171 => 173 | 243 => 188 | 246 => 205 | 283 => 213 | 284 => 214 | 285 => 215 | 286 => 216 | 129 => 200 | 317 => 218 | 318 => 219 | 319 => 220 | 320 => 221 | 337 => 222 | 338 => 223 | n => n, fun | 3 => 3 | 9 => 9 | 2 => 2 | 4 => 4 | 171 => 238 | 0 => 0 | 53 => 117 | 37 => 201 | 5 => 5 | 173 => 240 | 212 => 246 | 51 => 161 | 20 => 20 | 213 => 247 | 46 => 162 | 232 => 248 | 233 => 249 | n => n, fun | 17 => 0 | 18 => 1 | 19 => 2 | n => n⟩
theorem Tryz.laysM171 : Go.Proofs.LaysM.n171 Tryz.prog Tryz.laysM171_ren := {
  mixed := by kernel_rfl
  f129 := Tryz.func200.trans (congrArg some (by kernel_rfl))
  f171 := Tryz.func173.trans (congrArg some (by kernel_rfl))
  f243 := Tryz.func188.trans (congrArg some (by kernel_rfl))
  f246 := Tryz.func205.trans (congrArg some (by kernel_rfl))
  f283 := Tryz.func213.trans (congrArg some (by kernel_rfl))
  f284 := Tryz.func214.trans (congrArg some (by kernel_rfl))
  f285 := Tryz.func215.trans (congrArg some (by kernel_rfl))
  f286 := Tryz.func216.trans (congrArg some (by kernel_rfl))
  f317 := Tryz.func218.trans (congrArg some (by kernel_rfl))
  f318 := Tryz.func219.trans (congrArg some (by kernel_rfl))
  f319 := Tryz.func220.trans (congrArg some (by kernel_rfl))
  f320 := Tryz.func221.trans (congrArg some (by kernel_rfl))
  f337 := Tryz.func222.trans (congrArg some (by kernel_rfl))
  f338 := Tryz.func223.trans (congrArg some (by kernel_rfl))
  t0 := Tryz.underlying0
  a0 := Tryz.isAgg0
  z0 := Tryz.sizeOf0
  v0 := Tryz.zeroValue0
  t2 := Tryz.underlying2
  a2 := Tryz.isAgg2
  z2 := Tryz.sizeOf2
  v2 := Tryz.zeroValue2
  t3 := Tryz.underlying3
  a3 := Tryz.isAgg3
  z3 := Tryz.sizeOf3
  v3 := Tryz.zeroValue3
  t4 := Tryz.underlying4
  a4 := Tryz.isAgg4
  z4 := Tryz.sizeOf4
  v4 := Tryz.zeroValue4
  t5 := Tryz.underlying5
  a5 := Tryz.isAgg5
  z5 := Tryz.sizeOf5
  v5 := Tryz.zeroValue5
  t9 := Tryz.underlying9
  a9 := Tryz.isAgg9
  z9 := Tryz.sizeOf9
  v9 := Tryz.zeroValue9
  t20 := Tryz.underlying20
  a20 := Tryz.isAgg20
  z20 := Tryz.sizeOf20
  v20 := Tryz.zeroValue20
  t37 := Tryz.underlying201
  a37 := Tryz.isAgg201
  z37 := Tryz.sizeOf201
  v37 := Tryz.zeroValue201
  t46 := Tryz.underlying162
  a46 := Tryz.isAgg162
  z46 := Tryz.sizeOf162
  v46 := Tryz.zeroValue162
  t51 := Tryz.underlying161
  a51 := Tryz.isAgg161
  z51 := Tryz.sizeOf161
  v51 := Tryz.zeroValue161
  t53 := Tryz.underlying117
  a53 := Tryz.isAgg117
  z53 := Tryz.sizeOf117
  v53 := Tryz.zeroValue117
  t171 := Tryz.underlying238
  a171 := Tryz.isAgg238
  z171 := Tryz.sizeOf238
  v171 := Tryz.zeroValue238
  t173 := Tryz.underlying240
  a173 := Tryz.isAgg240
  z173 := Tryz.sizeOf240
  v173 := Tryz.zeroValue240
  t212 := Tryz.underlying246
  a212 := Tryz.isAgg246
  z212 := Tryz.sizeOf246
  v212 := Tryz.zeroValue246
  t213 := Tryz.underlying247
  a213 := Tryz.isAgg247
  z213 := Tryz.sizeOf247
  t232 := Tryz.underlying248
  a232 := Tryz.isAgg248
  z232 := Tryz.sizeOf248
  v232 := Tryz.zeroValue248
  t233 := Tryz.underlying249
  a233 := Tryz.isAgg249
  z233 := Tryz.sizeOf249
  v233 := Tryz.zeroValue249
  g17 := by kernel_rfl
  g18 := by kernel_rfl
  g19 := by kernel_rfl
  i0 := by kernel_rfl
  i2 := by kernel_rfl
  i3 := by kernel_rfl
  i4 := by kernel_rfl
  i5 := by kernel_rfl
  i9 := by kernel_rfl
  i20 := by kernel_rfl
  i37 := by kernel_rfl
  i46 := by kernel_rfl
  i51 := by kernel_rfl
  i53 := by kernel_rfl
  i171 := by kernel_rfl
  i173 := by kernel_rfl
  i212 := by kernel_rfl
  i232 := by kernel_rfl
  i233 := by kernel_rfl
  m17 := by kernel_rfl
  m18 := by kernel_rfl
  m19 := by kernel_rfl }
open Go.RowKit Go.Sort Go.Lib in
/-- strconv.Itoa: "Itoa is equivalent to FormatInt(int64(i), 10).": i's DECIMAL NUMERAL ('Lib.itoa': a '-' where i is negative, then the digits), FOR EVERY int. The world behind the call: the world before it, new blocks behind the heap (the library's 'var a [24]byte'), draws. (LAID: no walk: one application.) -/
theorem Tryz.strconv_Itoa (n : Int) (h0 : -9223372036854775808 ≤ n) (h1 : n ≤ 9223372036854775807) (w : World) (htab : Lib.TabIs Tryz.prog w "internal/strconv.uint64pow10" .u64 Lib.pow10Tab) :
    Calls Tryz.prog 173 #[.int .i64 n] w fun e w' => e = .returned (.string ⟨(Lib.itoa n).toArray⟩) ∧ ∃ k os, w' = grow (w.drewN k) os := Any.strconv_Itoa Tryz.laysM171 n h0 h1 w htab
def Tryz.lays189_ren : Go.Shelf.Ren := ⟨fun | 189 => 148 | 125 => 179 | 257 => 178 | 128 => 199 | 129 => 200 | 294 => 190 | 295 => 191 | 296 => 192 | 297 => 193 | 298 => 194 | 299 => 195 | 216 => 196 | 300 => 197 | 301 => 198 | 328 => 207 | 329 => 208 | 330 => 209 | 331 => 210 | 332 => 211 | 215 => 212 | 343 => 217 | n => n, fun | 28 => 22 | 3 => 3 | 46 => 162 | 0 => 0 | 51 => 161 | 53 => 117 | 4 => 4 | 183 => 218 | 182 => 217 | 131 => 173 | 5 => 5 | 9 => 9 | 218 => 232 | 222 => 236 | 228 => 242 | 229 => 243 | n => n, fun | n => n⟩
theorem Tryz.lays189 : Go.Proofs.Lays.n189 Tryz.prog Tryz.lays189_ren := {
  mixed := by kernel_rfl
  f125 := Tryz.func179.trans (congrArg some (by kernel_rfl))
  f128 := Tryz.func199.trans (congrArg some (by kernel_rfl))
  f129 := Tryz.func200.trans (congrArg some (by kernel_rfl))
  f189 := Tryz.func148.trans (congrArg some (by kernel_rfl))
  f215 := Tryz.func212.trans (congrArg some (by kernel_rfl))
  f216 := Tryz.func196.trans (congrArg some (by kernel_rfl))
  f257 := Tryz.func178.trans (congrArg some (by kernel_rfl))
  f294 := Tryz.func190.trans (congrArg some (by kernel_rfl))
  f295 := Tryz.func191.trans (congrArg some (by kernel_rfl))
  f296 := Tryz.func192.trans (congrArg some (by kernel_rfl))
  f297 := Tryz.func193.trans (congrArg some (by kernel_rfl))
  f298 := Tryz.func194.trans (congrArg some (by kernel_rfl))
  f299 := Tryz.func195.trans (congrArg some (by kernel_rfl))
  f300 := Tryz.func197.trans (congrArg some (by kernel_rfl))
  f301 := Tryz.func198.trans (congrArg some (by kernel_rfl))
  f328 := Tryz.func207.trans (congrArg some (by kernel_rfl))
  f329 := Tryz.func208.trans (congrArg some (by kernel_rfl))
  f330 := Tryz.func209.trans (congrArg some (by kernel_rfl))
  f331 := Tryz.func210.trans (congrArg some (by kernel_rfl))
  f332 := Tryz.func211.trans (congrArg some (by kernel_rfl))
  f343 := Tryz.func217.trans (congrArg some (by kernel_rfl))
  t0 := Tryz.underlying0
  a0 := Tryz.isAgg0
  z0 := Tryz.sizeOf0
  v0 := Tryz.zeroValue0
  t3 := Tryz.underlying3
  a3 := Tryz.isAgg3
  z3 := Tryz.sizeOf3
  v3 := Tryz.zeroValue3
  t4 := Tryz.underlying4
  a4 := Tryz.isAgg4
  z4 := Tryz.sizeOf4
  v4 := Tryz.zeroValue4
  t5 := Tryz.underlying5
  a5 := Tryz.isAgg5
  z5 := Tryz.sizeOf5
  v5 := Tryz.zeroValue5
  t9 := Tryz.underlying9
  a9 := Tryz.isAgg9
  z9 := Tryz.sizeOf9
  v9 := Tryz.zeroValue9
  t28 := Tryz.underlying22
  a28 := Tryz.isAgg22
  z28 := Tryz.sizeOf22
  v28 := Tryz.zeroValue22
  t46 := Tryz.underlying162
  a46 := Tryz.isAgg162
  z46 := Tryz.sizeOf162
  v46 := Tryz.zeroValue162
  t51 := Tryz.underlying161
  a51 := Tryz.isAgg161
  z51 := Tryz.sizeOf161
  v51 := Tryz.zeroValue161
  t53 := Tryz.underlying117
  a53 := Tryz.isAgg117
  z53 := Tryz.sizeOf117
  v53 := Tryz.zeroValue117
  t131 := Tryz.underlying173
  a131 := Tryz.isAgg173
  z131 := Tryz.sizeOf173
  v131 := Tryz.zeroValue173
  t182 := Tryz.underlying217
  a182 := Tryz.isAgg217
  z182 := Tryz.sizeOf217
  v182 := Tryz.zeroValue217
  t183 := Tryz.underlying218
  a183 := Tryz.isAgg218
  z183 := Tryz.sizeOf218
  v183 := Tryz.zeroValue218
  t218 := Tryz.underlying232
  a218 := Tryz.isAgg232
  z218 := Tryz.sizeOf232
  v218 := Tryz.zeroValue232
  t222 := Tryz.underlying236
  a222 := Tryz.isAgg236
  z222 := Tryz.sizeOf236
  v222 := Tryz.zeroValue236
  t228 := Tryz.underlying242
  a228 := Tryz.isAgg242
  z228 := Tryz.sizeOf242
  v228 := Tryz.zeroValue242
  t229 := Tryz.underlying243
  a229 := Tryz.isAgg243
  z229 := Tryz.sizeOf243
  v229 := Tryz.zeroValue243 }
open Go.Sort Go.RowKit in
theorem Tryz.slices_Sort_int (blk off cap : Nat) (zs : List Int) (w : World) (hH : Holds (Value.int .i64) w blk off zs.toArray) (hblk : blk < w.heap.size) (hsz : zs.length < 4611686018427387904) :
    Calls Tryz.prog 148 #[.slice (some ⟨blk, off, none⟩) zs.length cap] w fun e w' =>
      e = .returned (.tuple #[]) ∧ ∃ n os, w' = grow (putRow (Value.int .i64) (Sort.ahead w n) blk off (zs.mergeSort fun x y => decide (x ≤ y)).toArray) os := Any.slices_Sort_int Tryz.lays189 blk off cap zs w hH hblk hsz
def Tryz.laysNm220_ren : Go.Shelf.Ren := ⟨fun | 20 => 149 | n => n, fun | 22 => 22 | 3 => 3 | 4 => 4 | 0 => 0 | n => n, fun | n => n⟩
theorem Tryz.laysNm220 : Go.Proofs.Lays2.n20 Tryz.prog Tryz.laysNm220_ren := {
  mixed := by kernel_rfl
  f20 := Tryz.func149.trans (congrArg some (by kernel_rfl))
  t0 := Tryz.underlying0
  a0 := Tryz.isAgg0
  z0 := Tryz.sizeOf0
  v0 := Tryz.zeroValue0
  t3 := Tryz.underlying3
  a3 := Tryz.isAgg3
  z3 := Tryz.sizeOf3
  v3 := Tryz.zeroValue3
  t4 := Tryz.underlying4
  a4 := Tryz.isAgg4
  z4 := Tryz.sizeOf4
  v4 := Tryz.zeroValue4
  t22 := Tryz.underlying22
  a22 := Tryz.isAgg22
  z22 := Tryz.sizeOf22
  v22 := Tryz.zeroValue22
  i3 := by kernel_rfl }
open Go.RowKit Go.Lib Go.Sort in
/-- slices.Compact at []int: "Compact replaces consecutive runs of equal elements with a single copy. This is like the uniq command found on Unix. Compact modifies the contents of the slice s and returns the modified slice, which may have a smaller length. Compact zeroes the elements between the new length and the original length. The result preserves the nilness of s.": IT RETURNS THE SLICE CUT TO 'Lib.compact zs'; ITS CELLS HOLD 'Lib.compact zs', THEN ZERO VALUES up to the old length; all else is as it was, but for the count of draws. IN THE WORDS OF slices.Sort's CONTRACT ('Holds', 'putRow'): so the everyday 'slices.Sort(xs); xs = slices.Compact(xs)' goes from the one contract to the other. It asks 'zs.length ≤ cap' (every slice's: the reslicing 's[:k]' looks at it). Length 0, nil: '.._empty'. (LAID: no walk: one application.) -/
theorem Tryz.slices_Compact_int (blk off cap : Nat) (zs : List Int) (w : World) (hH : Holds (Value.int .i64) w blk off zs.toArray) (hsz : zs.length ≤ 9223372036854775807) (hcap : zs.length ≤ cap) :
    Calls Tryz.prog 149 #[.slice (some ⟨blk, off, none⟩) zs.length cap] w fun e w' => e = .returned (.slice (some ⟨blk, off, none⟩) (Lib.compact zs).length cap) ∧ ∃ q, w' = putRow (Value.int .i64) (Sort.ahead w q) blk off (Lib.compact zs ++ List.replicate (zs.length - (Lib.compact zs).length) 0).toArray := Any.slices_Compact_int Tryz.laysNm220 blk off cap zs w hH hsz hcap
open Go.RowKit Go.Lib Go.Sort in
/-- The same at a slice of length 0, a nil one too: it comes back as it is. (LAID: no walk: one application.) -/
theorem Tryz.slices_Compact_int_empty (a : Option Addr) (cap : Nat) (w : World) :
    Calls Tryz.prog 149 #[.slice a 0 cap] w fun e w' => e = .returned (.slice a 0 cap) ∧ w' = w := Any.slices_Compact_int_empty Tryz.laysNm220 a cap w
open Go.RowKit Go.Sort in
/-- .. and plain. (LAID: no walk: one application.) -/
theorem Tryz.slices_Sort_int_none (p : Option Addr) (cap : Nat) (w : World) :
    Calls Tryz.prog 148 #[.slice p 0 cap] w fun e w' => e = .returned (.tuple #[]) ∧ w' = w := Any.slices_Sort_int_none Tryz.lays189 p cap w
end Go.Proofs

/- strings.Builder at this dump: its writing methods. (Turned by a program out of the library's proofs: the dump's copyCheck ends in a refusal where the library's panics.) -/
set_option linter.unusedVariables false
namespace Go.Proofs
open Go.Shelf Go.RowKit

theorem Yd.infoByte : (Tryz.prog.info? 5).map (fun i => (i.zero, i.size, i.bytes)) = some (some (.int .u8 0), 1, 1) := by kernel_rfl
theorem Yd.sizeBuilder : (Tryz.prog.info? 203).map (·.size) = some 2 := by kernel_rfl
theorem Yd.liesBuilder : liesAt Tryz.prog Tryz.prog.depth 203 (2 / Tryz.prog.cellsOf 203) 0 203 1 = true := by kernel_rfl
set_option maxHeartbeats 2000000 in
set_option maxRecDepth 100000 in
theorem Yd.Builder_copyCheck_used (b : Nat) (w : World) (h0 : w.cell? ⟨b, 0, none⟩ = some (.pointer (some ⟨b, 0, none⟩))) :
    Calls Tryz.prog 189 #[.pointer (some ⟨b, 0, none⟩)] w fun e w' => e = .returned (.tuple #[]) ∧ w' = w := by
  obtain ⟨j, hj, _⟩ := Option.map_eq_some_iff.1 Yd.sizeBuilder
  have mixed : Tryz.prog.follows .mixedOrders = true := by kernel_rfl
  have t72 := Tryz.underlying203; have a72 := Tryz.isAgg203; have z72 := Tryz.sizeOf203; have v72 := Tryz.zeroValue203; have u72 := run_underlying Tryz.underlying203
  have t70 := Tryz.underlying200; have a70 := Tryz.isAgg200; have z70 := Tryz.sizeOf200; have v70 := Tryz.zeroValue200; have u70 := run_underlying Tryz.underlying200
  have t9 := Tryz.underlying9; have a9 := Tryz.isAgg9; have z9 := Tryz.sizeOf9; have v9 := Tryz.zeroValue9; have u9 := run_underlying Tryz.underlying9
  have t4 := Tryz.underlying4; have a4 := Tryz.isAgg4; have z4 := Tryz.sizeOf4; have v4 := Tryz.zeroValue4; have u4 := run_underlying Tryz.underlying4
  have t164 := Tryz.underlying230; have a164 := Tryz.isAgg230; have z164 := Tryz.sizeOf230; have v164 := Tryz.zeroValue230; have u164 := run_underlying Tryz.underlying230
  go_enter Tryz.func189, Tryz.ntmps189
  go_wp2
  rw [Lib.run_neq_ptr_same w _ Tryz.underlying200 hj]
  go_wp2
  go_end0
  exact ⟨rfl, rfl⟩

set_option maxHeartbeats 2000000 in
set_option maxRecDepth 100000 in
theorem Yd.Builder_copyCheck_fresh (b : Nat) (w : World) (h0 : w.cell? ⟨b, 0, none⟩ = some (.pointer none)) (hsh : w.shape? b = some (203, 2)) (hfz : w.frozen? ⟨b, 0, none⟩ = false) :
    Calls Tryz.prog 189 #[.pointer (some ⟨b, 0, none⟩)] w fun e w' => e = .returned (.tuple #[]) ∧ w' = w.setCell ⟨b, 0, none⟩ (.pointer (some ⟨b, 0, none⟩)) := by
  obtain ⟨j, hj, hjs⟩ := Option.map_eq_some_iff.1 Yd.sizeBuilder
  have mixed : Tryz.prog.follows .mixedOrders = true := by kernel_rfl
  have t72 := Tryz.underlying203; have a72 := Tryz.isAgg203; have z72 := Tryz.sizeOf203; have v72 := Tryz.zeroValue203; have u72 := run_underlying Tryz.underlying203
  have t70 := Tryz.underlying200; have a70 := Tryz.isAgg200; have z70 := Tryz.sizeOf200; have v70 := Tryz.zeroValue200; have u70 := run_underlying Tryz.underlying200
  have t9 := Tryz.underlying9; have a9 := Tryz.isAgg9; have z9 := Tryz.sizeOf9; have v9 := Tryz.zeroValue9; have u9 := run_underlying Tryz.underlying9
  have t4 := Tryz.underlying4; have a4 := Tryz.isAgg4; have z4 := Tryz.sizeOf4; have v4 := Tryz.zeroValue4; have u4 := run_underlying Tryz.underlying4
  have t164 := Tryz.underlying230; have a164 := Tryz.isAgg230; have z164 := Tryz.sizeOf230; have v164 := Tryz.zeroValue230; have u164 := run_underlying Tryz.underlying230
  go_enter Tryz.func189, Tryz.ntmps189
  go_wp2
  rw [Lib.run_to_unsafe w ⟨b, 0, none⟩ Tryz.underlying200 Tryz.underlying230 hj (by rw [hjs]; decide) hsh (Nat.zero_lt_succ 1)]
  simp only [Result.andThen]
  rw [Oper.upon_value]
  go_wp2
  rw [run_callFunc_extern Tryz.func206 (by kernel_rfl) (by kernel_rfl) (by kernel_rfl) (e := Extern.AbiNoEscape.same) (by kernel_rfl)]
  rw [Lib.run_noEscape]
  simp only [Result.andThen]
  rw [Oper.upon_value]
  go_wp2
  rw [Lib.run_from_unsafe w ⟨b, 0, none⟩ Tryz.underlying230 Tryz.underlying200 hj hsh Yd.liesBuilder]
  simp only [Result.andThen]
  rw [Oper.upon_value]
  go_wp2
  go_end0
  exact ⟨rfl, rfl⟩

set_option maxHeartbeats 2000000 in
set_option maxRecDepth 100000 in
theorem Yd.Builder_copyCheck_k (B b : Nat) (bs : List Value) (w : World) (h : Lib.IsBuilderF 203 5 B b bs w) :
    Calls Tryz.prog 189 #[.pointer (some ⟨b, 0, none⟩)] w fun e w' => e = .returned (.tuple #[]) ∧ (Lib.BuilderAtF 203 5 B b (.pointer (some ⟨b, 0, none⟩)) bs w' ∧ Below B w w' ∧ Lib.OthersKept 5 (some b) w w') := by
  rcases h with h | h
  · refine (Yd.Builder_copyCheck_fresh b w h.cell0 h.shape h.frozen0).mono ?_
    rintro e w' ⟨rfl, rfl⟩
    exact ⟨rfl, h.used _, (Below.refl B w).setCell (p := ⟨b, 0, none⟩) h.1 _, (Lib.OthersKept.refl _ _ w).setCell ⟨b, 0, none⟩ rfl _⟩
  · refine (Yd.Builder_copyCheck_used b w h.cell0).mono ?_
    rintro e w' ⟨rfl, rfl⟩
    exact ⟨rfl, h, Below.refl B _, Lib.OthersKept.refl _ _ _⟩

set_option maxHeartbeats 2000000 in
set_option maxRecDepth 100000 in
theorem Yd.Builder_WriteByte_k (B b : Nat) (bs : List Value) (c : Int) (w : World) (h : Lib.IsBuilderF 203 5 B b bs w) (hlen : bs.length + 1 ≤ 140737488355328) (hBw : B ≤ w.heap.size) :
    Calls Tryz.prog 175 #[.pointer (some ⟨b, 0, none⟩), .int .u8 c] w fun e w' => e = .returned .nilIface ∧ (Lib.BuilderAtF 203 5 B b (.pointer (some ⟨b, 0, none⟩)) (bs ++ [.int .u8 c]) w' ∧ Below B w w' ∧ Lib.OthersKept 5 (some b) w w') := by
  obtain ⟨i0, hi, hz0, hz1, hz2⟩ := info_parts Yd.infoByte
  have mixed : Tryz.prog.follows .mixedOrders = true := by kernel_rfl
  have t72 := Tryz.underlying203; have a72 := Tryz.isAgg203; have z72 := Tryz.sizeOf203; have v72 := Tryz.zeroValue203; have u72 := run_underlying Tryz.underlying203
  have t70 := Tryz.underlying200; have a70 := Tryz.isAgg200; have z70 := Tryz.sizeOf200; have v70 := Tryz.zeroValue200; have u70 := run_underlying Tryz.underlying200
  have t5 := Tryz.underlying5; have a5 := Tryz.isAgg5; have z5 := Tryz.sizeOf5; have v5 := Tryz.zeroValue5; have u5 := run_underlying Tryz.underlying5
  have t37 := Tryz.underlying201; have a37 := Tryz.isAgg201; have z37 := Tryz.sizeOf201; have v37 := Tryz.zeroValue201; have u37 := run_underlying Tryz.underlying201
  have t9 := Tryz.underlying9; have a9 := Tryz.isAgg9; have z9 := Tryz.sizeOf9; have v9 := Tryz.zeroValue9; have u9 := run_underlying Tryz.underlying9
  have t4 := Tryz.underlying4; have a4 := Tryz.isAgg4; have z4 := Tryz.sizeOf4; have v4 := Tryz.zeroValue4; have u4 := run_underlying Tryz.underlying4
  have t164 := Tryz.underlying230; have a164 := Tryz.isAgg230; have z164 := Tryz.sizeOf230; have v164 := Tryz.zeroValue230; have u164 := run_underlying Tryz.underlying230
  have e240 : ∀ args w, (callFunc 189 args).run Tryz.prog w = .ok (.enter 189 args) w := enters_of Tryz.func189 (by kernel_rfl) rfl
  go_enter Tryz.func175, Tryz.ntmps175
  go_wp2_with (go_at_call 189; refine (Yd.Builder_copyCheck_k B b bs _ h).mono ?_)
  rintro e w1 ⟨rfl, h1, hb1, hk1⟩
  obtain ⟨hB, v, hbk, hown, hne⟩ := h1
  have c0 : w1.cell? ⟨b, 0, none⟩ = some (.pointer (some ⟨b, 0, none⟩)) := by rw [Lib.cell_of_heap hbk]; rfl
  have c1 : w1.cell? ⟨b, 1, none⟩ = some v := by rw [Lib.cell_of_heap hbk]; rfl
  go_wp2_with (at_builtin; refine wpList_append_ownF _ rfl _ _ 201 rfl B 5 i0 (.int .u8 0) 1 1 Tryz.underlying201 hi hz0 hz1 hz2 rfl (by decide) _ _ _ rfl (hown.alloc _) ⟨w1.heap.size, 0, none⟩ 1 1 [.int .u8 c] rfl rfl ?c1 ?c2 ?c3 ?c4 ?c5 ?_)
  case c1 =>
    intro j u hj
    match j, hj with
    | 0, hj => simp at hj; subst hj; simp [Addr.add]
  case c2 => intro u hu; simp at hu; subst hu; rfl
  case c3 => unfold maxLen; omega
  case c4 => omega
  case c5 => have := hb1.size; simp; omega
  intro v' w2 hown' hgrow _
  have hlt : b < w1.heap.size := by
    rcases Nat.lt_or_ge b w1.heap.size with h' | h'
    · exact h'
    · simp [Array.getElem?_eq_none h'] at hbk
  have hb2 : w2.heap[b]? = some (.cells #[.pointer (some ⟨b, 0, none⟩), v] 203 (0, 0)) := by
    rw [hgrow.block b (by simp; omega) (fun e => hne e.symm), Lib.alloc_old w1 _ b hlt]
    exact hbk
  have d0 : w2.cell? ⟨b, 0, none⟩ = some (.pointer (some ⟨b, 0, none⟩)) := by rw [Lib.cell_of_heap hb2]; rfl
  have d1 : w2.cell? ⟨b, 1, none⟩ = some v := by rw [Lib.cell_of_heap hb2]; rfl
  have f1 : w2.frozen? ⟨b, 1, none⟩ = false := Lib.frozen_of_heap hb2 1
  obtain ⟨g, cap, rfl⟩ : ∃ g cap, v' = .slice (some ⟨g, 0, none⟩) (bs.length + 1) cap := by
    rcases hown'.2 with ⟨_, h0⟩ | ⟨g, cap, cur, fz, hv, _⟩
    · omega
    · exact ⟨g, cap, hv⟩
  go_wp2
  go_ret
  refine ⟨rfl, ?_, ?_, ((hk1.alloc _).grown hgrow (Lib.ownsRowF_kind (hown.alloc _))).setCell ⟨b, 1, none⟩ rfl _⟩
  · exact Lib.BuilderAtF.put (T := 203) (e := 5) hB hb2 (bs' := bs ++ [.int .u8 c]) (by simpa using hown') (by decide)
  · exact ((hb1.alloc (by have := hb1.size; omega) _).grown hgrow (by have := hb1.size; simp; omega) (fun k hk => (hown.lt k hk).1)).setCell (p := ⟨b, 1, none⟩) hB _

set_option maxHeartbeats 2000000 in
set_option maxRecDepth 100000 in
theorem Yd.Builder_WriteString_k (B b : Nat) (bs : List Value) (s : ByteArray) (w : World) (h : Lib.IsBuilderF 203 5 B b bs w) (hlen : bs.length + s.size ≤ 140737488355328) (hBw : B ≤ w.heap.size) :
    Calls Tryz.prog 174 #[.pointer (some ⟨b, 0, none⟩), .string s] w fun e w' => e = .returned (.tuple #[.int .i64 s.size, .nilIface]) ∧ (Lib.BuilderAtF 203 5 B b (.pointer (some ⟨b, 0, none⟩)) (bs ++ Lib.strCells s) w' ∧ Below B w w' ∧ Lib.OthersKept 5 (some b) w w') := by
  obtain ⟨i0, hi, hz0, hz1, hz2⟩ := info_parts Yd.infoByte
  have mixed : Tryz.prog.follows .mixedOrders = true := by kernel_rfl
  have t72 := Tryz.underlying203; have a72 := Tryz.isAgg203; have z72 := Tryz.sizeOf203; have v72 := Tryz.zeroValue203; have u72 := run_underlying Tryz.underlying203
  have t70 := Tryz.underlying200; have a70 := Tryz.isAgg200; have z70 := Tryz.sizeOf200; have v70 := Tryz.zeroValue200; have u70 := run_underlying Tryz.underlying200
  have t37 := Tryz.underlying201; have a37 := Tryz.isAgg201; have z37 := Tryz.sizeOf201; have v37 := Tryz.zeroValue201; have u37 := run_underlying Tryz.underlying201
  have t3 := Tryz.underlying3; have a3 := Tryz.isAgg3; have z3 := Tryz.sizeOf3; have v3 := Tryz.zeroValue3; have u3 := run_underlying Tryz.underlying3
  have t9 := Tryz.underlying9; have a9 := Tryz.isAgg9; have z9 := Tryz.sizeOf9; have v9 := Tryz.zeroValue9; have u9 := run_underlying Tryz.underlying9
  have t4 := Tryz.underlying4; have a4 := Tryz.isAgg4; have z4 := Tryz.sizeOf4; have v4 := Tryz.zeroValue4; have u4 := run_underlying Tryz.underlying4
  have t164 := Tryz.underlying230; have a164 := Tryz.isAgg230; have z164 := Tryz.sizeOf230; have v164 := Tryz.zeroValue230; have u164 := run_underlying Tryz.underlying230
  have t5 := Tryz.underlying5; have a5 := Tryz.isAgg5; have z5 := Tryz.sizeOf5; have v5 := Tryz.zeroValue5; have u5 := run_underlying Tryz.underlying5
  have e240 : ∀ args w, (callFunc 189 args).run Tryz.prog w = .ok (.enter 189 args) w := enters_of Tryz.func189 (by kernel_rfl) rfl
  go_enter Tryz.func174, Tryz.ntmps174
  go_wp2_with (go_at_call 189; refine (Yd.Builder_copyCheck_k B b bs _ h).mono ?_)
  rintro e w1 ⟨rfl, h1, hb1, hk1⟩
  obtain ⟨hB, v, hbk, hown, hne⟩ := h1
  have c0 : w1.cell? ⟨b, 0, none⟩ = some (.pointer (some ⟨b, 0, none⟩)) := by rw [Lib.cell_of_heap hbk]; rfl
  have c1 : w1.cell? ⟨b, 1, none⟩ = some v := by rw [Lib.cell_of_heap hbk]; rfl
  go_wp2_with (at_builtin; refine Lib.wpList_append_own_stringF _ rfl _ _ 201 9 rfl B 5 i0 Tryz.underlying201 Tryz.underlying9 hi hz0 hz1 hz2 _ _ _ rfl hown s rfl ?c3 ?c4 ?c5 ?_)
  case c3 => unfold maxLen; omega
  case c4 => omega
  case c5 => have := hb1.size; omega
  intro v' w2 hown' hgrow _
  have hlt : b < w1.heap.size := by
    rcases Nat.lt_or_ge b w1.heap.size with h' | h'
    · exact h'
    · simp [Array.getElem?_eq_none h'] at hbk
  have hb2 : w2.heap[b]? = some (.cells #[.pointer (some ⟨b, 0, none⟩), v] 203 (0, 0)) := by
    rw [hgrow.block b hlt (fun e => hne e.symm)]
    exact hbk
  have d0 : w2.cell? ⟨b, 0, none⟩ = some (.pointer (some ⟨b, 0, none⟩)) := by rw [Lib.cell_of_heap hb2]; rfl
  have d1 : w2.cell? ⟨b, 1, none⟩ = some v := by rw [Lib.cell_of_heap hb2]; rfl
  have f1 : w2.frozen? ⟨b, 1, none⟩ = false := Lib.frozen_of_heap hb2 1
  obtain ⟨ao, n', cap, rfl⟩ : ∃ ao n' cap, v' = .slice ao n' cap := by
    rcases hown'.2 with ⟨hv, _⟩ | ⟨g, cap, cur, fz, hv, _⟩
    · exact ⟨_, _, _, hv⟩
    · exact ⟨_, _, _, hv⟩
  go_wp2
  go_ret2
  refine ⟨rfl, ?_, ?_, (hk1.grown hgrow (Lib.ownsRowF_kind hown)).setCell ⟨b, 1, none⟩ rfl _⟩
  · exact Lib.BuilderAtF.put (T := 203) (e := 5) hB hb2 (bs' := bs ++ Lib.strCells s) (by simpa [Lib.strCells_length] using hown') (by decide)
  · exact (hb1.grown hgrow (by have := hb1.size; omega) (fun k hk => (hown.lt k hk).1)).setCell (p := ⟨b, 1, none⟩) hB _

end Go.Proofs

/- diagram.name at this dump: the text of a node's name. -/
set_option linter.unusedVariables false
namespace Go.Proofs
open Go.RowKit

def Yd.nameB (var leaf : Int) (ks : List Int) : List UInt8 := if var < 0 then 61 :: Lib.itoa leaf else Lib.itoa var ++ ks.flatMap fun k => 32 :: Lib.itoa k
def Yd.i64 (n : Int) : Prop := -9223372036854775808 ≤ n ∧ n ≤ 9223372036854775807
/-- A slice of whole numbers, as it lies. -/
def Yd.Row (w : World) (v : Value) (ks : List Int) : Prop :=
  (v = .slice none 0 0 ∧ ks = []) ∨ ∃ a cap, v = .slice (some a) ks.length cap ∧ (cap = 0 ∨ a.spot = none) ∧ ks.length ≤ cap ∧ cap ≤ maxLen ∧ ∀ j (h : j < ks.length), w.cell? ⟨a.block, a.off + j, none⟩ = some (.int .i64 ks[j])

abbrev Yd.tab (w : World) : Prop := Lib.TabIs Tryz.prog w "internal/strconv.uint64pow10" .u64 Lib.pow10Tab

theorem Yd.globalPow : Tryz.prog.globalNamed "internal/strconv.uint64pow10" = some 0 := by kernel_rfl
theorem Yd.tab_lt {w : World} (h : Yd.tab w) : 0 < w.heap.size := by
  unfold Yd.tab Lib.TabIs World.var? at h
  rw [Yd.globalPow] at h
  simp only [Option.bind_some] at h
  split at h
  · rename_i hh
    exact (Array.getElem?_eq_some_iff.1 hh).1
  · cases h
theorem Yd.tab_below {B : Nat} {w w' : World} (hB : 0 < B) (h : Yd.tab w) (s : Below B w w') : Yd.tab w' := by
  unfold Yd.tab Lib.TabIs World.var? at h ⊢
  rw [Yd.globalPow] at h ⊢
  simp only [Option.bind_some] at h ⊢
  rw [s.block 0 hB]
  exact h
theorem Yd.decDigits_len (u k : Nat) (h : u < 10 ^ (k + 1)) : (Lib.decDigits u).length ≤ k + 1 := by
  induction k generalizing u with
  | zero => rw [Lib.decDigits, dif_pos (by omega)]; simp
  | succ k ih =>
    rw [Lib.decDigits]
    split
    · simp
    · rw [List.length_append]
      have := ih (u / 10) (by rw [Nat.div_lt_iff_lt_mul (by decide)]; rw [Nat.pow_succ] at h; exact h)
      simp; omega
theorem Yd.itoa_len {n : Int} (h : Yd.i64 n) : (Lib.itoa n).length ≤ 20 := by
  have : n.natAbs < 10 ^ (18 + 1) := by have := h.1; have := h.2; have e : (10 : Nat) ^ (18 + 1) = 10000000000000000000 := by decide
                                        rw [e]; omega
  have h2 : n.toNat < 10 ^ (18 + 1) := by omega
  unfold Lib.itoa
  split
  · have := Yd.decDigits_len _ _ this; simp; omega
  · have := Yd.decDigits_len _ _ h2; omega
theorem Yd.drewN_heap (w : World) : ∀ k, (w.drewN k).heap = w.heap ∧ (w.drewN k).os = w.os ∧ (w.drewN k).tape = w.tape ∧ (w.drewN k).output = w.output
  | 0 => ⟨rfl, rfl, rfl, rfl⟩
  | k + 1 => Yd.drewN_heap w.drew k
theorem Yd.below_grow (w : World) (k : Nat) (os : Array Obj) : Below w.heap.size w (Sort.grow (w.drewN k) os) := by
  obtain ⟨h1, h2, h3, h4⟩ := Yd.drewN_heap w k
  refine ⟨h2, h3, h4, ?_, fun i hi => ?_⟩
  · simp [Sort.grow]
  · simp only [Sort.grow, h1]
    rw [Array.getElem?_append_left hi]
set_option maxHeartbeats 4000000 in
set_option maxRecDepth 1000000 in
theorem Yd.name_leaf (var leaf : Int) (kv : Value) (w : World) (h0 : Yd.tab w) (hv : var < 0) (hl : Yd.i64 leaf) :
    Calls Tryz.prog 141 #[.agg #[.int .i64 var, kv, .int .i64 leaf]] w fun e w' => e = .returned (.string ⟨(61 :: Lib.itoa leaf).toArray⟩) ∧ Below w.heap.size w w' := by
  have hB := Yd.tab_lt h0
  have b0 : Below w.heap.size w (w.alloc (.cells #[.int .i64 var, kv, .int .i64 leaf] 74)) := (Below.refl _ w).alloc (Nat.le_refl _) _
  have t0 := Yd.tab_below hB h0 b0
  have hz : ¬9223372036854775807 < 1 + (Lib.itoa leaf).length := by have := Yd.itoa_len hl; omega
  go_enter Tryz.func141, Tryz.ntmps141
  go_wp2_with (go_at_call 173; refine (Tryz.strconv_Itoa leaf hl.1 hl.2 _ t0).mono ?_)
  rintro e W1 ⟨rfl, k, os, rfl⟩
  go_wp2
  all_goals (go_ret; exact ⟨by congr 2, b0.trans ((Yd.below_grow _ k os).mono b0.size)⟩)
theorem Yd.isF_grow {T e : TypeId} {B b : Nat} {bs : List Value} {w w' : World} (h : Lib.IsBuilderF T e B b bs w) (hg : w.grownBy w' none) : Lib.IsBuilderF T e B b bs w' := by
  have key : ∀ p, Lib.BuilderAtF T e B b p bs w → Lib.BuilderAtF T e B b p bs w' := by
    rintro p ⟨hB, v, hb, hown, hne⟩
    exact ⟨hB, v, by rw [hg.block b (Array.getElem?_eq_some_iff.1 hb).1 (by simp)]; exact hb, hown.kept hg (by cases hv : v.ownBlock <;> simp), hne⟩
  exact h.imp (key _) (key _)
theorem Yd.grownBy_grow (w : World) (k : Nat) (os : Array Obj) : w.grownBy (Sort.grow (w.drewN k) os) none :=
  ⟨rfl, rfl, rfl, by simp [Sort.grow], fun i hi _ => by simp only [Sort.grow]; exact Array.getElem?_append_left hi⟩
theorem Yd.itoa {n : Int} (h : Yd.i64 n) (w : World) (h0 : Yd.tab w) : Calls Tryz.prog 173 #[.int .i64 n] w fun e w' => e = .returned (.string ⟨(Lib.itoa n).toArray⟩) ∧ (Below w.heap.size w w' ∧ w.grownBy w' none) := by
  refine (Tryz.strconv_Itoa n h.1 h.2 w h0).mono ?_
  rintro e w' ⟨rfl, k, os, rfl⟩
  exact ⟨rfl, Yd.below_grow w k os, Yd.grownBy_grow w k os⟩
/-- What has been written behind n kids. -/
def Yd.part (var : Int) (ks : List Int) (n : Nat) : List UInt8 := Lib.itoa var ++ (ks.take n).flatMap fun k => 32 :: Lib.itoa k
theorem Yd.part_succ (var : Int) (ks : List Int) (n : Nat) (h : n < ks.length) : Yd.part var ks (n + 1) = Yd.part var ks n ++ [32] ++ Lib.itoa ks[n] := by
  unfold Yd.part
  rw [List.take_succ_eq_append_getElem h, List.flatMap_append]
  simp
theorem Yd.part_len {var : Int} {ks : List Int} (hv : Yd.i64 var) (hk : ∀ k ∈ ks, Yd.i64 k) : ∀ n, n ≤ ks.length → (Yd.part var ks n).length ≤ 20 + 21 * n
  | 0, _ => by have := Yd.itoa_len hv; simpa [Yd.part] using this
  | n + 1, h => by
    have h1 := Yd.part_len hv hk n (by omega)
    have h2 := Yd.itoa_len (hk ks[n] (List.getElem_mem (by omega)))
    rw [Yd.part_succ var ks n (by omega)]
    simp only [List.length_append, List.length_singleton]
    omega
theorem Yd.strCells_byte (l : List UInt8) : Lib.strCells ⟨l.toArray⟩ = Lib.byteCells l := by rw [Lib.strCells_eq]
set_option maxHeartbeats 4000000 in
set_option maxRecDepth 1000000 in
theorem Yd.name_node (var leaf : Int) (ks : List Int) (ad : Option Addr) (cap : Nat) (w : World) (h0 : Yd.tab w) (hv : ¬ var < 0) (hi : Yd.i64 var) (hk : ∀ k ∈ ks, Yd.i64 k) (hlen : ks.length ≤ 1048576)
    (hr : ∀ j (h : j < ks.length), ∃ b o, ad = some ⟨b, o, none⟩ ∧ w.cell? ⟨b, o + j, none⟩ = some (.int .i64 ks[j])) :
    Calls Tryz.prog 141 #[.agg #[.int .i64 var, .slice ad ks.length cap, .int .i64 leaf]] w fun e w' => e = .returned (.string ⟨(Yd.part var ks ks.length).toArray⟩) ∧ Below w.heap.size w w' := by
  have hB := Yd.tab_lt h0
  have b0 : Below w.heap.size w ((w.alloc (.cells #[.int .i64 var, .slice ad ks.length cap, .int .i64 leaf] 74)).alloc (.cells #[.pointer none, .slice none 0 0] 203)) := ((Below.refl _ w).alloc (Nat.le_refl _) _).alloc (by simp) _
  have t0 := Yd.tab_below hB h0 b0
  have f0 : Lib.IsBuilderF 203 5 (w.heap.size + 1) (w.heap.size + 1) [] ((w.alloc (.cells #[.int .i64 var, .slice ad ks.length cap, .int .i64 leaf] 74)).alloc (.cells #[.pointer none, .slice none 0 0] 203)) := by
    have := Lib.IsBuilderF.of (Lib.fresh_isBuilder 203 5 (w.alloc (.cells #[.int .i64 var, .slice ad ks.length cap, .int .i64 leaf] 74)))
    simpa using this
  generalize hW : (w.alloc (.cells #[.int .i64 var, .slice ad ks.length cap, .int .i64 leaf] 74)).alloc (.cells #[.pointer none, .slice none 0 0] 203) = W at b0 t0 f0
  have hWs : W.heap.size = w.heap.size + 2 := by rw [← hW]; simp
  have hbx : W.heap[w.heap.size]? = some (.cells #[.int .i64 var, .slice ad ks.length cap, .int .i64 leaf] 74 (0, 0)) := by
    rw [← hW, Lib.alloc_old _ _ _ (by simp)]
    exact Go.heap_alloc_new w _
  have c0 : W.cell? ⟨w.heap.size, 0, none⟩ = some (.int .i64 var) := by rw [Lib.cell_of_heap hbx]; rfl
  have c1 : W.cell? ⟨w.heap.size, 1, none⟩ = some (.slice ad ks.length cap) := by rw [Lib.cell_of_heap hbx]; rfl
  go_enter Tryz.func141, Tryz.ntmps141
  go_wp2_with (go_at_call 173; refine (Yd.itoa hi _ t0).mono ?_)
  intro e W1 he b1 g1; cases he
  have f1 := Yd.isF_grow f0 g1
  have b1 : Below (w.heap.size + 1) W W1 := b1.mono (by omega)
  have hW1 : w.heap.size + 1 ≤ W1.heap.size := by have := b1.size; omega
  go_wp2_with (go_at_call 174; refine (Yd.Builder_WriteString_k (w.heap.size + 1) (w.heap.size + 1) [] ⟨(Lib.itoa var).toArray⟩ _ f1 (by have := Yd.itoa_len hi; simp [ByteArray.size]; omega) hW1).mono ?_)
  rintro e W2 ⟨rfl, f2, b2, k2⟩
  have f2' : Lib.IsBuilderF 203 5 (w.heap.size + 1) (w.heap.size + 1) (Lib.byteCells (Yd.part var ks 0)) W2 := by
    refine Or.inr ?_
    rw [Yd.strCells_byte] at f2
    simpa [Yd.part] using f2
  have bW2 := b1.trans b2
  have c1' := (bW2.cell (p := ⟨w.heap.size, 1, none⟩) (by simp)).trans c1
  have kc : ∀ j (h : j < ks.length), ∃ b o, ad = some ⟨b, o, none⟩ ∧ b < w.heap.size ∧ w.cell? ⟨b, o + j, none⟩ = some (.int .i64 ks[j]) := fun j h => by
    obtain ⟨b, o, h1, h2⟩ := hr j h
    exact ⟨b, o, h1, World.block_lt_of_cell? w ⟨b, o + j, none⟩ h2, h2⟩
  have tW2 := Yd.tab_below (B := w.heap.size + 1) (by omega) t0 bW2
  have sW2 := bW2.size
  clear f2 f1 g1 b2 b1 f0 t0 h0 c0 c1 hbx hW hr hW1 k2
  go_wp2
  go_loopw [20] (fun i wr => ∃ n, n ≤ ks.length ∧ i = .int .i64 n ∧ Lib.IsBuilderF 203 5 (w.heap.size + 1) (w.heap.size + 1) (Lib.byteCells (Yd.part var ks n)) wr ∧ Below (w.heap.size + 1) W2 wr)
    (fun i _ => ks.length - (intOf i).toNat)
  case atStart => exact ⟨0, Nat.zero_le _, rfl, f2', Below.refl _ _⟩
  case round =>
    obtain ⟨n, hn, rfl, hf, hbw⟩ := hrel
    have swr := hbw.size
    have hpl := Yd.part_len hi hk n hn
    by_cases hlt : n < ks.length
    · obtain ⟨b, o, had, hb, hc⟩ := kc n hlt
      subst had
      have hcw : wr.cell? ⟨b, o + n, none⟩ = some (.int .i64 ks[n]) := ((hbw.cell (p := ⟨b, o + n, none⟩) (by show b < _; omega)).trans (bW2.cell (p := ⟨b, o + n, none⟩) (by show b < _; omega))).trans ((b0.cell (p := ⟨b, o + n, none⟩) hb).trans hc)
      have hik := hk ks[n] (List.getElem_mem hlt)
      have twr := Yd.tab_below (B := w.heap.size + 1) (by omega) tW2 hbw
      generalize hx : ks[n] = x at hcw hik
      clear kc bW2 b0 hc
      go_wp2_with (go_at_call 175; refine (Yd.Builder_WriteByte_k (w.heap.size + 1) (w.heap.size + 1) _ 32 _ hf (by rw [Lib.byteCells_length]; omega) (by omega)).mono ?_)
      rintro e W3 ⟨rfl, f3, b3, k3⟩
      have t3 := Yd.tab_below (B := w.heap.size + 1) (by omega) twr b3
      have s3 := b3.size
      go_wp2_with (go_at_call 173; refine (Yd.itoa hik _ t3).mono ?_)
      rintro e W4 ⟨rfl, b4, g4⟩
      have f4 := Yd.isF_grow (Or.inr f3) g4
      have s4 := b4.size
      go_wp2_with (go_at_call 174; refine (Yd.Builder_WriteString_k (w.heap.size + 1) (w.heap.size + 1) _ ⟨(Lib.itoa x).toArray⟩ _ f4 (by have := Yd.itoa_len hik; simp only [List.length_append, Lib.byteCells_length, ByteArray.size, List.size_toArray, List.length_singleton]; omega) (by omega)).mono ?_)
      rintro e W5 ⟨rfl, f5, b5, k5⟩
      clear f3 f4 g4 k3 k5
      go_wp2
      go_roundw
      case rel =>
        refine ⟨n + 1, by omega, by simp, ?_, ((hbw.trans b3).trans (b4.mono (by omega))).trans b5⟩
        rw [Yd.part_succ var ks n hlt, hx]
        rw [Yd.strCells_byte] at f5
        refine Or.inr ?_
        simpa [Lib.byteCells] using f5
      case measure => simp [intOf]; omega
    · obtain rfl : n = ks.length := by omega
      go_wp2_with (go_at_call 176; refine (Tryz.Builder_String_any_k (w.heap.size + 1) (w.heap.size + 1) _ _ hf (by omega)).mono ?_)
      rintro e W3 ⟨rfl, f3, b3, k3⟩
      go_wp2
      go_ret
      exact ⟨rfl, b0.trans (((bW2.trans hbw).trans b3).mono (by omega))⟩
end Go.Proofs

/- The functions of the diagram seat that the interpreter does not walk: a node's name; what the interpreter knows of the world. -/
set_option linter.unusedVariables false
set_option linter.unusedSectionVars false
set_option maxRecDepth 100000
namespace Go.Ab
open Go.Proofs Go.RowKit

noncomputable instance : WInv := ⟨fun w => Yd.tab w⟩

/-- Whole numbers, each one of 64 bits. -/
def intsA : List AV → Option (List Int)
  | [] => some []
  | .int .i64 n :: l => if -9223372036854775808 ≤ n ∧ n ≤ 9223372036854775807 then (intsA l).map fun ns => n :: ns else none
  | _ => none
def nameA : List AV → Option AV
  | [.agg [.int .i64 v, .lst none _ _ ks, .int .i64 l]] => (intsA ks).bind fun ns =>
    if (-9223372036854775808 ≤ v ∧ v ≤ 9223372036854775807) ∧ (-9223372036854775808 ≤ l ∧ l ≤ 9223372036854775807) ∧ ns.length ≤ 1048576 then some (.str ⟨(Yd.nameB v l ns).toArray⟩) else none
  | _ => none
theorem intsA_eq : ∀ {ks : List AV} {ns : List Int}, intsA ks = some ns → ks = ns.map (AV.int .i64) ∧ ∀ n ∈ ns, Yd.i64 n
  | [], ns, h => by simp [intsA] at h; subst h; simp
  | x :: l, ns, h => by
    unfold intsA at h
    split at h
    · rename_i he; cases he
    · rename_i n l' he
      cases he
      split at h
      · rename_i hn
        obtain ⟨ms, hm, rfl⟩ := Option.map_eq_some_iff.1 h
        obtain ⟨h1, h2⟩ := intsA_eq hm
        exact ⟨by rw [h1]; rfl, fun n hn' => by
          rcases List.mem_cons.1 hn' with rfl | h'
          · exact hn
          · exact h2 _ h'⟩
      · cases h
    · cases h
theorem intsA_map {ns : List Int} (h : ∀ n ∈ ns, Yd.i64 n) : intsA (ns.map (AV.int .i64)) = some ns := by
  induction ns with
  | nil => rfl
  | cons n ns ih =>
    simp only [List.map_cons, intsA]
    rw [if_pos (show _ ∧ _ from h n List.mem_cons_self), ih fun k hk => h k (List.mem_cons_of_mem _ hk)]
    rfl
theorem flat_ints (ns : List Int) : flat (ns.map (AV.int .i64)) = ns.map (AV.int .i64) := by
  induction ns with
  | nil => rfl
  | cons n l ih => simp only [List.map_cons, flat, List.flatMap_cons, AV.cells] at ih ⊢; rw [ih]; rfl
theorem step_of_below {B : Nat} {w w' : World} {g : G} (hB : B ≤ w.heap.size) (h : Below w.heap.size w w') : Step B w g w' g where
  below := h.mono hB
  cell b off u _ hc := (h.cell (p := ⟨b, off, none⟩) (cell_lt hc)).trans hc
  shape b c e fr hb := ⟨c, (h.block b (Array.getElem?_eq_some_iff.1 hb).1).trans hb, rfl⟩
  wr b off _ hn := hn
  wrB b off _ := Iff.rfl
  box b _ := Iff.rfl
  loc nm b h := h
  tloc nm n b h := h
theorem memR_of_below {B : Nat} {w w' : World} {g : G} {m : Mem} (hB : B ≤ w.heap.size) (h : Below w.heap.size w w') (hm : MemR B w g m) : MemR B w' g m :=
  hm.keep (step_of_below hB h) (fun b _ hb => h.block b hb) (fun _ _ h => h) rfl rfl (fun b off hw => Nat.lt_of_lt_of_le (hm.wrLt b off hw) h.size) (fun b hw => Nat.lt_of_lt_of_le (hm.boxLt b hw) h.size)
theorem name_ok (vs : List AV) (v : AV) (h : nameA vs = some v) (m : Mem) : CallOk Tryz.prog 141 vs m v m := by
  unfold nameA at h
  split at h
  · rename_i var z o ks leaf
    simp only [Option.bind_eq_some_iff] at h
    obtain ⟨ns, hns, h⟩ := h
    split at h
    · rename_i hc
      obtain ⟨hv, hl, hlen⟩ := hc
      obtain rfl := Option.some.inj h
      obtain ⟨rfl, hin⟩ := intsA_eq hns
      intro B w g us hm hB hus hV
      have h0 := hV 0 (by simp)
      simp only [List.getD_cons_zero] at h0
      have hsz : us.size = 1 := by simpa using hus.symm
      obtain ⟨u, rfl⟩ : ∃ u, us = #[u] := ⟨us.getD 0 undef, by
        apply Array.ext (by simpa using hsz)
        intro i hi1 hi2
        obtain rfl : i = 0 := by simp at hi2; omega
        simp [Array.getD, hi1]⟩
      have h0 : V w g (.agg [.int .i64 var, .lst none z o (ns.map (AV.int .i64)), .int .i64 leaf]) u := h0
      cases h0
      rename_i ws hl3 hVs
      have htab : Yd.tab w := hm.inv w (Below.refl _ _)
      have a0 := hVs 0 (by simp); have a1 := hVs 1 (by simp); have a2 := hVs 2 (by simp)
      simp only [List.getD_cons_zero, List.getD_cons_succ] at a0 a1 a2
      have hws : ws = #[ws.getD 0 undef, ws.getD 1 undef, ws.getD 2 undef] := by
        have h3 : ws.size = 3 := by simpa using hl3.symm
        apply Array.ext (by simpa using h3)
        intro i hi1 hi2
        match i, hi2 with
        | 0, _ => simp [Array.getD, h3]
        | 1, _ => simp [Array.getD, h3]
        | 2, _ => simp [Array.getD, h3]
      generalize ws.getD 0 undef = q0 at a0 hws
      generalize ws.getD 1 undef = q1 at a1 hws
      generalize ws.getD 2 undef = q2 at a2 hws
      subst hws
      cases a0; cases a2
      have fin : ∀ {e : Ending} {w' : World}, e = .returned (.string ⟨(Yd.nameB var leaf ns).toArray⟩) ∧ Below w.heap.size w w' → ∃ v' g', e = .returned v' ∧ Step B w g w' g' ∧ MemR B w' g' m ∧ V w' g' (.str ⟨(Yd.nameB var leaf ns).toArray⟩) v' := by
        rintro e w' ⟨rfl, hb⟩
        exact ⟨_, g, rfl, step_of_below hB hb, memR_of_below hB hb hm, .str _⟩
      by_cases hneg : var < 0
      · refine (Yd.name_leaf var leaf q1 w htab hneg hl).mono fun e w' hr => fin ?_
        rw [Yd.nameB, if_pos hneg]; exact hr
      · have e1 : Yd.nameB var leaf ns = Yd.part var ns ns.length := by rw [Yd.nameB, if_neg hneg, Yd.part, List.take_length]
        rw [e1] at fin ⊢
        generalize hes : ns.map (AV.int .i64) = es at a1
        cases a1 with
        | nils _ _ _ =>
          obtain rfl : ns = [] := List.map_eq_nil_iff.1 hes
          exact (Yd.name_node var leaf [] none 0 w htab hneg hv hin (by simp) (fun j h => by simp at h)).mono fun e w' hr => fin hr
        | lst _ _ _ a cap us hs hcl hmx hsh hcell hvv ho =>
          subst hes
          rw [List.length_map] at *
          have hfl := flat_ints ns
          refine (Yd.name_node var leaf ns (some a) cap w htab hneg hv hin hlen (fun j hj => ?_)).mono fun e w' hr => fin hr
          rw [hfl] at hcell hvv
          have c1 := (hcell j (by simpa using hj)).1
          have c2 := hvv j (by simpa using hj)
          have hg : (ns.map (AV.int .i64)).getD j .any = .int .i64 ns[j] := by simp [List.getD_eq_getElem?_getD, hj]
          rw [hg] at c2
          generalize us j = q at c1 c2
          cases c2
          have hsp : a.spot = none := hs.resolve_left (by omega)
          obtain ⟨bl, off, sp⟩ := a
          simp only at hsp c1
          subst hsp
          exact ⟨bl, off, rfl, c1⟩
    · cases h
  · cases h
end Go.Ab

/- Names of nodes: no two nodes have the same. Plain Lean. -/
set_option linter.unusedVariables false
set_option linter.unusedSimpArgs false
namespace Go.Ab
open Go.Proofs

/-- A node: its variable (-1: a leaf), its kids, its leaf's number. -/
structure ND where
  var : Int
  kids : List Int
  leaf : Int
  deriving DecidableEq
def ND.key (n : ND) : List UInt8 := Yd.nameB n.var n.leaf n.kids
/-- A node as a store keeps it. -/
def ND.ok (n : ND) : Prop := (n.var = -1 ∧ n.kids = [] ∧ 0 ≤ n.leaf ∧ n.leaf ≤ 2147483647) ∨ (0 ≤ n.var ∧ n.var < 1000 ∧ n.leaf = 0 ∧ (∀ k ∈ n.kids, 0 ≤ k ∧ k < 1000000) ∧ n.kids.length ≤ 64)

theorem dd_ne (u : Nat) : Lib.decDigits u ≠ [] := by
  rw [Lib.decDigits]; split <;> simp
theorem dd_dig (u : Nat) : ∀ b ∈ Lib.decDigits u, 48 ≤ b.toNat ∧ b.toNat ≤ 57 := by
  induction u using Nat.strongRecOn with
  | ind u ih =>
    rw [Lib.decDigits]
    have h8 : ∀ v, v < 10 → 48 ≤ (UInt8.ofNat (48 + v)).toNat ∧ (UInt8.ofNat (48 + v)).toNat ≤ 57 := fun v hv => by
      have : (UInt8.ofNat (48 + v)).toNat = 48 + v := by simp; omega
      omega
    split
    · rename_i h
      intro b hb
      simp only [List.mem_singleton] at hb
      rw [hb]; exact h8 u h
    · intro b hb
      rcases List.mem_append.1 hb with hb | hb
      · exact ih (u / 10) (by omega) b hb
      · simp only [List.mem_singleton] at hb
        rw [hb]; exact h8 (u % 10) (by omega)
def valD (l : List UInt8) : Nat := l.foldl (fun a b => a * 10 + (b.toNat - 48)) 0
theorem dd_val (u : Nat) : valD (Lib.decDigits u) = u := by
  induction u using Nat.strongRecOn with
  | ind u ih =>
    rw [Lib.decDigits]
    have h8 : ∀ v, v < 10 → (UInt8.ofNat (48 + v)).toNat = 48 + v := fun v hv => by simp; omega
    split
    · rename_i h
      simp only [valD, List.foldl_cons, List.foldl_nil, h8 u h]; omega
    · rename_i h
      have := ih (u / 10) (by omega)
      unfold valD at this ⊢
      rw [List.foldl_append, this]
      simp only [List.foldl_cons, List.foldl_nil, h8 (u % 10) (by omega)]; omega
/-- Where a row of digits ends. -/
def brk (x : List UInt8) : Prop := x = [] ∨ ∃ y, x = 32 :: y
theorem split_dig : ∀ {a b x y : List UInt8}, (∀ c ∈ a, 48 ≤ c.toNat ∧ c.toNat ≤ 57) → (∀ c ∈ b, 48 ≤ c.toNat ∧ c.toNat ≤ 57) → brk x → brk y → a ++ x = b ++ y → a = b ∧ x = y
  | [], [], x, y, _, _, _, _, h => ⟨rfl, by simpa using h⟩
  | [], c :: b, x, y, _, hb, hx, _, h => by
    exfalso
    have hc := hb c List.mem_cons_self
    rcases hx with rfl | ⟨z, rfl⟩
    · simp at h
    · simp only [List.nil_append, List.cons_append, List.cons.injEq] at h
      rw [← h.1] at hc; simp at hc
  | c :: a, [], x, y, ha, _, _, hy, h => by
    exfalso
    have hc := ha c List.mem_cons_self
    rcases hy with rfl | ⟨z, rfl⟩
    · simp at h
    · simp only [List.nil_append, List.cons_append, List.cons.injEq] at h
      rw [h.1] at hc; simp at hc
  | c :: a, d :: b, x, y, ha, hb, hx, hy, h => by
    simp only [List.cons_append, List.cons.injEq] at h
    obtain ⟨e1, e2⟩ := split_dig (fun c hc => ha c (List.mem_cons_of_mem _ hc)) (fun c hc => hb c (List.mem_cons_of_mem _ hc)) hx hy h.2
    exact ⟨by rw [h.1, e1], e2⟩
theorem itoa_nn {n : Int} (h : 0 ≤ n) : Lib.itoa n = Lib.decDigits n.toNat := by unfold Lib.itoa; rw [if_neg (by omega)]
theorem itoa_split {a b : Int} (ha : 0 ≤ a) (hb : 0 ≤ b) {x y : List UInt8} (hx : brk x) (hy : brk y) (h : Lib.itoa a ++ x = Lib.itoa b ++ y) : a = b ∧ x = y := by
  rw [itoa_nn ha, itoa_nn hb] at h
  obtain ⟨e1, e2⟩ := split_dig (dd_dig _) (dd_dig _) hx hy h
  have := congrArg valD e1
  rw [dd_val, dd_val] at this
  exact ⟨by omega, e2⟩
theorem brk_kids (ks : List Int) : brk (ks.flatMap fun k => 32 :: Lib.itoa k) := by
  cases ks with
  | nil => exact .inl rfl
  | cons k ks => exact .inr ⟨_, by rw [List.flatMap_cons]; rfl⟩
theorem kids_inj : ∀ {a b : List Int}, (∀ k ∈ a, 0 ≤ k) → (∀ k ∈ b, 0 ≤ k) → (a.flatMap fun k => 32 :: Lib.itoa k) = (b.flatMap fun k => 32 :: Lib.itoa k) → a = b
  | [], [], _, _, _ => rfl
  | [], k :: b, _, _, h => by simp [List.flatMap_cons] at h
  | k :: a, [], _, _, h => by simp [List.flatMap_cons] at h
  | k :: a, l :: b, ha, hb, h => by
    simp only [List.flatMap_cons, List.cons_append, List.cons.injEq, true_and] at h
    obtain ⟨e1, e2⟩ := itoa_split (ha k List.mem_cons_self) (hb l List.mem_cons_self) (brk_kids a) (brk_kids b) h
    rw [e1, kids_inj (fun k hk => ha k (List.mem_cons_of_mem _ hk)) (fun k hk => hb k (List.mem_cons_of_mem _ hk)) e2]
theorem key_inj {a b : ND} (ha : a.ok) (hb : b.ok) (h : a.key = b.key) : a = b := by
  obtain ⟨v, ks, l⟩ := a
  obtain ⟨v', ks', l'⟩ := b
  unfold ND.key Yd.nameB at h
  simp only at h
  have lead : ∀ {n : Int} {x : List UInt8} {y : List UInt8}, 0 ≤ n → 61 :: x = Lib.itoa n ++ y → False := fun {n x y} hn he => by
    rw [itoa_nn hn] at he
    cases hd : Lib.decDigits n.toNat with
    | nil => exact dd_ne _ hd
    | cons c d =>
      have := dd_dig n.toNat c (by rw [hd]; exact List.mem_cons_self)
      rw [hd] at he
      simp only [List.cons_append, List.cons.injEq] at he
      rw [← he.1] at this
      simp at this
  rcases ha with ⟨h1, h2, h3, h4⟩ | ⟨h1, h2, h3, h4, h5⟩ <;> rcases hb with ⟨k1, k2, k3, k4⟩ | ⟨k1, k2, k3, k4, k5⟩ <;> simp only at h1 h2 h3 h4 k1 k2 k3 k4
  · subst h1; subst k1; subst h2; subst k2
    rw [if_pos (by decide), if_pos (by decide)] at h
    simp only [List.cons.injEq, true_and] at h
    have := (itoa_split h3 k3 (x := []) (y := []) (.inl rfl) (.inl rfl) (by simpa using h)).1
    rw [this]
  · subst h1
    rw [if_pos (by decide), if_neg (by omega)] at h
    exact (lead k1 h).elim
  · subst k1
    rw [if_neg (by omega), if_pos (by decide)] at h
    exact (lead h1 h.symm).elim
  · rw [if_neg (by omega), if_neg (by omega)] at h
    obtain ⟨e1, e2⟩ := itoa_split h1 k1 (brk_kids _) (brk_kids _) h
    rw [e1, h3, k3, kids_inj (fun k hk => (h4 k hk).1) (fun k hk => (k4 k hk).1) e2]
theorem name_ND {n : ND} (h : n.ok) (z : Bool) (o : Own) : nameA [.agg [.int .i64 n.var, .lst none z o (n.kids.map (AV.int .i64)), .int .i64 n.leaf]] = some (.str ⟨n.key.toArray⟩) := by
  have hk : ∀ k ∈ n.kids, Yd.i64 k := fun k hk => by
    rcases h with ⟨_, h2, _⟩ | ⟨_, _, _, h4, _⟩
    · rw [h2] at hk; cases hk
    · have := h4 k hk; constructor <;> omega
  have hb : ((-9223372036854775808 ≤ n.var ∧ n.var ≤ 9223372036854775807) ∧ (-9223372036854775808 ≤ n.leaf ∧ n.leaf ≤ 9223372036854775807) ∧ n.kids.length ≤ 1048576) := by
    rcases h with ⟨h1, h2, h3, h4⟩ | ⟨h1, h2, h3, h4, h5⟩
    · rw [h2]; refine ⟨by omega, by omega, by simp⟩
    · omega
  unfold nameA
  simp only []
  rw [intsA_map hk, Option.bind_some, if_pos hb]
  rfl
end Go.Ab

/- The settings of the interpreter for this seat. -/
set_option maxRecDepth 100000
namespace Go.Ab
open Go.Proofs.Tryz
def mkMask : Nat → Nat → List Bool
  | 0, _ => []
  | n + 1, x => Nat.beq (x % 2) 1 :: mkMask n (x / 2)
def masksOf : List (Nat × Nat × Masks) := [(3, 17, ⟨(mkMask 122 1813388729421943762112512), (mkMask 122 32768), (mkMask 122 64)⟩),
  (4, 19, ⟨(mkMask 186 72692156019487586799426948609895424), (mkMask 186 814080), (mkMask 186 256)⟩),
  (4, 28, ⟨(mkMask 186 137015778499772148581595453067151533092764647424), (mkMask 186 0), (mkMask 186 256)⟩),
  (5, 9, ⟨(mkMask 196 2115620184325601055735810), (mkMask 196 0), (mkMask 196 16)⟩),
  (5, 25, ⟨(mkMask 196 670466799128826375531776824380375888017523967011062274), (mkMask 196 2115620184325601055736322), (mkMask 196 16)⟩),
  (7, 15, ⟨(mkMask 105 2066035336255470798344), (mkMask 105 1015808), (mkMask 105 256)⟩),
  (9, 13, ⟨(mkMask 152 252201579132804104), (mkMask 152 49160), (mkMask 152 256)⟩),
  (10, 4, ⟨(mkMask 29 8), (mkMask 29 8), (mkMask 29 4)⟩),
  (11, 4, ⟨(mkMask 21 1792), (mkMask 21 0), (mkMask 21 4)⟩),
  (12, 3, ⟨(mkMask 22 1826), (mkMask 22 32), (mkMask 22 16)⟩),
  (14, 3, ⟨(mkMask 32 99), (mkMask 32 32), (mkMask 32 16)⟩),
  (16, 4, ⟨(mkMask 45 28770), (mkMask 45 32), (mkMask 45 16)⟩),
  (16, 8, ⟨(mkMask 45 30562), (mkMask 45 29282), (mkMask 45 16)⟩),
  (17, 11, ⟨(mkMask 123 31525197391598860), (mkMask 123 4352), (mkMask 123 192)⟩),
  (17, 17, ⟨(mkMask 123 528905077606597655631116), (mkMask 123 31525197391598860), (mkMask 123 192)⟩),
  (17, 28, ⟨(mkMask 123 1135814937804493543741046076215296), (mkMask 123 4194304), (mkMask 123 192)⟩),
  (18, 4, ⟨(mkMask 50 229377), (mkMask 50 0), (mkMask 50 16)⟩),
  (18, 8, ⟨(mkMask 50 29589729), (mkMask 50 229601), (mkMask 50 16)⟩),
  (19, 3, ⟨(mkMask 49 114823), (mkMask 49 128), (mkMask 49 64)⟩),
  (19, 7, ⟨(mkMask 49 29476487), (mkMask 49 116359), (mkMask 49 64)⟩),
  (24, 7, ⟨(mkMask 72 481036337713), (mkMask 72 561), (mkMask 72 448)⟩),
  (25, 5, ⟨(mkMask 37 114722), (mkMask 37 0), (mkMask 37 16)⟩),
  (26, 3, ⟨(mkMask 68 918279), (mkMask 68 775), (mkMask 68 192)⟩),
  (26, 8, ⟨(mkMask 68 30064771847), (mkMask 68 768), (mkMask 68 192)⟩),
  (26, 12, ⟨(mkMask 68 15423227585287), (mkMask 68 30064788231), (mkMask 68 192)⟩),
  (27, 4, ⟨(mkMask 26 12291), (mkMask 26 0), (mkMask 26 16)⟩),
  (36, 6, ⟨(mkMask 85 469762055), (mkMask 85 7), (mkMask 85 192)⟩),
  (36, 11, ⟨(mkMask 85 7), (mkMask 85 3), (mkMask 85 192)⟩),
  (43, 8, ⟨(mkMask 77 29360321), (mkMask 77 128), (mkMask 77 48)⟩),
  (43, 13, ⟨(mkMask 77 504403158294856897), (mkMask 77 29361345), (mkMask 77 48)⟩),
  (45, 4, ⟨(mkMask 29 8), (mkMask 29 8), (mkMask 29 4)⟩),
  (47, 3, ⟨(mkMask 32 99), (mkMask 32 32), (mkMask 32 16)⟩),
  (48, 4, ⟨(mkMask 45 28770), (mkMask 45 32), (mkMask 45 16)⟩),
  (48, 8, ⟨(mkMask 45 30562), (mkMask 45 29282), (mkMask 45 16)⟩),
  (49, 6, ⟨(mkMask 44 58720896), (mkMask 44 640), (mkMask 44 112)⟩),
  (50, 9, ⟨(mkMask 65 246290604626184), (mkMask 65 4352), (mkMask 65 768)⟩),
  (51, 3, ⟨(mkMask 119 28716), (mkMask 119 44), (mkMask 119 16)⟩),
  (51, 10, ⟨(mkMask 119 108086391056891916), (mkMask 119 12), (mkMask 119 16)⟩),
  (51, 16, ⟨(mkMask 119 56668397794435742564364), (mkMask 119 0), (mkMask 119 16)⟩),
  (51, 21, ⟨(mkMask 119 237684544211190807216374415884), (mkMask 119 56668397794435742564364), (mkMask 119 16)⟩),
  (52, 3, ⟨(mkMask 33 49344), (mkMask 33 192), (mkMask 33 64)⟩),
  (53, 4, ⟨(mkMask 47 28678), (mkMask 47 6), (mkMask 47 28)⟩),
  (54, 3, ⟨(mkMask 18 25), (mkMask 18 8), (mkMask 18 4)⟩),
  (55, 3, ⟨(mkMask 48 114738), (mkMask 48 48), (mkMask 48 16)⟩),
  (55, 7, ⟨(mkMask 48 14795250), (mkMask 48 115186), (mkMask 48 16)⟩),
  (58, 2, ⟨(mkMask 45 9), (mkMask 45 0), (mkMask 45 4)⟩),
  (58, 4, ⟨(mkMask 45 1849), (mkMask 45 57), (mkMask 45 4)⟩),
  (59, 3, ⟨(mkMask 88 234881054), (mkMask 88 30), (mkMask 88 12)⟩),
  (59, 8, ⟨(mkMask 88 123145302310942), (mkMask 88 30), (mkMask 88 12)⟩),
  (60, 3, ⟨(mkMask 57 7177), (mkMask 57 8), (mkMask 57 4)⟩),
  (61, 3, ⟨(mkMask 67 7177), (mkMask 67 8), (mkMask 67 4)⟩),
  (62, 6, ⟨(mkMask 71 7183), (mkMask 71 1033), (mkMask 71 768)⟩),
  (63, 4, ⟨(mkMask 50 229377), (mkMask 50 0), (mkMask 50 16)⟩),
  (63, 8, ⟨(mkMask 50 29589729), (mkMask 50 229601), (mkMask 50 16)⟩),
  (70, 3, ⟨(mkMask 30 7219), (mkMask 30 51), (mkMask 30 16)⟩),
  (75, 4, ⟨(mkMask 73 99), (mkMask 73 32), (mkMask 73 16)⟩),
  (75, 8, ⟨(mkMask 73 483), (mkMask 73 227), (mkMask 73 16)⟩),
  (76, 4, ⟨(mkMask 44 227), (mkMask 44 32), (mkMask 44 16)⟩),
  (77, 7, ⟨(mkMask 45 35), (mkMask 45 0), (mkMask 45 16)⟩),
  (78, 6, ⟨(mkMask 44 451), (mkMask 44 64), (mkMask 44 48)⟩),
  (82, 5, ⟨(mkMask 37 114722), (mkMask 37 0), (mkMask 37 16)⟩),
  (83, 3, ⟨(mkMask 25 114696), (mkMask 25 8), (mkMask 25 4)⟩),
  (86, 8, ⟨(mkMask 87 27021597764255807), (mkMask 87 32813), (mkMask 87 4096)⟩),
  (87, 3, ⟨(mkMask 25 803), (mkMask 25 32), (mkMask 25 16)⟩),
  (89, 4, ⟨(mkMask 27 12291), (mkMask 27 0), (mkMask 27 16)⟩),
  (90, 3, ⟨(mkMask 18 456), (mkMask 18 8), (mkMask 18 4)⟩),
  (91, 7, ⟨(mkMask 128 3975), (mkMask 128 1927), (mkMask 128 64)⟩),
  (91, 14, ⟨(mkMask 128 4487), (mkMask 128 129), (mkMask 128 64)⟩),
  (91, 18, ⟨(mkMask 128 8873554201597605810476922437761), (mkMask 128 129), (mkMask 128 64)⟩),
  (99, 2, ⟨(mkMask 29 3591), (mkMask 29 4), (mkMask 29 64)⟩),
  (101, 13, ⟨(mkMask 106 56668397794435742638111), (mkMask 106 73751), (mkMask 106 1024)⟩),
  (103, 10, ⟨(mkMask 85 126100789566382111), (mkMask 85 8211), (mkMask 85 1024)⟩),
  (104, 7, ⟨(mkMask 49 14680325), (mkMask 49 256), (mkMask 49 192)⟩),
  (107, 2, ⟨(mkMask 92 3587), (mkMask 92 2), (mkMask 92 16)⟩),
  (107, 10, ⟨(mkMask 92 504403158265499235), (mkMask 92 3587), (mkMask 92 16)⟩),
  (108, 3, ⟨(mkMask 64 28683), (mkMask 64 9), (mkMask 64 4)⟩),
  (108, 9, ⟨(mkMask 64 120259113083), (mkMask 64 28795), (mkMask 64 4)⟩),
  (109, 3, ⟨(mkMask 23 3592), (mkMask 23 8), (mkMask 23 4)⟩),
  (110, 7, ⟨(mkMask 46 58721065), (mkMask 46 768), (mkMask 46 256)⟩),
  (111, 8, ⟨(mkMask 78 240518168820), (mkMask 78 244), (mkMask 78 16)⟩),
  (111, 13, ⟨(mkMask 78 492581209243892), (mkMask 78 144), (mkMask 78 16)⟩),
  (112, 5, ⟨(mkMask 72 481036337162), (mkMask 72 10), (mkMask 72 4)⟩),
  (115, 3, ⟨(mkMask 33 99), (mkMask 33 32), (mkMask 33 16)⟩),
  (119, 5, ⟨(mkMask 84 160), (mkMask 84 32), (mkMask 84 16)⟩),
  (119, 13, ⟨(mkMask 84 515), (mkMask 84 515), (mkMask 84 16)⟩),
  (119, 15, ⟨(mkMask 84 515), (mkMask 84 513), (mkMask 84 16)⟩),
  (119, 16, ⟨(mkMask 84 515), (mkMask 84 515), (mkMask 84 16)⟩),
  (119, 18, ⟨(mkMask 84 515), (mkMask 84 515), (mkMask 84 16)⟩),
  (121, 4, ⟨(mkMask 37 12294), (mkMask 37 6), (mkMask 37 28)⟩),
  (122, 4, ⟨(mkMask 53 24579), (mkMask 53 0), (mkMask 53 16)⟩),
  (122, 9, ⟨(mkMask 53 12884926499), (mkMask 53 24579), (mkMask 53 16)⟩),
  (124, 3, ⟨(mkMask 36 29360153), (mkMask 36 17), (mkMask 36 0)⟩),
  (125, 2, ⟨(mkMask 63 455), (mkMask 63 199), (mkMask 63 0)⟩),
  (125, 7, ⟨(mkMask 63 71), (mkMask 63 0), (mkMask 63 0)⟩),
  (125, 9, ⟨(mkMask 63 455), (mkMask 63 199), (mkMask 63 0)⟩),
  (127, 4, ⟨(mkMask 71 14680098), (mkMask 71 32), (mkMask 71 16)⟩),
  (127, 8, ⟨(mkMask 71 1893728738), (mkMask 71 14680418), (mkMask 71 16)⟩),
  (130, 7, ⟨(mkMask 60 117440610), (mkMask 60 96), (mkMask 60 16)⟩),
  (131, 7, ⟨(mkMask 49 35), (mkMask 49 0), (mkMask 49 16)⟩),
  (132, 7, ⟨(mkMask 59 29360322), (mkMask 59 64), (mkMask 59 48)⟩),
  (133, 2, ⟨(mkMask 22 9), (mkMask 22 9), (mkMask 22 4)⟩),
  (136, 6, ⟨(mkMask 27 24), (mkMask 27 8), (mkMask 27 4)⟩),
  (137, 11, ⟨(mkMask 98 1539), (mkMask 98 513), (mkMask 98 112)⟩),
  (137, 14, ⟨(mkMask 98 7683), (mkMask 98 3587), (mkMask 98 112)⟩),
  (141, 6, ⟨(mkMask 30 1835016), (mkMask 30 8), (mkMask 30 4)⟩),
  (142, 4, ⟨(mkMask 45 1610612748), (mkMask 45 0), (mkMask 45 16)⟩),
  (143, 2, ⟨(mkMask 17 225), (mkMask 17 0), (mkMask 17 4)⟩),
  (144, 4, ⟨(mkMask 26 12291), (mkMask 26 0), (mkMask 26 16)⟩),
  (145, 2, ⟨(mkMask 19 387), (mkMask 19 0), (mkMask 19 16)⟩),
  (158, 4, ⟨(mkMask 32 229382), (mkMask 32 0), (mkMask 32 64)⟩),
  (159, 4, ⟨(mkMask 26 12291), (mkMask 26 0), (mkMask 26 16)⟩),
  (160, 4, ⟨(mkMask 32 229382), (mkMask 32 0), (mkMask 32 64)⟩),
  (162, 5, ⟨(mkMask 62 31525197391593472), (mkMask 62 0), (mkMask 62 4)⟩),
  (164, 2, ⟨(mkMask 21 9), (mkMask 21 9), (mkMask 21 4)⟩),
  (165, 1, ⟨(mkMask 53 271), (mkMask 53 0), (mkMask 53 0)⟩),
  (165, 4, ⟨(mkMask 53 783), (mkMask 53 271), (mkMask 53 0)⟩),
  (166, 3, ⟨(mkMask 220 3091), (mkMask 220 1027), (mkMask 220 0)⟩),
  (166, 9, ⟨(mkMask 220 9217), (mkMask 220 0), (mkMask 220 0)⟩),
  (166, 15, ⟨(mkMask 220 49173), (mkMask 220 16389), (mkMask 220 0)⟩),
  (166, 21, ⟨(mkMask 220 147457), (mkMask 220 0), (mkMask 220 0)⟩),
  (166, 33, ⟨(mkMask 220 8126495), (mkMask 220 1835039), (mkMask 220 0)⟩),
  (170, 4, ⟨(mkMask 41 451), (mkMask 41 192), (mkMask 41 48)⟩),
  (172, 4, ⟨(mkMask 42 899), (mkMask 42 384), (mkMask 42 64)⟩),
  (178, 2, ⟨(mkMask 134 783), (mkMask 134 0), (mkMask 134 0)⟩),
  (180, 2, ⟨(mkMask 19 387), (mkMask 19 0), (mkMask 19 16)⟩),
  (183, 2, ⟨(mkMask 26 3), (mkMask 26 1), (mkMask 26 16)⟩),
  (184, 3, ⟨(mkMask 19 456), (mkMask 19 8), (mkMask 19 4)⟩),
  (185, 2, ⟨(mkMask 96 3587), (mkMask 96 2), (mkMask 96 16)⟩),
  (185, 10, ⟨(mkMask 96 8070450532247932515), (mkMask 96 3587), (mkMask 96 16)⟩),
  (186, 2, ⟨(mkMask 58 3093), (mkMask 58 1045), (mkMask 58 0)⟩),
  (187, 14, ⟨(mkMask 315 32256), (mkMask 315 13824), (mkMask 315 112)⟩),
  (187, 18, ⟨(mkMask 315 228864), (mkMask 315 97792), (mkMask 315 112)⟩),
  (187, 24, ⟨(mkMask 315 1096126227998177188652763624537212264741950291456), (mkMask 315 884224), (mkMask 315 112)⟩),
  (187, 41, ⟨(mkMask 315 165641912322973530898434140694648610858826615332089277323900581371805184), (mkMask 315 622080), (mkMask 315 112)⟩),
  (187, 51, ⟨(mkMask 315 11656013353354374425516771440941113439854441034312837127510874458433425711231284553216), (mkMask 315 33562624), (mkMask 315 112)⟩),
  (190, 1, ⟨(mkMask 49 71), (mkMask 49 0), (mkMask 49 0)⟩),
  (190, 4, ⟨(mkMask 49 199), (mkMask 49 71), (mkMask 49 0)⟩),
  (191, 4, ⟨(mkMask 56 961), (mkMask 56 449), (mkMask 56 0)⟩),
  (191, 8, ⟨(mkMask 56 1217), (mkMask 56 0), (mkMask 56 0)⟩),
  (192, 5, ⟨(mkMask 65 963), (mkMask 65 0), (mkMask 65 0)⟩),
  (194, 2, ⟨(mkMask 32 193), (mkMask 32 0), (mkMask 32 0)⟩),
  (195, 3, ⟨(mkMask 133 391), (mkMask 133 0), (mkMask 133 64)⟩),
  (195, 5, ⟨(mkMask 133 391), (mkMask 133 391), (mkMask 133 64)⟩),
  (195, 14, ⟨(mkMask 133 903), (mkMask 133 391), (mkMask 133 64)⟩),
  (195, 20, ⟨(mkMask 133 1415), (mkMask 133 391), (mkMask 133 64)⟩),
  (197, 3, ⟨(mkMask 84 1539), (mkMask 84 1539), (mkMask 84 256)⟩),
  (197, 5, ⟨(mkMask 84 1539), (mkMask 84 1539), (mkMask 84 256)⟩),
  (198, 3, ⟨(mkMask 168 3075), (mkMask 168 3075), (mkMask 168 768)⟩),
  (198, 5, ⟨(mkMask 168 3075), (mkMask 168 3075), (mkMask 168 768)⟩),
  (198, 13, ⟨(mkMask 168 3075), (mkMask 168 3075), (mkMask 168 768)⟩),
  (198, 15, ⟨(mkMask 168 3075), (mkMask 168 3075), (mkMask 168 768)⟩),
  (201, 1, ⟨(mkMask 38 1039), (mkMask 38 0), (mkMask 38 0)⟩),
  (202, 4, ⟨(mkMask 43 451), (mkMask 43 192), (mkMask 43 48)⟩),
  (204, 3, ⟨(mkMask 40 28706), (mkMask 40 32), (mkMask 40 16)⟩),
  (207, 1, ⟨(mkMask 76 269), (mkMask 76 0), (mkMask 76 0)⟩),
  (215, 1, ⟨(mkMask 167 19), (mkMask 167 19), (mkMask 167 0)⟩)]
def ordsOf : List (Nat × Nat × List Nat) := [(9, 19, [0, 1, 2, 4, 5, 6, 3, 7, 8, 9]), (9, 29, [0, 1, 2, 4, 5, 6, 7, 3, 8, 9]), (59, 12, [0, 1, 2, 3, 4, 5, 6, 7, 8, 9, 10, 11, 12, 13, 14, 15, 16]), (67, 1, [0, 1, 3, 4, 2, 5, 6, 7]), (97, 1, [0, 1, 2, 3, 4, 5, 6, 8, 7, 9, 10, 11])]
def ahsOf : List (Nat × Nat × List Nat) := [(3, 19, [0, 0, 3, 7, 15, 0, 0, 96, 224, 480, 1023, 2047, 4095, 4095, 16383, 32767, 65535, 4095, 4095, 397311, 921599, 1970175, 4194303, 8388607, 16777215]),
  (3, 21, [0, 0, 0, 6, 14, 30, 63, 127]),
  (3, 23, [0, 0, 3, 7, 15, 31, 63]),
  (4, 30, [0, 0, 3, 7, 15, 0, 0, 96, 224, 480, 1023, 2047, 4095, 4095, 16383, 32767, 65535, 4095, 4095, 397311, 921599, 1970175, 4194303, 8388607, 16777215]),
  (6, 13, [0, 1, 3, 7, 7, 7, 7, 103, 7, 503, 1023, 2047, 4095, 8191, 16383, 32767, 65535, 131071, 262143, 524287, 1048575, 2097151, 4194303, 8388607]),
  (7, 18, [0, 0, 0, 6, 15, 31]),
  (8, 2, [0, 1, 0, 4, 0, 16, 48, 112, 252, 0, 512, 0, 2048, 6144, 14336, 32256, 65535, 131071]),
  (8, 14, [0, 0, 2, 6, 15, 0, 32, 96, 255, 0, 512, 1536, 4095, 8191]),
  (8, 15, [0, 1, 0, 0, 8, 0, 56, 120, 0, 504, 1023, 2047]),
  (9, 19, [0, 0, 2, 7, 0, 0, 32, 127, 255, 511]),
  (9, 24, [0, 0, 0, 6, 15, 0, 0, 64, 224, 511, 1023]),
  (9, 26, [0, 1, 0, 7, 15, 31, 63, 127, 255, 511, 1023]),
  (9, 29, [0, 0, 2, 7, 0, 16, 48, 112, 255, 511]),
  (17, 13, [0, 1, 3, 7, 0, 31, 63, 0, 0, 384, 0, 0, 3199, 8191]),
  (17, 19, [0, 0, 0, 4, 14, 30, 0, 126, 255, 0, 1023]),
  (19, 10, [0, 0, 0, 6, 15, 31]),
  (22, 1, [0, 1, 0, 7, 15, 31]),
  (22, 2, [0, 1, 0, 4, 15, 0, 32, 0, 128, 511, 0, 1024, 0, 4096, 16383, 32767, 65535, 131071]),
  (22, 3, [0, 1, 0, 0, 12, 31, 63]),
  (24, 3, [0, 0, 3, 7, 15, 31, 31, 95, 223, 479, 991, 2047, 4095, 8191]),
  (27, 6, [0, 0, 3, 7, 0, 0, 48, 112, 255]),
  (34, 3, [0, 1, 3, 7, 7, 23, 55, 119, 247, 511, 1023, 2047, 4095, 8191, 4095, 20479, 53247, 118783, 4095, 511999, 1036287, 2097151, 4194303, 8388607, 16777215, 16777215, 67108863, 134217727]),
  (36, 12, [0, 1, 3, 7, 0, 31, 63, 127, 0, 0, 512, 1536, 3584, 0, 15872, 32256, 65024, 130816, 261888, 524287, 1048575, 2097151]),
  (39, 3, [0, 0, 3, 7, 15, 31, 63, 127, 255, 511, 511, 1535, 3583, 7679, 15871, 32767, 65535, 131071, 262143, 524287, 1048575, 2097151, 4194303, 4194303, 12582911, 29360127, 62914559, 4194303, 264241151, 532676607, 1073741823, 2147483647]),
  (43, 11, [0, 1, 3, 7, 0, 31, 63, 127, 0, 256, 768, 1792, 0, 7936, 16128, 32512, 65535, 0, 262143]),
  (44, 3, [0, 1, 3, 7, 0, 31, 63]),
  (46, 3, [0, 1, 3, 7, 7, 31, 63, 127]),
  (50, 11, [0, 1, 0, 4, 0, 0, 0, 64, 252, 508, 1023, 2047, 4095]),
  (51, 12, [0, 1, 0, 7, 15, 0, 32, 0, 224, 480, 1023, 2047]),
  (51, 18, [0, 1, 0, 7, 15, 31, 0, 64, 0, 448, 960, 1984, 4095]),
  (51, 23, [0, 1, 0, 7, 15, 0, 63, 127, 0, 256, 0, 1792, 3840, 0, 16128, 32512, 65535]),
  (52, 5, [0, 1, 0, 4, 15, 31, 63]),
  (52, 6, [0, 1, 0, 0, 0, 24, 63, 127]),
  (53, 6, [0, 1, 0, 7, 15, 0, 32, 0, 0, 256, 0, 1024, 4064, 8191, 16383]),
  (53, 9, [0, 1, 0, 4, 12, 28, 63, 127, 0, 511, 1023, 2047, 4095]),
  (56, 4, [0, 1, 3, 7, 15, 31, 15, 127, 255, 511, 1023]),
  (59, 1, [0, 1, 0, 4, 12, 28, 63, 0, 128, 511, 0, 2047]),
  (59, 10, [0, 1, 0, 4, 0, 16, 0, 64, 192, 448, 1008, 0, 2048, 0, 8192, 24576, 57344, 129024, 262140, 524284, 1048575, 2097151, 4194303]),
  (59, 12, [0, 1, 0, 4, 0, 16, 48, 112, 252, 0, 512, 0, 2048, 8191, 0, 16383, 65535]),
  (60, 6, [0, 1, 3, 7, 15, 31, 63, 63, 191, 511, 1023, 63, 4095, 8191, 16383, 32767, 32767, 98303, 262143, 524287, 1048575, 32767, 2129919, 8388607, 16777215, 33554431, 67108863]),
  (60, 10, [0, 0, 3, 7]),
  (61, 6, [0, 1, 3, 7, 15, 31, 63, 127, 63, 319, 831, 1855, 4095, 8191, 16383, 32767, 65535, 32767, 163839, 425983, 950271, 2097151, 4194303, 8388607, 16777215, 33554431, 67108863, 33554431, 33554431, 301989887, 973078527, 2046820351, 4194303999, 8589934591, 17179869183, 34359738367, 68719476735]),
  (61, 10, [0, 0, 3, 7]),
  (67, 1, [0, 0, 3, 0, 0, 31, 63, 127]),
  (69, 1, [0, 1, 0, 4, 15, 0, 32, 0, 128, 480, 0, 1024, 0, 4096, 16352, 32767, 65535]),
  (71, 5, [0, 1, 0, 4, 15, 0, 32, 0, 128, 511, 0, 1024, 0, 4096, 16383, 32767, 65535, 131071]),
  (71, 7, [0, 1, 0, 0, 12, 0, 63, 127]),
  (75, 10, [0, 0, 3, 7, 15, 0, 0, 96, 224, 480, 1023, 0, 0, 0, 12288, 30720, 63488, 129024, 262143, 0, 1048575, 2097151]),
  (77, 9, [0, 0, 3, 7, 0, 0, 48, 112, 255]),
  (77, 10, [0, 0, 3, 7, 0, 0, 48, 112, 255]),
  (87, 5, [0, 0, 0, 6, 14, 31, 0, 0, 192, 448, 1023, 2047]),
  (89, 6, [0, 0, 3, 7, 0, 0, 48, 112, 255, 511]),
  (91, 16, [0, 1, 0, 0, 8, 0, 0, 0, 192, 0, 512, 0, 3584, 8160, 16380, 32764, 65535, 131071, 262143]),
  (91, 23, [0, 0, 2, 6, 14, 0, 32, 126, 255, 511, 1023]),
  (97, 1, [0, 0, 3, 7, 15, 31, 31, 127, 31, 511, 1023, 2047]),
  (98, 1, [0, 0, 0, 4, 15, 31]),
  (101, 7, [0, 0, 2, 6, 14, 0, 62, 126, 254, 0, 512, 1536, 3584, 0, 15872, 32256, 65024, 131071, 262143]),
  (105, 1, [0, 1, 0, 4, 12, 3, 63]),
  (106, 1, [0, 1, 0, 4, 12, 3, 63]),
  (107, 7, [0, 1, 3, 7, 15, 31, 15, 79, 255, 511, 1023, 2047, 4095, 8191, 16383, 32767, 65535, 131071, 262143, 65535, 65535, 1114111, 3735551, 7929855, 16777215, 33554431]),
  (107, 12, [0, 1, 3, 7, 7, 31, 63, 127, 255, 255, 1023, 2047, 4095, 8191, 16383, 32767, 32767, 131071, 262143, 524287, 32767, 1081343, 4194303, 8388607, 16777215]),
  (110, 9, [0, 0, 0, 4, 14, 30, 0, 126, 0, 0, 768, 1792, 4094, 8191, 16383]),
  (111, 16, [0, 0, 0, 4, 0, 28, 60, 126, 255, 511]),
  (117, 1, [0, 1, 0, 7, 15, 31]),
  (117, 2, [0, 1, 0, 4, 15, 0, 32, 0, 128, 480, 0, 1024, 0, 4096, 16352, 32767, 65535, 131071, 131071, 0, 786431, 2097151]),
  (119, 6, [0, 0, 0, 6, 3, 31]),
  (121, 6, [0, 1, 0, 7, 15, 0, 0, 96, 255, 511]),
  (122, 6, [0, 0, 3, 7, 15, 0, 0, 96, 224, 480, 1023]),
  (122, 11, [0, 0, 3, 7, 0, 31, 63, 0, 0, 384, 896, 0, 3968, 8064, 16383]),
  (131, 9, [0, 0, 3, 7, 0, 0, 48, 112, 255, 511]),
  (131, 11, [0, 0, 3, 7, 0, 0, 48, 112, 255, 511]),
  (134, 1, [0, 0, 2, 7, 15]),
  (139, 5, [0, 1, 3, 7, 15, 0, 32, 96, 224, 511]),
  (139, 7, [0, 0, 2, 6, 14, 0, 32, 126, 255, 511, 1023]),
  (139, 8, [0, 1, 3, 7, 0, 0, 32, 96, 224, 480, 992, 2047]),
  (142, 6, [0, 1, 0, 7, 15, 0, 32, 0, 224, 480, 1023]),
  (144, 6, [0, 0, 3, 7, 0, 0, 48, 112, 255]),
  (153, 1, [0, 1, 0, 7, 15, 31]),
  (153, 6, [0, 0, 2, 0, 8, 30, 0, 64, 0, 256, 1022, 2046, 4095, 8191]),
  (155, 8, [0, 1, 3, 7, 15, 0, 32, 96, 224, 511, 1023, 2047]),
  (159, 6, [0, 0, 3, 7, 0, 0, 48, 112, 255]),
  (165, 4, [0, 0, 3, 7, 15, 15, 15, 111, 239, 15, 15, 1039, 3599, 7695, 16383, 32767, 65535]),
  (165, 6, [0, 0, 0, 0, 8, 0, 0, 64, 224, 480, 0, 0, 3072, 7168, 16355, 32739, 65535, 131071]),
  (166, 5, [0, 0, 0, 6, 14, 0, 0, 96, 224, 511, 1023]),
  (166, 11, [0, 0, 0, 0, 8, 0, 0, 64, 224, 480, 0, 0, 3072, 7168, 16355, 32739, 65535, 131071]),
  (166, 17, [0, 0, 0, 6, 14, 0, 0, 96, 224, 511, 1023, 2047]),
  (166, 23, [0, 0, 0, 0, 8, 0, 0, 64, 224, 480, 0, 0, 3072, 7168, 16355, 32739, 65535, 131071]),
  (166, 35, [0, 0, 0, 0, 12, 30, 62, 0, 0, 384, 896, 2047, 4095, 8191]),
  (171, 2, [0, 0, 0, 6, 15, 31, 0, 0, 0, 384, 896, 2015, 4095, 0, 0, 16384, 57344, 122880, 253952, 8191, 1048575]),
  (178, 17, [0, 1, 3, 7, 7, 23, 63, 127, 7, 7, 775, 1799, 4095, 8191, 16383]),
  (182, 8, [0, 1, 3, 7, 0, 16, 48, 112, 240, 511, 1023, 2047]),
  (185, 7, [0, 1, 3, 7, 15, 31, 15, 79, 255, 511, 1023, 2047, 4095, 8191, 16383, 32767, 65535, 131071, 262143, 65535, 65535, 1114111, 3735551, 7929855, 16777215, 33554431]),
  (185, 12, [0, 1, 3, 7, 7, 31, 63, 127, 255, 255, 1023, 2047, 4095, 8191, 16383, 32767, 32767, 131071, 262143, 524287, 32767, 1081343, 4194303, 8388607, 16777215]),
  (187, 16, [0, 0, 0, 6, 15, 31, 63, 127, 0, 0, 0, 1536, 3584, 7936, 16128, 32512, 65535, 131071]),
  (187, 17, [0, 0, 0, 4, 14, 30, 62, 127, 0, 0, 0, 1024, 3584, 7680, 15872, 32512, 255, 131071]),
  (187, 18, [0, 1, 3, 7, 7, 7, 39, 119, 247, 503, 1023, 7, 2055, 7, 7, 7, 49159, 114695, 253959, 516103, 1040391, 2095111, 4194303, 8388607]),
  (187, 43, [0, 0, 0, 0, 12, 30, 62, 126, 0, 0, 768, 1792, 3840, 8190, 16383, 32767]),
  (187, 55, [0, 0, 3, 7, 0, 0, 32, 112, 240, 0, 512, 2032, 4095, 8191, 16383]),
  (190, 4, [0, 0, 3, 7, 15, 15, 63, 127, 15, 15, 527, 1807, 3855, 8191, 16383]),
  (190, 6, [0, 0, 0, 0, 8, 0, 0, 64, 224, 480, 0, 0, 3072, 7168, 16355, 32739, 65535, 131071]),
  (191, 10, [0, 0, 0, 0, 0, 24, 0, 0, 0, 384, 960, 1984, 0, 0, 12288, 28672, 65475, 131011, 262143, 524287]),
  (192, 10, [0, 0, 0, 0, 0, 24, 0, 0, 0, 384, 960, 1984, 0, 0, 12288, 28672, 65475, 131011, 262143, 524287]),
  (194, 3, [0, 0, 0, 0, 0, 0, 48, 112, 0, 0, 768, 1792, 4083, 8179, 16383, 32767]),
  (195, 5, [0, 0, 3, 7, 15, 15, 63, 127, 15, 15, 527, 1807, 3855, 8191, 16383, 32767]),
  (195, 11, [0, 0, 0, 0, 8, 0, 0, 64, 224, 480, 0, 0, 3072, 7168, 16355, 32739, 65535, 131071]),
  (195, 16, [0, 0, 3, 7, 0, 0, 32, 112, 240, 511, 1023]),
  (195, 17, [0, 0, 0, 0, 8, 0, 0, 64, 224, 480, 0, 0, 3072, 7168, 16355, 32739, 65535, 131071]),
  (195, 22, [0, 0, 3, 7, 0, 0, 32, 112, 240, 511, 1023]),
  (195, 23, [0, 0, 0, 0, 8, 0, 0, 64, 224, 480, 0, 0, 3072, 7168, 16355, 32739, 65535, 131071]),
  (197, 1, [0, 0, 0, 0, 0, 0, 48, 112, 0, 0, 768, 1792, 4083, 8179, 16383, 32767]),
  (197, 3, [0, 0, 3, 7, 15, 15, 63, 127, 15, 15, 783, 1807, 4095, 8191, 16383]),
  (197, 5, [0, 0, 3, 7, 15, 15, 63, 127, 15, 15, 783, 1807, 4095, 8191]),
  (197, 8, [0, 0, 0, 0, 0, 0, 48, 112, 0, 0, 768, 1792, 4083, 8179, 16383, 32767]),
  (198, 1, [0, 0, 0, 0, 0, 0, 48, 112, 0, 0, 768, 1792, 4083, 8179, 16383, 32767]),
  (198, 3, [0, 0, 3, 7, 15, 15, 63, 127, 15, 15, 783, 1807, 4095, 8191]),
  (198, 5, [0, 0, 3, 7, 15, 15, 63, 127, 15, 15, 783, 1807, 4095, 8191, 16383]),
  (198, 8, [0, 0, 0, 0, 0, 0, 48, 112, 0, 0, 768, 1792, 4083, 8179, 16383, 32767]),
  (198, 10, [0, 0, 0, 0, 0, 0, 48, 112, 0, 0, 768, 1792, 4083, 8179, 16383, 32767]),
  (198, 13, [0, 0, 3, 7, 15, 15, 63, 127, 15, 15, 783, 1807, 4095, 8191]),
  (198, 15, [0, 0, 3, 7, 15, 15, 63, 127, 15, 15, 783, 1807, 4095, 8191, 16383]),
  (198, 18, [0, 0, 0, 0, 0, 0, 48, 112, 0, 0, 768, 1792, 4083, 8179, 16383, 32767]),
  (198, 21, [0, 0, 0, 0, 0, 0, 48, 112, 0, 0, 768, 1792, 4083, 8179, 16383, 32767]),
  (201, 3, [0, 0, 0, 6, 0, 0, 0, 96, 0, 0, 0, 1536, 3840, 7936, 0, 0, 0, 98304, 245760, 507904, 1048335, 2096911, 4194303, 8388607]),
  (207, 3, [0, 1, 0, 7, 15, 31, 31, 31, 223, 511, 1023, 31, 31, 31, 12319, 28703, 63519, 129055, 262143, 524287]),
  (207, 5, [0, 0, 0, 6, 15, 31, 0, 0, 0, 384, 960, 1984, 4095, 8191]),
  (207, 6, [0, 0, 0, 6, 0, 0, 0, 96, 0, 0, 0, 1536, 3840, 7936, 0, 0, 0, 98304, 245760, 507904, 1048335, 2096911, 4194303, 8388607]),
  (209, 1, [0, 1, 3, 0, 8, 24, 56, 127, 255, 511]),
  (209, 2, [0, 1, 3, 0, 8, 24, 56, 127, 255, 511]),
  (209, 3, [0, 1, 3, 0, 8, 24, 56, 127, 255, 511]),
  (215, 7, [0, 0, 2, 0, 0, 16, 0, 64, 192, 0, 512, 455, 2503, 8191, 16383]),
  (215, 8, [0, 0, 2, 0, 0, 16, 0, 64, 192, 0, 512, 455, 2503, 8191, 16383]),
  (215, 9, [0, 0, 2, 0, 0, 16, 0, 64, 192, 0, 512, 455, 2503, 8191, 16383]),
  (215, 10, [0, 0, 2, 0, 0, 16, 0, 64, 192, 0, 512, 455, 2503, 8191, 16383]),
  (215, 17, [0, 0, 2, 0, 0, 16, 0, 64, 192, 0, 512, 455, 2503, 8191, 16383]),
  (215, 18, [0, 0, 2, 0, 0, 16, 0, 64, 192, 0, 512, 455, 2503, 8191, 16383]),
  (215, 23, [0, 0, 2, 0, 0, 16, 0, 64, 192, 0, 512, 455, 2503, 8191, 16383]),
  (217, 1, [0, 0, 3, 7, 0, 0, 48, 112, 255])]
def ahdGet : List (Nat × Nat × List Nat) → Nat → Nat → List Nat
  | [], _, _ => []
  | (f, k, m) :: l, f', k' => match Nat.beq f f' && Nat.beq k k' with
    | true => m
    | false => ahdGet l f' k'
def inlOf : List (Nat × Nat) := [(108, 99)]
def inlGet : List (Nat × Nat) → Nat → Nat → Bool
  | [], _, _ => false
  | (a, b) :: l, f, g => match Nat.beq a f && Nat.beq b g with
    | true => true
    | false => inlGet l f g
def thawOf : List (Nat × Nat) := []
def frzOf : List (Nat × Nat) := [(108, 99)]
def tokOf : List Nat := []
def tokGet : List Nat → Nat → Bool
  | [], _ => false
  | a :: l, f => match Nat.beq a f with
    | true => true
    | false => tokGet l f
def twoOf : List (Nat × Nat × List (Nat × Nat)) := [(59, 12, [(14, 15)])]
def twoGet : List (Nat × Nat × List (Nat × Nat)) → Nat → Nat → List (Nat × Nat)
  | [], _, _ => []
  | (a, b, p) :: l, f, k => match Nat.beq a f && Nat.beq b k with
    | true => p
    | false => twoGet l f k
def lateOf : List (Nat × Nat × List (Nat × List Nat)) := [(67, 1, [(2, [3])]), (91, 16, [(14, [1])]), (97, 1, [(7, [8])]), (98, 1, [(3, [0, 1])])]
def lateGet : List (Nat × Nat × List (Nat × List Nat)) → Nat → Nat → List (Nat × List Nat)
  | [], _, _ => []
  | (a, b, p) :: l, f, k => match Nat.beq a f && Nat.beq b k with
    | true => p
    | false => lateGet l f k
def seqOf : List (Nat × Nat) := [(24, 3), (34, 3), (39, 3), (67, 1), (91, 16), (97, 1), (98, 1), (101, 7)]
def inlSet : List Nat := [15, 17, 24, 28, 29, 30, 32, 33, 34, 35, 36, 37, 38, 39, 40, 41, 42, 43, 44, 54, 62, 65, 68, 80, 81, 84, 91, 92, 93, 95, 96, 97, 98, 99, 100, 101, 102, 103, 104, 105, 106, 108, 115, 124, 139, 145, 146, 147]
def noInl : List (Nat × Nat) := []
def benOf : List Nat := [140, 177]
noncomputable def cfg : Cfg where
  P := prog
  inl := fun f g => match tokGet inlSet g with | true => (match inlGet noInl f g with | true => false | false => true) | false => inlGet inlOf f g
  ben := tokGet benOf
  seqm := inlGet seqOf
  late := lateGet lateOf
  frzc := inlGet frzOf
  arrm := tokGet [54, 104]
  tokm := tokGet tokOf
  two := twoGet twoOf
  thaw := inlGet thawOf
  mask := maskGet masksOf
  ord := ordGet ordsOf
  ahd := ahdGet ahsOf
  lib := fun g => match Nat.beq g 141 with | true => some nameA | false => none
  libm := fun g => match Nat.beq g 148 with | true => some sortA | false => match Nat.beq g 149 with | true => some compactA | false => none
theorem at5 : cfg.P.funcs[5]? = some f5 := by kernel_rfl
theorem at11 : cfg.P.funcs[11]? = some f11 := by kernel_rfl
theorem at13 : cfg.P.funcs[13]? = some f13 := by kernel_rfl
theorem at17 : cfg.P.funcs[17]? = some f17 := by kernel_rfl
theorem at24 : cfg.P.funcs[24]? = some f24 := by kernel_rfl
theorem at27 : cfg.P.funcs[27]? = some f27 := by kernel_rfl
theorem at28 : cfg.P.funcs[28]? = some f28 := by kernel_rfl
theorem at30 : cfg.P.funcs[30]? = some f30 := by kernel_rfl
theorem at32 : cfg.P.funcs[32]? = some f32 := by kernel_rfl
theorem at33 : cfg.P.funcs[33]? = some f33 := by kernel_rfl
theorem at34 : cfg.P.funcs[34]? = some f34 := by kernel_rfl
theorem at35 : cfg.P.funcs[35]? = some f35 := by kernel_rfl
theorem at36 : cfg.P.funcs[36]? = some f36 := by kernel_rfl
theorem at37 : cfg.P.funcs[37]? = some f37 := by kernel_rfl
theorem at39 : cfg.P.funcs[39]? = some f39 := by kernel_rfl
theorem at40 : cfg.P.funcs[40]? = some f40 := by kernel_rfl
theorem at41 : cfg.P.funcs[41]? = some f41 := by kernel_rfl
theorem at42 : cfg.P.funcs[42]? = some f42 := by kernel_rfl
theorem at43 : cfg.P.funcs[43]? = some f43 := by kernel_rfl
theorem at44 : cfg.P.funcs[44]? = some f44 := by kernel_rfl
theorem at80 : cfg.P.funcs[80]? = some f80 := by kernel_rfl
theorem at81 : cfg.P.funcs[81]? = some f81 := by kernel_rfl
theorem at84 : cfg.P.funcs[84]? = some f84 := by kernel_rfl
theorem at88 : cfg.P.funcs[88]? = some f88 := by kernel_rfl
theorem at92 : cfg.P.funcs[92]? = some f92 := by kernel_rfl
theorem at93 : cfg.P.funcs[93]? = some f93 := by kernel_rfl
theorem at94 : cfg.P.funcs[94]? = some f94 := by kernel_rfl
theorem at95 : cfg.P.funcs[95]? = some f95 := by kernel_rfl
theorem at96 : cfg.P.funcs[96]? = some f96 := by kernel_rfl
theorem at104 : cfg.P.funcs[104]? = some f104 := by kernel_rfl
theorem at139 : cfg.P.funcs[139]? = some f139 := by kernel_rfl
theorem at141 : cfg.P.funcs[141]? = some f141 := by kernel_rfl
theorem at145 : cfg.P.funcs[145]? = some f145 := by kernel_rfl
theorem at148 : cfg.P.funcs[148]? = some f148 := by kernel_rfl
end Go.Ab

/- What the interpreter does, function by function. -/
set_option maxRecDepth 100000
set_option linter.unusedVariables false
namespace Go.Ab
open Go.Proofs.Tryz
/-! ### sortilege/diagram.New -/
theorem T32 (a0 : AV) (m : Mem) : AC cfg 32 [a0] m =
  (lenA false a0).bind fun v1 =>
  (binA .other .gtr v1 (.int .i64 16)).bind fun v2 =>
  ifA v2 (
  some ((.tup [.nilp, (.int .i64 2)]), m)) (
  (AC cfg 92 [a0, (.fn 93 [])] m).bind fun r3 =>
  ifA r3.1 (
  some ((.tup [.nilp, (.int .i64 1)]), r3.2)) (
  (pcall (AP cfg) none r3.2 88 [a0]).bind fun r4 =>
  (buildA (.agg [(.lst none true .full []), (.lst none true .full []), .nilm, (.int .i64 0)]) [(0, none, r4.1), (2, none, (.mref (newAt none r4.2 .resv).1)), (3, none, (.int .i64 4000))]).bind fun v5 =>
  (boxA none (some 4) (newAt none r4.2 (.mp .str [])).2 v5).bind fun r6 =>
  some ((.tup [r6.1, (.int .i64 0)]), r6.2))) :=
(AC_eq cfg 32 [a0] m (fn := f32) (c := bodyOf f32) at32 rfl).trans (by kernel_rfl)
/-! ### slices.ContainsFunc[[]int,int] -/
theorem T92 (a0 a1 : AV) (m : Mem) : AC cfg 92 [a0, a1] m =
  (AC cfg 145 [a0, a1] m).bind fun r1 =>
  (binA .other .geq r1.1 (.int .i64 0)).bind fun v2 =>
  some (v2, r1.2) :=
(AC_eq cfg 92 [a0, a1] m (fn := f92) (c := bodyOf f92) at92 rfl).trans (by kernel_rfl)
/-! ### slices.IndexFunc[[]int,int] -/
def O145_2 (m : Mem) : St := ⟨[.any, .any, .any, .any, .any, .any, .any, .any, .any, .any, .any, .any, .any, .any, .any, .any, .any, .any, .any], m⟩
def R145_2 (x4 : AV) (m : Mem) : St := ⟨[.any, .any, .any, .any, x4, .any, .any, .any, .any, .any, .any, .any, .any, .any, .any, .any, .any, .any, .any], m⟩
noncomputable def L145_2 (x0 x1 x7 x8 : AV) (m : Mem) (K : Ex → St → Option (AV × Mem)) : Option (AV × Mem) := loopW (execW cfg 145 (AP cfg) (AC cfg) (c1 (c1 (c2 (c1 (c2 (bodyOf f145))))))) (cfg.mask 145 (some 2)) ⟨[x0, x1, .any, .any, .any, .any, .any, x7, x8, .any, .any, .any, .any, .any, .any, .any, .any, .any, .any], m⟩ K
noncomputable abbrev K145_2_0 (K : Ex → St → Option (AV × Mem)) : Ex → St → Option (AV × Mem) := seqK (fun st => execW cfg 145 (AP cfg) (AC cfg) (c2 (c2 (bodyOf f145))) st K) K
noncomputable abbrev K145_2_1 (K : Ex → St → Option (AV × Mem)) : Ex → St → Option (AV × Mem) := blockK 0 (K145_2_0 K)
noncomputable abbrev K145_2 (K : Ex → St → Option (AV × Mem)) : Ex → St → Option (AV × Mem) := (K145_2_1 K)
theorem T145 (a0 a1 : AV) (m : Mem) : AC cfg 145 [a0, a1] m =
  (lenA false a0).bind fun v1 =>
  L145_2 a0 a1 v1 (.int .i64 0) m (K145_2 (finK cfg.P f145.results.toList)) :=
(AC_eq cfg 145 [a0, a1] m (fn := f145) (c := bodyOf f145) at145 rfl).trans (by kernel_rfl)
theorem L145_2_eq (x0 x1 x7 x8 : AV) (m : Mem) (K : Ex → St → Option (AV × Mem)) : L145_2 x0 x1 x7 x8 m K =
  (binA .other .lss x8 x7).bind fun v1 =>
  ifA v1 (
  (indexAddrA none x0 x8).bind fun v2 =>
  (loadA none m v2).bind fun v3 =>
  (fnOf x1).bind fun g4 =>
  callK cfg 145 (AP cfg) (AC cfg) none g4.1 ([v3] ++ g4.2) m fun v5 m6 =>
  ifA v5 (
  K .ret (R145_2 x8 m6)) (
  (binA .other .add x8 (.int .i64 1)).bind fun v7 =>
  L145_2 x0 x1 x7 v7 m6 K)) (
  K (.exit 0) (O145_2 m)) :=
(loopW_eq (execW_lin _) _ _ _).trans (by kernel_rfl)
theorem K145_2_x0 (m : Mem) : K145_2 (finK cfg.P f145.results.toList) (.exit 0) (O145_2  m) =
  some ((.int .i64 (-1)), m) := by kernel_rfl
theorem K145_2_ret (x4 : AV) (m : Mem) : K145_2 (finK cfg.P f145.results.toList) .ret (R145_2 x4 m) =
  some (x4, m) := by kernel_rfl
/-! ### sortilege/diagram.New$1 -/
theorem T93 (a0 : AV) (m : Mem) : AC cfg 93 [a0] m =
  (binA .other .lss a0 (.int .i64 1)).bind fun v1 =>
  ifA v1 (
  some ((.bool true), m)) (
  (binA .other .gtr a0 (.int .i64 64)).bind fun v2 =>
  some (v2, m)) :=
(AC_eq cfg 93 [a0] m (fn := f93) (c := bodyOf f93) at93 rfl).trans (by kernel_rfl)
/-! ### slices.Clone[[]int,int] -/
theorem T88 (a0 : AV) (m : Mem) : AC cfg 88 [a0] m =
  (binA .sl .eql a0 (.lst none true .full [])).bind fun v1 =>
  ifA v1 (
  some ((.lst none true .full []), m)) (
  (buildSliceA none []).bind fun v2 =>
  (appA none false 3 none 8 m v2 a0).bind fun r3 =>
  some (r3.1, r3.2)) :=
(AC_eq cfg 88 [a0] m (fn := f88) (c := bodyOf f88) at88 rfl).trans (by kernel_rfl)
/-! ### (*sortilege/diagram.Store).none -/
theorem T80 (a0 : AV) (m : Mem) : AC cfg 80 [a0] m =
  (binA .pt .eql a0 .nilp).bind fun v1 =>
  ifA v1 (
  some ((.bool true), m)) (
  (nilA a0).bind fun v2 =>
  (fieldAddrA 3 v2).bind fun v3 =>
  (loadA none m v3).bind fun v4 =>
  (binA .other .eql v4 (.int .i64 0)).bind fun v5 =>
  some (v5, m)) :=
(AC_eq cfg 80 [a0] m (fn := f80) (c := bodyOf f80) at80 rfl).trans (by kernel_rfl)
/-! ### sortilege/diagram.number -/
theorem T94 (a0 : AV) (m : Mem) : AC cfg 94 [a0] m =
  (binA .other .geq a0 (.int .i64 0)).bind fun v1 =>
  ifA v1 (
  (binA .other .leq a0 (.int .i64 2147483647)).bind fun v2 =>
  some (v2, m)) (
  some ((.bool false), m)) :=
(AC_eq cfg 94 [a0] m (fn := f94) (c := bodyOf f94) at94 rfl).trans (by kernel_rfl)
/-! ### (*sortilege/diagram.Store).try -/
theorem T84 (a0 a1 : AV) (m : Mem) : AC cfg 84 [a0, a1] m =
  (boxA none none m a0).bind fun r1 =>
  (loadA none (newAt none (newAt none r1.2 (.obj true [(.int .i64 0)])).2 (.obj true [(.int .i64 0)])).2 r1.1).bind fun v2 =>
  (nilA v2).bind fun v3 =>
  (fieldAddrA 1 v3).bind fun v4 =>
  (loadA none (newAt none (newAt none r1.2 (.obj true [(.int .i64 0)])).2 (.obj true [(.int .i64 0)])).2 v4).bind fun v5 =>
  (lenA false v5).bind fun v6 =>
  (storeA none (newAt none (newAt none (newAt none r1.2 (.obj true [(.int .i64 0)])).2 (.obj true [(.int .i64 0)])).2 (.obj true [(.int .i64 0)])).2 (.ptr (newAt none (newAt none (newAt none r1.2 (.obj true [(.int .i64 0)])).2 (.obj true [(.int .i64 0)])).2 .resv).1 0) v6).bind fun m7 =>
  (fnOf a1).bind fun g8 =>
  callK cfg 84 (AP cfg) (AC cfg) none g8.1 ([] ++ g8.2) m7 fun v9 m10 =>
  (storeA none m10 (.ptr (newAt none r1.2 .resv).1 0) v9).bind fun m11 =>
  (storeA none m11 (.ptr (newAt none (newAt none r1.2 (.obj true [(.int .i64 0)])).2 .resv).1 0) (.int .i64 0)).bind fun m12 =>
  (loadA none m12 (.ptr (newAt none r1.2 .resv).1 0)).bind fun v13 =>
  (loadA none m12 (.ptr (newAt none (newAt none r1.2 (.obj true [(.int .i64 0)])).2 .resv).1 0)).bind fun v14 =>
  some ((.tup [v13, v14]), m12) :=
(AC_eq cfg 84 [a0, a1] m (fn := f84) (c := bodyOf f84) at84 rfl).trans (by kernel_rfl)
/-! ### (*sortilege/diagram.Store).Leaf$1 -/
theorem T95 (a0 a1 : AV) (m : Mem) : AC cfg 95 [a0, a1] m =
  (loadA none m a0).bind fun v1 =>
  (loadA none m a1).bind fun v2 =>
  (AC cfg 96 [v1, v2] m).bind fun r3 =>
  some (r3.1, r3.2) :=
(AC_eq cfg 95 [a0, a1] m (fn := f95) (c := bodyOf f95) at95 rfl).trans (by kernel_rfl)
/-! ### (*sortilege/diagram.Store).leaf -/
theorem T96 (a0 a1 : AV) (m : Mem) : AC cfg 96 [a0, a1] m =
  (buildA (.agg [(.int .i64 0), (.lst none true .full []), (.int .i64 0)]) [(0, none, (.int .i64 (-1))), (2, none, a1)]).bind fun v1 =>
  (AC cfg 139 [a0, v1] m).bind fun r2 =>
  some (r2.1, r2.2) :=
(AC_eq cfg 96 [a0, a1] m (fn := f96) (c := bodyOf f96) at96 rfl).trans (by kernel_rfl)
/-! ### (*sortilege/diagram.Store).has -/
theorem T81 (a0 a1 : AV) (m : Mem) : AC cfg 81 [a0, a1] m =
  (binA .other .geq a1 (.int .i64 0)).bind fun v1 =>
  ifA v1 (
  (nilA a0).bind fun v2 =>
  (fieldAddrA 1 v2).bind fun v3 =>
  (loadA none m v3).bind fun v4 =>
  (lenA false v4).bind fun v5 =>
  (binA .other .lss a1 v5).bind fun v6 =>
  some (v6, m)) (
  some ((.bool false), m)) :=
(AC_eq cfg 81 [a0, a1] m (fn := f81) (c := bodyOf f81) at81 rfl).trans (by kernel_rfl)
/-! ### (*sortilege/diagram.Store).above -/
/-! ### (*sortilege/diagram.Store).node -/
/-! ### (*sortilege/diagram.Store).put -/
theorem T139 (a0 a1 : AV) (m : Mem) : AC cfg 139 [a0, a1] m =
  (boxA none (some 3) m a1).bind fun r1 =>
  (loadA (some 3) r1.2 r1.1).bind fun v2 =>
  (nameA [v2]).bind fun v3 =>
  (nilA a0).bind fun v4 =>
  (fieldAddrA 2 v4).bind fun v5 =>
  (loadA none r1.2 v5).bind fun v6 =>
  (lookA .str (.int .i64 0) r1.2 v6 v3).bind fun q7 =>
  (extractA (.tup [q7.1, .bool q7.2]) 0).bind fun v8 =>
  (extractA (.tup [q7.1, .bool q7.2]) 1).bind fun v9 =>
  ifA v9 (
  some (v8, r1.2)) (
  (nilA a0).bind fun v10 =>
  (fieldAddrA 1 v10).bind fun v11 =>
  (loadA none r1.2 v11).bind fun v12 =>
  (lenA false v12).bind fun v13 =>
  (nilA a0).bind fun v14 =>
  (fieldAddrA 3 v14).bind fun v15 =>
  (loadA none r1.2 v15).bind fun v16 =>
  (binA .other .geq v13 v16).bind fun v17 =>
  ifA v17 (
  (buildA (.agg []) []).bind fun v18 =>
  none) (
  (nilA a0).bind fun v19 =>
  (fieldAddrA 1 v19).bind fun v20 =>
  (loadA none (reserve r1.2 1) v20).bind fun v21 =>
  (loadA (some 3) (reserve r1.2 1) r1.1).bind fun v22 =>
  (buildSliceA (some 3) [v22]).bind fun v23 =>
  (appA (some r1.2.length) false 74 (some 3) 40 (reserve r1.2 1) v21 v23).bind fun r24 =>
  (nilA a0).bind fun v25 =>
  (fieldAddrA 1 v25).bind fun v26 =>
  (storeA none r24.2 v26 r24.1).bind fun m27 =>
  (nilA a0).bind fun v28 =>
  (fieldAddrA 2 v28).bind fun v29 =>
  (loadA none m27 v29).bind fun v30 =>
  (nilA a0).bind fun v31 =>
  (fieldAddrA 1 v31).bind fun v32 =>
  (loadA none m27 v32).bind fun v33 =>
  (lenA false v33).bind fun v34 =>
  (binA .other .sub v34 (.int .i64 1)).bind fun v35 =>
  (updA .str m27 v30 v3 v35).bind fun m36 =>
  (nilA a0).bind fun v37 =>
  (fieldAddrA 1 v37).bind fun v38 =>
  (loadA none m36 v38).bind fun v39 =>
  (lenA false v39).bind fun v40 =>
  (binA .other .sub v40 (.int .i64 1)).bind fun v41 =>
  some (v41, m36))) :=
(AC_eq cfg 139 [a0, a1] m (fn := f139) (c := bodyOf f139) at139 rfl).trans (by kernel_rfl)
/-! ### (*sortilege/diagram.Store).Leaf -/
theorem T33 (a0 a1 : AV) (m : Mem) : AC cfg 33 [a0, a1] m =
  (boxA none none m a0).bind fun r1 =>
  (boxA none none r1.2 a1).bind fun r2 =>
  (loadA none r2.2 r1.1).bind fun v3 =>
  (AC cfg 80 [v3] r2.2).bind fun r4 =>
  ifA r4.1 (
  some ((.tup [(.int .i64 0), (.int .i64 4)]), r4.2)) (
  (loadA none r4.2 r2.1).bind fun v5 =>
  (pcall (AP cfg) none r4.2 94 [v5]).bind fun r6 =>
  (unA .not r6.1).bind fun v7 =>
  ifA v7 (
  some ((.tup [(.int .i64 0), (.int .i64 1)]), r6.2)) (
  (loadA none r6.2 r1.1).bind fun v8 =>
  (AC cfg 84 [v8, (.fn 95 [r1.1, r2.1])] r6.2).bind fun r9 =>
  (extractA r9.1 0).bind fun v10 =>
  (extractA r9.1 1).bind fun v11 =>
  some ((.tup [v10, v11]), r9.2))) :=
(AC_eq cfg 33 [a0, a1] m (fn := f33) (c := bodyOf f33) at33 rfl).trans (by kernel_rfl)
/-! ### (*sortilege/diagram.Store).Count -/
theorem T30 (a0 : AV) (m : Mem) : AC cfg 30 [a0] m =
  (AC cfg 80 [a0] m).bind fun r1 =>
  ifA r1.1 (
  some ((.int .i64 0), r1.2)) (
  (nilA a0).bind fun v2 =>
  (fieldAddrA 1 v2).bind fun v3 =>
  (loadA none r1.2 v3).bind fun v4 =>
  (lenA false v4).bind fun v5 =>
  some (v5, r1.2)) :=
(AC_eq cfg 30 [a0] m (fn := f30) (c := bodyOf f30) at30 rfl).trans (by kernel_rfl)
/-! ### (*sortilege/diagram.Store).Node -/
theorem T35 (a0 a1 : AV) (m : Mem) : AC cfg 35 [a0, a1] m =
  (AC cfg 80 [a0] (newAt none m (.obj true [(.int .i64 0), (.lst none true .full []), (.int .i64 0)])).2).bind fun r1 =>
  ifA r1.1 (
  (buildA (.agg [(.int .i64 0), (.lst none true .full []), (.int .i64 0)]) []).bind fun v2 =>
  (storeA (some 3) r1.2 (.ptr (newAt none m .resv).1 0) v2).bind fun m3 =>
  (loadA (some 3) m3 (.ptr (newAt none m .resv).1 0)).bind fun v4 =>
  some ((.tup [v4, (.int .i64 4)]), m3)) (
  (AC cfg 81 [a0, a1] r1.2).bind fun r5 =>
  (unA .not r5.1).bind fun v6 =>
  ifA v6 (
  (buildA (.agg [(.int .i64 0), (.lst none true .full []), (.int .i64 0)]) []).bind fun v7 =>
  (storeA (some 3) r5.2 (.ptr (newAt none m .resv).1 0) v7).bind fun m8 =>
  (loadA (some 3) m8 (.ptr (newAt none m .resv).1 0)).bind fun v9 =>
  some ((.tup [v9, (.int .i64 1)]), m8)) (
  (nilA a0).bind fun v10 =>
  (fieldAddrA 1 v10).bind fun v11 =>
  (loadA none r5.2 v11).bind fun v12 =>
  (indexAddrA (some 3) v12 a1).bind fun v13 =>
  (loadA (some 3) r5.2 v13).bind fun v14 =>
  (storeA (some 3) (newAt none r5.2 (.obj true [(.int .i64 0), (.lst none true .full []), (.int .i64 0)])).2 (.ptr (newAt none r5.2 .resv).1 0) v14).bind fun m15 =>
  (fieldAddrA 1 (.ptr (newAt none r5.2 .resv).1 0)).bind fun v16 =>
  (loadA none m15 v16).bind fun v17 =>
  (pcall (AP cfg) none m15 88 [v17]).bind fun r18 =>
  (fieldAddrA 1 (.ptr (newAt none r5.2 .resv).1 0)).bind fun v19 =>
  (storeA none r18.2 v19 r18.1).bind fun m20 =>
  (loadA (some 3) m20 (.ptr (newAt none r5.2 .resv).1 0)).bind fun v21 =>
  (storeA (some 3) m20 (.ptr (newAt none m .resv).1 0) v21).bind fun m22 =>
  (loadA (some 3) m22 (.ptr (newAt none m .resv).1 0)).bind fun v23 =>
  some ((.tup [v23, (.int .i64 0)]), m22))) :=
(AC_eq cfg 35 [a0, a1] m (fn := f35) (c := bodyOf f35) at35 rfl).trans (by kernel_rfl)
/-! ### (*sortilege/diagram.Store).Arms -/
theorem T28 (a0 : AV) (m : Mem) : AC cfg 28 [a0] m =
  (AC cfg 80 [a0] m).bind fun r1 =>
  ifA r1.1 (
  some ((.lst none true .full []), r1.2)) (
  (nilA a0).bind fun v2 =>
  (fieldAddrA 0 v2).bind fun v3 =>
  (loadA none r1.2 v3).bind fun v4 =>
  (pcall (AP cfg) none r1.2 88 [v4]).bind fun r5 =>
  some (r5.1, r5.2)) :=
(AC_eq cfg 28 [a0] m (fn := f28) (c := bodyOf f28) at28 rfl).trans (by kernel_rfl)
end Go.Ab

/- Values of numbers as rows of digits, and what the interpreter's operations do on them. -/
set_option linter.unusedVariables false
set_option linter.unusedSimpArgs false
set_option linter.unusedSectionVars false
namespace Go.Ab

theorem wrap_i64_eq (x : Int) : IntKind.wrap .i64 x = if x % 18446744073709551616 ≥ 9223372036854775808 then x % 18446744073709551616 - 18446744073709551616 else x % 18446744073709551616 := by
  show (if (true && decide (x % 18446744073709551616 ≥ 9223372036854775808)) = true then x % 18446744073709551616 - 18446744073709551616 else x % 18446744073709551616) = _
  simp
theorem wrap_i64 {x : Int} (h : -9223372036854775808 ≤ x) (h' : x < 9223372036854775808) : IntKind.wrap .i64 x = x := by
  rw [wrap_i64_eq]; split <;> omega
/-- A number as it stands in a slice of digits. -/
structure NV where
  z : Bool
  o : Own
  ds : List Nat
def dg (d : Nat) : AV := .int .u32 d
def NV.av (x : NV) : AV := .lst none x.z x.o (x.ds.map dg)

section
variable {R : Type}
theorem binA_gtr (tk : TK) (k : IntKind) (a b : Int) : binA tk .gtr (.int k a) (.int k b) = some (.bool (decide (a > b))) := by cases tk <;> simp [binA, binInt]
theorem binA_lss (tk : TK) (k : IntKind) (a b : Int) : binA tk .lss (.int k a) (.int k b) = some (.bool (decide (a < b))) := by cases tk <;> simp [binA, binInt]
theorem binA_geq (tk : TK) (k : IntKind) (a b : Int) : binA tk .geq (.int k a) (.int k b) = some (.bool (decide (a ≥ b))) := by cases tk <;> simp [binA, binInt]
theorem binA_leq (tk : TK) (k : IntKind) (a b : Int) : binA tk .leq (.int k a) (.int k b) = some (.bool (decide (a ≤ b))) := by cases tk <;> simp [binA, binInt]
theorem binA_eql (tk : TK) (k : IntKind) (a b : Int) : binA tk .eql (.int k a) (.int k b) = some (.bool (decide (a = b))) := by cases tk <;> simp [binA, binInt] <;> rfl
theorem binA_neq (tk : TK) (k : IntKind) (a b : Int) : binA tk .neq (.int k a) (.int k b) = some (.bool (decide (a ≠ b))) := by cases tk <;> simp [binA, binInt] <;> by_cases h : a = b <;> simp [h]
theorem binA_add (tk : TK) (k : IntKind) (a b : Int) : binA tk .add (.int k a) (.int k b) = some (.int k (k.wrap (a + b))) := by cases tk <;> simp [binA, binInt]
theorem lenA_lst (sh : Sh) (z : Bool) (o : Own) (es : List AV) : lenA false (.lst sh z o es) = some (.int .i64 es.length) := rfl
theorem ifA_dec (p : Prop) [Decidable p] (x y : Option R) : ifA (.bool (decide p)) x y = if p then x else y := by
  by_cases h : p <;> simp [ifA, h]
theorem loadA_one (m : Mem) (x : AV) : loadA none m (.vptr [x]) = some x := rfl
end

/-! ### Calls that share nothing -/
def Own.fr : Own → Own
  | .tok .. => .no
  | o => o
def NV.fr (x : NV) : NV := ⟨x.z, x.o.fr, x.ds⟩
/-- The value leaves as the other, and bears no name. -/
def Fz (v v' : AV) : Prop := ∀ m, frz m fuelF v = some (v', [])
theorem fz_int (k : IntKind) (n : Int) : Fz (.int k n) (.int k n) := fun _ => rfl
section
variable {cp : Nat → List AV → Option AV} {d : Option Nat} {m : Mem} {g : Nat}
theorem pcall0 : pcall cp d m g [] = (cp g []).map fun v => (v, m) := by
  simp [pcall, mapF, kill]
theorem pcall1 {a a' : AV} (ha : Fz a a') : pcall cp d m g [a] = (cp g [a']).map fun v => (v, m) := by
  simp [pcall, mapF, kill, ha m]
theorem pcall2 {a a' b b' : AV} (ha : Fz a a') (hb : Fz b b') : pcall cp d m g [a, b] = (cp g [a', b']).map fun v => (v, m) := by
  simp [pcall, mapF, kill, ha m, hb m]
end
theorem AP_of {C : Cfg} {f : Nat} {args : List AV} {v v' : AV} {m : Mem} {l : List Nat} (h : AC C f args [] = some (v, m)) (hf : frz m fuelF v = some (v', l)) (hv : (noVL args || noV v') = true) : AP C f args = some v' := by
  unfold AP acallP
  rw [h]
  simp only [Option.bind_some, hf, if_pos hv]
/-! ### A row that is appended to, last in memory -/
/-! ### A row that is written to, last in memory -/
end Go.Ab

/- Numbers as rows of digits, and what they are worth. -/
set_option linter.unusedVariables false
set_option linter.unusedSimpArgs false
set_option linter.unusedSectionVars false
namespace Go.Ab

/-- Digits of a number. -/
def Dg (a : List Nat) : Prop := ∀ i, a.getD i 0 < 4294967296
theorem Dg.take {a : List Nat} (h : Dg a) (n : Nat) : Dg (a.take n) := by
  intro i
  have := h i
  simp only [List.getD_eq_getElem?_getD, List.getElem?_take] at this ⊢
  split
  · exact this
  · simp
theorem Dg.set {a : List Nat} (h : Dg a) (n v : Nat) (hv : v < 4294967296) : Dg (a.set n v) := by
  intro i
  have := h i
  simp only [List.getD_eq_getElem?_getD, List.getElem?_set] at this ⊢
  split
  · split
    · exact hv
    · simp
  · exact this
/-! ### What digits are worth -/
def val : List Nat → Nat
  | [] => 0
  | d :: ds => d + 4294967296 * val ds
/-! ### trim -/
/-! ### Rows in parts -/
/-- What the first i digits are worth. -/
def vs (a : List Nat) (i : Nat) : Nat := val (a.take i)
/-! ### Compare -/
/-! ### Add -/
/-! ### Mul -/
/-! ### Sub -/
end Go.Ab

/- What the operations do on numbers of Nat; rows anywhere in memory. -/
set_option linter.unusedVariables false
set_option linter.unusedSimpArgs false
set_option linter.unusedSectionVars false
namespace Go.Ab

section
variable {tk : TK} {k k' : IntKind} {a b : Nat}
theorem n_gtr : binA tk .gtr (.int k a) (.int k b) = some (.bool (decide (a > b))) := by rw [binA_gtr]; congr 2; exact decide_eq_decide.2 (by omega)
theorem n_lss : binA tk .lss (.int k a) (.int k b) = some (.bool (decide (a < b))) := by rw [binA_lss]; congr 2; exact decide_eq_decide.2 (by omega)
theorem i_add (h : a + b < 9223372036854775808) : binA tk .add (.int .i64 a) (.int .i64 b) = some (.int .i64 (a + b : Nat)) := by
  rw [binA_add, wrap_i64 (by omega) (by omega)]; rfl
theorem i_add1 (h : a + 1 < 9223372036854775808) : binA tk .add (.int .i64 a) (.int .i64 1) = some (.int .i64 (a + 1 : Nat)) := i_add (b := 1) h
end

/-! ### Slices of digits -/
/-! ### Rows in memory -/
end Go.Ab

/- Memory, place by place: what the operations do. -/
set_option linter.unusedVariables false
set_option linter.unusedSimpArgs false
set_option linter.unusedSectionVars false
namespace Go.Ab
open Go.Proofs

theorem g_lt {m : Mem} {e : Option Ent} {nm : Nat} (h : nm < m.length) : Mem.get (m ++ [e]) nm = m.get nm := by
  rw [get_append, if_pos h]
theorem g_eq {m : Mem} {e : Option Ent} {nm : Nat} (h : nm = m.length) : Mem.get (m ++ [e]) nm = e := by
  subst h; simp [Mem.get]
theorem g_sne {m : Mem} {k nm : Nat} {e : Option Ent} (h : nm ≠ k) : Mem.get (m.set k e) nm = m.get nm := by rw [get_set, if_neg h]
theorem g_seq {m : Mem} {k nm : Nat} {e : Option Ent} (h : nm = k) (hk : k < m.length) : Mem.get (m.set k e) nm = e := by
  subst h
  rw [get_set, if_pos rfl, if_pos hk]
def objE : Option Ent → Option (Bool × List AV)
  | some (.obj b cs) => some (b, cs)
  | _ => none
theorem objE_obj (b : Bool) (cs : List AV) : objE (some (.obj b cs)) = some (b, cs) := rfl
theorem obj_objE (m : Mem) (nm : Nat) : m.obj? nm = objE (m.get nm) := by
  unfold Mem.obj? objE
  cases h : m.get nm with
  | none => rfl
  | some e => cases e <;> rfl
theorem ld_ptr (sh : Sh) (m : Mem) (nm off : Nat) : loadA sh m (.ptr nm off) = (objE (m.get nm)).bind fun o => cutSh sh o.2 off := by
  rw [← obj_objE]; rfl
def putE1 (sh : Sh) (m : Mem) (nm off : Nat) (v : AV) (o : Bool × List AV) : Option Mem :=
  if off + sh.size ≤ o.2.length then if shOk sh v then some (m.set nm (some (.obj o.1 (putAt o.2 off v.cells)))) else none else none
theorem st_ptr (sh : Sh) (m : Mem) (nm off : Nat) (v : AV) : storeA sh m (.ptr nm off) v = (objE (m.get nm)).bind (putE1 sh m nm off v) := by
  rw [← obj_objE]; rfl
theorem cut1 (cs : List AV) (off : Nat) : cutSh none cs off = cs[off]? := rfl
theorem cut3 (a b c : AV) : cutSh (some 3) [a, b, c] 0 = some (.agg [a, b, c]) := rfl
theorem cut4 (a b c d : AV) : cutSh (some 4) [a, b, c, d] 0 = some (.agg [a, b, c, d]) := rfl
theorem nil_ptr (nm off : Nat) : nilA (.ptr nm off) = some (.ptr nm off) := rfl
theorem fa_ptr (o nm off : Nat) : fieldAddrA o (.ptr nm off) = some (.ptr nm (off + o)) := rfl
theorem bs {α β : Type} {x : Option α} {v : α} {f : α → Option β} {r : Option β} (h : x = some v) (k : f v = r) : x.bind f = r := by rw [h]; exact k
theorem bsy {α : Type} {x : Option α} {v : α} {f : α → Option (AV × Mem)} (h : x = some v) (k : ∃ m', f v = some (.bool true, m')) : ∃ m', x.bind f = some (.bool true, m') := by rw [h]; exact k
theorem ex0 (v w : AV) : extractA (.tup [v, w]) 0 = some v := rfl
theorem ex1 (v w : AV) : extractA (.tup [v, w]) 1 = some w := rfl

/-! ### What the memory keeps -/
/-- Memory has grown; but for the places told it is as it was. -/
structure Fr (m m' : Mem) (F : List Nat) : Prop where
  len : m.length ≤ m'.length
  get : ∀ x, x < m.length → x ∉ F → m'.get x = m.get x
theorem Fr.refl (m : Mem) (F : List Nat) : Fr m m F := ⟨Nat.le_refl _, fun _ _ _ => rfl⟩
theorem Fr.trans {m m1 m2 : Mem} {F F1 : List Nat} (h : Fr m m1 F) (k : Fr m1 m2 F1) (hF : ∀ x ∈ F1, x ∈ F ∨ m.length ≤ x) : Fr m m2 F :=
  ⟨Nat.le_trans h.len k.len, fun x hx hn => (k.get x (Nat.lt_of_lt_of_le hx h.len) fun h1 => by rcases hF x h1 with h2 | h2 <;> first | exact hn h2 | omega).trans (h.get x hx hn)⟩
theorem Fr.mono {m m' : Mem} {F F' : List Nat} (h : Fr m m' F) (hs : ∀ x ∈ F, x ∈ F') : Fr m m' F' := ⟨h.len, fun x hx hn => h.get x hx fun h' => hn (hs x h')⟩
theorem Fr.app (m : Mem) (e : Option Ent) (F : List Nat) : Fr m (m ++ [e]) F := ⟨by simp, fun x hx _ => g_lt hx⟩
theorem Fr.snoc {m m' : Mem} {F : List Nat} (h : Fr m m' F) (e : Option Ent) : Fr m (m' ++ [e]) F := h.trans (Fr.app m' e []) (fun _ h => by cases h)
theorem Fr.set {m m' : Mem} {F : List Nat} (h : Fr m m' F) {k : Nat} (e : Option Ent) (hk : k ∈ F ∨ m.length ≤ k) : Fr m (m'.set k e) F :=
  ⟨by rw [List.length_set]; exact h.len, fun x hx hn => by
    rw [g_sne (by rintro rfl; rcases hk with hk | hk; exact hn hk; omega)]; exact h.get x hx hn⟩

/-! ### A store -/
def kidsA (n : ND) : AV := if n.var < 0 then .lst none true .full [] else .lst none false .no (n.kids.map (AV.int .i64))
def ND.av (n : ND) : AV := .agg [.int .i64 n.var, kidsA n, .int .i64 n.leaf]
/-- The entries of the table of names. -/
def ents : Nat → List ND → List (AV × AV)
  | _, [] => []
  | k, n :: l => (.str ⟨n.key.toArray⟩, .int .i64 k) :: ents (k + 1) l
theorem key_eq {a b : ND} (ha : a.ok) (hb : b.ok) : keyB (.str ⟨a.key.toArray⟩) (.str ⟨b.key.toArray⟩) = decide (a = b) := by
  simp only [keyB, atomB]
  refine decide_eq_decide.2 ⟨fun h => key_inj ha hb ?_, fun h => by rw [h]⟩
  have := congrArg (fun s : ByteArray => s.data.toList) h
  simpa using this
theorem find_ents {n : ND} (hn : n.ok) : ∀ (l : List ND) (k : Nat), (∀ x ∈ l, x.ok) → (ents k l).find? (fun p => keyB p.1 (.str ⟨n.key.toArray⟩)) = if n ∈ l then some (.str ⟨n.key.toArray⟩, .int .i64 (k + l.idxOf n : Nat)) else none
  | [], k, _ => rfl
  | x :: l, k, h => by
    rw [ents, List.find?_cons, key_eq (h x List.mem_cons_self) hn]
    by_cases he : x = n
    · subst he
      simp
    · rw [decide_eq_false he]
      simp only []
      rw [find_ents hn l (k + 1) fun y hy => h y (List.mem_cons_of_mem _ hy)]
      have : n ∈ x :: l ↔ n ∈ l := ⟨fun h => (List.mem_cons.1 h).resolve_left (fun e => he e.symm), List.mem_cons_of_mem _⟩
      by_cases hm : n ∈ l
      · rw [if_pos hm, if_pos (this.2 hm), List.idxOf_cons, cond_eq_ite, if_neg (by simpa using he)]
        congr 3
        omega
      · rw [if_neg hm, if_neg (fun h => hm (this.1 h))]
theorem ents_app (n : ND) : ∀ (l : List ND) (k : Nat), ents k (l ++ [n]) = ents k l ++ [(.str ⟨n.key.toArray⟩, .int .i64 (k + l.length : Nat))]
  | [], k => rfl
  | x :: l, k => by
    rw [List.cons_append, ents, ents, ents_app n l (k + 1)]
    simp only [List.cons_append, List.length_cons]
    congr 5
    omega
theorem ents_len : ∀ (l : List ND) (k : Nat), (ents k l).length = l.length
  | [], _ => rfl
  | _ :: l, k => by rw [ents, List.length_cons, ents_len l, List.length_cons]
theorem key_len {n : ND} (h : n.ok) : n.key.length ≤ 10000 := by
  rcases h with ⟨h1, h2, h3, h4⟩ | ⟨h1, h2, h3, h4, h5⟩
  · unfold ND.key Yd.nameB
    rw [h1, if_pos (by decide)]
    have := Yd.itoa_len (n := n.leaf) ⟨by omega, by omega⟩
    simp; omega
  · have := Yd.part_len (var := n.var) (ks := n.kids) ⟨by omega, by omega⟩ (fun k hk => by have := h4 k hk; constructor <;> omega) n.kids.length (Nat.le_refl _)
    unfold Yd.part at this
    rw [List.take_length] at this
    unfold ND.key Yd.nameB
    rw [if_neg (by omega)]
    omega
theorem key_size {n : ND} (h : n.ok) : (⟨n.key.toArray⟩ : ByteArray).size ≤ maxLen := by
  have := key_len h
  simp only [ByteArray.size, List.size_toArray, maxLen]
  omega
theorem look_name {m : Mem} {p : Nat} {l : List ND} {n : ND} (hp : m.get p = some (.mp .str (ents 0 l))) (hl : ∀ x ∈ l, x.ok) (hn : n.ok) (z : AV) :
    lookA .str z m (.mref p) (.str ⟨n.key.toArray⟩) = some (if n ∈ l then (.int .i64 (l.idxOf n : Nat), true) else (z, false)) := by
  have h1 : mpA m .str (.mref p) = some (p, ents 0 l) := by simp [mpA, hp]
  have h2 : keyOkA .str (.str ⟨n.key.toArray⟩) = true := decide_eq_true (key_size hn)
  unfold lookA
  rw [h1]
  simp only [Option.bind_some, h2, if_true, lookE, find_ents hn l 0 hl]
  by_cases hm : n ∈ l
  · rw [if_pos hm, if_pos hm]; simp
  · rw [if_neg hm, if_neg hm]
theorem upd_name {m : Mem} {p : Nat} {l : List ND} {n : ND} (hp : m.get p = some (.mp .str (ents 0 l))) (hl : ∀ x ∈ l, x.ok) (hn : n.ok) (hne : n ∉ l) (hlen : l.length < 100000) :
    updA .str m (.mref p) (.str ⟨n.key.toArray⟩) (.int .i64 l.length) = some (m.set p (some (.mp .str (ents 0 (l ++ [n]))))) := by
  have h1 : mpA m .str (.mref p) = some (p, ents 0 l) := by simp [mpA, hp]
  have h2 : keyOkA .str (.str ⟨n.key.toArray⟩) = true := decide_eq_true (key_size hn)
  have h3 : (ents 0 l).any (fun p => keyB p.1 (.str ⟨n.key.toArray⟩)) = false := by
    have := find_ents hn l 0 hl
    rw [if_neg hne, List.find?_eq_none] at this
    rw [List.any_eq_false]
    exact this
  unfold updA
  rw [h1, Option.bind_some, if_pos ⟨h2, rfl, by rw [ents_len]; unfold maxLen; omega⟩, ents_app]
  simp only [putE, h3, Nat.zero_add]
/-- The nodes, as the store holds them. -/
inductive NA (m : Mem) : AV → List ND → List Nat → Prop
  | none : NA m (.lst none true .full []) [] []
  | some (t : Nat) (l : List ND) (ht : m.get t = some (.tok l.length 3)) : NA m (.lst (some 3) false (.tok t 74) (l.map ND.av)) l [t]
/-- A store: where it stands, what it stands on, its arms, its nodes. -/
structure SAt (m : Mem) (s p : Nat) (arms na : AV) (most : Int) (l : List ND) (T : List Nat) : Prop where
  hs : m.get s = some (.obj true [arms, na, .mref p, .int .i64 most])
  hp : m.get p = some (.mp .str (ents 0 l))
  hn : NA m na l T
  ok : ∀ x ∈ l, x.ok
  ne : s ≠ p
  hT : ∀ t ∈ T, t ≠ s ∧ t ≠ p
end Go.Ab

/- The store's inner functions: put, leaf, node, has, above. -/
set_option linter.unusedVariables false
set_option linter.unusedSimpArgs false
set_option linter.unusedSectionVars false
set_option maxRecDepth 100000
namespace Go.Ab
open Go.Proofs Go.Proofs.Tryz

theorem new_n (m : Mem) (e : Ent) : newAt none m e = (m.length, m ++ [some e]) := rfl
theorem box_n {sh : Sh} {m : Mem} {v : AV} (h : shOk sh v = true) : boxA none sh m v = some (.ptr m.length 0, m ++ [some (Ent.obj true v.cells)]) := by
  unfold boxA; rw [if_pos h]; rfl
theorem box_i (k : IntKind) (n : Int) (m : Mem) : boxA none none m (.int k n) = some (.ptr m.length 0, m ++ [some (Ent.obj true [.int k n])]) := rfl
theorem box_p (nm o : Nat) (m : Mem) : boxA none none m (.ptr nm o) = some (.ptr m.length 0, m ++ [some (Ent.obj true [.ptr nm o])]) := rfl
theorem box_nd3 (a b : Int) (z : Bool) (o : Own) (ks : List AV) (m : Mem) : boxA none (some 3) m (.agg [.int .i64 a, .lst none z o ks, .int .i64 b]) = some (.ptr m.length 0, m ++ [some (Ent.obj true [.int .i64 a, .lst none z o ks, .int .i64 b])]) := rfl

theorem resv1 (m : Mem) : reserve m 1 = m ++ [some Ent.resv] := rfl
theorem un_not (b : Bool) : unA .not (.bool b) = some (.bool (!b)) := rfl
theorem ld_v3 (m : Mem) (a b c : AV) : loadA (some 3) m (.vptr [a, b, c]) = some (.agg [a, b, c]) := rfl
theorem ld_v1 (m : Mem) (a b c : AV) : loadA none m (.vptr [a, b, c]) = some a := rfl
theorem cells_int (k : IntKind) (n : Int) : AV.cells (.int k n) = [.int k n] := rfl
theorem aok_int (k : IntKind) (n : Int) : atomOk (.int k n) = true := rfl
theorem cells_bool (b : Bool) : AV.cells (.bool b) = [.bool b] := rfl
theorem aok_bool (b : Bool) : atomOk (.bool b) = true := rfl
theorem cells_str (s : ByteArray) : AV.cells (.str s) = [.str s] := rfl
theorem aok_str (s : ByteArray) : atomOk (.str s) = true := rfl
theorem cells_lst (sh : Sh) (z : Bool) (o : Own) (es : List AV) : AV.cells (.lst sh z o es) = [.lst sh z o es] := rfl
theorem aok_lst (sh : Sh) (z : Bool) (o : Own) (es : List AV) : atomOk (.lst sh z o es) = true := rfl
theorem cells_ptr (nm off : Nat) : AV.cells (.ptr nm off) = [.ptr nm off] := rfl
theorem aok_ptr (nm off : Nat) : atomOk (.ptr nm off) = true := rfl
theorem cells_arr (nm off n : Nat) (sh : Sh) : AV.cells (.arr nm off n sh) = [.arr nm off n sh] := rfl
theorem aok_arr (nm off n : Nat) (sh : Sh) : atomOk (.arr nm off n sh) = true := rfl
theorem cells_fn (f : Nat) (cs : List AV) : AV.cells (.fn f cs) = [.fn f cs] := rfl
theorem aok_fn (f : Nat) (cs : List AV) : atomOk (.fn f cs) = true := rfl
theorem cells_mref (nm : Nat) : AV.cells (.mref nm) = [.mref nm] := rfl
theorem aok_mref (nm : Nat) : atomOk (.mref nm) = true := rfl
theorem cells_nilp : AV.cells .nilp = [.nilp] := rfl
theorem aok_nilp : atomOk .nilp = true := rfl
theorem cells_agg (cs : List AV) : AV.cells (.agg cs) = cs := rfl
theorem shOk_n (v : AV) : shOk none v = atomOk v := rfl
theorem shOk_s (n : Nat) (cs : List AV) : shOk (some n) (.agg cs) = (cs.length == n && cs.all atomOk) := rfl
theorem ifA_f {R : Type} (x y : Option R) : ifA (.bool false) x y = y := rfl
theorem ifA_t {R : Type} (x y : Option R) : ifA (.bool true) x y = x := rfl
theorem put_old {m : Mem} {s p : Nat} {arms na : AV} {most : Int} {l : List ND} {T : List Nat} (h : SAt m s p arms na most l T) {n : ND} (hn : n.ok) (hm : n ∈ l) (z : Bool) (o : Own) :
    AC cfg 139 [.ptr s 0, .agg [.int .i64 n.var, .lst none z o (n.kids.map (AV.int .i64)), .int .i64 n.leaf]] m = some (.int .i64 (l.idxOf n : Nat), m ++ [some (Ent.obj true [.int .i64 n.var, .lst none z o (n.kids.map (AV.int .i64)), .int .i64 n.leaf])]) := by
  have hs := h.hs; have hp := h.hp
  have hsl := get_lt hs; have hpl := get_lt hp
  have hp' : Mem.get (m ++ [some (Ent.obj true [.int .i64 n.var, .lst none z o (n.kids.map (AV.int .i64)), .int .i64 n.leaf])]) p = some (Ent.mp .str (ents 0 l)) := by rw [g_lt hpl]; exact hp
  have nm := name_ND hn z o
  have lk := look_name hp' h.ok hn (.int .i64 0)
  rw [if_pos hm] at lk
  rw [T139]
  repeat ((with_reducible (first | apply bs | apply bsy)); (focus (first | (simp (disch := (first | assumption | omega | (simp only [List.length_append, List.length_set, List.length_cons, List.length_nil]; first | done | omega))) only [List.all_cons, List.all_nil, Bool.and_true, Bool.and_self, beq_self_eq_true, resv1, List.length_map, ld_v3, ld_v1, binA_eql, binA_neq, binA_lss, binA_leq, binA_gtr, binA_geq, loadA_one, un_not, ld_ptr, st_ptr, putE1, objE_obj, Option.bind_some, cut1, cut3, cut4, nil_ptr, fa_ptr, g_lt, g_eq, g_sne, g_seq, new_n, box_n, List.getElem?_cons_zero, List.getElem?_cons_succ, ex0, ex1, Sh.size, cells_int, aok_int, cells_bool, aok_bool, cells_str, aok_str, cells_lst, aok_lst, cells_ptr, aok_ptr, cells_arr, aok_arr, cells_fn, aok_fn, cells_mref, aok_mref, cells_nilp, aok_nilp, cells_agg, shOk_n, shOk_s, lenA_lst, List.length_cons, List.length_nil, if_true, putAt, List.take_succ_cons, List.take_zero, List.drop_succ_cons, List.drop_zero, List.cons_append, List.nil_append, List.append_nil, Nat.zero_add, Nat.reduceAdd, Nat.reduceLeDiff, Nat.le_refl, List.drop_nil, List.take_nil, List.length_append, List.length_set, hs, box_nd3, nm, lk]; first | done | rfl) | rfl)); try dsimp only)
  rw [ifA_t]
theorem bsl_nd (a b : Int) (z : Bool) (o : Own) (ks : List AV) : buildSliceA (some 3) [.agg [.int .i64 a, .lst none z o ks, .int .i64 b]] = some (.lst (some 3) false .full [.agg [.int .i64 a, stripA (.lst none z o ks), .int .i64 b]]) := by
  cases o <;> rfl
theorem app_full (b : Nat) (m : Mem) (y : AV) : appA (some b) false 74 (some 3) 40 m (.lst none true .full []) (.lst (some 3) false .full [y]) = some (.lst (some 3) false (.tok b 74) [y], m.set b (some (Ent.tok 1 3))) := rfl
theorem app_tok3 {b t : Nat} {m : Mem} {es : List AV} {y : AV} (ht : m.get t = some (Ent.tok es.length 3)) (h : es.length < 1000000) : appA (some b) false 74 (some 3) 40 m (.lst (some 3) false (.tok t 74) es) (.lst (some 3) false .full [y]) = some (.lst (some 3) false (.tok t 74) (es ++ [y]), m.set t (some (Ent.tok (es.length + 1) 3))) := by
  have h2 : (es.length + 1) * 40 ≤ roomA := by unfold roomA; omega
  simp [appA, ht, Sh.size, h2]

/-! ### What a store keeps -/
theorem NA.move {m m' : Mem} {na : AV} {l : List ND} {T : List Nat} (h : NA m na l T) (f : ∀ x ∈ T, m'.get x = m.get x) : NA m' na l T := by
  cases h with
  | none => exact .none
  | some t l ht => exact .some t l ((f t (by simp)).trans ht)
theorem SAt.move {m m' : Mem} {s p : Nat} {arms na : AV} {most : Int} {l : List ND} {T : List Nat} (h : SAt m s p arms na most l T) (f : ∀ x ∈ s :: p :: T, m'.get x = m.get x) : SAt m' s p arms na most l T :=
  ⟨(f s (by simp)).trans h.hs, (f p (by simp)).trans h.hp, h.hn.move fun x hx => f x (by simp [hx]), h.ok, h.ne, h.hT⟩
theorem SAt.lt {m : Mem} {s p : Nat} {arms na : AV} {most : Int} {l : List ND} {T : List Nat} (h : SAt m s p arms na most l T) : ∀ x ∈ s :: p :: T, x < m.length := by
  intro x hx
  simp only [List.mem_cons] at hx
  rcases hx with rfl | rfl | hx
  · exact get_lt h.hs
  · exact get_lt h.hp
  · cases h.hn with
    | none => cases hx
    | some t l ht => obtain rfl : x = t := by simpa using hx
                     exact get_lt ht
/-- A store at s, standing on the places F. -/
def St8 (m : Mem) (s : Nat) (F : List Nat) (arms : AV) (most : Int) (l : List ND) : Prop := ∃ p na T, SAt m s p arms na most l T ∧ F = s :: p :: T
theorem St8.move {m m' : Mem} {s : Nat} {F : List Nat} {arms : AV} {most : Int} {l : List ND} (h : St8 m s F arms most l) (f : ∀ x ∈ F, m'.get x = m.get x) : St8 m' s F arms most l := by
  obtain ⟨p, na, T, h, rfl⟩ := h
  exact ⟨p, na, T, h.move f, rfl⟩
theorem St8.lt {m : Mem} {s : Nat} {F : List Nat} {arms : AV} {most : Int} {l : List ND} (h : St8 m s F arms most l) : ∀ x ∈ F, x < m.length := by
  obtain ⟨p, na, T, h, rfl⟩ := h
  exact h.lt
theorem St8.fr {m m' : Mem} {s : Nat} {F G : List Nat} {arms : AV} {most : Int} {l : List ND} (h : St8 m s F arms most l) (f : Fr m m' G) (hd : ∀ x ∈ F, x ∉ G) : St8 m' s F arms most l := h.move fun x hx => f.get x (h.lt x hx) (hd x hx)
/-- The places of the store have grown. -/
def Gr (m : Mem) (F F' : List Nat) : Prop := ∀ x ∈ F', x ∈ F ∨ m.length ≤ x
theorem Gr.refl (m : Mem) (F : List Nat) : Gr m F F := fun _ h => .inl h
theorem Gr.trans {m m1 : Mem} {F F1 F2 : List Nat} (hl : m.length ≤ m1.length) (h : Gr m F F1) (k : Gr m1 F1 F2) : Gr m F F2 := fun x hx => by
  rcases k x hx with h1 | h1
  · exact h x h1
  · exact .inr (by omega)
def ins (l : List ND) (n : ND) : List ND := if n ∈ l then l else l ++ [n]
theorem idxOf_not {l : List ND} {n : ND} (h : n ∉ l) : l.idxOf n = l.length := List.idxOf_eq_length h
theorem put_new {m : Mem} {s p : Nat} {arms na : AV} {most : Int} {l : List ND} {T : List Nat} (h : SAt m s p arms na most l T) {n : ND} (hn : n.ok) (hm : n ∉ l) {z : Bool} {o : Own} (hk : stripA (.lst none z o (n.kids.map (AV.int .i64))) = kidsA n)
    (hl : (l.length : Int) < most) (hmo : most ≤ 100000) : ∃ m' na' T', AC cfg 139 [.ptr s 0, .agg [.int .i64 n.var, .lst none z o (n.kids.map (AV.int .i64)), .int .i64 n.leaf]] m = some (.int .i64 l.length, m') ∧
      SAt m' s p arms na' most (l ++ [n]) T' ∧ Fr m m' (s :: p :: T) ∧ ∀ t ∈ T', t ∈ T ∨ m.length ≤ t := by
  have hs := h.hs; have hp := h.hp
  have hsl := get_lt hs; have hpl := get_lt hp
  have hne := h.ne
  have hne' : p ≠ s := fun e => hne e.symm
  have nm := name_ND hn z o
  have hok : ∀ x ∈ l ++ [n], x.ok := fun x hx => by
    rcases List.mem_append.1 hx with hx | hx
    · exact h.ok x hx
    · obtain rfl : x = n := by simpa using hx
      exact hn
  have hll : l.length < 100000 := by omega
  generalize hbx : some (Ent.obj true [.int .i64 n.var, .lst none z o (n.kids.map (AV.int .i64)), .int .i64 n.leaf]) = bx
  have hp' : Mem.get (m ++ [bx]) p = some (Ent.mp .str (ents 0 l)) := by rw [g_lt hpl]; exact hp
  have lk := look_name hp' h.ok hn (.int .i64 0)
  rw [if_neg hm] at lk
  have hbox := box_nd3 n.var n.leaf z o (n.kids.map (AV.int .i64)) m
  rw [hbx] at hbox
  have ldb : objE bx = some (true, [.int .i64 n.var, .lst none z o (n.kids.map (AV.int .i64)), .int .i64 n.leaf]) := by rw [← hbx]; rfl
  have hT := h.hT
  have hav : AV.agg [.int .i64 n.var, kidsA n, .int .i64 n.leaf] = n.av := rfl
  have up := fun m' hp => upd_name (m := m') (p := p) hp h.ok hn hm hll
  have len1 : ∀ y : AV, ((l.map ND.av) ++ [y]).length = l.length + 1 := fun y => by simp
  have wr1 : IntKind.wrap .i64 (((l.length + 1 : Nat) : Int) - 1) = l.length := by rw [wrap_i64 (by omega) (by omega)]; omega
  have key : ∃ m' na' T', AC cfg 139 [.ptr s 0, .agg [.int .i64 n.var, .lst none z o (n.kids.map (AV.int .i64)), .int .i64 n.leaf]] m = some (.int .i64 l.length, m') ∧
      Mem.get m' s = some (Ent.obj true [arms, na', .mref p, .int .i64 most]) ∧ Mem.get m' p = some (Ent.mp .str (ents 0 (l ++ [n]))) ∧ NA m' na' (l ++ [n]) T' ∧ Fr m m' (s :: p :: T) ∧ (∀ t ∈ T', t ≠ s ∧ t ≠ p) ∧ ∀ t ∈ T', t ∈ T ∨ m.length ≤ t := by
    cases h.hn with
    | none =>
      have e : AC cfg 139 [.ptr s 0, .agg [.int .i64 n.var, .lst none z o (n.kids.map (AV.int .i64)), .int .i64 n.leaf]] m = some (.int .i64 (0 : Nat), (((((m ++ [bx]) ++ [some Ent.resv]).set (m.length + 1) (some (Ent.tok 1 3))).set s (some (Ent.obj true [arms, .lst (some 3) false (.tok (m.length + 1) 74) [n.av], .mref p, .int .i64 most]))).set p (some (Ent.mp .str (ents 0 ([] ++ [n])))))) := by
        rw [T139]
        repeat ((with_reducible (first | apply bs | apply bsy)); (focus (first | (simp (disch := (first | assumption | omega | (simp only [List.length_append, List.length_set, List.length_cons, List.length_nil]; first | done | omega))) only [List.all_cons, List.all_nil, Bool.and_true, Bool.and_self, beq_self_eq_true, resv1, List.length_map, ld_v3, ld_v1, binA_eql, binA_neq, binA_lss, binA_leq, binA_gtr, binA_geq, loadA_one, un_not, ld_ptr, st_ptr, putE1, objE_obj, Option.bind_some, cut1, cut3, cut4, nil_ptr, fa_ptr, g_lt, g_eq, g_sne, g_seq, new_n, box_n, List.getElem?_cons_zero, List.getElem?_cons_succ, ex0, ex1, Sh.size, cells_int, aok_int, cells_bool, aok_bool, cells_str, aok_str, cells_lst, aok_lst, cells_ptr, aok_ptr, cells_arr, aok_arr, cells_fn, aok_fn, cells_mref, aok_mref, cells_nilp, aok_nilp, cells_agg, shOk_n, shOk_s, lenA_lst, List.length_cons, List.length_nil, if_true, putAt, List.take_succ_cons, List.take_zero, List.drop_succ_cons, List.drop_zero, List.cons_append, List.nil_append, List.append_nil, Nat.zero_add, Nat.reduceAdd, Nat.reduceLeDiff, Nat.le_refl, List.drop_nil, List.take_nil, List.length_append, List.length_set, hs, hbox, nm, lk, ldb]; first | done | rfl) | rfl)); try dsimp only)
        rw [ifA_f]
        repeat ((with_reducible (first | apply bs | apply bsy)); (focus (first | (simp (disch := (first | assumption | omega | (simp only [List.length_append, List.length_set, List.length_cons, List.length_nil]; first | done | omega))) only [List.all_cons, List.all_nil, Bool.and_true, Bool.and_self, beq_self_eq_true, resv1, List.length_map, ld_v3, ld_v1, binA_eql, binA_neq, binA_lss, binA_leq, binA_gtr, binA_geq, loadA_one, un_not, ld_ptr, st_ptr, putE1, objE_obj, Option.bind_some, cut1, cut3, cut4, nil_ptr, fa_ptr, g_lt, g_eq, g_sne, g_seq, new_n, box_n, List.getElem?_cons_zero, List.getElem?_cons_succ, ex0, ex1, Sh.size, cells_int, aok_int, cells_bool, aok_bool, cells_str, aok_str, cells_lst, aok_lst, cells_ptr, aok_ptr, cells_arr, aok_arr, cells_fn, aok_fn, cells_mref, aok_mref, cells_nilp, aok_nilp, cells_agg, shOk_n, shOk_s, lenA_lst, List.length_cons, List.length_nil, if_true, putAt, List.take_succ_cons, List.take_zero, List.drop_succ_cons, List.drop_zero, List.cons_append, List.nil_append, List.append_nil, Nat.zero_add, Nat.reduceAdd, Nat.reduceLeDiff, Nat.le_refl, List.drop_nil, List.take_nil, List.length_append, List.length_set, hs, hbox, nm, lk, ldb]; first | done | rfl) | rfl)); try dsimp only)
        rw [ifA_dec, if_neg (by simp at hl ⊢; omega)]
        repeat ((with_reducible (first | apply bs | apply bsy)); (focus (first | (simp (disch := (first | assumption | omega | (simp only [List.length_append, List.length_set, List.length_cons, List.length_nil]; first | done | omega))) only [List.all_cons, List.all_nil, Bool.and_true, Bool.and_self, beq_self_eq_true, resv1, List.length_map, ld_v3, ld_v1, binA_eql, binA_neq, binA_lss, binA_leq, binA_gtr, binA_geq, loadA_one, un_not, ld_ptr, st_ptr, putE1, objE_obj, Option.bind_some, cut1, cut3, cut4, nil_ptr, fa_ptr, g_lt, g_eq, g_sne, g_seq, new_n, box_n, List.getElem?_cons_zero, List.getElem?_cons_succ, ex0, ex1, Sh.size, cells_int, aok_int, cells_bool, aok_bool, cells_str, aok_str, cells_lst, aok_lst, cells_ptr, aok_ptr, cells_arr, aok_arr, cells_fn, aok_fn, cells_mref, aok_mref, cells_nilp, aok_nilp, cells_agg, shOk_n, shOk_s, lenA_lst, List.length_cons, List.length_nil, if_true, putAt, List.take_succ_cons, List.take_zero, List.drop_succ_cons, List.drop_zero, List.cons_append, List.nil_append, List.append_nil, Nat.zero_add, Nat.reduceAdd, Nat.reduceLeDiff, Nat.le_refl, List.drop_nil, List.take_nil, List.length_append, List.length_set, hs, hbox, nm, lk, ldb, bsl_nd, hk, app_full, hav]; first | done | rfl) | rfl)); try dsimp only)
        rw [show IntKind.wrap .i64 ((1 : Nat) - 1 : Int) = ((([] : List ND).length : Nat) : Int) from rfl, up _ ?hq, Option.bind_some]
        case hq => exact (by simp (disch := (first | assumption | omega | (simp only [List.length_append, List.length_set, List.length_cons, List.length_nil]; first | done | omega))) only [resv1, g_lt, g_eq, g_sne, g_seq, hp]; first | done | rfl)
        repeat ((with_reducible (first | apply bs | apply bsy)); (focus (first | (simp (disch := (first | assumption | omega | (simp only [List.length_append, List.length_set, List.length_cons, List.length_nil]; first | done | omega))) only [List.all_cons, List.all_nil, Bool.and_true, Bool.and_self, beq_self_eq_true, resv1, List.length_map, ld_v3, ld_v1, binA_eql, binA_neq, binA_lss, binA_leq, binA_gtr, binA_geq, loadA_one, un_not, ld_ptr, st_ptr, putE1, objE_obj, Option.bind_some, cut1, cut3, cut4, nil_ptr, fa_ptr, g_lt, g_eq, g_sne, g_seq, new_n, box_n, List.getElem?_cons_zero, List.getElem?_cons_succ, ex0, ex1, Sh.size, cells_int, aok_int, cells_bool, aok_bool, cells_str, aok_str, cells_lst, aok_lst, cells_ptr, aok_ptr, cells_arr, aok_arr, cells_fn, aok_fn, cells_mref, aok_mref, cells_nilp, aok_nilp, cells_agg, shOk_n, shOk_s, lenA_lst, List.length_cons, List.length_nil, if_true, putAt, List.take_succ_cons, List.take_zero, List.drop_succ_cons, List.drop_zero, List.cons_append, List.nil_append, List.append_nil, Nat.zero_add, Nat.reduceAdd, Nat.reduceLeDiff, Nat.le_refl, List.drop_nil, List.take_nil, List.length_append, List.length_set, hs]; first | done | rfl) | rfl)); try dsimp only)
        rfl
      refine ⟨_, _, [m.length + 1], e, (by simp (disch := (first | assumption | omega | (simp only [List.length_append, List.length_set, List.length_cons, List.length_nil]; first | done | omega))) only [resv1, g_lt, g_eq, g_sne, g_seq]; first | done | rfl), (by simp (disch := (first | assumption | omega | (simp only [List.length_append, List.length_set, List.length_cons, List.length_nil]; first | done | omega))) only [resv1, g_lt, g_eq, g_sne, g_seq]; first | done | rfl), ?_, ?_, ?_, ?_⟩
      · exact .some _ [n] (by simp (disch := (first | assumption | omega | (simp only [List.length_append, List.length_set, List.length_cons, List.length_nil]; first | done | omega))) only [resv1, g_lt, g_eq, g_sne, g_seq]; first | done | rfl)
      · exact ((((Fr.app m bx _).snoc _).set _ (.inr (by omega))).set _ (.inl (by simp))).set _ (.inl (by simp))
      · intro t ht
        obtain rfl : t = m.length + 1 := by simpa using ht
        omega
      · intro t ht
        obtain rfl : t = m.length + 1 := by simpa using ht
        omega
    | some t l ht =>
      have htl := get_lt ht
      have hts := (hT t (by simp)).1
      have htp := (hT t (by simp)).2
      have hts' : s ≠ t := fun e => hts e.symm
      have htp' : p ≠ t := fun e => htp e.symm
      have e : AC cfg 139 [.ptr s 0, .agg [.int .i64 n.var, .lst none z o (n.kids.map (AV.int .i64)), .int .i64 n.leaf]] m = some (.int .i64 l.length, (((((m ++ [bx]) ++ [some Ent.resv]).set t (some (Ent.tok (l.length + 1) 3))).set s (some (Ent.obj true [arms, .lst (some 3) false (.tok t 74) (l.map ND.av ++ [n.av]), .mref p, .int .i64 most]))).set p (some (Ent.mp .str (ents 0 (l ++ [n])))))) := by
        have ap := fun m' b ht => app_tok3 (b := b) (m := m') (t := t) (es := l.map ND.av) (y := n.av) ht (by simp; omega)
        simp only [List.length_map] at ap
        rw [T139]
        repeat ((with_reducible (first | apply bs | apply bsy)); (focus (first | (simp (disch := (first | assumption | omega | (simp only [List.length_append, List.length_set, List.length_cons, List.length_nil]; first | done | omega))) only [List.all_cons, List.all_nil, Bool.and_true, Bool.and_self, beq_self_eq_true, resv1, List.length_map, ld_v3, ld_v1, binA_eql, binA_neq, binA_lss, binA_leq, binA_gtr, binA_geq, loadA_one, un_not, ld_ptr, st_ptr, putE1, objE_obj, Option.bind_some, cut1, cut3, cut4, nil_ptr, fa_ptr, g_lt, g_eq, g_sne, g_seq, new_n, box_n, List.getElem?_cons_zero, List.getElem?_cons_succ, ex0, ex1, Sh.size, cells_int, aok_int, cells_bool, aok_bool, cells_str, aok_str, cells_lst, aok_lst, cells_ptr, aok_ptr, cells_arr, aok_arr, cells_fn, aok_fn, cells_mref, aok_mref, cells_nilp, aok_nilp, cells_agg, shOk_n, shOk_s, lenA_lst, List.length_cons, List.length_nil, if_true, putAt, List.take_succ_cons, List.take_zero, List.drop_succ_cons, List.drop_zero, List.cons_append, List.nil_append, List.append_nil, Nat.zero_add, Nat.reduceAdd, Nat.reduceLeDiff, Nat.le_refl, List.drop_nil, List.take_nil, List.length_append, List.length_set, hs, hbox, nm, lk, ldb]; first | done | rfl) | rfl)); try dsimp only)
        rw [ifA_f]
        repeat ((with_reducible (first | apply bs | apply bsy)); (focus (first | (simp (disch := (first | assumption | omega | (simp only [List.length_append, List.length_set, List.length_cons, List.length_nil]; first | done | omega))) only [List.all_cons, List.all_nil, Bool.and_true, Bool.and_self, beq_self_eq_true, resv1, List.length_map, ld_v3, ld_v1, binA_eql, binA_neq, binA_lss, binA_leq, binA_gtr, binA_geq, loadA_one, un_not, ld_ptr, st_ptr, putE1, objE_obj, Option.bind_some, cut1, cut3, cut4, nil_ptr, fa_ptr, g_lt, g_eq, g_sne, g_seq, new_n, box_n, List.getElem?_cons_zero, List.getElem?_cons_succ, ex0, ex1, Sh.size, cells_int, aok_int, cells_bool, aok_bool, cells_str, aok_str, cells_lst, aok_lst, cells_ptr, aok_ptr, cells_arr, aok_arr, cells_fn, aok_fn, cells_mref, aok_mref, cells_nilp, aok_nilp, cells_agg, shOk_n, shOk_s, lenA_lst, List.length_cons, List.length_nil, if_true, putAt, List.take_succ_cons, List.take_zero, List.drop_succ_cons, List.drop_zero, List.cons_append, List.nil_append, List.append_nil, Nat.zero_add, Nat.reduceAdd, Nat.reduceLeDiff, Nat.le_refl, List.drop_nil, List.take_nil, List.length_append, List.length_set, hs, hbox, nm, lk, ldb, List.length_map]; first | done | rfl) | rfl)); try dsimp only)
        rw [ifA_dec, if_neg (by omega)]
        repeat ((with_reducible (first | apply bs | apply bsy)); (focus (first | (simp (disch := (first | assumption | omega | (simp only [List.length_append, List.length_set, List.length_cons, List.length_nil]; first | done | omega))) only [List.all_cons, List.all_nil, Bool.and_true, Bool.and_self, beq_self_eq_true, resv1, List.length_map, ld_v3, ld_v1, binA_eql, binA_neq, binA_lss, binA_leq, binA_gtr, binA_geq, loadA_one, un_not, ld_ptr, st_ptr, putE1, objE_obj, Option.bind_some, cut1, cut3, cut4, nil_ptr, fa_ptr, g_lt, g_eq, g_sne, g_seq, new_n, box_n, List.getElem?_cons_zero, List.getElem?_cons_succ, ex0, ex1, Sh.size, cells_int, aok_int, cells_bool, aok_bool, cells_str, aok_str, cells_lst, aok_lst, cells_ptr, aok_ptr, cells_arr, aok_arr, cells_fn, aok_fn, cells_mref, aok_mref, cells_nilp, aok_nilp, cells_agg, shOk_n, shOk_s, lenA_lst, List.length_cons, List.length_nil, if_true, putAt, List.take_succ_cons, List.take_zero, List.drop_succ_cons, List.drop_zero, List.cons_append, List.nil_append, List.append_nil, Nat.zero_add, Nat.reduceAdd, Nat.reduceLeDiff, Nat.le_refl, List.drop_nil, List.take_nil, List.length_append, List.length_set, hs, hbox, nm, lk, ldb, bsl_nd, hk, hav]; first | done | rfl) | rfl)); try dsimp only)
        rw [ap _ _ ?hq, Option.bind_some]
        case hq => exact (by simp (disch := (first | assumption | omega | (simp only [List.length_append, List.length_set, List.length_cons, List.length_nil]; first | done | omega))) only [resv1, g_lt, g_eq, g_sne, g_seq, ht]; first | done | rfl)
        dsimp only
        repeat ((with_reducible (first | apply bs | apply bsy)); (focus (first | (simp (disch := (first | assumption | omega | (simp only [List.length_append, List.length_set, List.length_cons, List.length_nil]; first | done | omega))) only [List.all_cons, List.all_nil, Bool.and_true, Bool.and_self, beq_self_eq_true, resv1, List.length_map, ld_v3, ld_v1, binA_eql, binA_neq, binA_lss, binA_leq, binA_gtr, binA_geq, loadA_one, un_not, ld_ptr, st_ptr, putE1, objE_obj, Option.bind_some, cut1, cut3, cut4, nil_ptr, fa_ptr, g_lt, g_eq, g_sne, g_seq, new_n, box_n, List.getElem?_cons_zero, List.getElem?_cons_succ, ex0, ex1, Sh.size, cells_int, aok_int, cells_bool, aok_bool, cells_str, aok_str, cells_lst, aok_lst, cells_ptr, aok_ptr, cells_arr, aok_arr, cells_fn, aok_fn, cells_mref, aok_mref, cells_nilp, aok_nilp, cells_agg, shOk_n, shOk_s, lenA_lst, List.length_cons, List.length_nil, if_true, putAt, List.take_succ_cons, List.take_zero, List.drop_succ_cons, List.drop_zero, List.cons_append, List.nil_append, List.append_nil, Nat.zero_add, Nat.reduceAdd, Nat.reduceLeDiff, Nat.le_refl, List.drop_nil, List.take_nil, List.length_append, List.length_set, hs, len1]; first | done | rfl) | rfl)); try dsimp only)
        rw [wr1, up _ ?hq, Option.bind_some]
        case hq => exact (by simp (disch := (first | assumption | omega | (simp only [List.length_append, List.length_set, List.length_cons, List.length_nil]; first | done | omega))) only [resv1, g_lt, g_eq, g_sne, g_seq, hp]; first | done | rfl)
        repeat ((with_reducible (first | apply bs | apply bsy)); (focus (first | (simp (disch := (first | assumption | omega | (simp only [List.length_append, List.length_set, List.length_cons, List.length_nil]; first | done | omega))) only [List.all_cons, List.all_nil, Bool.and_true, Bool.and_self, beq_self_eq_true, resv1, List.length_map, ld_v3, ld_v1, binA_eql, binA_neq, binA_lss, binA_leq, binA_gtr, binA_geq, loadA_one, un_not, ld_ptr, st_ptr, putE1, objE_obj, Option.bind_some, cut1, cut3, cut4, nil_ptr, fa_ptr, g_lt, g_eq, g_sne, g_seq, new_n, box_n, List.getElem?_cons_zero, List.getElem?_cons_succ, ex0, ex1, Sh.size, cells_int, aok_int, cells_bool, aok_bool, cells_str, aok_str, cells_lst, aok_lst, cells_ptr, aok_ptr, cells_arr, aok_arr, cells_fn, aok_fn, cells_mref, aok_mref, cells_nilp, aok_nilp, cells_agg, shOk_n, shOk_s, lenA_lst, List.length_cons, List.length_nil, if_true, putAt, List.take_succ_cons, List.take_zero, List.drop_succ_cons, List.drop_zero, List.cons_append, List.nil_append, List.append_nil, Nat.zero_add, Nat.reduceAdd, Nat.reduceLeDiff, Nat.le_refl, List.drop_nil, List.take_nil, List.length_append, List.length_set, hs, len1]; first | done | rfl) | rfl)); try dsimp only)
        rw [wr1]
      refine ⟨_, _, [t], e, (by simp (disch := (first | assumption | omega | (simp only [List.length_append, List.length_set, List.length_cons, List.length_nil]; first | done | omega))) only [resv1, g_lt, g_eq, g_sne, g_seq]; first | done | rfl), (by simp (disch := (first | assumption | omega | (simp only [List.length_append, List.length_set, List.length_cons, List.length_nil]; first | done | omega))) only [resv1, g_lt, g_eq, g_sne, g_seq]; first | done | rfl), ?_, ?_, ?_, ?_⟩
      · have e2 : (l ++ [n]).map ND.av = l.map ND.av ++ [n.av] := by simp
        rw [← e2]
        refine .some t (l ++ [n]) ?_
        rw [List.length_append]
        exact (by simp (disch := (first | assumption | omega | (simp only [List.length_append, List.length_set, List.length_cons, List.length_nil]; first | done | omega))) only [resv1, g_lt, g_eq, g_sne, g_seq]; first | done | rfl)
      · exact ((((Fr.app m bx _).snoc _).set _ (.inl (by simp))).set _ (.inl (by simp))).set _ (.inl (by simp))
      · intro x hx
        obtain rfl : x = t := by simpa using hx
        exact ⟨hts, htp⟩
      · intro x hx
        exact .inl hx
  obtain ⟨m', na', T', e, k1, k2, k3, k4, k5, k6⟩ := key
  exact ⟨m', na', T', e, ⟨k1, k2, k3, hok, hne, k5⟩, k4, k6⟩
/-- The node is put. -/
theorem put_St {m : Mem} {s : Nat} {F : List Nat} {arms : AV} {most : Int} {l : List ND} (h : St8 m s F arms most l) {n : ND} (hn : n.ok) {z : Bool} {o : Own} (hk : stripA (.lst none z o (n.kids.map (AV.int .i64))) = kidsA n)
    (hl : (l.length : Int) < most) (hmo : most ≤ 100000) : ∃ m' F', AC cfg 139 [.ptr s 0, .agg [.int .i64 n.var, .lst none z o (n.kids.map (AV.int .i64)), .int .i64 n.leaf]] m = some (.int .i64 (l.idxOf n : Nat), m') ∧
      St8 m' s F' arms most (ins l n) ∧ Fr m m' F ∧ Gr m F F' := by
  obtain ⟨p, na, T, h, rfl⟩ := h
  by_cases hm : n ∈ l
  · refine ⟨_, s :: p :: T, put_old h hn hm z o, ?_, Fr.app m _ _, Gr.refl _ _⟩
    rw [ins, if_pos hm]
    exact ⟨p, na, T, h.move fun x hx => g_lt (h.lt x hx), rfl⟩
  · obtain ⟨m', na', T', e, h1, h2, h3⟩ := put_new h hn hm hk hl hmo
    refine ⟨m', s :: p :: T', by rw [idxOf_not hm]; exact e, ?_, h2, fun x hx => ?_⟩
    · rw [ins, if_neg hm]; exact ⟨p, na', T', h1, rfl⟩
    · simp only [List.mem_cons] at hx ⊢
      rcases hx with rfl | rfl | hx
      · exact .inl (.inl rfl)
      · exact .inl (.inr (.inl rfl))
      · rcases h3 x hx with h | h
        · exact .inl (.inr (.inr h))
        · exact .inr h
end Go.Ab

/- What the interpreter does, function by function. -/
set_option maxRecDepth 100000
set_option linter.unusedVariables false
namespace Go.Ab
open Go.Proofs.Tryz
/-! ### (*sortilege/diagram.Store).Make -/
theorem T34 (a0 a1 a2 : AV) (m : Mem) : AC cfg 34 [a0, a1, a2] m =
  (boxA none none m a0).bind fun r1 =>
  (boxA none none r1.2 a1).bind fun r2 =>
  (boxA none none r2.2 a2).bind fun r3 =>
  (loadA none r3.2 r1.1).bind fun v4 =>
  (AC cfg 80 [v4] r3.2).bind fun r5 =>
  ifA r5.1 (
  some ((.tup [(.int .i64 0), (.int .i64 4)]), r5.2)) (
  (loadA none r5.2 r2.1).bind fun v6 =>
  (binA .other .lss v6 (.int .i64 0)).bind fun v7 =>
  ifA v7 (
  some ((.tup [(.int .i64 0), (.int .i64 1)]), r5.2)) (
  (loadA none r5.2 r2.1).bind fun v8 =>
  (loadA none r5.2 r1.1).bind fun v9 =>
  (nilA v9).bind fun v10 =>
  (fieldAddrA 0 v10).bind fun v11 =>
  (loadA none r5.2 v11).bind fun v12 =>
  (lenA false v12).bind fun v13 =>
  (binA .other .geq v8 v13).bind fun v14 =>
  ifA v14 (
  some ((.tup [(.int .i64 0), (.int .i64 1)]), r5.2)) (
  (loadA none r5.2 r3.1).bind fun v15 =>
  (lenA false v15).bind fun v16 =>
  (loadA none r5.2 r1.1).bind fun v17 =>
  (nilA v17).bind fun v18 =>
  (fieldAddrA 0 v18).bind fun v19 =>
  (loadA none r5.2 v19).bind fun v20 =>
  (loadA none r5.2 r2.1).bind fun v21 =>
  (indexAddrA none v20 v21).bind fun v22 =>
  (loadA none r5.2 v22).bind fun v23 =>
  (binA .other .neq v16 v23).bind fun v24 =>
  ifA v24 (
  some ((.tup [(.int .i64 0), (.int .i64 1)]), r5.2)) (
  (loadA none r5.2 r3.1).bind fun v25 =>
  (AC cfg 92 [v25, (.fn 97 [r1.1, r2.1])] r5.2).bind fun r26 =>
  ifA r26.1 (
  some ((.tup [(.int .i64 0), (.int .i64 1)]), r26.2)) (
  (loadA none r26.2 r1.1).bind fun v27 =>
  (AC cfg 84 [v27, (.fn 98 [r1.1, r2.1, r3.1])] r26.2).bind fun r28 =>
  (extractA r28.1 0).bind fun v29 =>
  (extractA r28.1 1).bind fun v30 =>
  some ((.tup [v29, v30]), r28.2)))))) :=
(AC_eq cfg 34 [a0, a1, a2] m (fn := f34) (c := bodyOf f34) at34 rfl).trans (by kernel_rfl)
/-! ### (*sortilege/diagram.Store).Make$1 -/
/-! ### (*sortilege/diagram.Store).Make$2 -/
end Go.Ab
