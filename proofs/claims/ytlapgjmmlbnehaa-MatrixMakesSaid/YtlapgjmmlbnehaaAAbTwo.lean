/- Loads and stores that may come in either order. -/
import Derived.Test.YtlapgjmmlbnehaaAAbExec
set_option linter.unusedVariables false
set_option linter.unusedSimpArgs false
namespace Go.Ab
open Go.RowKit

/-- A load or a store ahead of a store: is the first a load; the types; the slots of the places. -/
def confT (y x : Oper) : Option (Bool × Nat × Nat × Nat × Nat) := match y.guard with
  | some _ => none
  | none => match x.guard with
    | some _ => none
    | none => match x.dst with
      | some _ => none
      | none => match x.op with
        | .store t2 (.tmp u) _ => match y.op with
          | .load t1 (.tmp t) => some (true, t1, t, t2, u)
          | .store t1 (.tmp t) _ => match y.dst with
            | none => some (false, t1, t, t2, u)
            | some _ => none
          | _ => none
        | _ => none
/-- Two places have no cell in common. -/
def apartV (n1 n2 : Nat) (x y : AV) : Bool := match x, y with
  | .ptr a o, .ptr b p => !(a == b) || (decide (o + n1 ≤ p) || decide (p + n2 ≤ o))
  | _, _ => false
def namesV (x y : AV) : Bool := match y with
  | .ptr b _ => match x with
    | .vptr _ => true
    | .ptr a _ => !(a == b)
    | _ => false
  | _ => false
def dynV (P : Program) (c : Bool × Nat × Nat × Nat × Nat) (ts : List AV) : Bool := match c with
  | (b, t1, t, t2, u) => match b with
    | true => namesV (ts.getD t .any) (ts.getD u .any)
    | false => match shOf P t1 with
      | none => false
      | some s1 => match shOf P t2 with
        | none => false
        | some s2 => apartV s1.size s2.size (ts.getD t .any) (ts.getD u .any)
def dyn2 (P : Program) (ops : Array Oper) (j i : Nat) (ts : List AV) : Bool := match ops[j]? with
  | none => false
  | some y => match ops[i]? with
    | none => false
    | some x => match confT y x with
      | none => false
      | some c => dynV P c ts
def twoK {R : Type} (P : Program) (ops : Array Oper) (st : St) (K : St → Option R) : List (Nat × Nat) → Option R
  | [] => K st
  | (j, i) :: sp => match dyn2 P ops j i st.tmps with
    | true => twoK P ops st K sp
    | false => none
def confS (ops : Array Oper) (ah : List Nat) (j i : Nat) (r : List Nat) : Bool := match ops[j]? with
  | none => false
  | some y => match ops[i]? with
    | none => false
    | some x => match confT y x with
      | none => false
      | some (_, _, t, _, u) => apartA ops y x && r.all (fun k => match ops[k]? with | some o => o.dst != some t && (o.dst != some u || (ah.getD i 0).testBit k) | none => true)
def hasP : List (Nat × Nat) → Nat → Nat → Bool
  | [], _, _ => false
  | (a, b) :: l, j, i => match Nat.beq a j && Nat.beq b i with
    | true => true
    | false => hasP l j i
def pairsOk3 (ops : Array Oper) (ah : List Nat) (sp : List (Nat × Nat)) : List Nat → Bool
  | [] => true
  | j :: l => l.all (fun i => (ah.getD i 0).testBit j || (match ops[j]?, ops[i]? with | some x, some y => swapOk ops x y | _, _ => false) || (hasP sp j i && confS ops ah j i (j :: l))) && pairsOk3 ops ah sp l
def drawOk3 (P : Program) (ops : Array Oper) (l ah : List Nat) (sp : List (Nat × Nat)) : Bool := match sp with
  | [] => drawOk2 P ops l ah
  | _ :: _ => P.follows .mixedOrders && (l.isPerm (List.range ops.size) && ((List.range ops.size).all (fun i => (match ops[i]? with | some o => o.after.all fun e => !Region.binds .any e || decide (e.on < i) | none => false)) && (Nat.beq ah.length ops.size && ((List.range ops.size).all (aheadAt ops ah) && pairsOk3 ops ah sp l))))

theorem twoK_some {R : Type} {P : Program} {ops : Array Oper} {st : St} {K : St → Option R} {r : R} : ∀ sp : List (Nat × Nat), twoK P ops st K sp = some r → K st = some r ∧ ∀ j i, hasP sp j i = true → dyn2 P ops j i st.tmps = true
  | [], h => ⟨h, fun _ _ h' => by simp [hasP] at h'⟩
  | (a, b) :: sp, h => by
    simp only [twoK] at h
    split at h
    · rename_i hd
      obtain ⟨h1, h2⟩ := twoK_some sp h
      refine ⟨h1, fun j i h' => ?_⟩
      simp only [hasP] at h'
      split at h'
      · rename_i hb
        simp only [Bool.and_eq_true] at hb
        obtain rfl := Nat.eq_of_beq_eq_true hb.1
        obtain rfl := Nat.eq_of_beq_eq_true hb.2
        exact hd
      · exact h2 j i h'
    · cases h
theorem twoK_lin {R : Type} (P : Program) (ops : Array Oper) (st : St) (sp : List (Nat × Nat)) : (∀ K : St → Option R, twoK P ops st K sp = none) ∨ (∀ K : St → Option R, twoK P ops st K sp = K st) := by
  induction sp with
  | nil => exact .inr fun K => rfl
  | cons p sp ih =>
    obtain ⟨a, b⟩ := p
    cases hd : dyn2 P ops a b st.tmps with
    | true =>
      rcases ih with h | h
      · exact .inl fun K => by simp only [twoK, hd]; exact h K
      · exact .inr fun K => by simp only [twoK, hd]; exact h K
    | false => exact .inl fun K => by simp only [twoK, hd]

section
variable {C : Cfg} {B : Nat} {w : World} {g : G}
/-! ### What stands ahead, told -/
theorem ahead_told {ops : Array Oper} {ah : List Nat} (hl : ah.length = ops.size) (hlt : ∀ i o, ops[i]? = some o → ∀ e ∈ o.after.toList, Region.binds .any e = true → e.on < i)
    (h : ∀ i, i < ops.size → aheadAt ops ah i = true) : ∀ n, n ≤ ops.size → aheadTo ops n = ah.take n := by
  intro n
  induction n with
  | zero => intro _; simp [aheadTo]
  | succ n ih =>
    intro hn
    have ih := ih (by omega)
    have hx : n < ah.length := by omega
    rw [aheadTo, ih, List.take_add_one, List.getElem?_eq_getElem hx]
    have ho : ops[n]? = some ops[n] := Array.getElem?_eq_getElem (by omega)
    rw [ho]
    have hat := h n (by omega)
    unfold aheadAt at hat
    rw [ho, List.getElem?_eq_getElem hx] at hat
    simp only at hat
    have hat := Nat.eq_of_beq_eq_true hat
    simp only [Option.toList_some, List.append_cancel_left_eq, List.cons.injEq, and_true]
    rw [hat, ← Array.foldl_toList]
    have : ∀ (l : List Edge) (s : Nat), (∀ e ∈ l, Region.binds .any e = true → e.on < n) → List.foldl (fun s e => s ||| (2 ^ e.on ||| (List.take n ah).getD e.on 0)) s (l.filter (Region.binds .any)) = List.foldl (fun s e => match Region.binds .any e with
        | true => s ||| (2 ^ e.on ||| ah.getD e.on 0)
        | false => s) s l := by
      intro l
      induction l with
      | nil => intro s _; rfl
      | cons e l ihl =>
        intro s hs
        have ht := fun s => ihl s fun e' he' => hs e' (by simp [he'])
        cases hb : Region.binds .any e with
        | true =>
          have := hs e (by simp) hb
          rw [List.filter_cons_of_pos (by simpa using hb)]
          simp only [List.foldl_cons, hb]
          rw [ht]
          congr 3
          simp only [List.getD_eq_getElem?_getD, List.getElem?_take, if_pos this]
        | false =>
          rw [List.filter_cons_of_neg (by simp [hb])]
          simp only [List.foldl_cons, hb]
          rw [ht]
    exact this _ 0 (hlt n _ ho)
theorem drawOk_of {P : Program} {ops : Array Oper} {l ah : List Nat} (h : drawOk2 P ops l ah = true) : drawOk P ops l = true := by
  unfold drawOk2 at h
  simp only [Bool.and_eq_true] at h
  obtain ⟨h1, h2, h3, h4, h5, h6⟩ := h
  have hlt : ∀ k o, ops[k]? = some o → ∀ e ∈ o.after.toList, Region.binds .any e = true → e.on < k := by
    intro k o hk e he hb
    have hkl := (Array.getElem?_eq_some_iff.1 hk).1
    have := List.all_eq_true.1 h3 k (by simpa using hkl)
    rw [hk] at this
    simp only at this
    have := Array.all_eq_true_iff_forall_mem.1 this e (by simpa using he)
    simpa [hb] using this
  have hah := ahead_told (Nat.eq_of_beq_eq_true h4) hlt (fun i hi => List.all_eq_true.1 h5 i (by simpa using hi)) ops.size (Nat.le_refl _)
  rw [List.take_of_length_le (by rw [Nat.eq_of_beq_eq_true h4]; exact Nat.le_refl _)] at hah
  unfold drawOk
  simp only [Bool.and_eq_true]
  refine ⟨⟨⟨h1, h2⟩, h3⟩, ?_⟩
  unfold aheadOf
  rw [hah]
  exact h6

theorem drawOk3_facts {P : Program} {ops : Array Oper} {l ah : List Nat} {p : Nat × Nat} {sp : List (Nat × Nat)} (h : drawOk3 P ops l ah (p :: sp) = true) : P.follows .mixedOrders = true ∧ l.isPerm (List.range ops.size) = true ∧
    ((List.range ops.size).all (fun i => (match ops[i]? with | some o => o.after.all fun e => !Region.binds .any e || decide (e.on < i) | none => false))) = true ∧ pairsOk3 ops (aheadOf ops) (p :: sp) l = true := by
  unfold drawOk3 at h
  simp only [Bool.and_eq_true] at h
  obtain ⟨h1, h2, h3, h4, h5, h6⟩ := h
  have hlt : ∀ k o, ops[k]? = some o → ∀ e ∈ o.after.toList, Region.binds .any e = true → e.on < k := by
    intro k o hk e he hb
    have hkl := (Array.getElem?_eq_some_iff.1 hk).1
    have := List.all_eq_true.1 h3 k (by simpa using hkl)
    rw [hk] at this
    simp only at this
    have := Array.all_eq_true_iff_forall_mem.1 this e (by simpa using he)
    simpa [hb] using this
  have hah := ahead_told (Nat.eq_of_beq_eq_true h4) hlt (fun i hi => List.all_eq_true.1 h5 i (by simpa using hi)) ops.size (Nat.le_refl _)
  rw [List.take_of_length_le (by rw [Nat.eq_of_beq_eq_true h4]; exact Nat.le_refl _)] at hah
  refine ⟨h1, h2, h3, ?_⟩
  unfold aheadOf; rw [hah]; exact h6
theorem confT_facts {y x : Oper} {b : Bool} {t1 t t2 u : Nat} (h : confT y x = some (b, t1, t, t2, u)) : y.guard = none ∧ x.guard = none ∧ x.dst = none ∧ (∃ v, x.op = .store t2 (.tmp u) v) ∧
    ((b = true ∧ y.op = .load t1 (.tmp t)) ∨ (b = false ∧ y.dst = none ∧ ∃ v, y.op = .store t1 (.tmp t) v)) := by
  unfold confT at h
  split at h
  · cases h
  rename_i h1
  split at h
  · cases h
  rename_i h2
  split at h
  · cases h
  rename_i h3
  split at h
  case h_2 => cases h
  rename_i h4
  split at h
  · rename_i h5
    simp only [Option.some.injEq, Prod.mk.injEq] at h
    obtain ⟨rfl, rfl, rfl, rfl, rfl⟩ := h
    exact ⟨h1, h2, h3, ⟨_, h4⟩, .inl ⟨rfl, h5⟩⟩
  · rename_i h5
    split at h
    · rename_i h6
      simp only [Option.some.injEq, Prod.mk.injEq] at h
      obtain ⟨rfl, rfl, rfl, rfl, rfl⟩ := h
      exact ⟨h1, h2, h3, ⟨_, h4⟩, .inr ⟨rfl, h6, _, h5⟩⟩
    · cases h
  · cases h
theorem obj?_set {m : Mem} {nm : Nat} {e : Option Ent} {n : Nat} (h : n ≠ nm) : Mem.obj? (m.set nm e) n = m.obj? n := by
  unfold Mem.obj?
  rw [get_set, if_neg h]
theorem obj?_self {m : Mem} {nm : Nat} {bx : Bool} {cs cs' : List AV} (h : m.obj? nm = some (bx, cs)) : Mem.obj? (m.set nm (some (.obj bx cs'))) nm = some (bx, cs') := by
  unfold Mem.obj?
  rw [get_set, if_pos rfl, if_pos (get_lt (obj?_get h))]
theorem putAt_comm {cs v1 v2 : List AV} {o p : Nat} (h1 : o + v1.length ≤ cs.length) (h2 : p + v2.length ≤ cs.length) (hd : o + v1.length ≤ p ∨ p + v2.length ≤ o) : putAt (putAt cs o v1) p v2 = putAt (putAt cs p v2) o v1 := by
  have l1 := putAt_length h1
  have l2 := putAt_length h2
  have e1 : p + v2.length ≤ (putAt cs o v1).length := by omega
  have e2 : o + v1.length ≤ (putAt cs p v2).length := by omega
  apply List.ext_getElem
  · rw [putAt_length e1, putAt_length e2, l1, l2]
  · intro j hj1 hj2
    have k1 := putAt_getD e1 j
    have k2 := putAt_getD e2 j
    rw [putAt_getD h1] at k1
    rw [putAt_getD h2] at k2
    rw [List.getD_eq_getElem?_getD, List.getElem?_eq_getElem hj1, Option.getD_some] at k1
    rw [List.getD_eq_getElem?_getD, List.getElem?_eq_getElem hj2, Option.getD_some] at k2
    rw [k1, k2]
    by_cases a : p ≤ j ∧ j < p + v2.length
    · rw [if_pos a, if_neg (by omega), if_pos a]
    · rw [if_neg a]
      by_cases b : o ≤ j ∧ j < o + v1.length
      · rw [if_pos b, if_pos b]
      · rw [if_neg b, if_neg b, if_neg a]
theorem storeA_comm {s1 s2 : Sh} {m m1 m2 : Mem} {x1 x2 v1 v2 : AV} (ha : apartV s1.size s2.size x1 x2 = true) (h1 : storeA s1 m x1 v1 = some m1) (h2 : storeA s2 m1 x2 v2 = some m2) :
    ∃ m3, storeA s2 m x2 v2 = some m3 ∧ storeA s1 m3 x1 v1 = some m2 := by
  unfold apartV at ha
  split at ha
  · rename_i a o b p
    simp only [storeA, Option.bind_eq_some_iff] at h1 h2 ⊢
    obtain ⟨⟨bx, cs⟩, g1, h1⟩ := h1
    obtain ⟨⟨bx2, cs2⟩, g2, h2⟩ := h2
    simp only at h1 h2
    split at h1
    case isFalse => cases h1
    rename_i c1
    split at h1
    case isFalse => cases h1
    rename_i k1
    simp only [Option.some.injEq] at h1
    subst h1
    split at h2
    case isFalse => cases h2
    rename_i c2
    split at h2
    case isFalse => cases h2
    rename_i k2
    simp only [Option.some.injEq] at h2
    subst h2
    have z1 := shOk_size k1
    have z2 := shOk_size k2
    by_cases hab : a = b
    · subst hab
      rw [obj?_self g1] at g2
      simp only [Option.some.injEq, Prod.mk.injEq] at g2
      obtain ⟨rfl, rfl⟩ := g2
      rw [putAt_length (by omega)] at c2
      simp only [BEq.rfl, Bool.not_true, Bool.false_or, Bool.or_eq_true, decide_eq_true_eq] at ha
      refine ⟨m.set a (some (.obj bx (putAt cs p v2.cells))), ⟨⟨bx, cs⟩, g1, ?_⟩, ⟨bx, putAt cs p v2.cells⟩, obj?_self g1, ?_⟩
      · simp only
        rw [if_pos c2, if_pos k2]
      · simp only
        rw [if_pos (by rw [putAt_length (by omega)]; exact c1), if_pos k1, List.set_set, List.set_set, putAt_comm (by omega) (by omega) (by omega)]
    · rw [obj?_set (fun e => hab e.symm)] at g2
      refine ⟨m.set b (some (.obj bx2 (putAt cs2 p v2.cells))), ⟨⟨bx2, cs2⟩, g2, ?_⟩, ⟨bx, cs⟩, ?_, ?_⟩
      · simp only
        rw [if_pos c2, if_pos k2]
      · rw [obj?_set hab]; exact g1
      · simp only
        rw [if_pos c1, if_pos k1, List.set_comm _ _ hab]
  · cases ha

theorem stepF_store {fid b : Nat} {cp : Nat → List AV → Option AV} {ci : Nat → List AV → Mem → Option (AV × Mem)} {ops : Array Oper} {i : Nat} {o : Oper} {t : Nat} {x v : Operand} (ho : ops[i]? = some o) (hg : o.guard = none) (hd : o.dst = none) (hop : o.op = .store t x v) (st : St) :
    stepF C fid cp ci (some b) ops i st = (shOf C.P t).bind fun s => (storeA s st.mem (ev st.tmps x) (ev st.tmps v)).map fun m => ⟨st.tmps, m⟩ := by
  unfold stepF
  rw [ho]
  simp only [opG, hg]
  unfold opF opK
  rw [hop]
  simp only []
  cases shOf C.P t with
  | none => rfl
  | some s =>
    simp only [Option.bind_some]
    cases storeA s st.mem (ev st.tmps x) (ev st.tmps v) with
    | none => rfl
    | some m => simp only [Option.bind_some, Option.map_some, hd, setD]
theorem stepF_load {fid b : Nat} {cp : Nat → List AV → Option AV} {ci : Nat → List AV → Mem → Option (AV × Mem)} {ops : Array Oper} {i : Nat} {o : Oper} {t : Nat} {x : Operand} (ho : ops[i]? = some o) (hg : o.guard = none) (hop : o.op = .load t x) (st : St) :
    stepF C fid cp ci (some b) ops i st = (shOf C.P t).bind fun s => (loadA s st.mem (ev st.tmps x)).map fun v => ⟨setD st.tmps o.dst v, st.mem⟩ := by
  unfold stepF
  rw [ho]
  simp only [opG, hg]
  unfold opF opK
  rw [hop]
  simp only []
  cases shOf C.P t with
  | none => rfl
  | some s =>
    simp only [Option.bind_some]
    cases loadA s st.mem (ev st.tmps x) with
    | none => rfl
    | some v => rfl
theorem loadA_store {s1 s2 : Sh} {m m2 : Mem} {x1 x2 v2 : AV} (ha : namesV x1 x2 = true) (h2 : storeA s2 m x2 v2 = some m2) : loadA s1 m2 x1 = loadA s1 m x1 := by
  unfold namesV at ha
  split at ha
  · rename_i b p
    split at ha
    · rfl
    · rename_i a o
      have hab : a ≠ b := by simpa using ha
      simp only [storeA, Option.bind_eq_some_iff] at h2
      obtain ⟨⟨bx, cs⟩, g1, h2⟩ := h2
      split at h2
      · split at h2
        · simp only [Option.some.injEq] at h2
          subst h2
          simp only [loadA]
          rw [obj?_set hab]
        · cases h2
      · cases h2
    · cases ha
  · cases ha
theorem runF_tmp {fid b : Nat} {cp : Nat → List AV → Option AV} {ci : Nat → List AV → Mem → Option (AV × Mem)} {ops : Array Oper} {t : Nat} : ∀ (l : List Nat) (s s' : St), (∀ k ∈ l, ∀ o, ops[k]? = some o → o.dst ≠ some t) → runF C fid cp ci (some b) ops l s = some s' → s'.tmps.getD t .any = s.tmps.getD t .any
  | [], s, s', _, h => by simp only [runF, Option.some.injEq] at h; rw [h]
  | k :: l, s, s', hd, h => by
    simp only [runF, Option.bind_eq_some_iff] at h
    obtain ⟨s1, h1, h2⟩ := h
    rw [runF_tmp l s1 s' (fun k' hk' => hd k' (by simp [hk'])) h2]
    obtain ⟨o, v, m1, ho, _, rfl⟩ := stepF_some h1
    exact setD_getD (hd k (by simp) o ho)
theorem swap3 {fid b : Nat} {cp : Nat → List AV → Option AV} {ci : Nat → List AV → Mem → Option (AV × Mem)} {ops : Array Oper} {i j : Nat} {st s1 s2 : St} {x y : Oper} (hx : ops[i]? = some x) (hy : ops[j]? = some y) {c : Bool × Nat × Nat × Nat × Nat} (hc : confT y x = some c) (hap : apartA ops y x = true) (hdyn : dynV C.P c st.tmps = true)
    (h1 : stepF C fid cp ci (some b) ops j st = some s1) (h2 : stepF C fid cp ci (some b) ops i s1 = some s2) : ∃ s1', stepF C fid cp ci (some b) ops i st = some s1' ∧ stepF C fid cp ci (some b) ops j s1' = some s2 := by
  obtain ⟨bb, t1, t, t2, u⟩ := c
  obtain ⟨g1, g2, g3, ⟨v2, g4⟩, g5⟩ := confT_facts hc
  obtain ⟨a1, a2, a3⟩ := apart_facts hap
  rw [stepF_store hx g2 g3 g4] at h2 ⊢
  simp only [Option.bind_eq_some_iff, Option.map_eq_some_iff] at h2
  obtain ⟨sh2, k2, m2, k3, rfl⟩ := h2
  rcases g5 with ⟨rfl, g5⟩ | ⟨rfl, g6, v1, g5⟩
  · rw [stepF_load hy g1 g5] at h1
    simp only [Option.bind_eq_some_iff, Option.map_eq_some_iff] at h1
    obtain ⟨sh1, k1, v, k4, rfl⟩ := h1
    simp only at k3
    have hlook : ∀ z t', z = Operand.tmp t' → z ∈ x.op.operands.toList → y.dst ≠ some t' := by
      intro z t' hz hm hd
      refine a1 t' hd ?_
      unfold looks
      refine List.mem_append.2 (.inl (List.mem_filterMap.2 ⟨z, hm, ?_⟩))
      rw [hz]
    have hops : x.op.operands.toList = [.tmp u, v2] := by rw [g4]; rfl
    have e1 : ev (setD st.tmps y.dst v) (.tmp u) = ev st.tmps (.tmp u) := ev_congr _ fun t' ht => setD_getD (hlook _ t' ht (by rw [hops]; simp))
    have e2 : ev (setD st.tmps y.dst v) v2 = ev st.tmps v2 := ev_congr _ fun t' ht => setD_getD (hlook _ t' ht (by rw [hops]; simp))
    rw [e1, e2] at k3
    refine ⟨⟨st.tmps, m2⟩, by rw [k2, Option.bind_some, k3]; rfl, ?_⟩
    rw [stepF_load hy g1 g5, k1, Option.bind_some]
    have : loadA sh1 m2 (ev st.tmps (.tmp t)) = loadA sh1 st.mem (ev st.tmps (.tmp t)) := loadA_store hdyn k3
    simp only
    rw [this, k4]
    rfl
  · rw [stepF_store hy g1 g6 g5] at h1
    simp only [Option.bind_eq_some_iff, Option.map_eq_some_iff] at h1
    obtain ⟨sh1, k1, m1, k4, rfl⟩ := h1
    simp only at k3
    unfold dynV at hdyn
    simp only [k1, k2] at hdyn
    obtain ⟨m3, j1, j2⟩ := storeA_comm (x1 := ev st.tmps (.tmp t)) (x2 := ev st.tmps (.tmp u)) hdyn k4 k3
    refine ⟨⟨st.tmps, m3⟩, by rw [k2, Option.bind_some, j1]; rfl, ?_⟩
    rw [stepF_store hy g1 g6 g5, k1, Option.bind_some]
    simp only
    rw [j2]
    rfl
/-- May i pass j, where r is what is left from j on? -/
def Pass (C : Cfg) (ops : Array Oper) (sE : St) (i : Nat) (x : Oper) (r : List Nat) (j : Nat) : Prop := ∃ y, ops[j]? = some y ∧ (swapOk ops y x = true ∨ ∃ bb t1 t t2 u, confT y x = some (bb, t1, t, t2, u) ∧ apartA ops y x = true ∧ dynV C.P (bb, t1, t, t2, u) sE.tmps = true ∧ ∀ k ∈ r, ∀ o, ops[k]? = some o → o.dst ≠ some t ∧ o.dst ≠ some u)
theorem first3 {fid b : Nat} {cp : Nat → List AV → Option AV} {ci : Nat → List AV → Mem → Option (AV × Mem)} {ops : Array Oper} {i : Nat} {x : Oper} (hx : ops[i]? = some x) : ∀ (l : List Nat) (st s' : St), l.Nodup → i ∈ l → Kept ops b st.mem l → (∀ (p : List Nat) (j : Nat) (r : List Nat), l = p ++ j :: r → i ∈ r → Pass C ops s' i x (j :: r) j) →
    runF C fid cp ci (some b) ops l st = some s' → ∃ s1, stepF C fid cp ci (some b) ops i st = some s1 ∧ runF C fid cp ci (some b) ops (l.erase i) s1 = some s'
  | [], _, _, _, hi, _, _, _ => by simp at hi
  | j :: l, st, s', hnd, hi, hk, hsw, hr => by
    have hr0 := hr
    simp only [runF, Option.bind_eq_some_iff] at hr
    obtain ⟨s1, h1, hr⟩ := hr
    by_cases he : j = i
    · subst he
      exact ⟨s1, h1, by simpa using hr⟩
    · have hil : i ∈ l := by rcases List.mem_cons.1 hi with h | h <;> first | exact absurd h.symm he | exact h
      have hnd' := (List.nodup_cons.1 hnd)
      obtain ⟨s2, h2, hr2⟩ := first3 hx l s1 s' hnd'.2 hil (stepF_kept h1 (fun k hk' => hk k (by simp [hk'])) hnd'.1) (fun p k r hpq hir => hsw (j :: p) k r (by rw [hpq]; rfl) hir) hr
      obtain ⟨y, hy, hok⟩ := hsw [] j l rfl hil
      have hsw' : ∃ s1', stepF C fid cp ci (some b) ops i st = some s1' ∧ stepF C fid cp ci (some b) ops j s1' = some s2 := by
        rcases hok with hok | ⟨bb, t1, t, t2, u, hc, hap, hdyn, hdst⟩
        · exact swap hy hx he hok (fun k hk' => hk k (by
            simp only [List.mem_cons, List.not_mem_nil, or_false] at hk'
            rcases hk' with rfl | rfl
            · simp
            · simp [hil])) h1 h2
        · refine swap3 hx hy hc hap ?_ h1 h2
          have ht := runF_tmp (t := t) (j :: l) st s' (fun k hk' o ho => (hdst k hk' o ho).1) hr0
          have hu := runF_tmp (t := u) (j :: l) st s' (fun k hk' o ho => (hdst k hk' o ho).2) hr0
          unfold dynV at hdyn ⊢
          simp only [ht, hu] at hdyn
          exact hdyn
      obtain ⟨s1', k1, k2⟩ := hsw'
      refine ⟨s1', k1, ?_⟩
      have her : (j :: l).erase i = j :: l.erase i := by
        rw [List.erase_cons, if_neg (by simpa using he)]
      rw [her]
      simp only [runF, k2, Option.bind_some]
      exact hr2
theorem pairsOk3_split {ops : Array Oper} {ah : List Nat} {sp : List (Nat × Nat)} : ∀ {l : List Nat}, pairsOk3 ops ah sp l = true → ∀ (p : List Nat) (j : Nat) (r : List Nat), l = p ++ j :: r → ∀ i ∈ r, (ah.getD i 0).testBit j = true ∨ (∃ x y, ops[j]? = some x ∧ ops[i]? = some y ∧ swapOk ops x y = true) ∨ (hasP sp j i = true ∧ confS ops ah j i (j :: r) = true)
  | [], _, p, j, r, h, _, _ => by simp at h
  | k :: l, hp, p, j, r, h, i, hi => by
    simp only [pairsOk3, Bool.and_eq_true, List.all_eq_true] at hp
    match p, h with
    | [], h =>
      simp only [List.nil_append, List.cons.injEq] at h
      obtain ⟨rfl, rfl⟩ := h
      have := hp.1 i hi
      simp only [Bool.or_eq_true, Bool.and_eq_true] at this
      rcases this with (h | h) | h
      · exact .inl h
      · refine .inr (.inl ?_)
        split at h
        · exact ⟨_, _, by assumption, by assumption, h⟩
        · cases h
      · exact .inr (.inr h)
    | k' :: p, h =>
      simp only [List.cons_append, List.cons.injEq] at h
      obtain ⟨rfl, rfl⟩ := h
      exact pairsOk3_split hp.2 p j r rfl i hi

/-- Whatever order is drawn. -/
theorem any_wp2 (hC : CfgOk C) {callI : Nat → List AV → Mem → Option (AV × Mem)} (hI : IOk C callI) {fid b : Nat} {ops : Array Oper} {Q : Exit → Act → World → Prop} {canon : List Nat} (hlt : ∀ k o, ops[k]? = some o → ∀ e ∈ o.after.toList, Region.binds .any e = true → e.on < k)
    {sp : List (Nat × Nat)} {sE : St} (hpairs : pairsOk3 ops (aheadOf ops) sp canon = true) (hdyn : ∀ j i, hasP sp j i = true → dyn2 C.P ops j i sE.tmps = true) (hnd : canon.Nodup) : ∀ (l : List Nat) (n : Nat), l.length = n → l.Sublist canon → ∀ (listed : Array Bool), listed.size = ops.size → (∀ x, x < ops.size → (listed.getD x true = true ↔ x ∉ l)) → (∀ x ∈ l, x < ops.size) →
    (∀ k o, k < ops.size → k ∉ l → ops[k]? = some o → ∀ e ∈ o.after.toList, Region.binds .any e = true → e.on ∉ l) →
    ∀ (st s' : St) (a : Act) (w : World) (g : G), s' = sE → runF C fid (acallP callI) callI (some b) ops l st = some s' → Kept ops b st.mem l → StR B w g st a →
    (∀ a' w' g', StR B w' g' s' a' → Step B w g w' g' → a'.defers = a.defers → Q .normal a' w') → wpAny C.P .any ops Q n listed a w := by
  intro l n hn
  induction n generalizing l with
  | zero =>
    intro hsub listed hsz hlist hin hdown st s' a w g hsE hr hk hs hq
    have hnil : l = [] := List.eq_nil_of_length_eq_zero hn
    subst hnil
    simp only [runF, Option.some.injEq] at hr
    subst hr
    refine ⟨?_, hq a w g hs (Step.refl _ _ _) rfl⟩
    unfold Region.ready
    rw [List.filter_eq_nil_iff]
    intro x hx
    have : listed.getD x true = true := (hlist x (by simpa using hx)).2 (by simp)
    simp [this]
  | succ n ih =>
    intro hsub listed hsz hlist hin hdown st s' a w g hsE hr hk hs hq
    have hready : ∀ i ∈ Region.ready .any ops listed, i ∈ l ∧ i < ops.size ∧ ∃ o, ops[i]? = some o ∧ ∀ e ∈ o.after.toList, Region.binds .any e = true → e.on ∉ l := by
      intro i hi
      unfold Region.ready at hi
      simp only [List.mem_filter, List.mem_range, Bool.and_eq_true, Bool.not_eq_true'] at hi
      obtain ⟨h1, h2, h3⟩ := hi
      have hil : i ∈ l := by
        by_cases h : i ∈ l
        · exact h
        · have := (hlist i h1).2 h; rw [this] at h2; cases h2
      refine ⟨hil, h1, ops[i], by simp [h1], fun e he hb hon => ?_⟩
      have ho : ops[i]? = some ops[i] := by simp [h1]
      rw [ho] at h3
      simp only [Option.map_some, Option.getD_some] at h3
      have h4 := Array.all_eq_true_iff_forall_mem.1 h3 e (by simpa using he)
      simp only [hb, Bool.not_true, Bool.false_or] at h4
      have h5 := hlt i _ ho e he hb
      have h6 : listed.getD e.on true = true := by
        have hes : e.on < listed.size := by omega
        simp only [Array.getD, hes, dif_pos] at h4 ⊢
        exact h4
      exact (hlist e.on (by omega)).1 h6 hon
    refine ⟨fun hnone => ?_, fun i hi => ?_⟩
    · -- the least that is left is ready
      exfalso
      have hne : l ≠ [] := fun h => by rw [h] at hn; simp at hn
      obtain ⟨mn, hmn, hmin⟩ : ∃ mn ∈ l, ∀ x ∈ l, mn ≤ x := by
        exact least l hne
      have hml := hin mn hmn
      have : mn ∈ Region.ready .any ops listed := by
        unfold Region.ready
        simp only [List.mem_filter, List.mem_range, Bool.and_eq_true, Bool.not_eq_true']
        refine ⟨hml, ?_, ?_⟩
        · cases hb : listed.getD mn true with
          | false => rfl
          | true => exact absurd hmn ((hlist mn hml).1 hb)
        · have ho : ops[mn]? = some ops[mn] := by simp [hml]
          rw [ho]
          simp only [Option.map_some, Option.getD_some]
          rw [Array.all_eq_true_iff_forall_mem]
          intro e he
          by_cases hb : Region.binds .any e = true
          · have h5 := hlt mn _ ho e (by simpa using he) hb
            have h6 : e.on ∉ l := fun h => by have := hmin _ h; omega
            have h7 := (hlist e.on (by omega)).2 h6
            have hes : e.on < listed.size := by omega
            have h8 : listed.getD e.on false = true := by
              simp only [Array.getD, hes, dif_pos] at h7 ⊢
              exact h7
            rw [h8]; simp
          · simp at hb; simp [hb]
      rw [hnone] at this
      simp at this
    · obtain ⟨hil, hio, x, hx, hedge⟩ := hready i hi
      obtain ⟨s1, h1, h2⟩ := first3 hx l st s' (hnd.sublist hsub) hil hk (fun p j r hpq hir => by
        have hjl : j ∈ l := by rw [hpq]; simp
        obtain ⟨pre, post, hcan, hpost⟩ : ∃ pc qc, canon = pc ++ j :: qc ∧ ∀ y ∈ r, y ∈ qc := by
          have hsub' := hsub
          rw [hpq] at hsub'
          obtain ⟨c1, c2, hc, hs1, hs2⟩ := List.append_sublist_iff.1 hsub'
          obtain ⟨d1, d2, hd, _, hd3⟩ := List.cons_sublist_iff.1 hs2
          obtain ⟨e1, e2, he⟩ := List.append_of_mem ‹j ∈ d1›
          exact ⟨c1 ++ e1, e2 ++ d2, by rw [hc, hd, he]; simp, fun y hy => List.mem_append.2 (.inr (hd3.subset hy))⟩
        rcases pairsOk3_split hpairs pre j post hcan i (hpost i hir) with h | ⟨y, x', hy, hx', hok⟩ | ⟨hsp, hcf⟩
        · exfalso
          have hmem : ((aheadTo ops ops.size).getD i 0).testBit j = true := h
          have := ahead_met (D := fun k => k ∉ l) (fun k o hk' hko e he hb => by
            rcases Nat.lt_or_ge k ops.size with hk1 | hk1
            · exact hdown k o hk1 hk' hko e he hb
            · rw [Array.getElem?_eq_none hk1] at hko; cases hko) hlt ops.size i x hio hx hedge j hmem
          exact this hjl
        · obtain rfl : x = x' := by simpa [hx] using hx'
          exact ⟨y, hy, .inl hok⟩
        · have hd := hdyn j i hsp
          unfold dyn2 at hd
          unfold confS at hcf
          cases hy : ops[j]? with
          | none => rw [hy] at hd; cases hd
          | some y =>
            rw [hy, hx] at hd hcf
            simp only at hd hcf
            cases hct : confT y x with
            | none => rw [hct] at hd; cases hd
            | some c =>
              obtain ⟨bb, t1, t, t2, u⟩ := c
              rw [hct] at hd hcf
              simp only [Bool.and_eq_true, List.all_eq_true] at hd hcf
              refine ⟨y, hy, .inr ⟨bb, t1, t, t2, u, hct, hcf.1, by rw [hsE]; exact hd, fun k hk' o ho => ?_⟩⟩
              have hkm : k ∈ j :: post := by
                rcases List.mem_cons.1 hk' with h | h
                · simp [h]
                · exact List.mem_cons_of_mem _ (hpost k h)
              have := hcf.2 k hkm
              rw [ho] at this
              simp only [Bool.and_eq_true, Bool.or_eq_true, bne_iff_ne, ne_eq] at this
              refine ⟨this.1, this.2.resolve_right fun h => ?_⟩
              have hmem : ((aheadTo ops ops.size).getD i 0).testBit k = true := h
              have := ahead_met (D := fun k => k ∉ l) (fun k o hk' hko e he hb => by
                rcases Nat.lt_or_ge k ops.size with hk1 | hk1
                · exact hdown k o hk1 hk' hko e he hb
                · rw [Array.getElem?_eq_none hk1] at hko; cases hko) hlt ops.size i x hio hx hedge k hmem
              exact this (by rw [hpq]; exact List.mem_append.2 (.inr hk'))) hr
      refine step_wp hC hI h1 hs (fun b' hb' => by cases hb'; exact fun k hk' => hk k (by simp at hk'; rw [hk']; exact hil)) fun a' w' g' hs' s hd => ?_
      have hmem : ∀ y, y ∈ l.erase i ↔ y ∈ l ∧ y ≠ i := fun y => by
        rw [(hnd.sublist hsub).mem_erase_iff]; exact And.comm
      refine ih (l.erase i) (by rw [List.length_erase_of_mem hil]; omega) (List.Sublist.trans List.erase_sublist hsub) (listed.setIfInBounds i true) (by simpa using hsz) (fun y hy => ?_) (fun y hy => hin y ((hmem y).1 hy).1) (fun k o hk1 hk2 hko e he hb hon => ?_) s1 s' a' w' g' hsE h2 (fun k hk' o ho hm => ?_) hs' fun a'' w'' g'' hs'' s' hd' => hq a'' w'' g'' hs'' (s.trans s') (hd'.trans hd)
      · have hys : y < listed.size := by omega
        have hg : (listed.setIfInBounds i true).getD y true = if i = y then true else listed.getD y true := by
          simp only [Array.getD_eq_getD_getElem?, Array.getElem?_setIfInBounds]
          by_cases hiy : i = y
          · subst hiy; simp [hys]
          · simp [hiy]
        rw [hg, hmem]
        by_cases hiy : i = y
        · subst hiy; simp
        · rw [if_neg hiy, hlist y hy]
          constructor
          · intro h h'; exact h h'.1
          · intro h h'; exact h ⟨h', fun he => hiy he.symm⟩
      · have hon' := (hmem _).1 hon
        by_cases hki : k = i
        · subst hki
          obtain rfl : x = o := by simpa [hx] using hko
          exact hedge e he hb hon'.1
        · exact hdown k o hk1 (fun h => hk2 ((hmem k).2 ⟨h, hki⟩)) hko e he hb hon'.1
      · exact stepF_kept h1 (fun k' hk'' => hk k' ((hmem k').1 hk'').1) (fun h => ((hmem i).1 h).2 rfl) k hk' o ho hm

theorem draw_wp2 (hC : CfgOk C) {callI : Nat → List AV → Mem → Option (AV × Mem)} (hI : IOk C callI) {R : Type} {fid id : Nat} {ops : Array Oper} {Q : Exit → Act → World → Prop} {canon : List Nat} {ah : List Nat} {pr : Nat × Nat} {sp : List (Nat × Nat)} (hok : drawOk3 C.P ops canon ah (pr :: sp) = true) {st : St} {K : St → Option R} {r : R} {a : Act}
    (h : runOps C fid (acallP callI) callI (some st.mem.length) ops canon ⟨st.tmps, reserve st.mem (rankA ops ops.size)⟩ (fun st' => twoK C.P ops st' K (pr :: sp)) = some r) (hs : StR B w g st a)
    (hn : ∀ s' a' w' g', K s' = some r → StR B w' g' s' a' → Step B w g w' g' → a'.defers = a.defers → Q .normal a' w') : (Code.region id ops true).wp C.P Q a w := by
  obtain ⟨h1, h2, h3, h4⟩ := drawOk3_facts hok
  have hperm : canon.Perm (List.range ops.size) := List.isPerm_iff.1 h2
  have hlt : ∀ k o, ops[k]? = some o → ∀ e ∈ o.after.toList, Region.binds .any e = true → e.on < k := by
    intro k o hk e he hb
    have hkl := (Array.getElem?_eq_some_iff.1 hk).1
    have := List.all_eq_true.1 h3 k (by simpa using hkl)
    rw [hk] at this
    simp only at this
    have := Array.all_eq_true_iff_forall_mem.1 this e (by simpa using he)
    simpa [hb] using this
  rw [runOps_eq, reserve_eq] at h
  simp only [Option.bind_eq_some_iff] at h
  obtain ⟨s', hr, hK⟩ := h
  obtain ⟨hK, hdyn⟩ := twoK_some _ hK
  refine wp_region_any h1 ?_
  refine any_wp2 hC hI hlt h4 hdyn (hperm.nodup_iff.2 List.nodup_range) canon ops.size (by rw [hperm.length_eq]; simp) (List.Sublist.refl _) _ (by simp) (fun x hx => ?_) (fun x hx => by simpa using hperm.mem_iff.1 hx) (fun k o hk hk' => ?_) _ s' a _ g rfl hr (kept_reserve ops st.mem canon) ⟨hs.tmp.step (Step.drew B w g), mem_reserve (B := B) (w := w.drew) (g := g) hs.mem.drew _, hs.size⟩ ?_
  · have : x ∈ canon := hperm.mem_iff.2 (by simpa using hx)
    simp [this, Array.getD, hx]
  · exact absurd (hperm.mem_iff.2 (by simpa using hk)) hk'
  · intro a' w' g' hs' s hd
    exact hn s' a' w' g' hK hs' ((Step.drew B w g).trans s) hd
end
end Go.Ab
