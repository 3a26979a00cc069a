/- The abstract run answers: the machine's call answers, and its answer reads so. -/
import Derived.Test.YtlapgjmmlbnehaaAAbFrz
set_option linter.unusedVariables false
set_option linter.unusedSimpArgs false
namespace Go.Ab
open Go.RowKit

/-- What a call must bring. -/
def CallOk (P : Program) (f : Nat) (args : List AV) (m : Mem) (v : AV) (m' : Mem) : Prop :=
  ∀ (B : Nat) (w : World) (g : G) (vs : Array Value), MemR B w g m → B ≤ w.heap.size → args.length = vs.size → (∀ j, j < args.length → V w g (args.getD j .any) (vs.getD j undef)) →
    Calls P f vs w fun e w' => ∃ v' g', e = .returned v' ∧ Step B w g w' g' ∧ MemR B w' g' m' ∧ V w' g' v v'

structure CfgOk (C : Cfg) : Prop where
  name : ∀ (g : Nat) (fn : Func), C.P.funcs[g]? = some fn → (fn.name == "runtime.NumGoroutine") = false
  lib : ∀ (g : Nat) h, C.lib g = some h → (∃ fn, C.P.funcs[g]? = some fn ∧ fn.body.isSome) ∧ ∀ vs v, h vs = some v → ∀ m, CallOk C.P g vs m v m

section
variable {C : Cfg} {B : Nat} {w : World} {g : G} {m : Mem}

theorem TmpR.put {ts : List AV} {a : Act} (h : TmpR w g ts a.tmps) {v : AV} {v' : Value} (hv : V w g v v') (d : Option Nat) : TmpR w g (setD ts d v) (a.put d v').tmps := by
  cases d with
  | none => exact h
  | some d =>
    refine ⟨by simp [setD, Act.put, h.1], fun t => ?_⟩
    simp only [setD, Act.put, List.getD_eq_getElem?_getD, Array.getD_eq_getD_getElem?, List.getElem?_set, Array.getElem?_setIfInBounds]
    by_cases he : d = t
    · subst he
      by_cases hl : d < ts.length
      · have hl' : d < a.tmps.size := by have := h.1; omega
        simp only [if_pos hl, if_pos hl', if_true, Option.getD_some]; exact hv
      · have hl' : ¬ d < a.tmps.size := by have := h.1; omega
        simp only [if_neg hl, if_neg hl', if_true, Option.getD_none]; exact .any _
    · simp only [if_neg he]
      simpa [List.getD_eq_getElem?_getD, Array.getD_eq_getD_getElem?] using h.2 t

theorem put_defers (a : Act) (d : Option Nat) (v : Value) : (a.put d v).defers = a.defers := by cases d <;> rfl

theorem ev_V {ts : List AV} {a : Act} (h : TmpR w g ts a.tmps) (x : Operand) : V w g (ev ts x) (a.eval x) := by
  cases x with
  | tmp t => exact h.2 t
  | const v => exact V_val w g v
  | global _ => exact .any _
  | func f => exact .fn f [] #[] rfl (by simp)

theorem wp_of_done {P : Program} {o : Oper} {a : Act} {next : Act → World → Prop} {Q : Exit → Act → World → Prop} {v : AV} {m' : Mem} {s : Sem Value} (hs : ∀ w, (execOp a.eval o).run P w = (do pure (.value (← s)) : Sem Next).run P w) (h : Done P B w g s v m')
    (hn : ∀ v' w' g', Step B w g w' g' → MemR B w' g' m' → V w' g' v v' → next (a.put o.dst v') w') : o.wp P a w next Q := by
  obtain ⟨v', w', g', h1, h2, h3, h4⟩ := h
  unfold Oper.wp
  rw [hs]
  simp only [Sem.run_bind, h1, Result.andThen_ok, Sem.run_pure]
  exact hn v' w' g' h2 h3 h4

/-- The call of a function value. -/
theorem wp_of_call {P : Program} {o : Oper} {a : Act} {next : Act → World → Prop} {Q : Exit → Act → World → Prop} {c : Call} {fo : Operand} (ho : o.op = .call c) (hc : c.callee = .value fo) {f : Nat} {caps : Array Value} (hf : a.eval fo = .func (.func f) #[] caps)
    {fn : Func} (hfn : P.funcs[f]? = some fn) (hname : (fn.name == "runtime.NumGoroutine") = false) (hbody : fn.body.isSome) {R : Ending → World → Prop} (h : Calls P f (c.args.map a.eval ++ caps) w R)
    (hR : ∀ e w', R e w' → ∃ v', e = .returned v' ∧ next (a.put o.dst v') w') : o.wp P a w next Q := by
  have hrun : (execOp a.eval o).run P w = .ok (.enter f (c.args.map a.eval ++ caps)) w := by
    have hb : fn.body.isNone = false := by cases hb : fn.body <;> simp_all
    simp only [execOp, ho, resolve, hc, hf, Deferred.ofValue, invoke, callFunc, hfn, hname, hb, Sem.run_bind, Sem.run_pure, run_program, Result.andThen_ok, Bool.false_eq_true, if_false, Array.empty_append]
  unfold Oper.wp
  rw [hrun, Oper.upon_enter]
  refine h.mono fun e w' hr => ?_
  obtain ⟨v', rfl, hn⟩ := hR e w' hr
  exact hn

/-- A pure call's frame of knowledge. -/
def callG (g : G) (m : Mem) (l : List Nat) (ex : Bool) : G where
  wr b off := g.wr b off ∧ (¬ ∃ nm ∈ l, g.loc nm = some b) ∧ (ex = true → ¬ ∃ nm cs, m.get nm = some (.obj true cs) ∧ g.loc nm = some b)
  box := g.box
  loc _ := none
  tloc _ _ := none
def backG (g : G) (l : List Nat) (bx : Nat → Prop) : G where
  wr b off := g.wr b off ∧ ¬ ∃ nm ∈ l, g.loc nm = some b
  box := bx
  loc := g.loc
  tloc := g.tloc

theorem get_kill : ∀ (l : List Nat) (m : Mem) (nm : Nat), Mem.get (kill m l) nm = if nm ∈ l then none else m.get nm
  | [], m, nm => by simp [kill]
  | x :: l, m, nm => by
    have := get_kill l (m.set x none) nm
    show Mem.get (kill (m.set x none) l) nm = _
    rw [this, get_set]
    by_cases h1 : nm ∈ l
    · simp [h1]
    · by_cases h2 : nm = x
      · subst h2; simp
      · simp [h1, h2]
theorem length_kill : ∀ (l : List Nat) (m : Mem), (kill m l).length = m.length
  | [], m => rfl
  | x :: l, m => by
    show (kill (m.set x none) l).length = _
    rw [length_kill l]; simp

/-- A row that came into being in a call, and that nobody else knows, becomes an entry of the caller's. -/
theorem adopt (hm : MemR B w g m) (hB : B ≤ w.heap.size) {w' : World} {gb : G} {mk : Mem} (hst : Step B w g w' gb) (hmk : MemR B w' gb mk) (hlen : mk.length = m.length) (hgl : gb.loc = g.loc) (hgt : gb.tloc = g.tloc) (hsub : ∀ nm e, mk.get nm = some e → m.get nm = some e)
    (hblk : ∀ b, b < w.heap.size → w'.heap[b]? = w.heap[b]?) {b : Nat} {c : Array Value} {e : TypeId} {cs : List AV} (hb : w.heap.size ≤ b) (hheap : w'.heap[b]? = some (Obj.cells c e (0, 0))) (hcs : cs.length ≤ c.size) (hbox : ¬ gb.box b)
    (hV : ∀ j, j < cs.length → V w' (newG gb m.length b false) (cs.getD j .any) (c.getD j undef)) :
    Step B w g w' (newG gb m.length b false) ∧ MemR B w' (newG gb m.length b false) (mk ++ [some (.obj false cs)]) := by
  have hfr := hm.fresh m.length (Nat.le_refl _)
  have s : Step B w g w' (newG gb m.length b false) := by
    refine ⟨hst.below, hst.cell, hst.shape, fun b' off hb' hn h => ?_, fun b' off hb' => ?_, fun b' hb' => ?_, fun nm b' h => ?_, fun nm n b' h => hst.tloc nm n b' h⟩
    · rcases h with h | h
      · omega
      · exact hst.wr b' off hb' hn h
    · constructor
      · rintro (h | h)
        · omega
        · exact (hst.wrB b' off hb').1 h
      · exact fun h => .inr ((hst.wrB b' off hb').2 h)
    · simp only [newG, Bool.false_eq_true, false_and, false_or]
      exact hst.box b' hb'
    · simp only [newG]
      split
      · rename_i he; rw [he, hfr.1] at h; cases h
      · exact hst.loc nm b' h
  have hget : ∀ x, Mem.get (mk ++ [some (.obj false cs)]) x = if x < m.length then mk.get x else if x = m.length then some (.obj false cs) else none := by
    intro x
    unfold Mem.get
    rw [List.getElem?_append, hlen]
    by_cases h1 : x < m.length
    · rw [if_pos h1, if_pos h1]
    · rw [if_neg h1, if_neg h1]
      by_cases h2 : x = m.length
      · rw [if_pos h2, h2, Nat.sub_self]; rfl
      · rw [if_neg h2, List.getElem?_eq_none (by simp; omega)]; rfl
  have hblk2 : ∀ x b', blk (newG gb m.length b false) (mk ++ [some (.obj false cs)]) x = some b' → (x < m.length ∧ blk gb mk x = some b' ∧ b' < w.heap.size) ∨ (x = m.length ∧ b' = b) := by
    intro x b' hb'
    rcases blk_some hb' with ⟨bx', cs', h1, h2⟩ | ⟨n', sz', h1, h2⟩
    · rw [hget] at h1
      split at h1
      · rename_i hlt
        simp only [newG, if_neg (Nat.ne_of_lt hlt)] at h2
        refine .inl ⟨hlt, by simp [blk, h1, h2], ?_⟩
        obtain ⟨b0, c0, e0, o1, o2, o3, _⟩ := hm.obj x bx' cs' (hsub _ _ h1)
        rw [hgl] at h2
        obtain rfl : b' = b0 := by simpa [h2] using o1
        exact (Array.getElem?_eq_some_iff.1 o3).1
      · split at h1
        · rename_i he
          simp only [newG, if_pos he] at h2
          exact .inr ⟨he, by simpa using h2.symm⟩
        · cases h1
    · rw [hget] at h1
      split at h1
      · rename_i hlt
        refine .inl ⟨hlt, ?_, ?_⟩
        · simp only [newG] at h2
          simp [blk, h1, h2]
        · obtain ⟨b0, c0, e0, o1, o2, o3, _⟩ := hm.tok x n' sz' (hsub _ _ h1)
          simp only [newG] at h2
          rw [hgt] at h2
          obtain rfl : b' = b0 := by simpa [h2] using o1
          exact (Array.getElem?_eq_some_iff.1 o3).1
      · split at h1 <;> cases h1
  refine ⟨s, ?_, ?_, ?_, ?_, ?_, ?_, ?_⟩
  · intro x bx' cs' hn
    rw [hget] at hn
    split at hn
    · rename_i hlt
      obtain ⟨b1, c1, e1, h1, h2, h3, h4, h5, h6, h7⟩ := hm.obj x bx' cs' (hsub _ _ hn)
      obtain ⟨b2, c2, e2, k1, k2, k3, k4, k5, k6, k7⟩ := hmk.obj x bx' cs' hn
      rw [hgl] at k1
      obtain rfl : b1 = b2 := by simpa [h1] using k1
      have hl1 := (Array.getElem?_eq_some_iff.1 h3).1
      refine ⟨b1, c1, e1, s.loc _ _ h1, h2, (hblk b1 hl1).trans h3, h4, fun j hj => (h5 j hj).step s, fun off => .inr (k6 off), ?_⟩
      simp only [newG, Bool.false_eq_true, false_and, false_or]
      exact k7
    · split at hn
      · rename_i he
        simp only [Option.some.injEq, Ent.obj.injEq] at hn
        obtain ⟨rfl, rfl⟩ := hn
        refine ⟨b, c, e, by simp [newG, he], by omega, hheap, hcs, hV, fun off => .inl rfl, ?_⟩
        simp only [newG, Bool.false_eq_true, false_and, false_or, iff_false]
        exact hbox
      · cases hn
  · intro x n sz hn
    rw [hget] at hn
    split at hn
    · obtain ⟨b1, c1, e1, h1, h2, h3, h4, h5, h6⟩ := hmk.tok x n sz hn
      refine ⟨b1, c1, e1, h1, h2, h3, fun off ho => .inr (h4 off ho), h5, ?_⟩
      simp only [newG, Bool.false_eq_true, false_and, false_or]
      exact h6
    · split at hn <;> cases hn
  · intro x hn
    rw [hget] at hn
    split at hn
    · rename_i hlt
      have := hmk.resv x hn
      exact ⟨by simp only [newG]; rw [if_neg (Nat.ne_of_lt hlt)]; exact this.1, this.2⟩
    · split at hn <;> cases hn
  · intro x hn
    rw [List.length_append, hlen] at hn
    have := hmk.fresh x (by rw [hlen]; simp at hn; omega)
    exact ⟨by simp only [newG]; rw [if_neg (by simp at hn; omega)]; exact this.1, this.2⟩
  · intro x x' b' h1 h2
    rcases hblk2 _ _ h1 with ⟨a1, a2, a3⟩ | ⟨a1, a2⟩ <;> rcases hblk2 _ _ h2 with ⟨b1, b2, b3⟩ | ⟨b1, b2⟩
    · exact hmk.inj _ _ _ a2 b2
    · omega
    · omega
    · omega
  · rintro b' off (rfl | hw)
    · exact (Array.getElem?_eq_some_iff.1 hheap).1
    · exact hmk.wrLt b' off hw
  · intro b' hw
    simp only [newG, Bool.false_eq_true, false_and, false_or] at hw
    exact hmk.boxLt b' hw
/-- A cell of such a row stays what it is, though the row may now be written to. -/
theorem rowC_V {w' : World} {g' g2 : G} {x : AV} {u : Value} (hx : rowC x = true) (h : V w' g' x u)
    (hne : ∀ bl off, ¬ g'.wr bl off → ¬ g'.box bl → (∃ k n, w'.cell? ⟨bl, off, none⟩ = some (.int k n)) → ¬ g2.wr bl off) (hbx : ∀ bl, g2.box bl → g'.box bl) : V w' g2 x u := by
  cases h with
  | bool b => exact .bool b
  | nils sh o ho => exact .nils sh o ho
  | lst sh o es a cap us hs hc hm hsh hcell hv ho =>
    cases sh with
    | some n => simp [rowC] at hx
    | none =>
    have hno : (es.all isIntA = true) ∧ ∀ nm e, o ≠ .tok nm e := by
      cases o with
      | no => exact ⟨hx, fun _ _ h => by cases h⟩
      | full => exact ⟨hx, fun _ _ h => by cases h⟩
      | tok nm e => simp [rowC] at hx
    have hint : ∀ e ∈ es, ∃ k n, e = .int k n := by
      intro e he
      have := List.all_eq_true.1 hno.1 e he
      cases e <;> simp [isIntA] at this
      exact ⟨_, _, rfl⟩
    have hflat : ∀ ds : List AV, (∀ e ∈ ds, ∃ k n, e = .int k n) → flat ds = ds := by
      intro ds
      induction ds with
      | nil => intro _; rfl
      | cons e ds ih =>
        intro hi
        obtain ⟨k, n, rfl⟩ := hi e (by simp)
        show _ :: flat ds = _
        rw [ih (fun e he => hi e (by simp [he]))]
    have hvi : ∀ j, j < (flat es).length → ∃ k n, (flat es).getD j .any = .int k n ∧ us j = .int k n := by
      intro j hj
      have h1 := hv j hj
      obtain ⟨k, n, he⟩ := hint ((flat es).getD j .any) (by rw [hflat es hint] at hj ⊢; exact getD_mem hj)
      rw [he] at h1
      generalize us j = u at h1
      cases h1
      exact ⟨k, n, he, rfl⟩
    refine .lst _ _ es a cap us hs hc hm hsh (fun j hj => ?_) (fun j hj => ?_) ?_
    · obtain ⟨c1, c2, c3⟩ := hcell j hj
      obtain ⟨k, n, _, hu⟩ := hvi j hj
      exact ⟨c1, hne _ _ c2 c3 ⟨k, n, by rw [c1, hu]⟩, fun hb => c3 (hbx _ hb)⟩
    · obtain ⟨k, n, he, hu⟩ := hvi j hj
      rw [he, hu]
      exact .int k n
    · cases o with
      | no => trivial
      | full => exact ho
      | tok nm e => exact absurd rfl (hno.2 nm e)
  | any => simp [rowC] at hx
  | int => simp [rowC] at hx
  | str => simp [rowC] at hx
  | arr => simp [rowC] at hx
  | ptr => simp [rowC] at hx
  | vptr => simp [rowC] at hx
  | nilp => simp [rowC] at hx
  | nilf => simp [rowC] at hx
  | nile => simp [rowC] at hx
  | agg => simp [rowC] at hx
  | tup => simp [rowC] at hx
  | fn => simp [rowC] at hx
theorem thawCall_sound (hm : MemR B w g m) (hB : B ≤ w.heap.size) {P : Program} {f : Nat} {call : Nat → List AV → Mem → Option (AV × Mem)} (hcall : ∀ args m v m', call f args m = some (v, m') → CallOk P f args m v m') {args rs : List AV} {l : List Nat} {vs : Array Value}
    (hl : args.length = vs.size) (hv : ∀ j, j < args.length → V w g (args.getD j .any) (vs.getD j undef)) (hf : mapF (frz m fuelF) args = some (rs, l)) {v0 r : AV} {m0 mr : Mem} (hc : call f rs [] = some (v0, m0)) (hth : thawA m.length m0 v0 = some (r, mr)) :
    Calls P f vs w fun e w' => ∃ v' g', e = .returned v' ∧ Step B w g w' g' ∧ MemR B w' g' (kill m l ++ mr) ∧ V w' g' r v' := by
  obtain ⟨k1, k2, k3⟩ := mapF_facts _ _ _ _ hf
  have hobj : ∀ nm ∈ l, ∃ cs, m.get nm = some (.obj false cs) := fun nm hn => by
    obtain ⟨j, lj, a1, a2, a3⟩ := k3 nm hn
    exact (frz_sound hm fuelF _ _ _ _ (hv j a1) a2).1 nm a3
  have hargs : ∀ j, j < rs.length → V w (callG g m l (!noVL rs)) (rs.getD j .any) (vs.getD j undef) := fun j hj => by
    obtain ⟨lj, a1, a2⟩ := k2 j (by omega)
    refine (frz_sound hm fuelF _ _ _ _ (hv j (by omega)) a1).2.2 _ (fun b off h => h.1) (fun b h => h) (fun nm hn b hb off h => h.2.1 ⟨nm, a2 nm hn, hb⟩) ?_
    by_cases hn : noVL rs = true
    · exact .inl (noVL_mem hn _ (getD_mem hj))
    · exact .inr fun nm cs b hget hloc off h => h.2.2 (by simpa using hn) ⟨nm, cs, hget, hloc⟩
  have hm0 : MemR w.heap.size w (callG g m l (!noVL rs)) [] := by
    refine ⟨fun nm bx cs h => by simp [Mem.get] at h, fun nm n sz h => by simp [Mem.get] at h, fun nm h => by simp [Mem.get] at h, fun nm _ => ⟨rfl, fun _ => rfl⟩, fun nm nm' b h => by simp [blk, Mem.get] at h, fun b off h => hm.wrLt b off h.1, hm.boxLt⟩
  refine (hcall rs [] v0 m0 hc w.heap.size w (callG g m l (!noVL rs)) vs hm0 (Nat.le_refl _) (by omega) hargs).mono ?_
  rintro e w' ⟨v', g', rfl, s, hm', hV⟩
  -- what is known behind the call
  have hblk : ∀ b, b < w.heap.size → w'.heap[b]? = w.heap[b]? := fun b hb => s.below.block b hb
  have hcell : ∀ b off u, w.cell? ⟨b, off, none⟩ = some u → w'.cell? ⟨b, off, none⟩ = some u := fun b off u hc => (World.cell?_of_block (w := w) (a := ⟨b, off, none⟩) (hblk b (cell_lt hc))).trans hc
  have hst : Step B w g w' (backG g l g'.box) := by
    refine ⟨s.below.mono hB, fun b off u _ hc => hcell b off u hc, fun b c e fr hb => ⟨c, (hblk b (Array.getElem?_eq_some_iff.1 hb).1).trans hb, rfl⟩, fun b off _ hn h => hn h.1, fun b off hb => ?_, fun b hb => s.box b hb, fun _ _ h => h, fun _ _ _ h => h⟩
    constructor
    · exact fun h => h.1
    · intro h
      refine ⟨h, ?_⟩
      rintro ⟨nm, hn, hloc⟩
      obtain ⟨cs, hget⟩ := hobj nm hn
      obtain ⟨b', c, e, o1, o2, _⟩ := hm.obj nm false cs hget
      obtain rfl : b = b' := by simpa [hloc] using o1
      omega
  have hmk : MemR B w' (backG g l g'.box) (kill m l) := by
    have hsub : ∀ nm b, blk (backG g l g'.box) (kill m l) nm = some b → blk g m nm = some b := by
      intro nm b hb
      rcases blk_some hb with ⟨bx, cs, h1, h2⟩ | ⟨n, sz, h1, h2⟩
      · rw [get_kill] at h1
        split at h1
        · cases h1
        · have h2' : g.loc nm = some b := h2
          simp [blk, h1, h2']
      · rw [get_kill] at h1
        split at h1
        · cases h1
        · have h2' : g.tloc nm n = some b := h2
          simp [blk, h1, h2']
    have hnotK : ∀ nm b, nm ∉ l → blk g m nm = some b → ¬ ∃ x ∈ l, g.loc x = some b := by
      rintro nm b hn hb ⟨x, hx, hloc⟩
      obtain ⟨cs, hget⟩ := hobj x hx
      have : blk g m x = some b := by simp [blk, hget, hloc]
      exact hn (hm.inj nm x b hb this ▸ hx)
    refine ⟨fun nm bx cs hget => ?_, fun nm n sz hget => ?_, fun nm hget => ?_, fun nm hn => hm.fresh nm (by rw [length_kill] at hn; exact hn), fun nm nm' b h1 h2 => hm.inj nm nm' b (hsub _ _ h1) (hsub _ _ h2), fun b off h => Nat.lt_of_lt_of_le (hm.wrLt b off h.1) s.below.size, hm'.boxLt⟩
    · rw [get_kill] at hget
      split at hget
      · cases hget
      · rename_i hnl
        obtain ⟨b, c, e, o1, o2, o3, o4, o5, o6, o7⟩ := hm.obj nm bx cs hget
        have hlt := (Array.getElem?_eq_some_iff.1 o3).1
        exact ⟨b, c, e, o1, o2, (hblk b hlt).trans o3, o4, fun j hj => (o5 j hj).step hst, fun off => ⟨o6 off, hnotK nm b hnl (by simp [blk, hget, o1])⟩, (s.box b hlt).trans o7⟩
    · rw [get_kill] at hget
      split at hget
      · cases hget
      · rename_i hnl
        obtain ⟨b, c, e, o1, o2, o3, o4, o5, o6⟩ := hm.tok nm n sz hget
        have hlt := (Array.getElem?_eq_some_iff.1 o3).1
        exact ⟨b, c, e, o1, o2, (hblk b hlt).trans o3, fun off ho => ⟨o4 off ho, hnotK nm b hnl (by simp [blk, hget, o1])⟩, o5, fun h => o6 ((s.box b hlt).1 h)⟩
    · rw [get_kill] at hget
      split at hget
      · cases hget
      · exact hm.resv nm hget
  unfold thawA at hth
  split at hth
  case h_2 => cases hth
  rename_i k a k' b sh z o es
  split at hth
  · rename_i nm ety
    split at hth
    · cases hth
    · rename_i n
      split at hth
      case h_2 => cases hth
      rename_i c0 sz0 hget0
      split at hth
      case isFalse => cases hth
      rename_i hcond
      obtain ⟨hc0, hs0, hrow⟩ := hcond
      have hs0 := hs0.symm
      subst hc0
      subst hs0
      simp only [Option.some.injEq, Prod.mk.injEq] at hth
      obtain ⟨rfl, rfl⟩ := hth
      cases hV with
      | agg _ vs3 hl3 hv3 =>
      have h0 := hv3 0 (by simp)
      have h1 := hv3 1 (by simp)
      have h2 := hv3 2 (by simp)
      simp only [List.getD_cons_zero, List.getD_cons_succ] at h0 h1 h2
      generalize hu0 : vs3.getD 0 undef = u0 at h0
      generalize hu1 : vs3.getD 1 undef = u1 at h1
      generalize hu2 : vs3.getD 2 undef = u2 at h2
      cases h0; cases h1
      cases h2 with
      | nils _ _ ho => rcases ho with ho | ho <;> cases ho
      | lst _ _ _ ad cap us hs hc hmx hsh hcl hvv ho =>
      obtain ⟨o1, o2, c, o3, o4⟩ := ho
      obtain ⟨b1, c1, e1, t1, t2, t3, t4, t5, t6⟩ := hm'.tok nm es.length n hget0
      obtain rfl : ad.block = b1 := by simpa [o1] using t1
      have hfl := flat_len (fun e he => (hsh e he).1 : ∀ e ∈ es, shOk (some n) e = true)
      have hcu : ∀ j, j < (flat es).length → c.getD j undef = us j := by
        intro j hj
        have h3 := (hcl j hj).1
        rw [o2, Nat.zero_add, cell_of_row w' ad.block j c ety (0, 0) o3] at h3
        rw [Array.getD_eq_getD_getElem?, h3]; rfl
      have hnotint : ∀ j, j < (flat es).length → ∀ k n, us j ≠ .int k n := by
        intro j hj k n he
        have h3 := hvv j hj
        have h4 := List.all_eq_true.1 hrow _ (getD_mem hj)
        rw [he] at h3
        generalize (flat es).getD j .any = x at h3 h4
        cases h3 <;> simp [rowC] at h4
      have hne : ∀ bl off, ¬ g'.wr bl off → ¬ g'.box bl → (∃ k n, w'.cell? ⟨bl, off, none⟩ = some (.int k n)) → ¬ (newG (backG g l g'.box) m.length ad.block false).wr bl off := by
        rintro bl off hw hbx ⟨k, n', hcell'⟩ hn
        rcases hn with rfl | hn
        · by_cases hlt : off < (flat es).length
          · have h3 := (hcl off hlt).1
            rw [o2, Nat.zero_add] at h3
            rw [h3] at hcell'
            exact hnotint off hlt k n' (by simpa using hcell')
          · exact hw (t4 off (by rw [hfl] at hlt; simp only [Sh.size] at hlt; omega))
        · obtain ⟨hn1, hn2⟩ := hn
          have hlt := hm.wrLt bl off hn1
          refine hw ((s.wrB bl off hlt).2 ⟨hn1, hn2, fun _ => ?_⟩)
          rintro ⟨nm2, cs2, hg2, hl2⟩
          obtain ⟨b2, _, _, q1, _, _, _, _, _, q7⟩ := hm.obj nm2 true cs2 hg2
          obtain rfl : bl = b2 := by simpa [hl2] using q1
          exact hbx ((s.box bl hlt).2 (q7.2 rfl))
      obtain ⟨s2, hm2⟩ := adopt hm hB hst hmk (length_kill l m) rfl rfl (fun nm e hg => by
        rw [get_kill] at hg
        split at hg
        · cases hg
        · exact hg) hblk t2 o3 (cs := flat es) (by rw [hfl, o4]; exact Nat.mul_le_mul_right _ hc) t6 (fun j hj => by
          rw [hcu j hj]
          exact rowC_V (List.all_eq_true.1 hrow _ (getD_mem hj)) (hvv j hj) hne (fun bl h => by simpa [newG, backG] using h))
      refine ⟨_, _, rfl, s2, hm2, .agg _ _ hl3 (fun j hj => ?_)⟩
      match j, hj with
      | 0, _ => rw [hu0]; exact .int _ _
      | 1, _ => rw [hu1]; exact .int _ _
      | 2, _ =>
        rw [hu2]
        refine .arr _ _ _ _ ad cap hs hc hmx ?_
        rcases hs with hs | hs
        · exact .inl (by omega)
        refine .inr ⟨by simp [newG], ?_⟩
        obtain ⟨adb, ado, ads⟩ := ad
        simp only at o2 hs
        rw [o2, hs]
      | j + 3, hj => simp at hj; omega
  · rename_i hno
    split at hth
    · split at hth
      · simp only [Option.some.injEq, Prod.mk.injEq] at hth
        obtain ⟨rfl, rfl⟩ := hth
        rw [List.append_nil]
        refine ⟨_, _, rfl, hst, hmk, ?_⟩
        cases hV with
        | agg _ vs3 hl3 hv3 =>
        refine .agg _ _ hl3 (fun j hj => ?_)
        have hx := hv3 j hj
        match j, hj, hx with
        | 0, _, hx =>
          simp only [List.getD_cons_zero] at hx ⊢
          generalize vs3.getD 0 undef = u at hx
          cases hx; exact .int _ _
        | 1, _, hx =>
          simp only [List.getD_cons_succ, List.getD_cons_zero] at hx ⊢
          generalize vs3.getD 1 undef = u at hx
          cases hx; exact .int _ _
        | 2, _, hx =>
          simp only [List.getD_cons_succ, List.getD_cons_zero] at hx ⊢
          generalize vs3.getD 2 undef = u at hx
          cases hx with
          | nils _ _ ho => exact .nils _ _ ho
        | j + 3, hj, _ => simp at hj; omega
      · cases hth
    · cases hth
theorem pureCall_sound (hm : MemR B w g m) (hB : B ≤ w.heap.size) {P : Program} {f : Nat} {call : Nat → List AV → Mem → Option (AV × Mem)} (hcall : ∀ args m v m', call f args m = some (v, m') → CallOk P f args m v m') {args rs : List AV} {l : List Nat} {vs : Array Value}
    (hl : args.length = vs.size) (hv : ∀ j, j < args.length → V w g (args.getD j .any) (vs.getD j undef)) (hf : mapF (frz m fuelF) args = some (rs, l)) {r : AV} (h : acallP call f rs = some r) :
    Calls P f vs w fun e w' => ∃ v' g', e = .returned v' ∧ Step B w g w' g' ∧ MemR B w' g' (kill m l) ∧ V w' g' r v' := by
  unfold acallP at h
  simp only [Option.bind_eq_some_iff] at h
  obtain ⟨⟨v0, m0⟩, hc, ⟨r', l'⟩, hfz, h⟩ := h
  simp only at hfz h
  split at h
  · rename_i hcond
    simp only [Option.some.injEq] at h
    subst h
    obtain ⟨k1, k2, k3⟩ := mapF_facts _ _ _ _ hf
    have hobj : ∀ nm ∈ l, ∃ cs, m.get nm = some (.obj false cs) := fun nm hn => by
      obtain ⟨j, lj, a1, a2, a3⟩ := k3 nm hn
      exact (frz_sound hm fuelF _ _ _ _ (hv j a1) a2).1 nm a3
    have hargs : ∀ j, j < rs.length → V w (callG g m l (!noVL rs)) (rs.getD j .any) (vs.getD j undef) := fun j hj => by
      obtain ⟨lj, a1, a2⟩ := k2 j (by omega)
      refine (frz_sound hm fuelF _ _ _ _ (hv j (by omega)) a1).2.2 _ (fun b off h => h.1) (fun b h => h) (fun nm hn b hb off h => h.2.1 ⟨nm, a2 nm hn, hb⟩) ?_
      by_cases hn : noVL rs = true
      · exact .inl (noVL_mem hn _ (getD_mem hj))
      · exact .inr fun nm cs b hget hloc off h => h.2.2 (by simpa using hn) ⟨nm, cs, hget, hloc⟩
    have hm0 : MemR w.heap.size w (callG g m l (!noVL rs)) [] := by
      refine ⟨fun nm bx cs h => by simp [Mem.get] at h, fun nm n sz h => by simp [Mem.get] at h, fun nm h => by simp [Mem.get] at h, fun nm _ => ⟨rfl, fun _ => rfl⟩, fun nm nm' b h => by simp [blk, Mem.get] at h, fun b off h => hm.wrLt b off h.1, hm.boxLt⟩
    refine (hcall rs [] v0 m0 hc w.heap.size w (callG g m l (!noVL rs)) vs hm0 (Nat.le_refl _) (by omega) hargs).mono ?_
    rintro e w' ⟨v', g', rfl, s, hm', hV⟩
    -- what is known behind the call
    have hblk : ∀ b, b < w.heap.size → w'.heap[b]? = w.heap[b]? := fun b hb => s.below.block b hb
    have hcell : ∀ b off u, w.cell? ⟨b, off, none⟩ = some u → w'.cell? ⟨b, off, none⟩ = some u := fun b off u hc => (World.cell?_of_block (w := w) (a := ⟨b, off, none⟩) (hblk b (cell_lt hc))).trans hc
    have hst : Step B w g w' (backG g l g'.box) := by
      refine ⟨s.below.mono hB, fun b off u _ hc => hcell b off u hc, fun b c e fr hb => ⟨c, (hblk b (Array.getElem?_eq_some_iff.1 hb).1).trans hb, rfl⟩, fun b off _ hn h => hn h.1, fun b off hb => ?_, fun b hb => s.box b hb, fun _ _ h => h, fun _ _ _ h => h⟩
      constructor
      · exact fun h => h.1
      · intro h
        refine ⟨h, ?_⟩
        rintro ⟨nm, hn, hloc⟩
        obtain ⟨cs, hget⟩ := hobj nm hn
        obtain ⟨b', c, e, o1, o2, _⟩ := hm.obj nm false cs hget
        obtain rfl : b = b' := by simpa [hloc] using o1
        omega
    have hmk : MemR B w' (backG g l g'.box) (kill m l) := by
      have hsub : ∀ nm b, blk (backG g l g'.box) (kill m l) nm = some b → blk g m nm = some b := by
        intro nm b hb
        rcases blk_some hb with ⟨bx, cs, h1, h2⟩ | ⟨n, sz, h1, h2⟩
        · rw [get_kill] at h1
          split at h1
          · cases h1
          · have h2' : g.loc nm = some b := h2
            simp [blk, h1, h2']
        · rw [get_kill] at h1
          split at h1
          · cases h1
          · have h2' : g.tloc nm n = some b := h2
            simp [blk, h1, h2']
      have hnotK : ∀ nm b, nm ∉ l → blk g m nm = some b → ¬ ∃ x ∈ l, g.loc x = some b := by
        rintro nm b hn hb ⟨x, hx, hloc⟩
        obtain ⟨cs, hget⟩ := hobj x hx
        have : blk g m x = some b := by simp [blk, hget, hloc]
        exact hn (hm.inj nm x b hb this ▸ hx)
      refine ⟨fun nm bx cs hget => ?_, fun nm n sz hget => ?_, fun nm hget => ?_, fun nm hn => hm.fresh nm (by rw [length_kill] at hn; exact hn), fun nm nm' b h1 h2 => hm.inj nm nm' b (hsub _ _ h1) (hsub _ _ h2), fun b off h => Nat.lt_of_lt_of_le (hm.wrLt b off h.1) s.below.size, hm'.boxLt⟩
      · rw [get_kill] at hget
        split at hget
        · cases hget
        · rename_i hnl
          obtain ⟨b, c, e, o1, o2, o3, o4, o5, o6, o7⟩ := hm.obj nm bx cs hget
          have hlt := (Array.getElem?_eq_some_iff.1 o3).1
          exact ⟨b, c, e, o1, o2, (hblk b hlt).trans o3, o4, fun j hj => (o5 j hj).step hst, fun off => ⟨o6 off, hnotK nm b hnl (by simp [blk, hget, o1])⟩, (s.box b hlt).trans o7⟩
      · rw [get_kill] at hget
        split at hget
        · cases hget
        · rename_i hnl
          obtain ⟨b, c, e, o1, o2, o3, o4, o5, o6⟩ := hm.tok nm n sz hget
          have hlt := (Array.getElem?_eq_some_iff.1 o3).1
          exact ⟨b, c, e, o1, o2, (hblk b hlt).trans o3, fun off ho => ⟨o4 off ho, hnotK nm b hnl (by simp [blk, hget, o1])⟩, o5, fun h => o6 ((s.box b hlt).1 h)⟩
      · rw [get_kill] at hget
        split at hget
        · cases hget
        · exact hm.resv nm hget
    refine ⟨v', _, rfl, hst, hmk, ?_⟩
    -- the result
    obtain ⟨f1, f2, f3⟩ := frz_sound hm' fuelF _ _ _ _ hV hfz
    let gf : G := { wr := fun b off => b < w.heap.size ∧ g'.wr b off, box := g'.box, loc := fun _ => none, tloc := fun _ _ => none }
    have hVf : V w' gf r' v' := by
      refine f3 gf (fun b off h => h.2) (fun b h => h) (fun nm hn b hb off h => ?_) (.inr fun nm cs b hget hb off h => ?_)
      · obtain ⟨cs, hget⟩ := f1 nm hn
        obtain ⟨b', c, e, o1, o2, _⟩ := hm'.obj nm false cs hget
        obtain rfl : b = b' := by simpa [hb] using o1
        have := h.1
        omega
      · obtain ⟨b', c, e, o1, o2, _⟩ := hm'.obj nm true cs hget
        obtain rfl : b = b' := by simpa [hb] using o1
        have := h.1
        omega
    refine V_cl' (nv := !noVL rs) hVf f2 (fun hn => ?_) (fun b off h => ?_) (fun b h => h)
    · have : noVL rs = false := by simpa using hn
      simpa [this] using hcond
    · have hlt := hm.wrLt b off h.1
      by_cases hnb : ∃ nm cs, m.get nm = some (.obj true cs) ∧ g.loc nm = some b
      · by_cases hnv : noVL rs = true
        · exact .inl ⟨hlt, (s.wrB b off hlt).2 ⟨h.1, h.2, fun hx => by simp [hnv] at hx⟩⟩
        · refine .inr ⟨?_, by simpa using hnv⟩
          obtain ⟨nm, cs, hget, hloc⟩ := hnb
          obtain ⟨b', c, e, o1, o2, o3, o4, o5, o6, o7⟩ := hm.obj nm true cs hget
          obtain rfl : b = b' := by simpa [hloc] using o1
          exact (s.box b hlt).2 (o7.2 rfl)
      · exact .inl ⟨hlt, (s.wrB b off hlt).2 ⟨h.1, h.2, fun _ => hnb⟩⟩
  · cases h
end
end Go.Ab
