/- Each operation that makes no memory: the abstract answer is the machine's. -/
import Derived.Test.YtlapgjmmlbnehaaAAbRel
import Derived.WalkKit
import Derived.WalkSpells
import Derived.Laws.Small
import Derived.Laws.StructEq
import Derived.Laws.Cover3
import Derived.Laws.Cells
set_option linter.unusedVariables false
set_option linter.unusedSimpArgs false
namespace Go.Ab
open Go.RowKit

theorem V_atom (w : World) (g : G) (v : Value) : V w g (atomA v) v := by
  unfold atomA
  split
  · exact .int _ _
  · exact .bool _
  · exact .str _
  · exact .nils _ _ (.inl rfl)
  · exact .nilp
  · exact .nilf
  · exact .nile
  · exact .any _

theorem V_val (w : World) (g : G) (v : Value) : V w g (valA v) v := by
  unfold valA
  split
  · rename_i cs
    refine .agg _ _ (by simp) fun j hj => ?_
    have hj' : j < cs.size := by simpa using hj
    have : (cs.toList.map atomA).getD j .any = atomA (cs.getD j undef) := by
      simp [List.getD_eq_getElem?_getD, Array.getD, hj']
    rw [this]
    exact V_atom _ _ _
  · exact V_atom _ _ _

section
variable {P : Program} {w : World} {g : G}

theorem run_binOp_other (op : BinOp) (k : IntKind) (a b : Int) {v : AV} (h : binInt op k a b = some v) (hs : op ≠ .shl ∧ op ≠ .shr) (t : Nat) : ∃ v', (binOp op t (.int k a) (.int k b)).run P w = .ok v' w ∧ V w g v v' := by
  cases op <;> simp [binInt] at h <;> first
    | (obtain ⟨hb, rfl⟩ := h; refine ⟨_, ?_, .int _ _⟩; simp [binOp, Op.intArith, Op.intDiv, Op.intBits, Op.intCmp, hb]; done)
    | (subst h; first | refine ⟨_, ?_, .int _ _⟩ | refine ⟨_, ?_, .bool _⟩)
  all_goals first
    | (simp [binOp, Op.intArith, Op.intDiv, Op.intBits, Op.intCmp]; done)
    | exact absurd rfl hs.1 | exact absurd rfl hs.2 | skip

theorem run_eqGuard (op : BinOp) (t : Nat) (x y : Operand) (a b : Value) (h : (match a, b with | .nilIface, .nilIface => false | .agg _, .agg _ => false | _, _ => true) = true) : (eqGuard op t x y a b).run P w = .ok () w := by
  cases op <;> simp [eqGuard] <;> (split <;> simp_all)

theorem bin_sound (op : BinOp) (t : Nat) (ox oy : Operand) {x y v : AV} {x' y' : Value} (hx : V w g x x') (hy : V w g y y') (h : binA (tkOf P t) op x y = some v) :
    ∃ v', (do eqGuard op t ox oy x' y'; binOp op t x' y' : Sem Value).run P w = .ok v' w ∧ V w g v v' := by
  unfold binA at h
  split at h
  · rename_i tk k a k' b
    cases hx; cases hy
    have hg : (eqGuard op t ox oy (.int k a) (.int k' b)).run P w = .ok () w := run_eqGuard _ _ _ _ _ _ rfl
    simp only [Sem.run_bind, hg, Result.andThen_ok]
    split at h
    · unfold shiftA at h
      split at h
      · cases h
      · simp at h
        subst h
        refine ⟨_, ?_, .int _ _⟩
        simp [binOp, Op.shift, *]
    · unfold shiftA at h
      split at h
      · cases h
      · simp at h
        subst h
        refine ⟨_, ?_, .int _ _⟩
        simp [binOp, Op.shift, *]
    · split at h
      · rename_i hk
        subst hk
        exact run_binOp_other op k a b h ⟨by assumption, by assumption⟩ t
      · cases h
  · rename_i tk a b
    cases hx; cases hy
    have hg : (eqGuard op t ox oy (.string a) (.string b)).run P w = .ok () w := run_eqGuard _ _ _ _ _ _ rfl
    simp only [Sem.run_bind, hg, Result.andThen_ok]
    cases op <;> simp [binStr] at h
    · obtain ⟨hsz, rfl⟩ := h
      refine ⟨_, ?_, .str _⟩
      have : ¬ (IntKind.i64.max < ((a.size : Int) + (b.size : Int))) := by
        have : IntKind.i64.max = 9223372036854775807 := rfl
        omega
      simp [binOp, Op.stringOp, this]
      omega
    · subst h
      exact ⟨_, by simp [binOp, Op.stringOp], .bool _⟩
    · subst h
      exact ⟨_, by simp [binOp, Op.stringOp], .bool _⟩
  · rename_i a b htk
    have ht : P.underlying t = some .bool := by
      unfold tkOf at htk
      split at htk <;> simp_all
    cases hx; cases hy
    have hg : (eqGuard op t ox oy (.bool a) (.bool b)).run P w = .ok () w := run_eqGuard _ _ _ _ _ _ rfl
    simp only [Sem.run_bind, hg, Result.andThen_ok]
    split at h
    · simp at h; subst h
      exact ⟨_, run_eql_bool w t a b ht, .bool _⟩
    · simp at h; subst h
      exact ⟨_, run_neq_bool w t a b ht, .bool _⟩
    · cases h
  · rename_i sh z o es sh' o' htk
    obtain ⟨e, ht⟩ : ∃ e, P.underlying t = some (.slice e) := by
      unfold tkOf at htk
      split at htk <;> simp_all
    cases hy
    have hg : ∀ v, (eqGuard op t ox oy v (.slice none 0 0)).run P w = .ok () w := fun v => run_eqGuard _ _ _ _ _ _ (by cases v <;> rfl)
    simp only [Sem.run_bind, hg, Result.andThen_ok]
    split at h
    · simp at h; subst h
      cases hx
      · exact ⟨_, by simp [binOp, run_equal_slice_nil w t e _ _ _ ht], .bool _⟩
      · exact ⟨_, by simp [binOp, run_equal_slice_nil w t e _ _ _ ht], .bool _⟩
    · simp at h; subst h
      cases hx
      · exact ⟨_, by simp [binOp, run_equal_slice_nil w t e _ _ _ ht], .bool _⟩
      · exact ⟨_, by simp [binOp, run_equal_slice_nil w t e _ _ _ ht], .bool _⟩
    · cases h
  · cases h

theorem un_sound (op : UnOp) {x v : AV} {x' : Value} (hx : V w g x x') (h : unA op x = some v) : ∃ v', (Op.unary op x').run P w = .ok v' w ∧ V w g v v' := by
  unfold unA at h
  split at h
  · simp at h; subst h; cases hx; exact ⟨_, rfl, .bool _⟩
  · simp at h; subst h; cases hx; exact ⟨_, by simp [Op.unary, Op.intArith], .int _ _⟩
  · cases h

theorem pick_sound {c a b v : AV} {c' a' b' : Value} (hc : V w g c c') (ha : V w g a a') (hb : V w g b b') (h : pickA c a b = some v) :
    ∃ v', (do pure (if ← asBool c' then a' else b') : Sem Value).run P w = .ok v' w ∧ V w g v v' := by
  unfold pickA at h
  split at h
  · rename_i t
    simp at h; subst h; cases hc
    cases t
    · exact ⟨b', by simp [asBool], by simpa using hb⟩
    · exact ⟨a', by simp [asBool], by simpa using ha⟩
  · cases h

theorem extract_sound {t v : AV} {t' : Value} {i : Nat} (ht : V w g t t') (h : extractA t i = some v) : ∃ v', (Instr.extract t' i).run P w = .ok v' w ∧ V w g v v' := by
  unfold extractA at h
  split at h
  · rename_i cs
    cases ht with
    | tup cs vs hl hv =>
      obtain ⟨hi, rfl⟩ := List.getElem?_eq_some_iff.1 h
      have hi' : i < vs.size := by omega
      refine ⟨vs[i], by simp [Instr.extract, hi'], ?_⟩
      have := hv i hi
      simpa [List.getD_eq_getElem?_getD, hi, Array.getD, hi'] using this
  · cases h

theorem max_sound {mx : Bool} {x y v : AV} {x' y' : Value} (hx : V w g x x') (hy : V w g y y') (h : maxA mx x y = some v) :
    ∃ v', ((if mx then Builtin.max_ else Builtin.min_) #[] 0 #[x', y']).run P w = .ok v' w ∧ V w g v v' := by
  unfold maxA at h
  split at h
  · rename_i k a k' b
    split at h
    · rename_i hk
      subst hk
      simp at h; subst h; cases hx; cases hy
      cases mx
      · exact ⟨_, by simp [Builtin.min_, Builtin.min2], .int _ _⟩
      · exact ⟨_, by simp [Builtin.max_, Builtin.max2], .int _ _⟩
    · cases h
  · cases h

theorem len_sound {st : Bool} {x v : AV} {x' : Value} (hx : V w g x x') (h : lenA st x = some v) (ts : Array TypeId) (t ty : Nat) (ht : ts[0]? = some t) (hd : if st then P.underlying t = some .string else ∃ e, P.underlying t = some (.slice e)) :
    ∃ v', (Builtin.len_ ts ty #[x']).run P w = .ok v' w ∧ V w g v v' := by
  unfold lenA at h
  split at h
  · simp at h; subst h
    obtain ⟨e, hd⟩ : ∃ e, P.underlying t = some (.slice e) := by simpa using hd
    cases hx
    · exact ⟨.int .i64 0, by simp [Builtin.len_, ht, run_underlying hd, goInt], .int _ _⟩
    · exact ⟨.int .i64 _, by simp [Builtin.len_, ht, run_underlying hd, goInt], .int _ _⟩
  · simp at h; subst h
    obtain ⟨e, hd⟩ : ∃ e, P.underlying t = some (.slice e) := by simpa using hd
    cases hx
    exact ⟨.int .i64 _, by simp [Builtin.len_, ht, run_underlying hd, goInt], .int _ _⟩
  · simp at h; subst h
    have hd : P.underlying t = some .string := by simpa using hd
    cases hx
    exact ⟨.int .i64 _, by simp [Builtin.len_, ht, run_underlying hd, goInt], .int _ _⟩
  · cases h

theorem conv_sound {k : IntKind} {x v : AV} {x' : Value} (hx : V w g x x') (h : convA k x = some v) (src dst : Nat) (hd : P.underlying dst = some (.int k)) (hs : (P.underlying src).isSome) :
    ∃ v', (convert src dst x').run P w = .ok v' w ∧ V w g v v' := by
  unfold convA at h
  split at h
  · simp at h; subst h; cases hx
    obtain ⟨d, hsd⟩ := Option.isSome_iff_exists.1 hs
    exact ⟨_, by simp [convert, run_underlying hd, run_underlying hsd, Conv.intToInt], .int _ _⟩
  · cases h

theorem shOf_facts {t : Nat} {sh : Sh} (h : shOf P t = some sh) : ∃ i d, P.info? t = some i ∧ P.underlying t = some d ∧ i.size = sh.size ∧
    ((sh = none ∧ ∀ w : World, (isAgg t).run P w = .ok false w) ∨ (∃ n, sh = some n) ∧ ∀ w : World, (isAgg t).run P w = .ok true w) := by
  unfold shOf at h
  split at h
  · rename_i fs i hu hi
    simp at h; subst h
    exact ⟨i, _, hi, hu, rfl, .inr ⟨⟨_, rfl⟩, fun w => by simp [isAgg, run_underlying hu]⟩⟩
  · rename_i n e i hu hi
    simp at h; subst h
    exact ⟨i, _, hi, hu, rfl, .inr ⟨⟨_, rfl⟩, fun w => by simp [isAgg, run_underlying hu]⟩⟩
  · rename_i d i h1 h2 hu hi
    split at h
    · simp at h; subst h
      refine ⟨i, d, hi, hu, by simpa [Sh.size] using ‹i.size = 1›, .inl ⟨rfl, fun w => ?_⟩⟩
      cases d <;> simp [isAgg, run_underlying hu] <;> simp_all
    · cases h
  · cases h

theorem run_sizeOf {t : Nat} {i : TypeInfo} (hi : P.info? t = some i) : (sizeOf t).run P w = .ok i.size w := by simp [sizeOf, typeInfo, hi]

theorem fieldOf_facts {t f off : Nat} {sh : Sh} (h : fieldOf P t f = some (off, sh)) : ∃ fs fd, P.underlying t = some (.struct fs) ∧ fs[f]? = some fd ∧ shOf P fd.type = some sh ∧ fd.offset = off ∧ sh.size ≠ 0 := by
  unfold fieldOf at h
  split at h
  · rename_i fs hu
    split at h
    · rename_i fd hfd
      split at h
      · rename_i sh' hsh
        split at h
        · cases h
        · rename_i hne
          simp at h
          obtain ⟨rfl, rfl⟩ := h
          exact ⟨fs, fd, hu, hfd, hsh, rfl, hne⟩
      · cases h
    · cases h
  · cases h

theorem cut_V {sh : Sh} {cs : List AV} {off : Nat} {v : AV} (f : Nat → Value) (hv : ∀ j, j < cs.length → V w g (cs.getD j .any) (f j)) (h : cutSh sh cs off = some v) :
    (sh = none → off < cs.length ∧ V w g v (f off)) ∧ (∀ n, sh = some n → off + n ≤ cs.length ∧ V w g v (.agg ((List.range n).map fun j => f (off + j)).toArray)) := by
  unfold cutSh at h
  split at h
  · refine ⟨fun _ => ?_, fun n hn => by cases hn⟩
    obtain ⟨hi, rfl⟩ := List.getElem?_eq_some_iff.1 h
    exact ⟨hi, by simpa [List.getD_eq_getElem?_getD, hi] using hv off hi⟩
  · rename_i n
    refine ⟨fun hn => by (cases hn), fun n' hn => ?_⟩
    simp only [Option.some.injEq] at hn
    subst hn
    split at h
    · rename_i hle
      simp at h; subst h
      refine ⟨hle, .agg _ _ (by simp; omega) fun j hj => ?_⟩
      have hj' : j < n := by simp at hj; omega
      have := hv (off + j) (by omega)
      simpa [List.getD_eq_getElem?_getD, hj', Array.getD, List.getElem?_take, List.getElem?_drop] using this
    · cases h

theorem part_sound {sh : Sh} {t off : Nat} {cs : List AV} {vs : Array Value} {v : AV} (hsh : shOf P t = some sh) (hl : cs.length = vs.size) (hv : ∀ j, j < cs.length → V w g (cs.getD j .any) (vs.getD j undef)) (h : cutSh sh cs off = some v) :
    ∃ v', (part t vs off).run P w = .ok v' w ∧ V w g v v' := by
  obtain ⟨i, d, hi, hd, hs, hagg⟩ := shOf_facts hsh
  obtain ⟨h1, h2⟩ := cut_V _ hv h
  rcases hagg with ⟨rfl, ha⟩ | ⟨⟨n, rfl⟩, ha⟩
  · obtain ⟨hlt, hV⟩ := h1 rfl
    have hlt' : off < vs.size := by omega
    refine ⟨vs[off], by simp [part, ha, hlt'], by simpa [Array.getD, hlt'] using hV⟩
  · obtain ⟨hlt, hV⟩ := h2 n rfl
    refine ⟨_, ?_, hV⟩
    simp only [part, Sem.run_bind, ha, Result.andThen_ok, if_true, run_sizeOf hi, Sem.run_pure]
    congr 2
    simp only [Sh.size] at hs
    apply Array.ext
    · simp; omega
    · intro j hj hj'
      simp at hj hj'
      simp [Array.getD, show off + j < vs.size by omega]

theorem field_sound {sh : Sh} {off : Nat} {x v : AV} {x' : Value} (hx : V w g x x') (h : fieldA off sh x = some v) (t f : Nat) (hf : fieldOf P t f = some (off, sh)) :
    ∃ v', (Instr.field t x' f).run P w = .ok v' w ∧ V w g v v' := by
  obtain ⟨fs, fd, hu, hfd, hsh, rfl, _⟩ := fieldOf_facts hf
  unfold fieldA at h
  split at h
  · rename_i cs
    cases hx with
    | agg cs vs hl hv =>
      obtain ⟨v', hr, hV⟩ := part_sound hsh hl hv h
      exact ⟨v', by simp [Instr.field, run_underlying hu, hfd, asAgg, hr], hV⟩
  · cases h

theorem Addr_add (b off n : Nat) : (⟨b, off, none⟩ : Addr).add n = ⟨b, off + n, none⟩ := by
  unfold Addr.add
  split <;> simp_all

theorem fieldAddr_sound {sh : Sh} {off : Nat} {x v : AV} {x' : Value} (hx : V w g x x') (h : fieldAddrA off x = some v) (t f : Nat) (hf : fieldOf P t f = some (off, sh)) :
    ∃ v', (Instr.fieldAt t x' f).run P w = .ok v' w ∧ V w g v v' := by
  obtain ⟨fs, fd, hu, hfd, hsh, rfl, hne⟩ := fieldOf_facts hf
  obtain ⟨i, d, hi, hd, hs, _⟩ := shOf_facts hsh
  have hz : i.size ≠ 0 := by omega
  unfold fieldAddrA at h
  split at h
  · rename_i cs
    split at h
    · rename_i hlt
      simp at h; subst h
      cases hx with
      | vptr cs b o us hcell hv =>
        refine ⟨.pointer (some ⟨b, o + fd.offset, none⟩), by simp [Instr.fieldAt, run_underlying hu, hfd, Instr.sureAddr, fieldPlace, run_sizeOf hi, hz, Addr_add], ?_⟩
        refine .vptr _ _ _ (fun j => us (fd.offset + j)) (fun j hj => ?_) (fun j hj => ?_)
        · have := hcell (fd.offset + j) (by simp at hj; omega)
          simpa [Nat.add_assoc] using this
        · have := hv (fd.offset + j) (by simp at hj; omega)
          simpa [List.getD_eq_getElem?_getD, List.getElem?_drop] using this
    · cases h
  · rename_i nm o
    simp at h; subst h
    cases hx with
    | ptr nm o b hl => exact ⟨.pointer (some ⟨b, o + fd.offset, none⟩), by simp [Instr.fieldAt, run_underlying hu, hfd, Instr.sureAddr, fieldPlace, run_sizeOf hi, hz, Addr_add], .ptr _ _ _ hl⟩
  · cases h

theorem run_loadVar_fn {t b off : Nat} {sh : Sh} (hsh : shOf P t = some sh) (f : Nat → Value) (hc : ∀ j, j < sh.size → w.cell? ⟨b, off + j, none⟩ = some (f j)) :
    (loadVar t ⟨b, off, none⟩).run P w = .ok (match sh with | none => f 0 | some n => .agg ((List.range n).map f).toArray) w := by
  obtain ⟨i, d, hi, hd, hs, hagg⟩ := shOf_facts hsh
  rcases hagg with ⟨rfl, ha⟩ | ⟨⟨n, rfl⟩, ha⟩
  · have := hc 0 (by simp [Sh.size])
    simp only [Nat.add_zero] at this
    simp [loadVar, ha, this]
  · have hl := run_loadCells (P := P) w ⟨b, off, none⟩ n f (fun j hj => by rw [Addr_add]; exact hc j hj)
    simp only [Sh.size] at hs
    simp only [loadVar, Sem.run_bind, ha, Result.andThen_ok, if_true, run_sizeOf hi, hs, hl, Sem.run_pure]

theorem load_sound {B : Nat} {m : Mem} (hm : MemR B w g m) {sh : Sh} {x v : AV} {x' : Value} (hx : V w g x x') (h : loadA sh m x = some v) (t : Nat) (hsh : shOf P t = some sh) :
    ∃ v', (Instr.loadAt t x').run P w = .ok v' w ∧ V w g v v' := by
  unfold loadA at h
  split at h
  · rename_i cs
    cases hx with
    | vptr cs b o us hcell hv =>
      obtain ⟨h1, h2⟩ := cut_V us hv h
      cases sh with
      | none =>
        obtain ⟨hlt, hV⟩ := h1 rfl
        exact ⟨_, by simp only [Instr.loadAt, Instr.sureAddr, Sem.run_bind, Sem.run_pure, Result.andThen_ok]; exact run_loadVar_fn hsh us (fun j hj => (hcell j (by simp only [Sh.size] at hj; omega)).1), hV⟩
      | some n =>
        obtain ⟨hlt, hV⟩ := h2 n rfl
        exact ⟨_, by simp only [Instr.loadAt, Instr.sureAddr, Sem.run_bind, Sem.run_pure, Result.andThen_ok]; exact run_loadVar_fn hsh us (fun j hj => (hcell j (by simp only [Sh.size] at hj; omega)).1), by simpa using hV⟩
  · rename_i nm o
    obtain ⟨⟨bx, cs⟩, hcs, h⟩ := Option.bind_eq_some_iff.1 h
    cases hx with
    | ptr nm o b hl =>
      have hget : m.get nm = some (.obj bx cs) := by
        unfold Mem.obj? at hcs
        split at hcs
        · rename_i hh
          simp at hcs; rw [hh, hcs.1, hcs.2]
        · cases hcs
      obtain ⟨b', c, e, hl', hB, hheap, hsz, hV, _⟩ := hm.obj nm bx cs hget
      obtain rfl : b = b' := by simpa [hl] using hl'
      have hcell : ∀ j, j < cs.length → w.cell? ⟨b, j, none⟩ = some (c.getD j undef) := fun j hj => by
        rw [cell_of_row w b j c e (0, 0) hheap]
        simp [Array.getD, show j < c.size by omega]
      obtain ⟨h1, h2⟩ := cut_V _ hV h
      cases sh with
      | none =>
        obtain ⟨hlt, hV⟩ := h1 rfl
        exact ⟨_, by simp only [Instr.loadAt, Instr.sureAddr, Sem.run_bind, Sem.run_pure, Result.andThen_ok]; exact run_loadVar_fn hsh (fun j => c.getD (o + j) undef) (fun j hj => hcell _ (by simp only [Sh.size] at hj; omega)), hV⟩
      | some n =>
        obtain ⟨hlt, hV⟩ := h2 n rfl
        exact ⟨_, by simp only [Instr.loadAt, Instr.sureAddr, Sem.run_bind, Sem.run_pure, Result.andThen_ok]; exact run_loadVar_fn hsh (fun j => c.getD (o + j) undef) (fun j hj => hcell _ (by simp only [Sh.size] at hj; omega)), hV⟩
  · cases h

theorem shOk_size {sh : Sh} {e : AV} (h : shOk sh e = true) : e.cells.length = sh.size := by
  cases sh with
  | none => cases e <;> simp_all [shOk, atomOk, AV.cells, Sh.size]
  | some n => cases e <;> simp_all [shOk, AV.cells, Sh.size]

theorem V_atomOk {x : AV} {v : Value} (h : V w g x v) (ha : atomOk x = true) : v.oneCell' = true ∧ v.cells = #[v] := by
  cases h <;> first | (simp [atomOk] at ha; done) | exact ⟨rfl, rfl⟩

/-- The cells of a value of a shape. -/
theorem V_cells {sh : Sh} {x : AV} {v : Value} (h : V w g x v) (hs : shOk sh x = true) : v.cells.size = sh.size ∧ (∀ j, j < sh.size → V w g (x.cells.getD j .any) (v.cells.getD j undef)) ∧ ∀ u ∈ v.cells.toList, u.oneCell' = true := by
  cases sh with
  | none =>
    have ha : atomOk x = true := hs
    obtain ⟨h1, h2⟩ := V_atomOk h ha
    have hx : x.cells = [x] := by cases x <;> first | rfl | (simp [atomOk] at ha)
    rw [h2, hx]
    refine ⟨rfl, fun j hj => ?_, fun u hu => ?_⟩
    · obtain rfl : j = 0 := by simp only [Sh.size] at hj; omega
      simpa using h
    · simp at hu; rw [hu]; exact h1
  | some n =>
    cases h <;> first | (simp [shOk] at hs; done) | skip
    rename_i cs vs hl hv
    simp [shOk] at hs
    obtain ⟨hn, hall⟩ := hs
    refine ⟨by simp [Value.cells, Sh.size]; omega, fun j hj => hv j (by simp only [Sh.size] at hj; omega), fun u hu => ?_⟩
    obtain ⟨j, hj, rfl⟩ := List.mem_iff_getElem.1 hu
    have hj' : j < cs.length := by simp [Value.cells] at hj; omega
    have := hv j hj'
    simp [Value.cells] at hj
    have hc := hall cs[j] (List.getElem_mem hj')
    have := V_atomOk this (by simpa [List.getD_eq_getElem?_getD, hj'] using hc)
    simpa [Value.cells, Array.getD, hj] using this.1

theorem flat_len {sh : Sh} : ∀ {es : List AV}, (∀ e ∈ es, shOk sh e = true) → (flat es).length = es.length * sh.size
  | [], _ => by simp
  | e :: es, h => by
    have h1 := shOk_size (h e (by simp))
    have h2 := flat_len (es := es) fun x hx => h x (by simp [hx])
    simp only [List.flatMap_cons, List.length_append, h1, List.length_cons, Nat.succ_mul]
    rw [h2]; omega

theorem flat_get {sh : Sh} : ∀ {es : List AV}, (∀ e ∈ es, shOk sh e = true) → ∀ (i j : Nat) (hi : i < es.length), j < sh.size → (flat es).getD (i * sh.size + j) .any = (es[i].cells).getD j .any
  | [], _, _, _, hi, _ => by simp at hi
  | e :: es, h, i, j, hi, hj => by
    have h1 := shOk_size (h e (by simp))
    cases i with
    | zero => simp [List.getD_eq_getElem?_getD, List.getElem?_append, h1, hj]
    | succ i =>
      have ih := flat_get (es := es) (fun x hx => h x (by simp [hx])) i j (by simpa using hi) hj
      have : (i + 1) * sh.size + j = e.cells.length + (i * sh.size + j) := by rw [h1, Nat.succ_mul]; omega
      rw [this]
      simp only [List.flatMap_cons, List.getElem_cons_succ]
      rw [← ih]
      simp only [List.getD_eq_getElem?_getD, List.getElem?_append]
      rw [if_neg (by omega)]
      simp

theorem elemOk_facts {e : Nat} {sh : Sh} (h : elemOk P e sh = true) : ∃ i z, P.info? e = some i ∧ i.size = sh.size ∧ 0 < i.size ∧ i.zero = some z ∧ z.cells.size = i.size ∧ (sh = none → ∀ cs, z ≠ .agg cs) := by
  unfold elemOk at h
  split at h
  · rename_i i hi
    simp at h
    obtain ⟨⟨h1, h2⟩, h3⟩ := h
    split at h3
    · rename_i z hz
      simp at h3
      refine ⟨i, z, hi, h1, h2, hz, h3.1, ?_⟩
      rintro rfl cs rfl
      simp at h3
    · simp at h3
  · cases h

theorem mul_lt_of {i n s j : Nat} (hi : i < n) (hj : j < s) : i * s + j < n * s := by
  have : (i + 1) * s ≤ n * s := Nat.mul_le_mul_right _ hi
  rw [Nat.succ_mul] at this
  omega

theorem indexAddr_slice_sound {e : Nat} {sh : Sh} {x i v : AV} {x' i' : Value} (hx : V w g x x') (hi : V w g i i') (h : indexAddrA sh x i = some v) (t : Nat) (ht : P.underlying t = some (.slice e)) (he : elemOk P e sh = true) :
    ∃ v', (Instr.indexAt t x' i').run P w = .ok v' w ∧ V w g v v' := by
  obtain ⟨inf, z, hinf, hs, hpos, _, _, _⟩ := elemOk_facts he
  unfold indexAddrA at h
  split at h
  · rename_i k i
    cases hi
    split at h
    · rename_i sh' z o es
      split at h
      · rename_i hsh
        subst hsh
        split at h
        · rename_i h0
          obtain ⟨el, hel, rfl⟩ := Option.map_eq_some_iff.1 h
          obtain ⟨hlt, hel⟩ := List.getElem?_eq_some_iff.1 hel
          cases hx with
          | nils => simp at hlt
          | lst _ o es a cap us hsp hc hm hsh hcell hv ho =>
            have hall : ∀ e ∈ es, shOk sh' e = true := fun e he => (hsh e he).1
            have hil : i < (es.length : Int) := by omega
            have hfl := flat_len hall
            have hsp : a.spot = none := hsp.resolve_left (by omega)
            have ha : a = ⟨a.block, a.off, none⟩ := by cases a; simp_all
            refine ⟨.pointer (some ⟨a.block, a.off + i.toNat * sh'.size, none⟩), ?_, ?_⟩
            · rw [ha]
              simp [Instr.indexAt, asIntOf, run_underlying ht, h0, hil, run_sizeOf hinf, Addr_add, hs]
            · have hcl : el.cells.length = sh'.size := shOk_size (hall el (hel ▸ List.getElem_mem hlt))
              refine .vptr _ _ _ (fun j => us (i.toNat * sh'.size + j)) (fun j hj => ?_) (fun j hj => ?_)
              · have := hcell (i.toNat * sh'.size + j) (by rw [hfl]; exact mul_lt_of hlt (by omega))
                rw [Nat.add_assoc]
                exact ⟨this.1, this.2.1⟩
              · have h1 := hv (i.toNat * sh'.size + j) (by rw [hfl]; exact mul_lt_of hlt (by omega))
                rw [flat_get hall i.toNat j hlt (by omega), hel] at h1
                exact h1
        · cases h
      · cases h
    · rename_i nm off n sh'
      split at h
      · rename_i hsh
        subst hsh
        split at h
        · rename_i hb
          simp at h; subst h
          cases hx with
          | arr _ _ _ _ a cap hsp hc hm hl =>
            obtain ⟨hl, ha⟩ := hl.resolve_left (by omega)
            refine ⟨.pointer (some ⟨a.block, off + i.toNat * sh'.size, none⟩), ?_, .ptr _ _ _ hl⟩
            rw [ha]
            simp [Instr.indexAt, asIntOf, run_underlying ht, hb.1, hb.2, run_sizeOf hinf, Addr_add, hs]
        · cases h
      · cases h
    · cases h
  · cases h

theorem arrAddr_sound {e n : Nat} {sh : Sh} {x i v : AV} {x' i' : Value} (hx : V w g x x') (hi : V w g i i') (h : arrAddrA n sh x i = some v) (t : Nat) (ht : P.underlying t = some (.array n e)) (he : elemOk P e sh = true) :
    ∃ v', (Instr.indexAt t x' i').run P w = .ok v' w ∧ V w g v v' := by
  obtain ⟨inf, z, hinf, hs, hpos, _, _, _⟩ := elemOk_facts he
  unfold arrAddrA at h
  split at h
  · rename_i k i
    cases hi
    split at h
    · rename_i hb
      unfold fieldAddrA at h
      split at h
      · rename_i cs
        split at h
        · rename_i hlt
          simp at h; subst h
          cases hx with
          | vptr cs b o us hcell hv =>
            refine ⟨.pointer (some ⟨b, o + i.toNat * sh.size, none⟩), by simp [Instr.indexAt, asIntOf, run_underlying ht, Instr.sureAddr, hb.1, hb.2, run_sizeOf hinf, Addr_add, hs], ?_⟩
            refine .vptr _ _ _ (fun j => us (i.toNat * sh.size + j)) (fun j hj => ?_) (fun j hj => ?_)
            · have := hcell (i.toNat * sh.size + j) (by simp at hj; omega)
              simpa [Nat.add_assoc] using this
            · have := hv (i.toNat * sh.size + j) (by simp at hj; omega)
              simpa [List.getD_eq_getElem?_getD, List.getElem?_drop] using this
        · cases h
      · rename_i nm o
        simp at h; subst h
        cases hx with
        | ptr nm o b hl => exact ⟨.pointer (some ⟨b, o + i.toNat * sh.size, none⟩), by simp [Instr.indexAt, asIntOf, run_underlying ht, Instr.sureAddr, hb.1, hb.2, run_sizeOf hinf, Addr_add, hs], .ptr _ _ _ hl⟩
      · cases h
    · cases h
  · cases h

theorem indexStr_sound {x i v : AV} {x' i' : Value} (hx : V w g x x') (hi : V w g i i') (h : indexStrA x i = some v) (t : Nat) (ht : P.underlying t = some .string) :
    ∃ v', (Instr.index t x' i').run P w = .ok v' w ∧ V w g v v' := by
  unfold indexStrA at h
  split at h
  · rename_i s k i
    cases hx; cases hi
    split at h
    · rename_i h0
      obtain ⟨b, hb, rfl⟩ := Option.map_eq_some_iff.1 h
      exact ⟨_, by simp [Instr.index, asIntOf, run_underlying ht, h0, hb], .int _ _⟩
    · cases h
  · cases h

/-- An operand that may lack. -/
def OptV (w : World) (g : G) : Option AV → Option Value → Prop
  | none, none => True
  | some x, some x' => V w g x x'
  | _, _ => False

theorem bound_some {y Y d r : Nat} {x : AV} {x' : Value} (hx : V w g x x') (hY : y ≤ Y) (h : boundA y (some x) d = some r) (code : BoundsCode) :
    (Instr.sliceBound x' Y code).run P w = .ok r w ∧ r ≤ y := by
  unfold boundA at h
  split at h
  · rename_i heq; cases heq
  · rename_i k i heq
    simp at heq; subst heq
    cases hx
    split at h
    · rename_i hb
      simp at h; subst h
      have h2 : i ≤ (Y : Int) := by omega
      exact ⟨by simp [Instr.sliceBound, asIntOf, hb.1, h2], by omega⟩
    · cases h
  · cases h

theorem bounds_two {isS : Bool} {len cap h l : Nat} {lo hi : Option AV} {lo' hi' : Option Value} (hlo : OptV w g lo lo') (hhi : OptV w g hi hi') (hc : len ≤ cap)
    (h1 : boundA len hi len = some h) (h2 : boundA h lo 0 = some l) : (Instr.sliceBounds isS len cap lo' hi' none).run P w = .ok (l, h, cap) w ∧ l ≤ h ∧ h ≤ len := by
  have e1 : (match hi' with | some v => Instr.sliceBound v cap (if isS then .sliceAcap else .sliceAlen) | none => pure len : Sem Nat).run P w = .ok h w ∧ h ≤ len := by
    cases hi with
    | none =>
      cases hi' with
      | none => simp [boundA] at h1; subst h1; exact ⟨rfl, Nat.le_refl _⟩
      | some _ => exact hhi.elim
    | some x =>
      cases hi' with
      | none => exact hhi.elim
      | some x' => exact bound_some hhi hc h1 _
  have e2 : (match lo' with | some v => Instr.sliceBound v h .sliceB | none => pure 0 : Sem Nat).run P w = .ok l w ∧ l ≤ h := by
    cases lo with
    | none =>
      cases lo' with
      | none => simp [boundA] at h2; subst h2; exact ⟨rfl, Nat.zero_le _⟩
      | some _ => exact hlo.elim
    | some x =>
      cases lo' with
      | none => exact hlo.elim
      | some x' => exact bound_some hlo (Nat.le_refl _) h2 _
  refine ⟨?_, e2.2, e1.2⟩
  have a1 := e1.1
  have a2 := e2.1
  cases hi' <;> cases lo' <;> simp_all [Instr.sliceBounds]

theorem bounds_three {len cap mx h l : Nat} {lo hi : Option AV} {mv : AV} {lo' hi' : Option Value} {mv' : Value} (hlo : OptV w g lo lo') (hhi : OptV w g hi hi') (hmv : V w g mv mv') (hc : len ≤ cap)
    (h0 : boundA len (some mv) 0 = some mx) (h1 : boundA mx hi 0 = some h) (h2 : boundA h lo 0 = some l) (hsome : hi.isSome) : (Instr.sliceBounds true len cap lo' hi' (some mv')).run P w = .ok (l, h, mx) w ∧ l ≤ h ∧ h ≤ mx ∧ mx ≤ len := by
  obtain ⟨e0, e0'⟩ := bound_some (P := P) hmv hc h0 .slice3Acap
  cases hi with
  | none => simp at hsome
  | some x =>
    cases hi' with
    | none => exact hhi.elim
    | some x' =>
      obtain ⟨e1, e1'⟩ := bound_some (P := P) hhi (Nat.le_refl _) h1 .slice3B
      cases lo with
      | none =>
        cases lo' with
        | none =>
          simp [boundA] at h2; subst h2
          exact ⟨by simp [Instr.sliceBounds, e0, e1], Nat.zero_le _, e1', e0'⟩
        | some _ => exact hlo.elim
      | some y =>
        cases lo' with
        | none => exact hlo.elim
        | some y' =>
          obtain ⟨e2, e2'⟩ := bound_some (P := P) hlo (Nat.le_refl _) h2 .slice3C
          exact ⟨by simp [Instr.sliceBounds, e0, e1, e2], e2', e1', e0'⟩

theorem flat_drop {sh : Sh} : ∀ {es : List AV}, (∀ e ∈ es, shOk sh e = true) → ∀ l, flat (es.drop l) = (flat es).drop (l * sh.size)
  | [], _, l => by simp
  | e :: es, h, 0 => by simp
  | e :: es, h, l + 1 => by
    have h1 := shOk_size (h e (by simp))
    have ih := flat_drop (es := es) (fun x hx => h x (by simp [hx])) l
    have e1 : List.drop ((l + 1) * sh.size) e.cells = [] := List.drop_eq_nil_of_le (by rw [h1, Nat.succ_mul]; omega)
    have e2 : (l + 1) * sh.size - e.cells.length = l * sh.size := by rw [h1, Nat.succ_mul]; omega
    show flat (es.drop l) = (e.cells ++ flat es).drop ((l + 1) * sh.size)
    rw [ih, List.drop_append, e1, e2]
    simp

theorem flat_take {sh : Sh} : ∀ {es : List AV}, (∀ e ∈ es, shOk sh e = true) → ∀ l, flat (es.take l) = (flat es).take (l * sh.size)
  | [], _, l => by simp
  | e :: es, h, 0 => by simp
  | e :: es, h, l + 1 => by
    have h1 := shOk_size (h e (by simp))
    have ih := flat_take (es := es) (fun x hx => h x (by simp [hx])) l
    have e1 : List.take ((l + 1) * sh.size) e.cells = e.cells := List.take_of_length_le (by rw [h1, Nat.succ_mul]; omega)
    have e2 : (l + 1) * sh.size - e.cells.length = l * sh.size := by rw [h1, Nat.succ_mul]; omega
    show e.cells ++ flat (es.take l) = (e.cells ++ flat es).take ((l + 1) * sh.size)
    rw [ih, List.take_append, e1, e2]

/-- A part of a slice that reads as a list. -/
theorem V_sub {sh : Sh} {o o' : Own} {es : List AV} {a : Addr} {cap l h m : Nat} (hx : V w g (.lst sh false o es) (.slice (some a) es.length cap)) (hl : l ≤ h) (hh : h ≤ es.length) (hhm : h ≤ m) (hm : m ≤ cap)
    (ho : o' = .no ∨ o' = .full ∧ h = m) : V w g (.lst sh false o' ((es.take h).drop l)) (.slice (some (if m = l then a else a.add (l * sh.size))) (h - l) (m - l)) := by
  generalize hn : es.length = n at hx
  cases hx with
  | lst _ o es a cap us hsp hc hm' hsh hcell hv ho' =>
    have hall : ∀ e ∈ es, shOk sh e = true := fun e he => (hsh e he).1
    have hlen : ((es.take h).drop l).length = h - l := by simp; omega
    have ha : ¬ m = l → a = ⟨a.block, a.off, none⟩ := fun hml => by
      have := hsp.resolve_left (by omega)
      cases a; simp_all
    have hmem : ∀ e ∈ (es.take h).drop l, e ∈ es := fun e he => List.mem_of_mem_take (List.mem_of_mem_drop he)
    rw [← hlen]
    have hmaxl : m - l ≤ maxLen := by omega
    by_cases hml : m = l
    · have h0 : h = l := by omega
      have hnil : (es.take h).drop l = [] := List.eq_nil_of_length_eq_zero (by omega)
      rw [if_pos hml, hnil]
      refine .lst sh o' [] a _ us (.inl (by omega)) (Nat.zero_le _) hmaxl (by simp) (by simp) (by simp) ?_
      rcases ho with rfl | ⟨rfl, _⟩
      · trivial
      · show m - l = 0; omega
    · rw [if_neg hml]
      have ha := ha hml
      refine .lst sh o' _ _ _ (fun j => us (l * sh.size + j)) (.inr (by rw [ha, Addr_add])) (by omega) hmaxl (fun e he => hsh e (hmem e he)) (fun j hj => ?_) (fun j hj => ?_) ?_
      · rw [flat_drop (fun e he => hall e (List.mem_of_mem_take he)), flat_take hall] at hj
        have hj' : l * sh.size + j < (flat es).length := by
          simp only [List.length_drop, List.length_take] at hj
          omega
        have := hcell _ hj'
        rw [ha, Addr_add]
        simpa [Nat.add_assoc] using this
      · rw [flat_drop (fun e he => hall e (List.mem_of_mem_take he)), flat_take hall] at hj ⊢
        have hj1 : l * sh.size + j < h * sh.size := by
          simp only [List.length_drop, List.length_take] at hj
          omega
        have hj' : l * sh.size + j < (flat es).length := by
          simp only [List.length_drop, List.length_take] at hj
          omega
        have := hv _ hj'
        simpa [List.getD_eq_getElem?_getD, List.getElem?_drop, List.getElem?_take, hj1] using this
      · rcases ho with rfl | ⟨rfl, hm2⟩
        · trivial
        · show m - l = _; rw [hlen, hm2]

theorem slice_sound_lst {e : Nat} {sh sh' : Sh} {z : Bool} {o : Own} {es : List AV} {v : AV} {x' : Value} {lo hi mx : Option AV} {lo' hi' mx' : Option Value} (hx : V w g (.lst sh' z o es) x') (hlo : OptV w g lo lo') (hhi : OptV w g hi hi') (hmx : OptV w g mx mx')
    (h : sliceA (.lst sh' z o es) lo hi mx = some v) (t : Nat) (ht : P.underlying t = some (.slice e)) (hsh : shOf P e = some sh) (he : elemOk P e sh = true) (hs : sh' = sh ∨ es = []) :
    ∃ v', (Instr.sliceAt t x' lo' hi' mx').run P w = .ok v' w ∧ V w g v v' := by
  obtain ⟨inf, z0, hinf, hs1, hpos, _, _, _⟩ := elemOk_facts he
  have key : ∀ (l hh m : Nat) (o' : Own), (∀ len cap a, x' = .slice a len cap → (Instr.sliceBounds true len cap lo' hi' mx').run P w = .ok (l, hh, m) w ∧ m ≤ cap) → l ≤ hh → hh ≤ es.length → hh ≤ m → (o' = .no ∨ o' = .full ∧ hh = m) →
      ∃ v', (Instr.sliceAt t x' lo' hi' mx').run P w = .ok v' w ∧ V w g (.lst sh' z o' ((es.take hh).drop l)) v' := by
    intro l hh m o' hb hl hh' hhm ho
    cases hx with
    | nils _ o hof =>
      obtain ⟨hb1, hb2⟩ := hb 0 0 none rfl
      have h1 : hh = 0 := by simpa using hh'
      have h2 : l = 0 := by omega
      have h3 : m = 0 := by omega
      subst h1; subst h2; subst h3
      refine ⟨.slice none 0 0, ?_, ?_⟩
      · simp [Instr.sliceAt, run_underlying ht, Instr.slice, hb1, run_sizeOf hinf]
      · simp only [List.take_nil, List.drop_nil]
        exact .nils _ _ (by rcases ho with rfl | ⟨rfl, _⟩ <;> simp)
    | lst _ o es a cap us hsp hc hm' hsh' hcell hv ho' =>
      obtain ⟨hb1, hb2⟩ := hb es.length cap (some a) rfl
      refine ⟨.slice (some (if m = l then a else a.add (l * sh'.size))) (hh - l) (m - l), ?_, V_sub (.lst sh' o es a cap us hsp hc hm' hsh' hcell hv ho') hl hh' hhm hb2 ho⟩
      simp only [Instr.sliceAt, Sem.run_bind, run_underlying ht, Result.andThen_ok, Instr.slice, hb1, run_sizeOf hinf, Sem.run_pure]
      rcases hs with rfl | rfl
      · by_cases hml : m = l <;> simp [hml, hs1]
      · have h1 : hh = 0 := by simpa using hh'
        have h2 : l = 0 := by omega
        subst h2
        by_cases hml : m = 0 <;> simp [hml]
  unfold sliceA at h
  simp only at h
  cases mx with
  | none =>
    cases mx' with
    | some _ => exact hmx.elim
    | none =>
      simp only at h
      obtain ⟨hh, h1, h⟩ := Option.bind_eq_some_iff.1 h
      obtain ⟨l, h2, h⟩ := Option.bind_eq_some_iff.1 h
      simp at h; subst h
      have hcap : ∀ len cap a, x' = .slice a len cap → len = es.length ∧ len ≤ cap := by
        rintro len cap a rfl
        cases hx <;> simp_all
      cases hx with
      | nils _ o hof =>
        obtain ⟨b1, b2, b3⟩ := bounds_two (P := P) (isS := true) hlo hhi (Nat.le_refl 0) h1 h2
        exact key l hh 0 .no (by rintro len cap a h; cases h; exact ⟨b1, Nat.le_refl _⟩) b2 b3 b3 (.inl rfl)
      | lst _ o es a cap us hsp hc hm' hsh' hcell hv ho' =>
        obtain ⟨b1, b2, b3⟩ := bounds_two (P := P) (isS := true) hlo hhi hc h1 h2
        exact key l hh cap .no (by rintro len cap a h; cases h; exact ⟨b1, Nat.le_refl _⟩) b2 b3 (by omega) (.inl rfl)
  | some mv =>
    cases mx' with
    | none => exact hmx.elim
    | some mv' =>
      cases hi with
      | none => simp at h
      | some hv0 =>
        simp only at h
        obtain ⟨m, h0, h⟩ := Option.bind_eq_some_iff.1 h
        obtain ⟨hh, h1, h⟩ := Option.bind_eq_some_iff.1 h
        obtain ⟨l, h2, h⟩ := Option.bind_eq_some_iff.1 h
        cases hx with
        | nils _ o hof =>
          obtain ⟨b1, b2, b3, b4⟩ := bounds_three (P := P) hlo hhi hmx (Nat.le_refl 0) h0 h1 h2 rfl
          split at h
          · rename_i hm; simp at h; subst h
            have := key l hh m .full (by rintro len cap a h; cases h; exact ⟨b1, b4⟩) b2 (by simp at b4 ⊢; omega) b3 (.inr ⟨rfl, hm⟩)
            simpa using this
          · simp at h; subst h
            have := key l hh m .no (by rintro len cap a h; cases h; exact ⟨b1, b4⟩) b2 (by simp at b4 ⊢; omega) b3 (.inl rfl)
            simpa using this
        | lst _ o es a cap us hsp hc hm' hsh' hcell hv ho' =>
          obtain ⟨b1, b2, b3, b4⟩ := bounds_three (P := P) hlo hhi hmx hc h0 h1 h2 rfl
          split at h
          · rename_i hm; simp at h; subst h
            exact key l hh m .full (by rintro len cap a h; cases h; exact ⟨b1, by omega⟩) b2 (by omega) b3 (.inr ⟨rfl, hm⟩)
          · simp at h; subst h
            exact key l hh m .no (by rintro len cap a h; cases h; exact ⟨b1, by omega⟩) b2 (by omega) b3 (.inl rfl)

theorem slice_sound_arr {e : Nat} {nm off n : Nat} {sh : Sh} {v : AV} {x' : Value} {lo hi : Option AV} {lo' hi' : Option Value} (hx : V w g (.arr nm off n sh) x') (hlo : OptV w g lo lo') (hhi : OptV w g hi hi')
    (h : sliceA (.arr nm off n sh) lo hi none = some v) (t : Nat) (ht : P.underlying t = some (.slice e)) (he : elemOk P e sh = true) :
    ∃ v', (Instr.sliceAt t x' lo' hi' none).run P w = .ok v' w ∧ V w g v v' := by
  obtain ⟨inf, z0, hinf, hs1, hpos, _, _, _⟩ := elemOk_facts he
  unfold sliceA at h
  simp only at h
  obtain ⟨hh, h1, h⟩ := Option.bind_eq_some_iff.1 h
  obtain ⟨l, h2, h⟩ := Option.bind_eq_some_iff.1 h
  simp at h; subst h
  cases hx with
  | arr _ _ _ _ a cap hsp hc hm hl =>
    obtain ⟨b1, b2, b3⟩ := bounds_two (P := P) (isS := true) hlo hhi hc h1 h2
    refine ⟨.slice (some (if cap = l then a else a.add (l * sh.size))) (hh - l) (cap - l), ?_, .arr _ _ _ _ _ _ (by
        by_cases hml : cap = l
        · exact .inl (by omega)
        · right
          have hsp := hsp.resolve_left (by omega)
          have ha : a = ⟨a.block, a.off, none⟩ := by cases a; simp_all
          rw [if_neg hml, ha, Addr_add]) (by omega) (by omega) ?_⟩
    · simp only [Instr.sliceAt, Sem.run_bind, run_underlying ht, Result.andThen_ok, Instr.slice, b1, run_sizeOf hinf, Sem.run_pure]
      by_cases hml : cap = l <;> simp [hml, hs1]
    · by_cases h0 : hh - l = 0
      · exact .inl h0
      · refine .inr ?_
        obtain ⟨hl1, ha⟩ := hl.resolve_left (by omega)
        rw [if_neg (by omega), ha, Addr_add]
        exact ⟨hl1, rfl⟩

theorem slice_sound_str {s : ByteArray} {v : AV} {x' : Value} {lo hi : Option AV} {lo' hi' : Option Value} (hx : V w g (.str s) x') (hlo : OptV w g lo lo') (hhi : OptV w g hi hi')
    (h : sliceA (.str s) lo hi none = some v) (t : Nat) (ht : P.underlying t = some .string) :
    ∃ v', (Instr.sliceAt t x' lo' hi' none).run P w = .ok v' w ∧ V w g v v' := by
  unfold sliceA at h
  simp only at h
  obtain ⟨hh, h1, h⟩ := Option.bind_eq_some_iff.1 h
  obtain ⟨l, h2, h⟩ := Option.bind_eq_some_iff.1 h
  simp at h; subst h
  cases hx
  obtain ⟨b1, b2, b3⟩ := bounds_two (P := P) (isS := false) hlo hhi (Nat.le_refl _) h1 h2
  exact ⟨_, by simp [Instr.sliceAt, run_underlying ht, Instr.slice, b1], .str _⟩

end
end Go.Ab
