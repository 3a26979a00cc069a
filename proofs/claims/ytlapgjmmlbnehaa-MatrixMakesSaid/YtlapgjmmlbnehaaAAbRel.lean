/- How abstract values and memory stand for the machine's: the relation, and that it lasts. -/
import Derived.Test.YtlapgjmmlbnehaaAAbCore
import Derived.Below
import Derived.Laws.AppendOwn
import Derived.Laws.MakeOwn
import Derived.Laws.OwnMore
import Derived.Laws.Rows
set_option linter.unusedVariables false
set_option linter.unusedSimpArgs false
namespace Go.Ab
open Go.RowKit

/-- What is known of memory beside the world: which cells may still be written, which blocks are variables, where the names lie. -/
structure G where
  wr : Nat → Nat → Prop
  box : Nat → Prop
  loc : Nat → Option Nat
  tloc : Nat → Nat → Option Nat

abbrev flat (es : List AV) : List AV := es.flatMap AV.cells

def ownOk (w : World) (g : G) (sh : Sh) (o : Own) (n : Nat) (a : Addr) (cap : Nat) : Prop := match o with
  | .no => True
  | .full => cap = n
  | .tok nm e => g.tloc nm n = some a.block ∧ a.off = 0 ∧ ∃ c : Array Value, w.heap[a.block]? = some (Obj.cells c e (0, 0)) ∧ c.size = cap * sh.size

inductive V (w : World) (g : G) : AV → Value → Prop
  | any (x : Value) : V w g .any x
  | int (k : IntKind) (n : Int) : V w g (.int k n) (.int k n)
  | bool (b : Bool) : V w g (.bool b) (.bool b)
  | str (s : ByteArray) : V w g (.str s) (.string s)
  | nils (sh : Sh) (o : Own) (ho : o = .full ∨ o = .no) : V w g (.lst sh true o []) (.slice none 0 0)
  | lst (sh : Sh) (o : Own) (es : List AV) (a : Addr) (cap : Nat) (us : Nat → Value) (hs : cap = 0 ∨ a.spot = none) (hc : es.length ≤ cap) (hm : cap ≤ maxLen)
      (hsh : ∀ e ∈ es, shOk sh e = true ∧ pl e = true)
      (hcell : ∀ j, j < (flat es).length → w.cell? ⟨a.block, a.off + j, none⟩ = some (us j) ∧ ¬ g.wr a.block (a.off + j) ∧ ¬ g.box a.block)
      (hv : ∀ j, j < (flat es).length → V w g ((flat es).getD j .any) (us j))
      (ho : ownOk w g sh o es.length a cap) : V w g (.lst sh false o es) (.slice (some a) es.length cap)
  | arr (nm off n : Nat) (sh : Sh) (a : Addr) (cap : Nat) (hs : cap = 0 ∨ a.spot = none) (hc : n ≤ cap) (hm : cap ≤ maxLen) (hl : n = 0 ∨ g.loc nm = some a.block ∧ a = ⟨a.block, off, none⟩) : V w g (.arr nm off n sh) (.slice (some a) n cap)
  | ptr (nm off b : Nat) (hl : g.loc nm = some b) : V w g (.ptr nm off) (.pointer (some ⟨b, off, none⟩))
  | vptr (cs : List AV) (b off : Nat) (us : Nat → Value)
      (hcell : ∀ j, j < cs.length → w.cell? ⟨b, off + j, none⟩ = some (us j) ∧ ¬ g.wr b (off + j))
      (hv : ∀ j, j < cs.length → V w g (cs.getD j .any) (us j)) : V w g (.vptr cs) (.pointer (some ⟨b, off, none⟩))
  | nilp : V w g .nilp (.pointer none)
  | nilf : V w g .nilf .nilFunc
  | nile : V w g .nile .nilIface
  | agg (cs : List AV) (vs : Array Value) (hl : cs.length = vs.size) (hv : ∀ j, j < cs.length → V w g (cs.getD j .any) (vs.getD j undef)) : V w g (.agg cs) (.agg vs)
  | tup (cs : List AV) (vs : Array Value) (hl : cs.length = vs.size) (hv : ∀ j, j < cs.length → V w g (cs.getD j .any) (vs.getD j undef)) : V w g (.tup cs) (.tuple vs)
  | fn (f : Nat) (cs : List AV) (vs : Array Value) (hl : cs.length = vs.size) (hv : ∀ j, j < cs.length → V w g (cs.getD j .any) (vs.getD j undef)) : V w g (.fn f cs) (.func (.func f) #[] vs)

/-- From (w, g) the run has come to (w', g'): below B nothing has turned; what may not be written has not been. -/
structure Step (B : Nat) (w : World) (g : G) (w' : World) (g' : G) : Prop where
  below : Below B w w'
  cell : ∀ (b off : Nat) (u : Value), ¬ g.wr b off → w.cell? ⟨b, off, none⟩ = some u → w'.cell? ⟨b, off, none⟩ = some u
  shape : ∀ (b : Nat) (c : Array Value) (e : TypeId) (fr : Nat × Nat), w.heap[b]? = some (Obj.cells c e fr) → ∃ c' : Array Value, w'.heap[b]? = some (Obj.cells c' e fr) ∧ c'.size = c.size
  wr : ∀ (b off : Nat), b < w.heap.size → ¬ g.wr b off → ¬ g'.wr b off
  wrB : ∀ (b off : Nat), b < B → (g'.wr b off ↔ g.wr b off)
  box : ∀ (b : Nat), b < w.heap.size → (g'.box b ↔ g.box b)
  loc : ∀ nm b, g.loc nm = some b → g'.loc nm = some b
  tloc : ∀ nm n b, g.tloc nm n = some b → g'.tloc nm n = some b

theorem Step.refl (B : Nat) (w : World) (g : G) : Step B w g w g :=
  ⟨Below.refl _ _, fun _ _ _ _ h => h, fun _ c _ _ h => ⟨c, h, rfl⟩, fun _ _ _ h => h, fun _ _ _ => Iff.rfl, fun _ _ => Iff.rfl, fun _ _ h => h, fun _ _ _ h => h⟩

theorem cell_lt {w : World} {b off : Nat} {u : Value} (h : w.cell? ⟨b, off, none⟩ = some u) : b < w.heap.size := World.block_lt_of_cell? w ⟨b, off, none⟩ h

theorem Step.trans {B : Nat} {w w1 w2 : World} {g g1 g2 : G} (h : Step B w g w1 g1) (k : Step B w1 g1 w2 g2) : Step B w g w2 g2 where
  below := h.below.trans k.below
  cell b off u hm hc := k.cell b off u (h.wr b off (cell_lt hc) hm) (h.cell b off u hm hc)
  shape b c e fr hb := by
    obtain ⟨c1, h1, e1⟩ := h.shape b c e fr hb
    obtain ⟨c2, h2, e2⟩ := k.shape b c1 e fr h1
    exact ⟨c2, h2, e2.trans e1⟩
  wr b off hb hm := k.wr b off (Nat.lt_of_lt_of_le hb h.below.size) (h.wr b off hb hm)
  wrB b off hb := (k.wrB b off hb).trans (h.wrB b off hb)
  box b hb := (k.box b (Nat.lt_of_lt_of_le hb h.below.size)).trans (h.box b hb)
  loc nm b hl := k.loc nm b (h.loc nm b hl)
  tloc nm n b hl := k.tloc nm n b (h.tloc nm n b hl)

theorem Step.mono {B B' : Nat} {w w' : World} {g g' : G} (h : Step B w g w' g') (hB : B' ≤ B) : Step B' w g w' g' :=
  ⟨h.below.mono hB, h.cell, h.shape, h.wr, fun b off hb => h.wrB b off (by omega), h.box, h.loc, h.tloc⟩

theorem ownOk.step {B : Nat} {w w' : World} {g g' : G} {sh : Sh} {o : Own} {n : Nat} {a : Addr} {cap : Nat} (h : ownOk w g sh o n a cap) (s : Step B w g w' g') : ownOk w' g' sh o n a cap := by
  cases o with
  | no => trivial
  | full => exact h
  | tok nm e =>
    obtain ⟨h1, h2, c, hc, hs⟩ := h
    obtain ⟨c', hc', hs'⟩ := s.shape _ _ _ _ hc
    exact ⟨s.tloc _ _ _ h1, h2, c', hc', hs'.trans hs⟩

theorem V.step {B : Nat} {w w' : World} {g g' : G} {x : AV} {v : Value} (h : V w g x v) (s : Step B w g w' g') : V w' g' x v := by
  induction h with
  | any x => exact .any x
  | int k n => exact .int k n
  | bool b => exact .bool b
  | str x => exact .str x
  | nils sh o ho => exact .nils sh o ho
  | lst sh o es a cap us hs hc hm hsh hcell hv ho ih =>
    refine .lst sh o es a cap us hs hc hm hsh (fun j hj => ?_) ih (ho.step s)
    obtain ⟨h1, h2, h3⟩ := hcell j hj
    exact ⟨s.cell _ _ _ h2 h1, s.wr _ _ (cell_lt h1) h2, fun hb => h3 ((s.box _ (cell_lt h1)).1 hb)⟩
  | arr nm off n sh a cap hs hc hm hl => exact .arr nm off n sh a cap hs hc hm (hl.imp id fun ⟨h1, h2⟩ => ⟨s.loc _ _ h1, h2⟩)
  | ptr nm off b hl => exact .ptr nm off b (s.loc _ _ hl)
  | vptr cs b off us hcell hv ih =>
    refine .vptr cs b off us (fun j hj => ?_) ih
    obtain ⟨h1, h2⟩ := hcell j hj
    exact ⟨s.cell _ _ _ h2 h1, s.wr _ _ (cell_lt h1) h2⟩
  | nilp => exact .nilp
  | nilf => exact .nilf
  | nile => exact .nile
  | agg cs vs hl hv ih => exact .agg cs vs hl ih
  | tup cs vs hl hv ih => exact .tup cs vs hl ih
  | fn f cs vs hl hv ih => exact .fn f cs vs hl ih

/-- The block that a live name owns. -/
def blk (g : G) (m : Mem) (nm : Nat) : Option Nat := match m.get nm with
  | some (.obj _ _) => g.loc nm
  | some (.tok n _) => g.tloc nm n
  | some .resv => none
  | none => none

structure MemR (B : Nat) (w : World) (g : G) (m : Mem) : Prop where
  obj : ∀ nm bx cs, m.get nm = some (.obj bx cs) → ∃ (b : Nat) (c : Array Value) (e : TypeId), g.loc nm = some b ∧ B ≤ b ∧ w.heap[b]? = some (Obj.cells c e (0, 0)) ∧ cs.length ≤ c.size ∧
    (∀ j, j < cs.length → V w g (cs.getD j .any) (c.getD j undef)) ∧ (∀ off, g.wr b off) ∧ (g.box b ↔ bx = true)
  tok : ∀ nm n sz, m.get nm = some (.tok n sz) → ∃ (b : Nat) (c : Array Value) (e : TypeId), g.tloc nm n = some b ∧ B ≤ b ∧ w.heap[b]? = some (Obj.cells c e (0, 0)) ∧ (∀ off, n * sz ≤ off → g.wr b off) ∧ (∀ n', n < n' → g.tloc nm n' = none) ∧ ¬ g.box b
  resv : ∀ nm, m.get nm = some .resv → g.loc nm = none ∧ ∀ n, g.tloc nm n = none
  fresh : ∀ nm, m.length ≤ nm → g.loc nm = none ∧ ∀ n, g.tloc nm n = none
  inj : ∀ nm nm' b, blk g m nm = some b → blk g m nm' = some b → nm = nm'
  wrLt : ∀ b off, g.wr b off → b < w.heap.size
  boxLt : ∀ b, g.box b → b < w.heap.size

/-- The temporaries. -/
def TmpR (w : World) (g : G) (ts : List AV) (vs : Array Value) : Prop := ts.length = vs.size ∧ ∀ t, V w g (ts.getD t .any) (vs.getD t undef)

theorem TmpR.step {B : Nat} {w w' : World} {g g' : G} {ts : List AV} {vs : Array Value} (h : TmpR w g ts vs) (s : Step B w g w' g') : TmpR w' g' ts vs := ⟨h.1, fun t => (h.2 t).step s⟩

end Go.Ab
