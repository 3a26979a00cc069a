/- The operations that make memory or write it. -/
import Derived.Test.YtlapgjmmlbnehaaAAbOps
import Derived.Laws.Tables
import Derived.Great.BuildSlice
set_option linter.unusedVariables false
set_option linter.unusedSimpArgs false
namespace Go.Ab
open Go.RowKit

theorem get_append (m : Mem) (e : Option Ent) (nm : Nat) : Mem.get (m ++ [e]) nm = if nm < m.length then m.get nm else if nm = m.length then e else none := by
  unfold Mem.get
  by_cases h : nm < m.length
  · simp [h, List.getElem?_append]
  · by_cases h2 : nm = m.length
    · subst h2; simp
    · rw [if_neg h, if_neg h2, List.getElem?_eq_none (by simp; omega)]; rfl

theorem get_set (m : Mem) (nm : Nat) (e : Option Ent) (n : Nat) : Mem.get (m.set nm e) n = if n = nm then (if nm < m.length then e else none) else m.get n := by
  unfold Mem.get
  by_cases h : n = nm
  · subst h
    by_cases h2 : n < m.length
    · simp [h2]
    · simp [h2]
  · rw [List.getElem?_set, if_neg (by omega), if_neg h]

theorem get_lt {m : Mem} {nm : Nat} {e : Ent} (h : m.get nm = some e) : nm < m.length := by
  unfold Mem.get at h
  rcases Nat.lt_or_ge nm m.length with hl | hl
  · exact hl
  · rw [List.getElem?_eq_none hl] at h; cases h

theorem blk_some {g : G} {m : Mem} {nm b : Nat} (h : blk g m nm = some b) : (∃ bx cs, m.get nm = some (.obj bx cs) ∧ g.loc nm = some b) ∨ ∃ n sz, m.get nm = some (.tok n sz) ∧ g.tloc nm n = some b := by
  unfold blk at h
  split at h
  · exact .inl ⟨_, _, by assumption, h⟩
  · exact .inr ⟨_, _, by assumption, h⟩
  · cases h
  · cases h

section
variable {B : Nat} {w : World} {g : G} {m : Mem}

theorem MemR.blk_lt (h : MemR B w g m) {nm b : Nat} (hb : blk g m nm = some b) : B ≤ b ∧ b < w.heap.size := by
  rcases blk_some hb with ⟨bx, cs, h1, h2⟩ | ⟨n, sz, h1, h2⟩
  · obtain ⟨b', c, e, h3, h4, h5, _⟩ := h.obj nm bx cs h1
    obtain rfl : b = b' := by simpa [h2] using h3
    exact ⟨h4, (Array.getElem?_eq_some_iff.1 h5).1⟩
  · obtain ⟨b', c, e, h3, h4, h5, _⟩ := h.tok nm n sz h1
    obtain rfl : b = b' := by simpa [h2] using h3
    exact ⟨h4, (Array.getElem?_eq_some_iff.1 h5).1⟩

/-- Nothing of the owned rows has turned. -/
theorem MemR.keep (h : MemR B w g m) {w' : World} {g' : G} (s : Step B w g w' g') (hheap : ∀ b, B ≤ b → b < w.heap.size → w'.heap[b]? = w.heap[b]?)
    (hwr : ∀ b off, g.wr b off → g'.wr b off) (hloc : g'.loc = g.loc) (htl : g'.tloc = g.tloc) (hlt : ∀ b off, g'.wr b off → b < w'.heap.size) (hbx : ∀ b, g'.box b → b < w'.heap.size) : MemR B w' g' m where
  obj nm bx cs hn := by
    obtain ⟨b, c, e, h1, h2, h3, h4, h5, h6, h7⟩ := h.obj nm bx cs hn
    exact ⟨b, c, e, by rw [hloc]; exact h1, h2, (hheap b h2 (Array.getElem?_eq_some_iff.1 h3).1).trans h3, h4, fun j hj => (h5 j hj).step s, fun off => hwr _ _ (h6 off), (s.box b (Array.getElem?_eq_some_iff.1 h3).1).trans h7⟩
  tok nm n sz hn := by
    obtain ⟨b, c, e, h1, h2, h3, h4, h5, h6⟩ := h.tok nm n sz hn
    exact ⟨b, c, e, by rw [htl]; exact h1, h2, (hheap b h2 (Array.getElem?_eq_some_iff.1 h3).1).trans h3, fun off ho => hwr _ _ (h4 off ho), fun n' hn' => by rw [htl]; exact h5 n' hn', fun hb => h6 ((s.box b (Array.getElem?_eq_some_iff.1 h3).1).1 hb)⟩
  resv nm hn := by rw [hloc, htl]; exact h.resv nm hn
  fresh nm hn := by rw [hloc, htl]; exact h.fresh nm hn
  inj nm nm' b h1 h2 := by
    have e : blk g' m = blk g m := by funext x; unfold blk; rw [hloc, htl]
    rw [e] at h1 h2
    exact h.inj nm nm' b h1 h2
  wrLt := hlt
  boxLt := hbx

theorem Step.drew (B : Nat) (w : World) (g : G) : Step B w g w.drew g :=
  ⟨(Below.refl _ _).drew, fun _ _ _ _ h => h, fun _ c _ _ h => ⟨c, h, rfl⟩, fun _ _ _ h => h, fun _ _ _ => Iff.rfl, fun _ _ => Iff.rfl, fun _ _ h => h, fun _ _ _ h => h⟩

/-- A new block; what is known of the old ones stands. -/
theorem Step.alloc {B : Nat} {w : World} {g g' : G} (hB : B ≤ w.heap.size) (o : Obj) (hwr : ∀ b off, b < w.heap.size → (g'.wr b off ↔ g.wr b off)) (hbox : ∀ b, b < w.heap.size → (g'.box b ↔ g.box b))
    (hloc : ∀ nm b, g.loc nm = some b → g'.loc nm = some b) (htl : ∀ nm n b, g.tloc nm n = some b → g'.tloc nm n = some b) : Step B w g (w.alloc o) g' where
  below := (Below.refl _ _).alloc hB o
  cell b off u _ hc := (World.cell?_alloc_lt w o _ (cell_lt hc)).trans hc
  shape b c e fr hb := ⟨c, (Go.heap_alloc_old w o (Array.getElem?_eq_some_iff.1 hb).1).trans hb, rfl⟩
  wr b off hb hn := fun hw => hn ((hwr b off hb).1 hw)
  wrB b off hb := hwr b off (by omega)
  box b hb := hbox b hb
  loc := hloc
  tloc := htl

theorem MemR.alloc_imm (h : MemR B w g m) (hB : B ≤ w.heap.size) (o : Obj) : Step B w g (w.alloc o) g ∧ MemR B (w.alloc o) g m := by
  have s := Step.alloc (g := g) hB o (fun _ _ _ => Iff.rfl) (fun _ _ => Iff.rfl) (fun _ _ h => h) (fun _ _ _ h => h)
  exact ⟨s, h.keep s (fun b _ hb => Go.heap_alloc_old w o hb) (fun _ _ h => h) rfl rfl (fun b off hw => by have := h.wrLt b off hw; simp; omega) (fun b hb => by have := h.boxLt b hb; simp; omega)⟩

/-- What is known behind a new owned row (a variable if 'bx'). -/
def newG (g : G) (nm b : Nat) (bx : Bool) : G where
  wr b' off := b' = b ∨ g.wr b' off
  box b' := (bx = true ∧ b' = b) ∨ g.box b'
  loc n := if n = nm then some b else g.loc n
  tloc := g.tloc

/-- A new entry has its place. -/
structure Slot (g : G) (m : Mem) (nm : Nat) (e : Ent) (m' : Mem) : Prop where
  get : ∀ x, Mem.get m' x = if x = nm then some e else m.get x
  fresh : g.loc nm = none ∧ ∀ n, g.tloc nm n = none
  len : ∀ x, m'.length ≤ x → m.length ≤ x ∧ x ≠ nm

theorem MemR.slot (h : MemR B w g m) {d : Option Nat} (hd : ∀ s, d = some s → m.get s = some .resv) (e : Ent) : Slot g m (newAt d m .resv).1 e (newAt d m e).2 := by
  cases d with
  | none =>
    refine ⟨fun x => ?_, h.fresh _ (Nat.le_refl _), fun x hx => ?_⟩
    · show Mem.get (m ++ [some e]) x = if x = m.length then some e else m.get x
      rw [get_append]
      by_cases h1 : x = m.length
      · rw [if_neg (by omega), if_pos h1, if_pos h1]
      · rw [if_neg h1, if_neg h1]
        by_cases h2 : x < m.length
        · rw [if_pos h2]
        · rw [if_neg h2]
          unfold Mem.get
          rw [List.getElem?_eq_none (by omega)]; rfl
    · simp only [newAt, List.length_append, List.length_singleton] at hx ⊢
      omega
  | some s =>
    have hs := hd s rfl
    have hlt := get_lt hs
    refine ⟨fun x => ?_, h.resv s hs, fun x hx => ?_⟩
    · show Mem.get (m.set s (some e)) x = if x = s then some e else m.get x
      rw [get_set, if_pos hlt]
    · simp only [newAt, List.length_set] at hx ⊢
      omega

theorem MemR.alloc_obj (h : MemR B w g m) (hB : B ≤ w.heap.size) (c : Array Value) (e : TypeId) (cs : List AV) (hl : cs.length ≤ c.size) (hv : ∀ j, j < cs.length → V w g (cs.getD j .any) (c.getD j undef)) (bx : Bool) {nm : Nat} {m' : Mem} (hs : Slot g m nm (.obj bx cs) m') :
    Step B w g (w.alloc (.cells c e)) (newG g nm w.heap.size bx) ∧ MemR B (w.alloc (.cells c e)) (newG g nm w.heap.size bx) m' := by
  have hfr := hs.fresh
  have hbl := h.boxLt
  have s : Step B w g (w.alloc (.cells c e)) (newG g nm w.heap.size bx) := by
    refine Step.alloc hB _ (fun b off hb => ?_) (fun b hb => ?_) (fun x b hb => ?_) (fun _ _ _ h => h)
    · simp only [newG]; constructor
      · rintro (rfl | h) <;> first | omega | exact h
      · exact .inr
    · simp only [newG]; constructor
      · rintro (⟨_, rfl⟩ | h) <;> first | omega | exact h
      · exact .inr
    · simp only [newG]
      split
      · rename_i he; rw [he, hfr.1] at hb; cases hb
      · exact hb
  have hblk : ∀ x b, blk (newG g nm w.heap.size bx) m' x = some b → (x ≠ nm ∧ blk g m x = some b) ∨ (x = nm ∧ b = w.heap.size) := by
    intro x b hb
    rcases blk_some hb with ⟨bx', cs', h1, h2⟩ | ⟨n, sz, h1, h2⟩
    · rw [hs.get] at h1
      split at h1
      · rename_i he
        simp only [newG, if_pos he] at h2
        exact .inr ⟨he, by simpa using h2.symm⟩
      · rename_i hne
        simp only [newG, if_neg hne] at h2
        exact .inl ⟨hne, by simp [blk, h1, h2]⟩
    · rw [hs.get] at h1
      split at h1
      · simp at h1
      · rename_i hne
        simp only [newG] at h2
        exact .inl ⟨hne, by simp [blk, h1, h2]⟩
  refine ⟨s, ?_, ?_, ?_, ?_, ?_, ?_, ?_⟩
  · intro x bx' cs' hn
    rw [hs.get] at hn
    split at hn
    · rename_i he
      simp only [Option.some.injEq, Ent.obj.injEq] at hn
      obtain ⟨rfl, rfl⟩ := hn
      refine ⟨w.heap.size, c, e, by simp [newG, he], hB, heap_alloc_new w _, hl, fun j hj => (hv j hj).step s, fun off => .inl rfl, ?_⟩
      simp only [newG]
      constructor
      · rintro (⟨h, _⟩ | h)
        · exact h
        · exact absurd (hbl _ h) (Nat.lt_irrefl _)
      · intro h; exact .inl ⟨h, trivial⟩
    · obtain ⟨b, c', e', h1, h2, h3, h4, h5, h6, h7⟩ := h.obj x bx' cs' hn
      exact ⟨b, c', e', s.loc _ _ h1, h2, (Go.heap_alloc_old w _ (Array.getElem?_eq_some_iff.1 h3).1).trans h3, h4, fun j hj => (h5 j hj).step s, fun off => .inr (h6 off), (s.box b (Array.getElem?_eq_some_iff.1 h3).1).trans h7⟩
  · intro x n sz hn
    rw [hs.get] at hn
    split at hn
    · simp at hn
    · obtain ⟨b, c', e', h1, h2, h3, h4, h5, h6⟩ := h.tok x n sz hn
      exact ⟨b, c', e', h1, h2, (Go.heap_alloc_old w _ (Array.getElem?_eq_some_iff.1 h3).1).trans h3, fun off ho => .inr (h4 off ho), h5, fun hb => h6 ((s.box b (Array.getElem?_eq_some_iff.1 h3).1).1 hb)⟩
  · intro x hn
    rw [hs.get] at hn
    split at hn
    · simp at hn
    · rename_i hne
      have := h.resv x hn
      exact ⟨by simp only [newG]; rw [if_neg hne]; exact this.1, this.2⟩
  · intro x hn
    obtain ⟨h1, h2⟩ := hs.len x hn
    have := h.fresh x h1
    exact ⟨by simp only [newG]; rw [if_neg h2]; exact this.1, this.2⟩
  · intro x x' b h1 h2
    rcases hblk _ _ h1 with ⟨a1, a2⟩ | ⟨a1, a2⟩ <;> rcases hblk _ _ h2 with ⟨b1, b2⟩ | ⟨b1, b2⟩
    · exact h.inj _ _ _ a2 b2
    · have := (h.blk_lt a2).2; omega
    · have := (h.blk_lt b2).2; omega
    · omega
  · rintro b off (rfl | hw)
    · simp
    · have := h.wrLt b off hw; simp; omega
  · rintro b (⟨_, rfl⟩ | hw)
    · simp
    · have := h.boxLt b hw; simp; omega

/-- What is known behind a new row that is appended to: n elements stand. -/
def tokG (g : G) (nm b n sz : Nat) : G where
  wr b' off := (b' = b ∧ n * sz ≤ off) ∨ g.wr b' off
  box := g.box
  loc := g.loc
  tloc nm' n' := if nm' = nm ∧ n' = n then some b else g.tloc nm' n'

theorem MemR.alloc_tok (h : MemR B w g m) (hB : B ≤ w.heap.size) (c : Array Value) (e : TypeId) (n sz : Nat) {nm : Nat} {m' : Mem} (hs : Slot g m nm (.tok n sz) m') :
    Step B w g (w.alloc (.cells c e)) (tokG g nm w.heap.size n sz) ∧ MemR B (w.alloc (.cells c e)) (tokG g nm w.heap.size n sz) m' := by
  have hfr := hs.fresh
  have s : Step B w g (w.alloc (.cells c e)) (tokG g nm w.heap.size n sz) := by
    refine Step.alloc hB _ (fun b off hb => ?_) (fun b hb => Iff.rfl) (fun x b hb => hb) (fun x n' b hb => ?_)
    · simp only [tokG]; constructor
      · rintro (⟨rfl, _⟩ | h) <;> first | omega | exact h
      · exact .inr
    · simp only [tokG]
      split
      · rename_i he; rw [he.1, hfr.2] at hb; cases hb
      · exact hb
  have hblk : ∀ x b, blk (tokG g nm w.heap.size n sz) m' x = some b → (x ≠ nm ∧ blk g m x = some b) ∨ (x = nm ∧ b = w.heap.size) := by
    intro x b hb
    rcases blk_some hb with ⟨bx', cs', h1, h2⟩ | ⟨n', sz', h1, h2⟩
    · rw [hs.get] at h1
      split at h1
      · simp at h1
      · rename_i hne
        simp only [tokG] at h2
        exact .inl ⟨hne, by simp [blk, h1, h2]⟩
    · rw [hs.get] at h1
      split at h1
      · rename_i he
        simp only [Option.some.injEq, Ent.tok.injEq] at h1
        simp only [tokG, if_pos (show x = nm ∧ n' = n from ⟨he, h1.1.symm⟩)] at h2
        exact .inr ⟨he, by simpa using h2.symm⟩
      · rename_i hne
        simp only [tokG, if_neg (show ¬ (x = nm ∧ n' = n) from fun h => hne h.1)] at h2
        exact .inl ⟨hne, by simp [blk, h1, h2]⟩
  refine ⟨s, ?_, ?_, ?_, ?_, ?_, ?_, ?_⟩
  · intro x bx' cs' hn
    rw [hs.get] at hn
    split at hn
    · simp at hn
    · obtain ⟨b, c', e', h1, h2, h3, h4, h5, h6, h7⟩ := h.obj x bx' cs' hn
      exact ⟨b, c', e', h1, h2, (Go.heap_alloc_old w _ (Array.getElem?_eq_some_iff.1 h3).1).trans h3, h4, fun j hj => (h5 j hj).step s, fun off => .inr (h6 off), (s.box b (Array.getElem?_eq_some_iff.1 h3).1).trans h7⟩
  · intro x n' sz' hn
    rw [hs.get] at hn
    split at hn
    · rename_i he
      simp only [Option.some.injEq, Ent.tok.injEq] at hn
      obtain ⟨rfl, rfl⟩ := hn
      refine ⟨w.heap.size, c, e, by simp [tokG, he], hB, heap_alloc_new w _, fun off ho => .inl ⟨rfl, ho⟩, fun n'' hn'' => ?_, fun hb => Nat.lt_irrefl _ (h.boxLt _ hb)⟩
      simp only [tokG]; rw [if_neg (by omega), he]; exact hfr.2 n''
    · rename_i hne
      obtain ⟨b, c', e', h1, h2, h3, h4, h5, h6⟩ := h.tok x n' sz' hn
      refine ⟨b, c', e', s.tloc _ _ _ h1, h2, (Go.heap_alloc_old w _ (Array.getElem?_eq_some_iff.1 h3).1).trans h3, fun off ho => .inr (h4 off ho), fun n'' hn'' => ?_, fun hb => h6 ((s.box b (Array.getElem?_eq_some_iff.1 h3).1).1 hb)⟩
      simp only [tokG]; rw [if_neg (fun h => hne h.1)]; exact h5 n'' hn''
  · intro x hn
    rw [hs.get] at hn
    split at hn
    · simp at hn
    · rename_i hne
      have := h.resv x hn
      exact ⟨this.1, fun n' => by simp only [tokG]; rw [if_neg (fun h => hne h.1)]; exact this.2 n'⟩
  · intro x hn
    obtain ⟨h1, h2⟩ := hs.len x hn
    have := h.fresh x h1
    exact ⟨this.1, fun n' => by simp only [tokG]; rw [if_neg (fun h => h2 h.1)]; exact this.2 n'⟩
  · intro x x' b h1 h2
    rcases hblk _ _ h1 with ⟨a1, a2⟩ | ⟨a1, a2⟩ <;> rcases hblk _ _ h2 with ⟨b1, b2⟩ | ⟨b1, b2⟩
    · exact h.inj _ _ _ a2 b2
    · have := (h.blk_lt a2).2; omega
    · have := (h.blk_lt b2).2; omega
    · omega
  · rintro b off (⟨rfl, _⟩ | hw)
    · simp
    · have := h.wrLt b off hw; simp; omega
  · intro b hw
    have := h.boxLt b hw; simp; omega

/-! ### Parts laid into cells -/
theorem putAt_length {cs vs : List AV} {off : Nat} (h : off + vs.length ≤ cs.length) : (putAt cs off vs).length = cs.length := by
  simp [putAt]; omega
theorem putAt_getD {cs vs : List AV} {off : Nat} (h : off + vs.length ≤ cs.length) (j : Nat) : (putAt cs off vs).getD j .any = if off ≤ j ∧ j < off + vs.length then vs.getD (j - off) .any else cs.getD j .any := by
  unfold putAt
  have hlen : (cs.take off).length = off := by simp; omega
  simp only [List.getD_eq_getElem?_getD, List.append_assoc, List.getElem?_append, hlen, List.getElem?_take, List.getElem?_drop]
  by_cases h1 : j < off
  · rw [if_pos h1, if_pos h1, if_neg (by omega)]
  · rw [if_neg h1]
    by_cases h2 : j - off < vs.length
    · rw [if_pos h2, if_pos (by omega)]
    · rw [if_neg h2, if_neg (by omega), show off + vs.length + (j - off - vs.length) = j by omega]

theorem foldl_set (off : Nat) : ∀ (vs : List Value) (i : Nat) (cs : Array Value), (off + i + vs.length ≤ cs.size) →
    ((vs.zipIdx i).foldl (fun cs (c, j) => cs.setIfInBounds (off + j) c) cs).size = cs.size ∧
    ∀ k, ((vs.zipIdx i).foldl (fun cs (c, j) => cs.setIfInBounds (off + j) c) cs).getD k undef = if off + i ≤ k ∧ k < off + i + vs.length then vs.getD (k - (off + i)) undef else cs.getD k undef
  | [], i, cs, _ => by
    refine ⟨rfl, fun k => ?_⟩
    simp only [List.zipIdx_nil, List.foldl_nil, List.length_nil]
    rw [if_neg (by omega)]
  | v :: vs, i, cs, h => by
    simp only [List.length_cons] at h
    obtain ⟨h1, h2⟩ := foldl_set off vs (i + 1) (cs.setIfInBounds (off + i) v) (by simp; omega)
    simp only [List.zipIdx_cons, List.foldl_cons]
    refine ⟨by rw [h1]; simp, fun k => ?_⟩
    rw [h2]
    simp only [List.length_cons]
    by_cases hk : off + (i + 1) ≤ k ∧ k < off + (i + 1) + vs.length
    · rw [if_pos hk, if_pos (by omega), show k - (off + i) = (k - (off + (i + 1))) + 1 by omega]
      rfl
    · rw [if_neg hk]
      by_cases hk2 : k = off + i
      · subst hk2
        rw [if_pos (by omega)]
        simp [Array.getD, show off + i < cs.size by omega]
      · rw [if_neg (by omega)]
        simp only [Array.getD_eq_getD_getElem?]
        rw [Array.getElem?_setIfInBounds, if_neg (by omega)]

theorem fill_sound {w : World} {g : G} (place : Nat → Option (Nat × Nat)) : ∀ (parts : List (Nat × Sh × AV)) (ps : List (Nat × Value)) (cs cs' : List AV) (c : Array Value),
    parts.length = ps.length → (∀ k (h : k < parts.length) (h' : k < ps.length), place ps[k].1 = some (parts[k].1, (parts[k].2.1).size) ∧ V w g parts[k].2.2 ps[k].2) →
    cs.length = c.size → (∀ j, j < cs.length → V w g (cs.getD j .any) (c.getD j undef)) → fillA cs parts = some cs' →
    ∃ c', Instr.fill place c ps = some c' ∧ cs'.length = c'.size ∧ cs'.length = cs.length ∧ ∀ j, j < cs'.length → V w g (cs'.getD j .any) (c'.getD j undef)
  | [], ps, cs, cs', c, hl, _, hc, hv, h => by
    obtain rfl : ps = [] := List.eq_nil_of_length_eq_zero (by simpa using hl.symm)
    simp [fillA] at h; subst h
    exact ⟨c, rfl, hc, rfl, hv⟩
  | (off, sh, x) :: parts, ps, cs, cs', c, hl, hp, hc, hv, h => by
    match ps, hl with
    | (i, v) :: ps, hl =>
    obtain ⟨hpl, hV⟩ := hp 0 (by simp) (by simp)
    simp only [List.getElem_cons_zero] at hpl hV
    simp only [fillA] at h
    split at h
    · rename_i hsh
      split at h
      · rename_i hle
        obtain ⟨hvs, hvc, _⟩ := V_cells hV hsh
        have hxs := shOk_size hsh
        obtain ⟨f1, f2⟩ := foldl_set off v.cells.toList 0 c (by simp; omega)
        simp only [Nat.add_zero, Array.length_toList] at f2
        have hz : (v.cells.zipIdx.foldl (fun cs (c, j) => cs.setIfInBounds (off + j) c) c) = (v.cells.toList.zipIdx.foldl (fun cs (c, j) => cs.setIfInBounds (off + j) c) c) := by
          rw [← Array.foldl_toList, Array.toList_zipIdx]
        have ih := fill_sound place parts ps (putAt cs off x.cells) cs' (v.cells.zipIdx.foldl (fun cs (c, j) => cs.setIfInBounds (off + j) c) c) (by simpa using hl)
          (fun k h1 h2 => by have := hp (k + 1) (by simpa using h1) (by simpa using h2); simpa using this)
          (by rw [hz, f1, putAt_length (by omega)]; exact hc)
          (fun j hj => by
            rw [putAt_length (by omega)] at hj
            rw [hz, f2, putAt_getD (by omega)]
            by_cases hk : off ≤ j ∧ j < off + x.cells.length
            · rw [if_pos hk, if_pos (by omega)]
              have := hvc (j - off) (by omega)
              simpa [List.getD_eq_getElem?_getD, Array.getD_eq_getD_getElem?] using this
            · rw [if_neg hk, if_neg (by omega)]; exact hv j hj) h
        obtain ⟨c', h1, h2, h3, h4⟩ := ih
        refine ⟨c', ?_, h2, by rw [h3, putAt_length (by omega)], h4⟩
        simp only [Instr.fill, hpl]
        rw [if_neg (by simp; omega)]
        exact h1
      · cases h
    · cases h

section
variable {P : Program} {B : Nat} {w : World} {g : G} {m : Mem}

theorem zero_facts {t : Nat} {z : AV} (h : zeroOf P t = some z) : ∃ i v, P.info? t = some i ∧ i.zero = some v ∧ z = valA v := by
  unfold zeroOf at h
  split at h
  · rename_i i hi
    obtain ⟨v, hv, rfl⟩ := Option.map_eq_some_iff.1 h
    exact ⟨i, v, hi, hv, rfl⟩
  · cases h

theorem valA_cells (w : World) (g : G) (v : Value) : (valA v).cells.length = v.cells.size ∧ ∀ j, j < v.cells.size → V w g ((valA v).cells.getD j .any) (v.cells.getD j undef) := by
  have hat : ∀ v : Value, (atomA v).cells = [atomA v] := fun v => by unfold atomA; split <;> rfl
  by_cases ha : ∃ cs, v = .agg cs
  · obtain ⟨cs, rfl⟩ := ha
    refine ⟨by simp [valA, AV.cells, Value.cells], fun j hj => ?_⟩
    simp only [Value.cells] at hj
    have : (valA (.agg cs)).cells.getD j .any = atomA (cs.getD j undef) := by
      simp [valA, AV.cells, List.getD_eq_getElem?_getD, Array.getD, hj]
    rw [this]
    exact V_atom _ _ _
  · have h1 : valA v = atomA v := by
      unfold valA
      split
      · exact absurd ⟨_, rfl⟩ ha
      · rfl
    have h2 : v.cells = #[v] := by
      unfold Value.cells
      split
      · exact absurd ⟨_, rfl⟩ ha
      · rfl
    rw [h1, hat, h2]
    refine ⟨rfl, fun j hj => ?_⟩
    obtain rfl : j = 0 := by simp at hj; omega
    exact V_atom _ _ _

/-- The outcome of an operation: a value, the world and what is known behind it. -/
def Done (P : Program) (B : Nat) (w : World) (g : G) (s : Sem Value) (v : AV) (m' : Mem) : Prop :=
  ∃ v' w' g', s.run P w = .ok v' w' ∧ Step B w g w' g' ∧ MemR B w' g' m' ∧ V w' g' v v'

theorem Done.same (hm : MemR B w g m) {s : Sem Value} {v : AV} (h : ∃ v', s.run P w = .ok v' w ∧ V w g v v') : Done P B w g s v m :=
  let ⟨v', h1, h2⟩ := h; ⟨v', w, g, h1, .refl _ _ _, hm, h2⟩

theorem V_newptr (g : G) (nm b : Nat) (bx : Bool) (w' : World) : V w' (newG g nm b bx) (.ptr nm 0) (.pointer (some ⟨b, 0, none⟩)) := .ptr _ _ _ (by simp [newG])

theorem alloc_sound (hm : MemR B w g m) (hB : B ≤ w.heap.size) {d : Option Nat} (hd : ∀ s, d = some s → m.get s = some .resv) {t : Nat} {z : AV} (h : zeroOf P t = some z) : Done P B w g (Instr.alloc t true (.tuple #[])) (.ptr (newAt d m .resv).1 0) (newAt d m (.obj true z.cells)).2 := by
  obtain ⟨i, v, hi, hv, rfl⟩ := zero_facts h
  obtain ⟨h1, h2⟩ := valA_cells w g v
  obtain ⟨s, hm'⟩ := hm.alloc_obj hB v.cells t (valA v).cells (by omega) (fun j hj => h2 j (by omega)) true (hm.slot hd _)
  refine ⟨_, _, _, ?_, s, hm', V_newptr _ _ _ _ _⟩
  simp [Instr.alloc, zeroValue, typeInfo, hi, hv, newVar, newRow]

theorem box_sound (hm : MemR B w g m) (hB : B ≤ w.heap.size) {d : Option Nat} (hd : ∀ s, d = some s → m.get s = some .resv) {t : Nat} {sh : Sh} {x r : AV} {m' : Mem} {x' : Value} (hx : V w g x x') (h : boxA d sh m x = some (r, m')) : Done P B w g (Instr.box t x') r m' := by
  unfold boxA at h
  split at h
  · rename_i hs
    simp at h
    obtain ⟨rfl, rfl⟩ := h
    obtain ⟨h1, h2, _⟩ := V_cells hx hs
    have hl := shOk_size hs
    obtain ⟨s, hm'⟩ := hm.alloc_obj hB x'.cells t x.cells (by omega) (fun j hj => h2 j (by omega)) true (hm.slot hd _)
    refine ⟨_, _, _, ?_, s, hm', V_newptr _ _ _ _ _⟩
    simp [Instr.box, newVar, newRow]
  · cases h

theorem storeCells_wr {b : Nat} : ∀ (vs : List Value) (off i : Nat) (w : World) (c : Array Value) (e : TypeId), w.heap[b]? = some (Obj.cells c e (0, 0)) → off + i + vs.length ≤ c.size → (∀ v ∈ vs, v.oneCell' = true) →
    ∃ w', (storeCells ⟨b, off, none⟩ vs i).run P w = .ok () w' ∧ w' = w.setRow b (c.toList.take (off + i) ++ vs ++ c.toList.drop (off + i + vs.length)).toArray :=
  fun vs off i w c e hb hl h1 => ⟨_, run_storeCells_at P b off e vs i c w hb hl h1, rfl⟩

/-- An owned row is written; the others stand. -/
theorem MemR.write (hm : MemR B w g m) {nm b : Nat} {cs cs' : List AV} {c c' : Array Value} {e : TypeId} {bx : Bool} (hn : m.get nm = some (.obj bx cs)) (hl : g.loc nm = some b) (hb : w.heap[b]? = some (Obj.cells c e (0, 0))) (hsz : c'.size = c.size) (hcl : cs'.length ≤ c'.size)
    (hv : ∀ j, j < cs'.length → V w g (cs'.getD j .any) (c'.getD j undef)) : Step B w g (w.setRow b c') g ∧ MemR B (w.setRow b c') g (m.set nm (some (.obj bx cs'))) := by
  obtain ⟨b', c0, e0, h1, h2, h3, h4, h5, h6, h7⟩ := hm.obj nm bx cs hn
  obtain rfl : b = b' := by simpa [hl] using h1
  have hother : ∀ k, k ≠ b → (w.setRow b c').heap[k]? = w.heap[k]? := fun k hk => setRow_other w b k c' hk
  have hthis : (w.setRow b c').heap[b]? = some (Obj.cells c' e (0, 0)) := setRow_heap w b c c' e _ hb
  have hsize : (w.setRow b c').heap.size = w.heap.size := by simp
  have s : Step B w g (w.setRow b c') g := by
    refine ⟨⟨rfl, rfl, rfl, by omega, fun k hk => hother k (by omega)⟩, fun b' off u hw hc => ?_, fun b' c1 e1 fr hb' => ?_, fun _ _ _ h => h, fun _ _ _ => Iff.rfl, fun _ _ => Iff.rfl, fun _ _ h => h, fun _ _ _ h => h⟩
    · have hne : b' ≠ b := fun he => hw (he ▸ h6 off)
      exact (World.cell?_of_block (w := w) (a := ⟨b', off, none⟩) (hother b' hne)).trans hc
    · by_cases he : b' = b
      · subst he
        rw [hb] at hb'
        simp only [Option.some.injEq, Obj.cells.injEq] at hb'
        obtain ⟨rfl, rfl, rfl⟩ := hb'
        exact ⟨c', hthis, hsz⟩
      · exact ⟨c1, (hother b' he).trans hb', rfl⟩
  have hlt := get_lt hn
  have hblk : ∀ x b', blk g (m.set nm (some (.obj bx cs'))) x = some b' → blk g m x = some b' := by
    intro x b' hx
    rcases blk_some hx with ⟨bx1, cs1, a1, a2⟩ | ⟨n1, sz1, a1, a2⟩
    · rw [get_set] at a1
      split at a1
      · rename_i he; subst he; simp [blk, hn, a2]
      · simp [blk, a1, a2]
    · rw [get_set] at a1
      split at a1
      · simp at a1
      · simp [blk, a1, a2]
  have hbnm : blk g m nm = some b := by simp [blk, hn, hl]
  refine ⟨s, ?_, ?_, ?_, ?_, ?_, ?_, ?_⟩
  · intro x bx1 cs1 hx
    rw [get_set] at hx
    split at hx
    · rename_i he
      subst he
      simp at hx
      obtain ⟨rfl, rfl⟩ := hx
      exact ⟨b, c', e, hl, h2, hthis, hcl, fun j hj => (hv j hj).step s, h6, h7⟩
    · rename_i hne
      obtain ⟨b1, c1, e1, a1, a2, a3, a4, a5, a6⟩ := hm.obj x bx1 cs1 hx
      have hbne : b1 ≠ b := fun he => hne (hm.inj x nm b (by simp [blk, hx, a1, he]) hbnm)
      exact ⟨b1, c1, e1, a1, a2, (hother b1 hbne).trans a3, a4, fun j hj => (a5 j hj).step s, a6⟩
  · intro x n1 sz1 hx
    rw [get_set] at hx
    split at hx
    · simp at hx
    · rename_i hne
      obtain ⟨b1, c1, e1, a1, a2, a3, a4, a5, a6⟩ := hm.tok x n1 sz1 hx
      have hbne : b1 ≠ b := fun he => hne (hm.inj x nm b (by simp [blk, hx, a1, he]) hbnm)
      exact ⟨b1, c1, e1, a1, a2, (hother b1 hbne).trans a3, a4, a5, a6⟩
  · intro x hx
    rw [get_set] at hx
    split at hx
    · simp at hx
    · exact hm.resv x hx
  · intro x hx
    exact hm.fresh x (by simpa using hx)
  · intro x x' b' h1 h2
    exact hm.inj x x' b' (hblk x b' h1) (hblk x' b' h2)
  · intro b' off hw; rw [hsize]; exact hm.wrLt b' off hw
  · intro b' hw; rw [hsize]; exact hm.boxLt b' hw

theorem obj?_get {m : Mem} {nm : Nat} {bx : Bool} {cs : List AV} (h : m.obj? nm = some (bx, cs)) : m.get nm = some (.obj bx cs) := by
  unfold Mem.obj? at h
  split at h
  · rename_i hh; simp at h; rw [hh, h.1, h.2]
  · cases h

theorem store_sound (hm : MemR B w g m) {t : Nat} {sh : Sh} {x v : AV} {m' : Mem} {x' v' : Value} (hx : V w g x x') (hv : V w g v v') (hsh : shOf P t = some sh) (h : storeA sh m x v = some m') :
    ∃ w', (Instr.storeAt t x' v').run P w = .ok () w' ∧ Step B w g w' g ∧ MemR B w' g m' := by
  unfold storeA at h
  split at h
  · rename_i nm off
    obtain ⟨⟨bx, cs⟩, hcs, h⟩ := Option.bind_eq_some_iff.1 h
    split at h
    · rename_i hle
      simp only at hle h
      split at h
      · rename_i hs
        simp at h; subst h
        have hn := obj?_get hcs
        obtain ⟨b, c, e, h1, h2, h3, h4, h5, h6, h7⟩ := hm.obj nm bx cs hn
        cases hx with
        | ptr _ _ b' hl =>
          obtain rfl : b = b' := by simpa [hl] using h1.symm
          obtain ⟨k1, k2, k3⟩ := V_cells hv hs
          have kl := shOk_size hs
          obtain ⟨i, d, hi, hd, hsz, _⟩ := shOf_facts hsh
          obtain ⟨w', hr, rfl⟩ := storeCells_wr (P := P) v'.cells.toList off 0 w c e h3 (by simp; omega) k3
          have hres : (c.toList.take (off + 0) ++ v'.cells.toList ++ c.toList.drop (off + 0 + v'.cells.toList.length)).toArray.size = c.size := by
            simp; omega
          obtain ⟨s, hm'⟩ := hm.write (cs' := putAt cs off v.cells) (c' := (c.toList.take (off + 0) ++ v'.cells.toList ++ c.toList.drop (off + 0 + v'.cells.toList.length)).toArray) hn hl h3 hres (by rw [hres, putAt_length (by omega)]; omega)
            (fun j hj => by
              rw [putAt_length (by omega)] at hj
              rw [putAt_getD (by omega)]
              have hjl : j < c.size := by omega
              have hlen : (c.toList.take off).length = off := by simp; omega
              simp only [Array.getD_eq_getD_getElem?, List.getElem?_toArray, Nat.add_zero, List.append_assoc, List.getElem?_append, hlen, List.getElem?_take, List.getElem?_drop, Array.length_toList]
              by_cases hk : off ≤ j ∧ j < off + v.cells.length
              · rw [if_pos hk, if_neg (by omega), if_pos (by omega)]
                have := k2 (j - off) (by omega)
                simpa [Array.getD_eq_getD_getElem?] using this
              · rw [if_neg hk]
                have hvj := h5 j hj
                by_cases hj1 : j < off
                · rw [if_pos hj1, if_pos hj1]
                  simpa [Array.getD_eq_getD_getElem?] using hvj
                · rw [if_neg hj1, if_neg (by omega), show off + v'.cells.size + (j - off - v'.cells.size) = j by omega]
                  simpa [Array.getD_eq_getD_getElem?] using hvj)
          refine ⟨_, ?_, s, hm'⟩
          have hne : ¬ (v'.cells.size ≠ i.size) := by omega
          simp only [Instr.storeAt, Instr.sureAddr, storeVar, Sem.run_bind, Sem.run_pure, Result.andThen_ok, run_sizeOf hi, hne, if_false]
          exact hr
      · cases h
    · cases h
  · cases h

theorem madeCells_getD (z : Array Value) (n k : Nat) (hz : 0 < z.size) (hk : k < n) : (madeCells z n).getD k undef = z.getD (k % z.size) undef := by
  have hlt : k % z.size < z.size := Nat.mod_lt _ hz
  simp [madeCells, Array.getD, hk, hlt]

theorem zeros_facts {sh : Sh} {zv : Value} {n : Nat} (hz : zv.cells.size = sh.size) (hne : sh = none → (valA zv).cells = [valA zv]) (w : World) (g : G) :
    (zeros sh (valA zv) n).length = n * sh.size ∧ ∀ j, j < n * sh.size → V w g ((zeros sh (valA zv) n).getD j .any) (zv.cells.getD (j % zv.cells.size) undef) := by
  obtain ⟨h1, h2⟩ := valA_cells w g zv
  have key : ∀ n, ((List.replicate n (valA zv).cells).flatten).length = n * sh.size ∧ ∀ j, j < n * sh.size → ((List.replicate n (valA zv).cells).flatten).getD j .any = (valA zv).cells.getD (j % sh.size) .any := by
    intro n
    induction n with
    | zero => simp
    | succ n ih =>
      have hl : (valA zv).cells.length = sh.size := by omega
      refine ⟨by simp only [List.replicate_succ, List.flatten_cons, List.length_append, ih.1, hl, Nat.succ_mul]; omega, fun j hj => ?_⟩
      simp only [List.replicate_succ, List.flatten_cons, List.getD_eq_getElem?_getD, List.getElem?_append, hl]
      by_cases hj2 : j < sh.size
      · rw [if_pos hj2, Nat.mod_eq_of_lt hj2]
      · rw [if_neg hj2, Nat.mod_eq_sub_mod (by omega)]
        rw [Nat.succ_mul] at hj
        simpa [List.getD_eq_getElem?_getD] using ih.2 (j - sh.size) (by omega)
  have hz' : zeros sh (valA zv) n = (List.replicate n (valA zv).cells).flatten := by
    cases sh with
    | none =>
      have := hne rfl
      simp only [zeros]
      rw [this]
      induction n with
      | zero => rfl
      | succ n ih => simp only [List.replicate_succ, List.flatten_cons, ← ih]; rfl
    | some k => rfl
  rw [hz']
  refine ⟨(key n).1, fun j hj => ?_⟩
  rw [(key n).2 j hj, hz]
  have hpos : 0 < sh.size := by
    rcases Nat.eq_zero_or_pos sh.size with h0 | h0
    · rw [h0] at hj; simp at hj
    · exact h0
  exact h2 _ (by rw [hz]; exact Nat.mod_lt _ hpos)

theorem make_sound (hm : MemR B w g m) (hB : B ≤ w.heap.size) {d : Option Nat} (hd : ∀ s, d = some s → m.get s = some .resv) {t e : Nat} {sh : Sh} {z l c v : AV} {m' : Mem} {l' c' : Value} (ht : P.underlying t = some (.slice e)) (hsh : shOf P e = some sh) (he : elemOk P e sh = true) (hz : zeroOf P e = some z)
    (hl : V w g l l') (hc : V w g c c') (h : makeA d e sh z (bytesOf P e) m l c = some (v, m')) : Done P B w g (Instr.makeSlice t l' c') v m' := by
  obtain ⟨i, zv, hi, hs, hpos, hzv, hzs, hna⟩ := elemOk_facts he
  obtain ⟨i2, zv2, hi2, hzv2, rfl⟩ := zero_facts hz
  obtain rfl : i = i2 := by simpa [hi] using hi2
  obtain rfl : zv = zv2 := by simpa [hzv] using hzv2
  have hb : i.bytes ≤ bytesOf P e := by simp [bytesOf, hi]; omega
  have hz2 : zv.cells.size = sh.size := by omega
  unfold makeA at h
  split at h
  · rename_i kl l kc c
    cases hl; cases hc
    split at h
    · rename_i hcond
      obtain ⟨h0, hlc, hby, h63⟩ := hcond
      have hby : c * (i.bytes : Int) ≤ 281474976710656 := Int.le_trans (Int.mul_le_mul_of_nonneg_left (by omega) (by omega)) hby
      have hr := run_make (P := P) w t e i zv ht hi hzv kl kc l c h0 hlc (by rw [Int.mul_comm]; exact hby) h63
      split at h
      · rename_i heq
        subst heq
        simp at h
        obtain ⟨rfl, rfl⟩ := h
        have hshn : sh = none → (valA zv).cells = [valA zv] := by
          intro hn
          have h1 : valA zv = atomA zv := by
            unfold valA
            split
            · exact absurd rfl (hna hn _)
            · rfl
          rw [h1]
          unfold atomA; split <;> rfl
        obtain ⟨z1, z2⟩ := zeros_facts (sh := sh) (n := l.toNat) hz2 hshn w g
        obtain ⟨s, hm'⟩ := hm.alloc_obj hB (madeCells zv.cells (l.toNat * i.size)) e (zeros sh (valA zv) l.toNat) (by rw [size_madeCells, z1, hs]; exact Nat.le_refl _) (fun j hj => by
          rw [z1] at hj
          rw [madeCells_getD _ _ _ (by omega) (by rw [hs]; exact hj)]
          exact z2 j hj) false (hm.slot hd _)
        refine ⟨_, _, _, hr, s, hm', .arr _ _ _ _ _ _ (.inr rfl) (Nat.le_refl _) (by simp only [maxLen]; omega) (.inr ⟨by simp [newG], rfl⟩)⟩
      · split at h
        · rename_i hl0
          subst hl0
          simp at h
          obtain ⟨rfl, rfl⟩ := h
          obtain ⟨s, hm'⟩ := hm.alloc_tok hB (madeCells zv.cells (c.toNat * i.size)) e 0 sh.size (hm.slot hd _)
          refine ⟨_, _, _, hr, s, hm', .lst sh (.tok (newAt d m .resv).1 e) [] ⟨w.heap.size, 0, none⟩ _ (fun _ => undef) (.inr rfl) (Nat.zero_le _) (by simp only [maxLen]; omega) (by simp) (by simp) (by simp) ?_⟩
          exact ⟨by simp [tokG], rfl, _, heap_alloc_new w _, by rw [size_madeCells, hs]⟩
        · cases h
    · cases h
  · cases h

theorem mapM_rel {α β : Type} (f : α → Option β) : ∀ (l : List α) (r : List β), l.mapM f = some r → r.length = l.length ∧ ∀ k (h : k < l.length) (h' : k < r.length), f l[k] = some r[k]
  | [], r, h => by simp at h; subst h; simp
  | a :: l, r, h => by
    simp only [List.mapM_cons, Option.bind_eq_bind, Option.bind_eq_some_iff, Option.pure_def, Option.some.injEq] at h
    obtain ⟨b, hb, bs, hbs, rfl⟩ := h
    obtain ⟨h1, h2⟩ := mapM_rel f l bs hbs
    refine ⟨by simp [h1], fun k hk hk' => ?_⟩
    cases k with
    | zero => simpa using hb
    | succ k => simpa using h2 k (by simpa using hk) (by simpa using hk')

theorem run_places (w : World) : ∀ (l : List Field), (l.all fun f => (P.info? f.type).isSome) = true → (l.mapM fun f => do pure (f.offset, ← sizeOf f.type) : Sem (List (Nat × Nat))).run P w = .ok (l.map fun f => (f.offset, ((P.info? f.type).map (·.size)).getD 0)) w
  | [], _ => by simp
  | f :: l, h => by
    simp only [List.all_cons, Bool.and_eq_true] at h
    obtain ⟨i, hi⟩ := Option.isSome_iff_exists.1 h.1
    have ih := run_places w l h.2
    simp only [List.mapM_cons, Sem.run_bind, run_sizeOf hi, Result.andThen_ok, Sem.run_pure, ih, List.map_cons, hi, Option.map_some, Option.getD_some]

theorem build_sound (hm : MemR B w g m) {t : Nat} {z v : AV} {ps : Array (Nat × Operand)} {ρ : Operand → AV} {ρ' : Operand → Value} (hρ : ∀ x, V w g (ρ x) (ρ' x)) (hst : structOk P t = true) (hz : zeroOf P t = some z)
    {l : List (Nat × Sh × AV)} (hl : ps.toList.mapM (fun p => (fieldOf P t p.1).map fun f => (f.1, f.2, ρ p.2)) = some l) (h : buildA z l = some v) :
    Done P B w g (Instr.build t (ps.map fun (i, x) => (i, ρ' x))) v m := by
  obtain ⟨i, zv, hi, hzv, rfl⟩ := zero_facts hz
  obtain ⟨h1, h2⟩ := valA_cells w g zv
  obtain ⟨l1, l2⟩ := mapM_rel _ _ _ hl
  unfold structOk at hst
  split at hst
  · rename_i fs hu
    unfold buildA at h
    split at h
    · rename_i cs hcs
      obtain ⟨cs', hf, rfl⟩ := Option.map_eq_some_iff.1 h
      have hcells : (valA zv).cells = cs := by rw [hcs]; rfl
      rw [hcells] at h1 h2
      let place : Nat → Option (Nat × Nat) := (((fs.toList.map fun f => (f.offset, ((P.info? f.type).map (·.size)).getD 0)).toArray)[·]?)
      obtain ⟨c', r1, r2, r3, r4⟩ := fill_sound (w := w) (g := g) place l ((ps.map fun (i, x) => (i, ρ' x)).toList) cs cs' zv.cells (by simp [l1])
        (fun k hk hk' => by
          have := l2 k (by omega) hk
          obtain ⟨⟨off, sh⟩, hfo, hlk⟩ := Option.map_eq_some_iff.1 this
          obtain ⟨fs', fd, u1, u2, u3, u4, u5⟩ := fieldOf_facts hfo
          obtain rfl : fs = fs' := by simpa [hu] using u1
          obtain ⟨i', d, j1, j2, j3, _⟩ := shOf_facts u3
          simp only [← hlk]
          refine ⟨?_, by simpa using hρ _⟩
          simp only [place, List.getElem?_toArray, List.getElem?_map, Array.toList_map, List.getElem_map, Array.getElem?_toList, u2, Option.map_some, u4, j1, Option.getD_some, j3])
        h1 (fun j hj => h2 j (by omega)) hf
      refine Done.same hm ⟨.agg c', ?_, .agg _ _ r2 r4⟩
      have hpl : (fs.mapM fun f => do pure (f.offset, ← sizeOf f.type) : Sem (Array (Nat × Nat))).run P w = .ok (fs.toList.map fun f => (f.offset, ((P.info? f.type).map (·.size)).getD 0)).toArray w := by
        rw [Array.mapM_eq_mapM_toList]
        have := run_places (P := P) w fs.toList (by rw [← hst]; simp)
        simp only [Sem.run_map, this, Result.andThen_ok]
      simp only [Instr.build, Sem.run_bind, zeroValue, typeInfo, run_program, Result.andThen_ok, hi, Sem.run_pure, hzv, run_underlying hu, hpl]
      rw [show Instr.fill (fun x => (List.map (fun (f : Field) => (f.offset, ((P.info? f.type).map (·.size)).getD 0)) fs.toList).toArray[x]?) zv.cells (Array.map (fun x => (x.fst, ρ' x.snd)) ps).toList = some c' from r1]
      rfl
    · cases h
  · cases hst

end
end
end Go.Ab
