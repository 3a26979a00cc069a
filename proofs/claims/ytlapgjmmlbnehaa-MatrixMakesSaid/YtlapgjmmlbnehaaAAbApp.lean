/- append and slice literals. -/
import Derived.Test.YtlapgjmmlbnehaaAAbMem
set_option linter.unusedVariables false
set_option linter.unusedSimpArgs false
namespace Go.Ab
open Go.RowKit

section
variable {P : Program} {B : Nat} {w : World} {g : G} {m : Mem}

theorem V_stripA {x : AV} {v : Value} (h : V w g x v) : V w g (stripA x) v := by
  cases h with
  | lst sh o es a cap us hs hc hm hsh hcell hv ho =>
    cases o with
    | tok nm e => exact .lst sh .no es a cap us hs hc hm hsh hcell hv trivial
    | no => exact .lst sh .no es a cap us hs hc hm hsh hcell hv ho
    | full => exact .lst sh .full es a cap us hs hc hm hsh hcell hv ho
  | nils sh o ho => rcases ho with rfl | rfl <;> exact .nils sh _ (by simp)
  | any => exact .any _
  | int => exact .int _ _
  | bool => exact .bool _
  | str => exact .str _
  | arr _ _ _ _ _ _ a b c d => exact .arr _ _ _ _ _ _ a b c d
  | ptr _ _ _ a => exact .ptr _ _ _ a
  | vptr _ _ _ _ a b => exact .vptr _ _ _ _ a b
  | nilp => exact .nilp
  | nilf => exact .nilf
  | nile => exact .nile
  | agg _ _ a b => exact .agg _ _ a b
  | tup _ _ a b => exact .tup _ _ a b
  | fn _ _ _ a b => exact .fn _ _ _ a b

theorem V_strip {x : AV} {v : Value} (h : V w g x v) : V w g (strip x) v := by
  by_cases hx : ∃ cs, x = .agg cs
  · obtain ⟨cs, rfl⟩ := hx
    cases h with
    | agg cs vs hl hv =>
      refine .agg _ _ (by simp [hl]) fun j hj => ?_
      have hj' : j < cs.length := by simpa using hj
      have := V_stripA (hv j hj')
      have e : (cs.map stripA).getD j .any = stripA (cs.getD j .any) := by simp [List.getD_eq_getElem?_getD, hj']
      rw [e]; exact this
  · have e : strip x = stripA x := by cases x <;> first | rfl | exact absurd ⟨_, rfl⟩ hx
    rw [e]; exact V_stripA h

/-- Every cell of elements of a shape is one. -/
theorem flat_atom {sh : Sh} : ∀ {es : List AV}, (∀ e ∈ es, shOk sh e = true) → ∀ x ∈ flat es, atomOk x = true
  | [], _, x, hx => by simp at hx
  | e :: es, h, x, hx => by
    simp only [List.flatMap_cons, List.mem_append] at hx
    rcases hx with hx | hx
    · have hs := h e (by simp)
      cases sh with
      | none =>
        have ha : atomOk e = true := hs
        have hc : e.cells = [e] := by cases e <;> first | rfl | (simp [atomOk] at ha)
        rw [hc] at hx
        simp at hx; rw [hx]; exact ha
      | some n =>
        cases e <;> first | (simp [shOk] at hs; done) | skip
        simp [shOk] at hs
        exact hs.2 x (by simpa [AV.cells] using hx)
    · exact flat_atom (fun y hy => h y (by simp [hy])) x hx

/-- The values that stand for the cells of a slice that is no nil. -/
theorem V_row {sh : Sh} {o : Own} {es : List AV} {a : Addr} {n cap : Nat} (h : V w g (.lst sh false o es) (.slice (some a) n cap)) :
    ∃ vs : List Value, n = es.length ∧ vs.length = es.length * sh.size ∧ (∀ j u, vs[j]? = some u → w.cell? (a.add j) = some u) ∧ (∀ u ∈ vs, u.oneCell' = true) ∧
      (∀ j, j < vs.length → V w g ((flat es).getD j .any) (vs.getD j undef)) ∧ (cap = 0 ∨ a = ⟨a.block, a.off, none⟩) ∧ n ≤ cap ∧ cap ≤ maxLen ∧ (∀ e ∈ es, shOk sh e = true ∧ pl e = true) ∧ ownOk w g sh o es.length a cap ∧
      (∀ j, j < vs.length → ¬ g.wr a.block (a.off + j) ∧ ¬ g.box a.block) := by
  cases h with
  | lst _ _ es a cap us hs hc hm hsh hcell hv ho =>
    have hall : ∀ e ∈ es, shOk sh e = true := fun e he => (hsh e he).1
    have hfl := flat_len hall
    have ha : cap = 0 ∨ a = ⟨a.block, a.off, none⟩ := hs.imp id fun h => by cases a; simp_all
    refine ⟨(List.range (es.length * sh.size)).map us, rfl, by simp, fun j u hu => ?_, fun u hu => ?_, fun j hj => ?_, ha, hc, hm, hsh, ho, fun j hj => ?_⟩
    · have hj : j < es.length * sh.size := by
        rcases Nat.lt_or_ge j (es.length * sh.size) with hl | hl
        · exact hl
        · rw [List.getElem?_eq_none (by simpa using hl)] at hu; cases hu
      simp [hj] at hu
      have ha := ha.resolve_left (fun h0 => by
        have : es.length = 0 := by omega
        rw [this, Nat.zero_mul] at hj
        omega)
      rw [ha, Addr_add, ← hu]
      exact (hcell j (by omega)).1
    · obtain ⟨j, hj, rfl⟩ := List.mem_map.1 hu
      have hj' : j < (flat es).length := by rw [hfl]; simpa using hj
      have h1 := hv j hj'
      have h2 := flat_atom hall (flat es)[j] (List.getElem_mem hj')
      have : (flat es).getD j .any = (flat es)[j] := by rw [List.getD_eq_getElem?_getD, List.getElem?_eq_getElem hj']; rfl
      rw [this] at h1
      exact (V_atomOk h1 h2).1
    · have hj' : j < es.length * sh.size := by simpa using hj
      have := hv j (by omega)
      simpa [List.getD_eq_getElem?_getD, hj'] using this
    · have hj' : j < es.length * sh.size := by simpa using hj
      exact (hcell j (by omega)).2

/-- A row that stands whole in a block. -/
theorem V_of_row {sh : Sh} {o : Own} {es : List AV} {b cap : Nat} {c : Array Value} {e : TypeId} (hb : w.heap[b]? = some (Obj.cells c e (0, 0))) (hc : es.length ≤ cap) (hm : cap ≤ maxLen) (hsh : ∀ e ∈ es, shOk sh e = true ∧ pl e = true)
    (hsz : es.length * sh.size ≤ c.size) (hv : ∀ j, j < es.length * sh.size → V w g ((flat es).getD j .any) (c.getD j undef)) (hwr : ∀ j, j < es.length * sh.size → ¬ g.wr b j) (hbx : ¬ g.box b) (ho : ownOk w g sh o es.length ⟨b, 0, none⟩ cap) :
    V w g (.lst sh false o es) (.slice (some ⟨b, 0, none⟩) es.length cap) := by
  have hfl := flat_len (fun e he => (hsh e he).1 : ∀ e ∈ es, shOk sh e = true)
  refine .lst sh o es ⟨b, 0, none⟩ cap (fun j => c.getD j undef) (.inr rfl) hc hm hsh (fun j hj => ?_) (fun j hj => hv j (by omega)) ho
  rw [hfl] at hj
  refine ⟨?_, by simpa using hwr j hj, hbx⟩
  simp only [Nat.zero_add]
  rw [cell_of_row w b j c e (0, 0) hb]
  simp [Array.getD, show j < c.size by omega]

theorem flat_append (xs ys : List AV) : flat (xs ++ ys) = flat xs ++ flat ys := by simp [flat]

/-- A row that is appended to lies anew, in a block of its own. -/
theorem MemR.regrow (hm : MemR B w g m) (hB : B ≤ w.heap.size) (c : Array Value) (e : TypeId) {nm k n sz : Nat} (hn : m.get nm = some (.tok k sz)) (hk : k < n) :
    Step B w g (w.alloc (.cells c e)) (tokG g nm w.heap.size n sz) ∧ MemR B (w.alloc (.cells c e)) (tokG g nm w.heap.size n sz) (m.set nm (some (.tok n sz))) := by
  obtain ⟨b0, c0, e0, t1, t2, t3, t4, t5, t6⟩ := hm.tok nm k sz hn
  have hlt := get_lt hn
  have s : Step B w g (w.alloc (.cells c e)) (tokG g nm w.heap.size n sz) := by
    refine Step.alloc hB _ (fun b off hb => ?_) (fun b hb => Iff.rfl) (fun nm b hb => hb) (fun nm' n' b hb => ?_)
    · simp only [tokG]; constructor
      · rintro (⟨rfl, _⟩ | h) <;> first | omega | exact h
      · exact .inr
    · simp only [tokG]
      split
      · rename_i he; rw [he.1, he.2, t5 n hk] at hb; cases hb
      · exact hb
  have hblk : ∀ x b, blk (tokG g nm w.heap.size n sz) (m.set nm (some (.tok n sz))) x = some b → (x ≠ nm ∧ blk g m x = some b) ∨ (x = nm ∧ b = w.heap.size) := by
    intro x b hb
    rcases blk_some hb with ⟨bx', cs', h1, h2⟩ | ⟨n', sz', h1, h2⟩
    · rw [get_set] at h1
      split at h1
      · simp at h1
      · rename_i hne
        exact .inl ⟨hne, by simp only [tokG] at h2; simp [blk, h1, h2]⟩
    · rw [get_set] at h1
      split at h1
      · rename_i he
        simp at h1
        simp only [tokG, if_pos (show x = nm ∧ n' = n from ⟨he, h1.1.symm⟩)] at h2
        exact .inr ⟨he, by simpa using h2.symm⟩
      · rename_i hne
        simp only [tokG, if_neg (show ¬ (x = nm ∧ n' = n) from fun h => hne h.1)] at h2
        exact .inl ⟨hne, by simp [blk, h1, h2]⟩
  refine ⟨s, ?_, ?_, ?_, ?_, ?_, ?_, ?_⟩
  · intro x bx' cs' hx
    rw [get_set] at hx
    split at hx
    · simp at hx
    · obtain ⟨b, c', e', h1, h2, h3, h4, h5, h6, h7⟩ := hm.obj x bx' cs' hx
      exact ⟨b, c', e', s.loc _ _ h1, h2, (Go.heap_alloc_old w _ (Array.getElem?_eq_some_iff.1 h3).1).trans h3, h4, fun j hj => (h5 j hj).step s, fun off => .inr (h6 off), (s.box b (Array.getElem?_eq_some_iff.1 h3).1).trans h7⟩
  · intro x n' sz' hx
    rw [get_set] at hx
    split at hx
    · rename_i he
      simp at hx
      obtain ⟨rfl, rfl⟩ := hx
      subst he
      refine ⟨w.heap.size, c, e, by simp [tokG], hB, heap_alloc_new w _, fun off ho => .inl ⟨rfl, ho⟩, fun n'' hn'' => ?_, fun hb => Nat.lt_irrefl _ (hm.boxLt _ hb)⟩
      simp only [tokG]; rw [if_neg (by omega)]; exact t5 n'' (by omega)
    · rename_i hne
      obtain ⟨b, c', e', h1, h2, h3, h4, h5, h6⟩ := hm.tok x n' sz' hx
      refine ⟨b, c', e', s.tloc _ _ _ h1, h2, (Go.heap_alloc_old w _ (Array.getElem?_eq_some_iff.1 h3).1).trans h3, fun off ho => .inr (h4 off ho), fun n'' hn'' => ?_, h6⟩
      simp only [tokG]; rw [if_neg (fun h => hne h.1)]; exact h5 n'' hn''
  · intro x hx
    rw [get_set] at hx
    split at hx
    · simp at hx
    · rename_i hne
      have := hm.resv x hx
      exact ⟨this.1, fun n' => by simp only [tokG]; rw [if_neg (fun h => hne h.1)]; exact this.2 n'⟩
  · intro x hx
    have := hm.fresh x (by simpa using hx)
    have hxl : m.length ≤ x := by simpa using hx
    exact ⟨this.1, fun n' => by simp only [tokG]; rw [if_neg (fun h => by have := h.1; omega)]; exact this.2 n'⟩
  · intro x x' b h1 h2
    rcases hblk _ _ h1 with ⟨a1, a2⟩ | ⟨a1, a2⟩ <;> rcases hblk _ _ h2 with ⟨b1, b2⟩ | ⟨b1, b2⟩
    · exact hm.inj _ _ _ a2 b2
    · have := (hm.blk_lt a2).2; omega
    · have := (hm.blk_lt b2).2; omega
    · omega
  · rintro b off (⟨rfl, _⟩ | hw)
    · simp
    · have := hm.wrLt b off hw; simp; omega
  · intro b hw
    have := hm.boxLt b hw; simp; omega

theorem MemR.drew (hm : MemR B w g m) : MemR B w.drew g m := hm.keep (Step.drew B w g) (fun _ _ _ => rfl) (fun _ _ h => h) rfl rfl hm.wrLt hm.boxLt

/-- What an append answers where a new row is made: the value stands for the longer list, and a name owns the row. -/
theorem grown_sound (hm : MemR B w g m) (hB : B ≤ w.heap.size) {d : Option Nat} (hd : ∀ s, d = some s → m.get s = some .resv) {e : Nat} {sh : Sh} {es ys : List AV} {olds news : List Value} {rest : Array Value} {cap : Nat} (hlo : olds.length = es.length * sh.size) (hln : news.length = ys.length * sh.size)
    (hes : ∀ e ∈ es, shOk sh e = true ∧ pl e = true) (hys : ∀ e ∈ ys, shOk sh e = true ∧ pl e = true)
    (hvo : ∀ j, j < olds.length → V w g ((flat es).getD j .any) (olds.getD j undef)) (hvn : ∀ j, j < news.length → V w g ((flat ys).getD j .any) (news.getD j undef)) (hcap : es.length + ys.length ≤ cap) (hmax : cap ≤ maxLen)
    (hrest : rest.size = (cap - (es.length + ys.length)) * sh.size) :
    (∃ g', Step B w g (w.drew.alloc (.cells (olds.toArray ++ news.toArray ++ rest) e)) g' ∧ MemR B (w.drew.alloc (.cells (olds.toArray ++ news.toArray ++ rest) e)) g' (newAt d m (.tok (es.length + ys.length) sh.size)).2 ∧ V (w.drew.alloc (.cells (olds.toArray ++ news.toArray ++ rest) e)) g' (.lst sh false (.tok (newAt d m .resv).1 e) (es ++ ys)) (.slice (some ⟨w.heap.size, 0, none⟩) (es.length + ys.length) cap)) ∧
    (∃ g', Step B w g (w.drew.alloc (.cells (olds.toArray ++ news.toArray ++ rest) e)) g' ∧ MemR B (w.drew.alloc (.cells (olds.toArray ++ news.toArray ++ rest) e)) g' (newAt d m (.obj false (flat (es ++ ys)))).2 ∧ V (w.drew.alloc (.cells (olds.toArray ++ news.toArray ++ rest) e)) g' (.arr (newAt d m .resv).1 0 (es.length + ys.length) sh) (.slice (some ⟨w.heap.size, 0, none⟩) (es.length + ys.length) cap)) ∧
    (∀ nm k, m.get nm = some (.tok k sh.size) → k < es.length + ys.length → ∃ g', Step B w g (w.drew.alloc (.cells (olds.toArray ++ news.toArray ++ rest) e)) g' ∧ MemR B (w.drew.alloc (.cells (olds.toArray ++ news.toArray ++ rest) e)) g' (m.set nm (some (.tok (es.length + ys.length) sh.size))) ∧ V (w.drew.alloc (.cells (olds.toArray ++ news.toArray ++ rest) e)) g' (.lst sh false (.tok nm e) (es ++ ys)) (.slice (some ⟨w.heap.size, 0, none⟩) (es.length + ys.length) cap)) := by
  have hm1 := hm.drew
  have s1 := Step.drew B w g
  have hB1 : B ≤ w.drew.heap.size := hB
  have hfe := flat_len (fun e he => (hes e he).1 : ∀ e ∈ es, shOk sh e = true)
  have hfy := flat_len (fun e he => (hys e he).1 : ∀ e ∈ ys, shOk sh e = true)
  have hmul : (es.length + ys.length) * sh.size = es.length * sh.size + ys.length * sh.size := Nat.add_mul _ _ _
  have hall : ∀ e ∈ es ++ ys, shOk sh e = true ∧ pl e = true := fun e he => by
    rcases List.mem_append.1 he with h | h
    · exact hes e h
    · exact hys e h
  have hlen : (es ++ ys).length = es.length + ys.length := by simp
  have hcell : ∀ j, j < (es.length + ys.length) * sh.size → V w g ((flat (es ++ ys)).getD j .any) ((olds.toArray ++ news.toArray ++ rest).getD j undef) := by
    intro j hj
    rw [flat_append]
    simp only [List.getD_eq_getElem?_getD, Array.getD_eq_getD_getElem?, List.getElem?_append, Array.getElem?_append, Array.size_append, List.size_toArray, List.getElem?_toArray, hfe, hlo, hln]
    by_cases h1 : j < es.length * sh.size
    · rw [if_pos h1, if_pos (by omega), if_pos h1]
      simpa [List.getD_eq_getElem?_getD] using hvo j (by omega)
    · rw [if_neg h1, if_pos (by omega), if_neg h1]
      simpa [List.getD_eq_getElem?_getD] using hvn (j - es.length * sh.size) (by omega)
  have hcs : (olds.toArray ++ news.toArray ++ rest).size = cap * sh.size := by
    have : cap * sh.size = (es.length + ys.length) * sh.size + (cap - (es.length + ys.length)) * sh.size := by
      rw [← Nat.add_mul]; congr 1; omega
    simp only [Array.size_append, List.size_toArray]
    omega
  have hnew : (w.drew.alloc (.cells (olds.toArray ++ news.toArray ++ rest) e)).heap[w.heap.size]? = some (Obj.cells (olds.toArray ++ news.toArray ++ rest) e (0, 0)) := heap_alloc_new w.drew _
  have htot : (es.length + ys.length) * sh.size ≤ (olds.toArray ++ news.toArray ++ rest).size := by rw [hcs]; exact Nat.mul_le_mul_right _ hcap
  have hnwr : ∀ off, ¬ g.wr w.heap.size off := fun off h => by have := hm.wrLt _ _ h; omega
  have hnbx : ¬ g.box w.heap.size := fun h => by have := hm.boxLt _ h; omega
  have tokV : ∀ nm g', Step B w g (w.drew.alloc (.cells (olds.toArray ++ news.toArray ++ rest) e)) g' → g' = tokG g nm w.heap.size (es.length + ys.length) sh.size →
      V (w.drew.alloc (.cells (olds.toArray ++ news.toArray ++ rest) e)) g' (.lst sh false (.tok nm e) (es ++ ys)) (.slice (some ⟨w.heap.size, 0, none⟩) (es.length + ys.length) cap) := by
    rintro nm g' hst rfl
    have := V_of_row (o := .tok nm e) (es := es ++ ys) (cap := cap) (g := tokG g nm w.heap.size (es.length + ys.length) sh.size) hnew (by rw [hlen]; exact hcap) hmax hall (by rw [hlen]; exact htot) (fun j hj => (hcell j (by rw [hlen] at hj; exact hj)).step hst)
      (fun j hj => by
        rw [hlen] at hj
        rintro (⟨_, h⟩ | h)
        · omega
        · exact hnwr _ h) hnbx ⟨by simp [tokG], rfl, _, hnew, hcs⟩
    rw [hlen] at this
    exact this
  refine ⟨?_, ?_, ?_⟩
  · obtain ⟨s2, hm2⟩ := hm1.alloc_tok hB1 (olds.toArray ++ news.toArray ++ rest) e (es.length + ys.length) sh.size (hm1.slot hd _)
    exact ⟨_, s1.trans s2, hm2, tokV _ _ (s1.trans s2) rfl⟩
  · obtain ⟨s2, hm2⟩ := hm1.alloc_obj hB1 (olds.toArray ++ news.toArray ++ rest) e (flat (es ++ ys)) (by rw [flat_append, List.length_append, hfe, hfy, ← hmul]; exact htot) (fun j hj => by
      rw [flat_append, List.length_append, hfe, hfy, ← hmul] at hj
      exact (hcell j hj).step s1) false (hm1.slot hd _)
    exact ⟨_, s1.trans s2, hm2, (.arr _ _ _ _ _ _ (.inr rfl) hcap hmax (.inr ⟨by simp [newG], rfl⟩))⟩
  · intro nm k hn hk
    obtain ⟨s2, hm2⟩ := hm1.regrow hB1 (olds.toArray ++ news.toArray ++ rest) e (n := es.length + ys.length) hn hk
    exact ⟨_, s1.trans s2, hm2, tokV _ _ (s1.trans s2) rfl⟩

/-- The row has room: it is written in place behind its end. -/
theorem MemR.inplace (hm : MemR B w g m) {nm b k n : Nat} {sh : Sh} {c c' : Array Value} {e : TypeId} (hn : m.get nm = some (.tok k sh.size)) (hl : g.tloc nm k = some b) (hb : w.heap[b]? = some (Obj.cells c e (0, 0))) (hk : k < n) (hsz : c'.size = c.size)
    (hsame : ∀ j, j < k * sh.size → c'[j]? = c[j]?) :
    ∃ g', Step B w g (w.setRow b c') g' ∧ MemR B (w.setRow b c') g' (m.set nm (some (.tok n sh.size))) ∧ g'.tloc nm n = some b ∧ (∀ off, off < n * sh.size → ¬ g'.wr b off) ∧ ¬ g'.box b := by
  obtain ⟨b0, c0, e0, t1, t2, t3, t4, t5, t6⟩ := hm.tok nm k sh.size hn
  obtain rfl : b = b0 := by simpa [hl] using t1
  have hlt := get_lt hn
  have hother : ∀ x, x ≠ b → (w.setRow b c').heap[x]? = w.heap[x]? := fun x hx => setRow_other w b x c' hx
  have hthis : (w.setRow b c').heap[b]? = some (Obj.cells c' e (0, 0)) := setRow_heap w b c c' e _ hb
  have hsize : (w.setRow b c').heap.size = w.heap.size := by simp
  let g' : G := { wr := fun b' off => g.wr b' off ∧ ¬ (b' = b ∧ off < n * sh.size), box := g.box, loc := g.loc, tloc := fun nm' n' => if nm' = nm ∧ n' = n then some b else g.tloc nm' n' }
  have htl : ∀ x n' b', g.tloc x n' = some b' → g'.tloc x n' = some b' := fun x n' b' hx => by
    show (if x = nm ∧ n' = n then some b else g.tloc x n') = some b'
    split
    · rename_i he; rw [he.1, he.2, t5 n hk] at hx; cases hx
    · exact hx
  have s : Step B w g (w.setRow b c') g' := by
    refine ⟨⟨rfl, rfl, rfl, by omega, fun x hx => hother x (by omega)⟩, fun b' off u hw hc => ?_, fun b' c1 e1 fr hb' => ?_, fun b' off _ hn hw => hn hw.1, fun b' off hb' => ?_, fun _ _ => Iff.rfl, fun _ _ h => h, htl⟩
    · by_cases he : b' = b
      · subst he
        have hoff : off < k * sh.size := Nat.lt_of_not_le fun hle => hw (t4 off hle)
        rw [cell_of_row w b' off c e (0, 0) hb] at hc
        rw [cell_of_row _ b' off c' e (0, 0) hthis, hsame off hoff]
        exact hc
      · exact (World.cell?_of_block (w := w) (a := ⟨b', off, none⟩) (hother b' he)).trans hc
    · by_cases he : b' = b
      · subst he
        rw [hb] at hb'
        simp only [Option.some.injEq, Obj.cells.injEq] at hb'
        obtain ⟨rfl, rfl, rfl⟩ := hb'
        exact ⟨c', hthis, hsz⟩
      · exact ⟨c1, (hother b' he).trans hb', rfl⟩
    · exact ⟨fun h => h.1, fun h => ⟨h, fun h2 => by omega⟩⟩
  have hbnm : blk g m nm = some b := by simp [blk, hn, hl]
  have hblk : ∀ x b', blk g' (m.set nm (some (.tok n sh.size))) x = some b' → blk g m x = some b' := by
    intro x b' hx
    rcases blk_some hx with ⟨bx', cs', h1, h2⟩ | ⟨n', sz', h1, h2⟩
    · rw [get_set] at h1
      split at h1
      · simp at h1
      · have h2' : g.loc x = some b' := h2
        simp [blk, h1, h2']
    · rw [get_set] at h1
      split at h1
      · rename_i he
        simp at h1
        have h2' : (if x = nm ∧ n' = n then some b else g.tloc x n') = some b' := h2
        rw [if_pos ⟨he, h1.1.symm⟩] at h2'
        simp at h2'
        subst h2'; subst he
        exact hbnm
      · rename_i hne
        have h2' : (if x = nm ∧ n' = n then some b else g.tloc x n') = some b' := h2
        rw [if_neg (fun h => hne h.1)] at h2'
        simp [blk, h1, h2']
  refine ⟨g', s, ⟨?_, ?_, ?_, ?_, ?_, ?_, ?_⟩, ?_, ?_, t6⟩
  · intro x bx' cs' hx
    rw [get_set] at hx
    split at hx
    · simp at hx
    · rename_i hne
      obtain ⟨b1, c1, e1, a1, a2, a3, a4, a5, a6, a7⟩ := hm.obj x bx' cs' hx
      have hbne : b1 ≠ b := fun he => hne (hm.inj x nm b (by simp [blk, hx, a1, he]) hbnm)
      exact ⟨b1, c1, e1, a1, a2, (hother b1 hbne).trans a3, a4, fun j hj => (a5 j hj).step s, fun off => ⟨a6 off, fun h => hbne h.1⟩, a7⟩
  · intro x n' sz' hx
    rw [get_set] at hx
    split at hx
    · rename_i he
      simp at hx
      obtain ⟨rfl, rfl⟩ := hx
      subst he
      refine ⟨b, c', e, ?_, t2, hthis, fun off ho => ⟨t4 off ?_, fun h => by omega⟩, fun n'' hn'' => ?_, t6⟩
      · show (if x = x ∧ n = n then some b else _) = _; simp
      · exact Nat.le_trans (Nat.mul_le_mul_right _ (by omega)) ho
      · show (if x = x ∧ n'' = n then some b else g.tloc x n'') = none
        rw [if_neg (by omega)]; exact t5 n'' (by omega)
    · rename_i hne
      obtain ⟨b1, c1, e1, a1, a2, a3, a4, a5, a6⟩ := hm.tok x n' sz' hx
      have hbne : b1 ≠ b := fun he => hne (hm.inj x nm b (by simp [blk, hx, a1, he]) hbnm)
      refine ⟨b1, c1, e1, htl _ _ _ a1, a2, (hother b1 hbne).trans a3, fun off ho => ⟨a4 off ho, fun h => hbne h.1⟩, fun n'' hn'' => ?_, a6⟩
      show (if x = nm ∧ n'' = n then some b else g.tloc x n'') = none
      rw [if_neg (fun h => hne h.1)]; exact a5 n'' hn''
  · intro x hx
    rw [get_set] at hx
    split at hx
    · simp at hx
    · rename_i hne
      have := hm.resv x hx
      refine ⟨this.1, fun n' => ?_⟩
      show (if x = nm ∧ n' = n then some b else g.tloc x n') = none
      rw [if_neg (fun h => hne h.1)]; exact this.2 n'
  · intro x hx
    have hxl : m.length ≤ x := by simpa using hx
    have := hm.fresh x hxl
    refine ⟨this.1, fun n' => ?_⟩
    show (if x = nm ∧ n' = n then some b else g.tloc x n') = none
    rw [if_neg (fun h => by have := h.1; omega)]; exact this.2 n'
  · intro x x' b' h1 h2
    exact hm.inj x x' b' (hblk x b' h1) (hblk x' b' h2)
  · intro b' off hw; rw [hsize]; exact hm.wrLt b' off hw.1
  · intro b' hw; rw [hsize]; exact hm.boxLt b' hw
  · show (if nm = nm ∧ n = n then some b else _) = _; simp
  · intro off ho h; exact h.2 ⟨rfl, ho⟩

theorem append_none (w : World) (t e ty : Nat) (i : TypeInfo) (ht : P.underlying t = some (.slice e)) (hi : P.info? e = some i) {x : AV} {x' y' : Value} {sh shy : Sh} {z z' : Bool} {o o' : Own} {es : List AV} (hx : V w g (.lst sh z o es) x') (hy : V w g (.lst shy z' o' []) y') :
    (Builtin.append_ #[t, t] ty #[x', y']).run P w = .ok x' w := by
  have hb : ∀ a n c, x' = .slice a n c → n ≤ c := by
    rintro a n c rfl
    cases hx with
    | nils => exact Nat.le_refl _
    | lst _ o es a cap us hs hc hm hsh hcell hv ho => exact hc
  have hshape : ∃ a n c, x' = .slice a n c := by cases hx <;> exact ⟨_, _, _, rfl⟩
  obtain ⟨a, n, c, rfl⟩ := hshape
  have hn := hb a n c rfl
  have hshape2 : ∃ a' c', y' = .slice a' 0 c' := by cases hy <;> exact ⟨_, _, rfl⟩
  obtain ⟨a', c', rfl⟩ := hshape2
  cases a' <;> cases a <;> simp [Builtin.append_, run_underlying ht, sizeOf, typeInfo, hi, Builtin.lenOf, hn, Builtin.firstCells, loadCells, loadCellsFrom, storeCells]

theorem append_sound (hm : MemR B w g m) (hB : B ≤ w.heap.size) {d : Option Nat} (hd : ∀ s, d = some s → m.get s = some .resv) {arrm : Bool} {t e ty : Nat} {sh : Sh} {x y v : AV} {m' : Mem} {x' y' : Value} (ht : P.underlying t = some (.slice e)) (hsh : shOf P e = some sh) (he : elemOk P e sh = true)
    (hx : V w g x x') (hy : V w g y y') (h : appA d arrm e sh (bytesOf P e) m x y = some (v, m')) : Done P B w g (Builtin.append_ #[t, t] ty #[x', y']) v m' := by
  obtain ⟨i, zv, hi, hs, hpos, hzv, hzs, hna⟩ := elemOk_facts he
  have hby : bytesOf P e = max 1 i.bytes := by simp [bytesOf, hi]
  unfold appA at h
  split at h
  · rename_i shx z o es shy zy oy ys0
    split at h
    · simp at h
      obtain ⟨rfl, rfl⟩ := h
      exact Done.same hm ⟨x', append_none (x := .any) w t e ty i ht hi hx hy, hx⟩
    · rename_i y1 ys1
      generalize hys : y1 :: ys1 = ys at *
      have hpos' : 0 < ys.length := by rw [← hys]; simp
      split at h
      · rename_i hshy
        subst hshy
        split at h
        · rename_i hroom
          rw [hby] at hroom
          -- what is appended
          have hy2 : ∃ zy', zy = zy' ∧ zy' = false := by
            cases zy
            · exact ⟨_, rfl, rfl⟩
            · cases hy; simp at hpos'
          obtain ⟨_, rfl, rfl⟩ := hy2
          obtain ⟨ay, ny, cy, rfl⟩ : ∃ ay ny cy, y' = .slice (some ay) ny cy := by cases hy; exact ⟨_, _, _, rfl⟩
          obtain ⟨news, rfl, hln, hnews, hn1, hvn, _, _, _, hys', _, _⟩ := V_row hy
          have hln' : news.length = ys.length * i.size := by rw [hln, hs]
          have hsum : (es.length + ys.length) * i.bytes ≤ 140737488355328 := Nat.le_trans (Nat.mul_le_mul_left _ (by omega)) hroom
          have hlen : es.length + ys.length ≤ 140737488355328 := Nat.le_trans (Nat.le_mul_of_pos_right _ (by omega)) hroom
          have h63 : es.length + ys.length ≤ maxLen := by simp only [maxLen]; omega
          split at h
          · cases h
          · -- the base is full: a new row
            split at h
            · rename_i hshx
              have hgrow : ∃ (cap : Nat) (olds : List Value) (rest : Array Value), (Builtin.append_ #[t, t] ty #[x', .slice (some ay) ys.length cy]).run P w = .ok (.slice (some ⟨w.heap.size, 0, none⟩) (es.length + ys.length) cap) (w.drew.alloc (.cells (olds.toArray ++ news.toArray ++ rest) e)) ∧
                  olds.length = es.length * shy.size ∧ (∀ e ∈ es, shOk shy e = true ∧ pl e = true) ∧ (∀ j, j < olds.length → V w g ((flat es).getD j .any) (olds.getD j undef)) ∧ es.length + ys.length ≤ cap ∧ cap ≤ maxLen ∧ rest.size = (cap - (es.length + ys.length)) * shy.size := by
                cases z with
                | true =>
                  have hes : es = [] ∧ x' = .slice none 0 0 := by cases hx; exact ⟨rfl, rfl⟩
                  obtain ⟨rfl, rfl⟩ := hes
                  have hr := run_append_nil (P := P) w t ty e i zv ht hi hzv ay ys.length cy news hln' hnews hpos' (by omega) (by simp only [List.length_nil, Nat.zero_add] at hsum; omega)
                  refine ⟨_, [], Builtin.zeroCells zv.cells (grownCap w ys.length 0 e - ys.length), ?_, by simp, by simp, by simp, by simpa using grownCap_ge w ys.length 0 e, grownCap_le_maxLen w _ _ e (by simpa using h63), ?_⟩
                  · simpa using hr
                  · rw [size_zeroCells, hzs, hs]; simp
                | false =>
                  obtain ⟨ax, nx, cx, rfl⟩ : ∃ ax nx cx, x' = .slice (some ax) nx cx := by cases hx; exact ⟨_, _, _, rfl⟩
                  obtain ⟨olds, rfl, hlo, holds, ho1, hvo, hax, hcx, hmx, hesx, hown, _⟩ := V_row hx
                  have hfull : cx = es.length := hown
                  have hlo' : olds.length = es.length * i.size := by
                    rcases hshx with h | h
                    · rw [hlo, h, hs]
                    · subst h; simp at hlo; simp [hlo]
                  have hr := run_append_grow (P := P) w t ty e i zv ht hi hzv ax es.length cx olds hlo' holds ay ys.length cy news hln' hnews (by omega) (by omega) (growslice_fits (by omega) hsum)
                  refine ⟨_, olds, Builtin.zeroCells zv.cells (grownCap w (es.length + ys.length) cx e - (es.length + ys.length)), hr, by rw [hlo', hs], ?_, hvo, grownCap_ge _ _ _ _, grownCap_le_maxLen _ _ _ _ h63, by rw [size_zeroCells, hzs, hs]⟩
                  rcases hshx with h | h
                  · rw [← h]; exact hesx
                  · subst h; simp
              obtain ⟨cap, olds, rest, hr, g1, g2, g3, g4, g5, g6⟩ := hgrow
              obtain ⟨p1, p2, _⟩ := grown_sound hm hB hd (e := e) g1 hln g2 hys' g3 hvn g4 g5 g6
              split at h
              · simp only [Option.some.injEq, Prod.mk.injEq] at h
                obtain ⟨rfl, rfl⟩ := h
                obtain ⟨g', s, hm', hV⟩ := p2
                exact ⟨_, _, g', hr, s, hm', hV⟩
              · simp at h
                obtain ⟨rfl, rfl⟩ := h
                obtain ⟨g', s, hm', hV⟩ := p1
                exact ⟨_, _, g', hr, s, hm', hV⟩
            · cases h
          · -- an owned row
            rename_i nm e'
            split at h
            · rename_i hcond
              obtain ⟨rfl, rfl, _⟩ := hcond
              split at h
              · rename_i k sz hget
                split at h
                · rename_i hk
                  obtain ⟨rfl, rfl⟩ := hk
                  simp at h
                  obtain ⟨rfl, rfl⟩ := h
                  have hz : z = false ∧ ∃ ax nx cx, x' = .slice (some ax) nx cx := by
                    cases hx with
                    | nils _ _ ho => rcases ho with h | h <;> cases h
                    | lst => exact ⟨rfl, _, _, _, rfl⟩
                  obtain ⟨rfl, ax, nx, cx, rfl⟩ := hz
                  obtain ⟨olds, rfl, hlo, holds, ho1, hvo, hax, hcx, hmx, hesx, hown, _⟩ := V_row hx
                  obtain ⟨o1, o2, c, o3, o4⟩ := hown
                  have hlo' : olds.length = es.length * i.size := by rw [hlo, hs]
                  by_cases hfit : es.length + ys.length ≤ cx
                  · -- in place
                    have hax := hax.resolve_left (by omega)
                    have hax' : ax = ⟨ax.block, 0, none⟩ := by rw [hax, o2]
                    have hfits : es.length * i.size + news.length ≤ c.size := by
                      rw [hln', o4, hs, ← Nat.add_mul]; exact Nat.mul_le_mul_right _ hfit
                    have hr := run_append_room (P := P) w t ty e' i ht hi ax.block es.length cx c o3 ay ys.length cy news hln' hnews hn1 hfit hfits
                    rw [← hax'] at hr
                    obtain ⟨g', s, hm', q1, q2, q3⟩ := hm.inplace (n := es.length + ys.length) (c' := (c.toList.take (es.length * i.size) ++ news ++ c.toList.drop (es.length * i.size + news.length)).toArray) hget o1 o3 (by omega) (by simp; omega)
                      (fun j hj => by
                        rw [← hs] at hj
                        simp only [List.getElem?_toArray, List.append_assoc]
                        rw [List.getElem?_append_left (by simp; omega), List.getElem?_take, if_pos hj]
                        simp)
                    refine ⟨_, _, g', hr, s, hm', ?_⟩
                    have hheap : (w.setRow ax.block (c.toList.take (es.length * i.size) ++ news ++ c.toList.drop (es.length * i.size + news.length)).toArray).heap[ax.block]? = some (Obj.cells (c.toList.take (es.length * i.size) ++ news ++ c.toList.drop (es.length * i.size + news.length)).toArray e' (0, 0)) := setRow_heap w _ c _ e' _ o3
                    have hcsz : (c.toList.take (es.length * i.size) ++ news ++ c.toList.drop (es.length * i.size + news.length)).toArray.size = c.size := by simp; omega
                    have hmul : (es.length + ys.length) * shx.size = es.length * shx.size + ys.length * shx.size := Nat.add_mul _ _ _
                    have hfe := flat_len (fun e he => (hesx e he).1 : ∀ e ∈ es, shOk shx e = true)
                    have hl2 : (es ++ ys).length = es.length + ys.length := by simp
                    have := V_of_row (sh := shx) (o := .tok nm e') (es := es ++ ys) (cap := cx) hheap (by rw [hl2]; exact hfit) hmx (fun e he => by
                        rcases List.mem_append.1 he with h | h
                        · exact hesx e h
                        · exact hys' e h) (by rw [hl2, hcsz, o4]; exact Nat.mul_le_mul_right _ hfit)
                      (fun j hj => by
                        rw [hl2] at hj
                        have hlen1 : (c.toList.take (es.length * i.size)).length = es.length * shx.size := by simp; omega
                        rw [flat_append]
                        simp only [List.getD_eq_getElem?_getD, Array.getD_eq_getD_getElem?, List.getElem?_toArray, List.append_assoc]
                        by_cases h1 : j < es.length * shx.size
                        · rw [List.getElem?_append_left (by omega), List.getElem?_append_left (by omega), List.getElem?_take, if_pos (by omega)]
                          have hcell := holds j (olds.getD j undef) (by simp [List.getD_eq_getElem?_getD, show j < olds.length by omega])
                          rw [hax', Addr_add, cell_of_row w _ _ c e' (0, 0) o3] at hcell
                          simp only [Nat.zero_add] at hcell
                          have := (hvo j (by omega)).step s
                          simp only [Array.getElem?_toList, hcell, Option.getD_some]
                          simpa [List.getD_eq_getElem?_getD] using this
                        · rw [List.getElem?_append_right (by omega), List.getElem?_append_right (by omega), hfe, hlen1, List.getElem?_append_left (by omega)]
                          have := (hvn (j - es.length * shx.size) (by omega)).step s
                          simpa [List.getD_eq_getElem?_getD] using this)
                      (fun j hj => q2 j (by rw [← hl2]; exact hj)) q3 ⟨by rw [hl2]; exact q1, rfl, _, hheap, by rw [hcsz, o4]⟩
                    rw [hl2] at this
                    rw [hax']
                    exact this
                  · have hr := run_append_grow (P := P) w t ty e' i zv ht hi hzv ax es.length cx olds hlo' holds ay ys.length cy news hln' hnews (by omega) (by omega) (growslice_fits (by omega) hsum)
                    obtain ⟨_, _, p3⟩ := grown_sound hm hB hd (e := e') hlo hln hesx hys' hvo hvn (grownCap_ge w (es.length + ys.length) cx e') (grownCap_le_maxLen w _ cx e' h63) (rest := Builtin.zeroCells zv.cells (grownCap w (es.length + ys.length) cx e' - (es.length + ys.length))) (by rw [size_zeroCells, hzs, hs])
                    obtain ⟨g', s, hm', hV⟩ := p3 nm es.length hget (by omega)
                    exact ⟨_, _, g', hr, s, hm', hV⟩
                · cases h
              · cases h
            · cases h
        · cases h
      · cases h
  · cases h

/-! ### Slice literals -/
theorem fill_row {sh : Sh} (es : List AV) : ∀ (vs : List Value) (i : Nat) (c : Array Value) (L : List (Nat × Value)), L = (vs.zipIdx i).map (fun x => (x.2, x.1)) → es.length = vs.length → (∀ k (h : k < es.length) (h' : k < vs.length), V w g es[k] vs[k]) → (∀ e ∈ es, shOk sh e = true) → (i + es.length) * sh.size ≤ c.size →
    ∃ c', Instr.fill (fun i => some (i * sh.size, sh.size)) c L = some c' ∧ c'.size = c.size ∧ (∀ j, j < es.length * sh.size → V w g ((flat es).getD j .any) (c'.getD (i * sh.size + j) undef)) ∧ ∀ j, j < i * sh.size → c'.getD j undef = c.getD j undef := by
  induction es with
  | nil =>
    intro vs i c L hL hl _ _ _
    obtain rfl : vs = [] := List.eq_nil_of_length_eq_zero (by simpa using hl.symm)
    subst hL
    exact ⟨c, rfl, rfl, by simp, fun _ _ => rfl⟩
  | cons e es ih =>
    intro vs i c L hL hl hv hs hsz
    match vs, hl with
    | v :: vs, hl =>
    subst hL
    have hV : V w g e v := hv 0 (by simp) (by simp)
    have hse := hs e (by simp)
    obtain ⟨v1, v2, _⟩ := V_cells hV hse
    have hxs := shOk_size hse
    simp only [List.length_cons] at hsz
    have hsz2 : (i + (es.length + 1)) * sh.size = i * sh.size + sh.size + es.length * sh.size := by rw [Nat.add_mul, Nat.succ_mul]; omega
    obtain ⟨f1, f2⟩ := foldl_set (i * sh.size) v.cells.toList 0 c (by simp; omega)
    simp only [Nat.add_zero, Array.length_toList] at f2
    have hz : (v.cells.zipIdx.foldl (fun cs (c, j) => cs.setIfInBounds (i * sh.size + j) c) c) = (v.cells.toList.zipIdx.foldl (fun cs (c, j) => cs.setIfInBounds (i * sh.size + j) c) c) := by
      rw [← Array.foldl_toList, Array.toList_zipIdx]
    have hi1 : (i + 1) * sh.size = i * sh.size + sh.size := Nat.succ_mul _ _
    obtain ⟨c', g1, g2, g3, g4⟩ := ih vs (i + 1) (v.cells.toList.zipIdx.foldl (fun cs (c, j) => cs.setIfInBounds (i * sh.size + j) c) c) _ rfl (by simpa using hl)
      (fun k h h' => hv (k + 1) (by simpa using h) (by simpa using h')) (fun x hx => hs x (by simp [hx])) (by rw [f1, Nat.add_mul, hi1]; omega)
    refine ⟨c', ?_, by rw [g2, f1], fun j hj => ?_, fun j hj => ?_⟩
    · simp only [List.zipIdx_cons, List.map_cons, Instr.fill]
      rw [if_neg (by simp; omega), hz]
      exact g1
    · simp only [List.length_cons, Nat.succ_mul] at hj
      simp only [List.flatMap_cons, List.getD_eq_getElem?_getD, List.getElem?_append, hxs]
      by_cases h1 : j < sh.size
      · rw [if_pos h1, g4 _ (by omega), f2, if_pos (by omega)]
        have := v2 j h1
        simpa [List.getD_eq_getElem?_getD, Array.getD_eq_getD_getElem?] using this
      · rw [if_neg h1]
        have := g3 (j - sh.size) (by omega)
        rw [show (i + 1) * sh.size + (j - sh.size) = i * sh.size + j by omega] at this
        simpa [List.getD_eq_getElem?_getD] using this
    · rw [g4 j (by omega), f2, if_neg (by omega)]

theorem buildSlice_sound (hm : MemR B w g m) (hB : B ≤ w.heap.size) {t e n : Nat} {sh : Sh} {ps : Array (Nat × Operand)} {ρ : Operand → AV} {ρ' : Operand → Value} (hρ : ∀ x, V w g (ρ x) (ρ' x)) {v : AV} (ht : P.underlying t = some (.slice e)) (he : elemOk P e sh = true) (hidx : ps.toList.map (·.1) = List.range n)
    (hn : n * sh.size ≤ 16777216) (h : buildSliceA sh (ps.toList.map fun p => ρ p.2) = some v) : Done P B w g (Instr.buildSlice t n (ps.map fun (i, x) => (i, ρ' x))) v m := by
  obtain ⟨i, zv, hi, hs, hpos, hzv, hzs, hna⟩ := elemOk_facts he
  unfold buildSliceA at h
  split at h
  · rename_i hall
    simp only [Option.some.injEq] at h
    subst h
    have hlen : ps.toList.length = n := by have := congrArg List.length hidx; simpa using this
    have hall' : ∀ p ∈ ps.toList, shOk sh (strip (ρ p.2)) = true ∧ pl (strip (ρ p.2)) = true := fun p hp => by
      have := List.all_eq_true.1 hall (ρ p.2) (List.mem_map.2 ⟨p, hp, rfl⟩)
      simpa using this
    generalize hes : (ps.toList.map fun p => ρ p.2).map strip = es
    have hesl : es.length = n := by rw [← hes]; simpa using hlen
    have hesok : ∀ x ∈ es, shOk sh x = true ∧ pl x = true := fun x hx => by
      rw [← hes] at hx
      obtain ⟨y, hy, rfl⟩ := List.mem_map.1 hx
      obtain ⟨p, hp, rfl⟩ := List.mem_map.1 hy
      exact hall' p hp
    let base : Array Value := (Array.range (n * i.size)).map ((if n * i.size = 0 then #[] else zv.cells)[· % (if n * i.size = 0 then #[] else zv.cells : Array Value).size]!)
    obtain ⟨c', g1, g2, g3, g4⟩ := fill_row (w := w) (g := g) (sh := sh) es (ps.toList.map fun p => ρ' p.2) 0 base ((ps.map fun (i, x) => (i, ρ' x)).toList)
      (by
        apply List.ext_getElem
        · simp
        · intro k h1 h2
          have hk : k < ps.toList.length := by simpa using h1
          have : (ps.toList.map (·.1))[k]'(by simpa using hk) = k := by simp [hidx]
          simp at this
          simp [this])
      (by simp [hesl, ← hlen]) (fun k h1 h2 => by
        have hk : k < ps.toList.length := by simpa using h2
        have : es[k] = strip (ρ (ps.toList[k]).2) := by simp [← hes]
        rw [this]
        simp only [List.getElem_map]
        exact V_strip (hρ _)) (fun x hx => (hesok x hx).1) (by simp only [base, Array.size_map, Array.size_range, Nat.zero_add, hesl, hs]; exact Nat.le_refl _)
    have hcs : c'.size = n * sh.size := by rw [g2]; simp [base, hs]
    have hrun : (Instr.buildSlice t n (ps.map fun (i, x) => (i, ρ' x))).run P w = .ok (.slice (some ⟨w.heap.size, 0, none⟩) n n) (w.alloc (.cells c' e)) := by
      have hns : ¬ (2 ^ 24 < n * i.size) := by rw [hs]; omega
      rw [← hs] at g1
      by_cases h0 : n * i.size = 0
      · have hb : base = (Array.range (n * i.size)).map ((#[] : Array Value)[· % (#[] : Array Value).size]!) := by simp [base, h0]
        rw [hb] at g1
        simp only [Instr.buildSlice, Sem.run_bind, run_underlying ht, Result.andThen_ok, run_sizeOf hi, Sem.run_ite, if_neg hns, Sem.run_pure, if_pos h0, g1]
        rfl
      · have hb : base = (Array.range (n * i.size)).map (zv.cells[· % zv.cells.size]!) := by simp [base, h0]
        rw [hb] at g1
        have hz : (zeroValue e).run P w = .ok zv w := by simp [zeroValue, typeInfo, hi, hzv]
        simp only [Instr.buildSlice, Sem.run_bind, run_underlying ht, Result.andThen_ok, run_sizeOf hi, Sem.run_ite, if_neg hns, Sem.run_pure, if_neg h0, hz, g1]
        rfl
    obtain ⟨s, hm'⟩ := hm.alloc_imm hB (.cells c' e)
    have hV := V_of_row (w := w.alloc (.cells c' e)) (g := g) (sh := sh) (o := .full) (es := es) (cap := n) (heap_alloc_new w _) (by omega) (by
        have h1 : n ≤ n * sh.size := Nat.le_mul_of_pos_right _ (by omega)
        simp only [maxLen]; omega) hesok (by rw [hesl, hcs]; exact Nat.le_refl _) (fun j hj => by
        have := (g3 j hj).step s
        simpa using this) (fun j _ h => Nat.lt_irrefl _ (hm.wrLt _ _ h)) (fun h => Nat.lt_irrefl _ (hm.boxLt _ h)) (show n = es.length from hesl.symm)
    rw [hesl] at hV
    exact ⟨_, _, g, hrun, s, hm', hV⟩
  · cases h

theorem makeT_sound (hm : MemR B w g m) (hB : B ≤ w.heap.size) {d : Option Nat} {t e : Nat} {sh : Sh} {z l c v : AV} {m' : Mem} {l' c' : Value} (ht : P.underlying t = some (.slice e)) (hsh : shOf P e = some sh) (he : elemOk P e sh = true) (hz : zeroOf P e = some z)
    (hl : V w g l l') (hc : V w g c c') (h : makeT d sh z (bytesOf P e) m l c = some (v, m')) : Done P B w g (Instr.makeSlice t l' c') v m' := by
  obtain ⟨i, zv, hi, hs, hpos, hzv, hzs, hna⟩ := elemOk_facts he
  obtain ⟨i2, zv2, hi2, hzv2, rfl⟩ := zero_facts hz
  obtain rfl : i = i2 := by simpa [hi] using hi2
  obtain rfl : zv = zv2 := by simpa [hzv] using hzv2
  have hb : i.bytes ≤ bytesOf P e := by simp [bytesOf, hi]; omega
  have hz2 : zv.cells.size = sh.size := by omega
  unfold makeT at h
  split at h
  · rename_i kl l kc c
    cases hl; cases hc
    split at h
    · rename_i hcond
      obtain ⟨⟨h0, hlc, hby, h63⟩, hat, hpl⟩ := hcond
      subst hlc
      simp only [Option.some.injEq, Prod.mk.injEq] at h
      obtain ⟨rfl, rfl⟩ := h
      have hby : l * (i.bytes : Int) ≤ 281474976710656 := Int.le_trans (Int.mul_le_mul_of_nonneg_left (by omega) (by omega)) hby
      have hr := run_make (P := P) w t e i zv ht hi hzv kl kc l l h0 (Int.le_refl _) (by rw [Int.mul_comm]; exact hby) h63
      have hshn : (valA zv).cells = [valA zv] := by
        have h1 : valA zv = atomA zv := by
          unfold valA
          split
          · exact absurd rfl (hna rfl _)
          · rfl
        rw [h1]
        unfold atomA; split <;> rfl
      obtain ⟨z1, z2⟩ := zeros_facts (sh := none) (n := l.toNat) hz2 (fun _ => hshn) w g
      obtain ⟨s, hm'⟩ := hm.alloc_imm hB (.cells (madeCells zv.cells (l.toNat * i.size)) e)
      have hs1 : i.size = 1 := hs
      have hV := V_of_row (w := w.alloc (.cells (madeCells zv.cells (l.toNat * i.size)) e)) (g := g) (sh := none) (o := .full) (es := List.replicate l.toNat (valA zv)) (cap := l.toNat) (heap_alloc_new w _) (by rw [List.length_replicate]; exact Nat.le_refl _) (by simp only [maxLen]; omega)
        (fun x hx => by
          obtain ⟨_, rfl⟩ := List.mem_replicate.1 hx
          exact ⟨hat, hpl⟩) (by rw [List.length_replicate, size_madeCells, hs]; exact Nat.le_refl _) (fun j hj => by
          have hfl : flat (List.replicate l.toNat (valA zv)) = zeros none (valA zv) l.toNat := by
            unfold flat zeros
            induction l.toNat with
            | zero => rfl
            | succ n ih => rw [List.replicate_succ, List.flatMap_cons, ih, hshn]; rfl
          rw [hfl]
          rw [List.length_replicate] at hj
          have := (z2 j hj).step s
          rw [madeCells_getD _ _ _ (by omega) (by rw [hs]; exact hj)]
          exact this) (fun j _ h => Nat.lt_irrefl _ (hm.wrLt _ _ h)) (fun h => Nat.lt_irrefl _ (hm.boxLt _ h)) (show l.toNat = (List.replicate l.toNat (valA zv)).length from List.length_replicate.symm)
      rw [List.length_replicate] at hV
      exact ⟨_, _, g, hr, s, hm', hV⟩
    · cases h
  · cases h

end
end Go.Ab
