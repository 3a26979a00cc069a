/- Values that leave a call, or come into one: they stand for the same, whatever is known of names. -/
import Derived.Test.YtlapgjmmlbnehaaAAbApp
set_option linter.unusedVariables false
set_option linter.unusedSimpArgs false
namespace Go.Ab
open Go.RowKit

mutual
theorem pl_cl : ∀ x, pl x = true → cl x = true
  | .int .., _ | .bool _, _ | .str _, _ | .nilp, _ | .nilf, _ | .nile, _ => rfl
  | .lst _ _ o _, h => by cases o <;> first | rfl | (simp [pl] at h)
  | .agg cs, h => by simp only [pl] at h; simp only [cl]; exact plL_clL cs h
  | .any, h | .arr .., h | .ptr .., h | .vptr _, h | .tup _, h | .fn .., h => by simp [pl] at h
theorem plL_clL : ∀ cs, plL cs = true → clL cs = true
  | [], _ => rfl
  | c :: cs, h => by
    simp only [plL, Bool.and_eq_true] at h
    simp only [clL, Bool.and_eq_true]
    exact ⟨pl_cl c h.1, plL_clL cs h.2⟩
end
mutual
theorem pl_noV : ∀ x, pl x = true → noV x = true
  | .int .., _ | .bool _, _ | .str _, _ | .nilp, _ | .nilf, _ | .nile, _ | .lst .., _ => rfl
  | .agg cs, h => by simp only [pl] at h; simp only [noV]; exact plL_noVL cs h
  | .any, h | .arr .., h | .ptr .., h | .vptr _, h | .tup _, h | .fn .., h => by simp [pl] at h
theorem plL_noVL : ∀ cs, plL cs = true → noVL cs = true
  | [], _ => rfl
  | c :: cs, h => by
    simp only [plL, Bool.and_eq_true] at h
    simp only [noVL, Bool.and_eq_true]
    exact ⟨pl_noV c h.1, plL_noVL cs h.2⟩
end
theorem plL_mem : ∀ {cs : List AV}, plL cs = true → ∀ x ∈ cs, pl x = true
  | [], _, x, hx => by simp at hx
  | c :: cs, h, x, hx => by
    simp only [plL, Bool.and_eq_true] at h
    rcases List.mem_cons.1 hx with rfl | hx
    · exact h.1
    · exact plL_mem h.2 x hx
theorem clL_mem : ∀ {cs : List AV}, clL cs = true → ∀ x ∈ cs, cl x = true
  | [], _, x, hx => by simp at hx
  | c :: cs, h, x, hx => by
    simp only [clL, Bool.and_eq_true] at h
    rcases List.mem_cons.1 hx with rfl | hx
    · exact h.1
    · exact clL_mem h.2 x hx
theorem clL_of : ∀ {cs : List AV}, (∀ x ∈ cs, cl x = true) → clL cs = true
  | [], _ => rfl
  | c :: cs, h => by
    simp only [clL, Bool.and_eq_true]
    exact ⟨h c (by simp), clL_of fun x hx => h x (by simp [hx])⟩
theorem noVL_mem : ∀ {cs : List AV}, noVL cs = true → ∀ x ∈ cs, noV x = true
  | [], _, x, hx => by simp at hx
  | c :: cs, h, x, hx => by
    simp only [noVL, Bool.and_eq_true] at h
    rcases List.mem_cons.1 hx with rfl | hx
    · exact h.1
    · exact noVL_mem h.2 x hx
theorem pl_cells {x : AV} (h : pl x = true) : ∀ c ∈ x.cells, pl c = true := by
  intro c hc
  cases x <;> first | (simp [AV.cells] at hc; subst hc; exact h) | (simp [pl] at h; done) | skip
  rename_i cs
  simp only [pl] at h
  exact plL_mem h c hc
theorem getD_mem {cs : List AV} {j : Nat} (h : j < cs.length) : cs.getD j .any ∈ cs := by
  rw [List.getD_eq_getElem?_getD, List.getElem?_eq_getElem h]; exact List.getElem_mem h

section
variable {w : World} {g g2 : G}

/-- A value without names, where less may be written (beside variables, where it holds no place) and no more is a variable. -/
theorem V_cl' {x : AV} {v : Value} {nv : Bool} (h : V w g x v) (hc : cl x = true) (hn : nv = true → noV x = true) (hwr : ∀ b off, g2.wr b off → g.wr b off ∨ g.box b ∧ nv = true) (hbx : ∀ b, g2.box b → g.box b) : V w g2 x v := by
  induction h with
  | any => exact .any _
  | int => exact .int _ _
  | bool => exact .bool _
  | str => exact .str _
  | nils sh o ho => exact .nils sh o ho
  | lst sh o es a cap us hs hc' hm hsh hcell hv ho ih =>
    refine .lst sh o es a cap us hs hc' hm hsh (fun j hj => ?_) (fun j hj => ih j hj ?_ fun _ => ?_) ?_
    · obtain ⟨h1, h2, h3⟩ := hcell j hj
      exact ⟨h1, fun h => (hwr _ _ h).elim h2 fun h => h3 h.1, fun h => h3 (hbx _ h)⟩
    · obtain ⟨e, he, hx⟩ := List.mem_flatMap.1 (getD_mem hj)
      exact pl_cl _ (pl_cells (hsh e he).2 _ hx)
    · obtain ⟨e, he, hx⟩ := List.mem_flatMap.1 (getD_mem hj)
      exact pl_noV _ (pl_cells (hsh e he).2 _ hx)
    · cases o with
      | no => trivial
      | full => exact ho
      | tok => simp [cl] at hc
  | arr => simp [cl] at hc
  | ptr => simp [cl] at hc
  | vptr cs b off us hcell hv ih =>
    simp only [cl] at hc
    have hnv : nv = false := by
      cases nv with
      | false => rfl
      | true => have := hn rfl; simp [noV] at this
    subst hnv
    refine .vptr cs b off us (fun j hj => ?_) (fun j hj => ih j hj (clL_mem hc _ (getD_mem hj)) (fun h => by cases h))
    obtain ⟨h1, h2⟩ := hcell j hj
    exact ⟨h1, fun h => (hwr _ _ h).elim h2 fun h => by cases h.2⟩
  | nilp => exact .nilp
  | nilf => exact .nilf
  | nile => exact .nile
  | agg cs vs hl hv ih =>
    simp only [cl] at hc
    exact .agg cs vs hl fun j hj => ih j hj (clL_mem hc _ (getD_mem hj)) fun h => noVL_mem (by simpa [noV] using hn h) _ (getD_mem hj)
  | tup cs vs hl hv ih =>
    simp only [cl] at hc
    exact .tup cs vs hl fun j hj => ih j hj (clL_mem hc _ (getD_mem hj)) fun h => noVL_mem (by simpa [noV] using hn h) _ (getD_mem hj)
  | fn f cs vs hl hv ih =>
    simp only [cl] at hc
    exact .fn f cs vs hl fun j hj => ih j hj (clL_mem hc _ (getD_mem hj)) fun h => noVL_mem (by simpa [noV] using hn h) _ (getD_mem hj)

theorem V_cl {x : AV} {v : Value} (h : V w g x v) (hc : cl x = true) (hwr : ∀ b off, g2.wr b off → g.wr b off) (hbx : ∀ b, g2.box b → g.box b) : V w g2 x v :=
  V_cl' (nv := false) h hc (fun h => by cases h) (fun b off h => .inl (hwr b off h)) hbx

theorem mapF_facts (f : AV → Option (AV × List Nat)) : ∀ (cs rs : List AV) (l : List Nat), mapF f cs = some (rs, l) → rs.length = cs.length ∧ (∀ j, j < cs.length → ∃ lj, f (cs.getD j .any) = some (rs.getD j .any, lj) ∧ ∀ nm ∈ lj, nm ∈ l) ∧ ∀ nm ∈ l, ∃ j lj, j < cs.length ∧ f (cs.getD j .any) = some (rs.getD j .any, lj) ∧ nm ∈ lj
  | [], rs, l, h => by simp [mapF] at h; obtain ⟨rfl, rfl⟩ := h; simp
  | c :: cs, rs, l, h => by
    simp only [mapF, Option.bind_eq_some_iff, Option.map_eq_some_iff, Prod.mk.injEq] at h
    obtain ⟨⟨r, l1⟩, h1, ⟨rs', l2⟩, h2, rfl, rfl⟩ := h
    obtain ⟨k1, k2, k3⟩ := mapF_facts f cs rs' l2 h2
    refine ⟨by simp [k1], fun j hj => ?_, fun nm hnm => ?_⟩
    · cases j with
      | zero => exact ⟨l1, by simpa using h1, fun nm hn => List.mem_append.2 (.inl hn)⟩
      | succ j =>
        obtain ⟨lj, a1, a2⟩ := k2 j (by simpa using hj)
        exact ⟨lj, by simpa using a1, fun nm hn => List.mem_append.2 (.inr (a2 nm hn))⟩
    · rcases List.mem_append.1 hnm with hn | hn
      · exact ⟨0, l1, by simp, by simpa using h1, hn⟩
      · obtain ⟨j, lj, a1, a2, a3⟩ := k3 nm hn
        exact ⟨j + 1, lj, by simpa using a1, by simpa using a2, a3⟩

theorem groupBy_facts (n : Nat) (hn : 0 < n) : ∀ (k : Nat) (cs : List AV), cs.length = k * n → (groupBy n k cs).length = k ∧ (groupBy n k cs).flatten = cs ∧ ∀ x ∈ groupBy n k cs, x.length = n ∧ ∀ c ∈ x, c ∈ cs
  | 0, cs, h => by
    have : cs = [] := List.eq_nil_of_length_eq_zero (by simpa using h)
    subst this; simp [groupBy]
  | k + 1, cs, h => by
    rw [Nat.succ_mul] at h
    obtain ⟨h1, h2, h3⟩ := groupBy_facts n hn k (cs.drop n) (by simp; omega)
    refine ⟨by simp [groupBy, h1], by simp [groupBy, h2], fun x hx => ?_⟩
    simp only [groupBy, List.mem_cons] at hx
    rcases hx with rfl | hx
    · exact ⟨by simp; omega, fun c hc => List.mem_of_mem_take hc⟩
    · exact ⟨(h3 x hx).1, fun c hc => List.mem_of_mem_drop ((h3 x hx).2 c hc)⟩

theorem grp_facts {sh : Sh} {k : Nat} {cs : List AV} (hl : cs.length = k * sh.size) (hpos : 0 < sh.size) (hat : ∀ c ∈ cs, atomOk c = true) (hpl : ∀ c ∈ cs, pl c = true) :
    (grp sh k cs).length = k ∧ flat (grp sh k cs) = cs ∧ ∀ e ∈ grp sh k cs, shOk sh e = true ∧ pl e = true := by
  cases sh with
  | none =>
    simp only [Sh.size, Nat.mul_one] at hl
    have ht : cs.take k = cs := List.take_of_length_le (by omega)
    simp only [grp, ht]
    refine ⟨hl, ?_, fun e he => ⟨hat e he, hpl e he⟩⟩
    have hc1 : ∀ l : List AV, (∀ c ∈ l, atomOk c = true) → flat l = l := by
      intro l
      induction l with
      | nil => intro _; rfl
      | cons c l ih =>
        intro h
        have hc : c.cells = [c] := by
          have := h c (by simp)
          cases c <;> first | rfl | (simp [atomOk] at this)
        show c.cells ++ flat l = c :: l
        rw [hc, ih fun x hx => h x (by simp [hx])]; rfl
    exact hc1 cs hat
  | some n =>
    simp only [Sh.size] at hl hpos
    obtain ⟨h1, h2, h3⟩ := groupBy_facts n hpos k cs hl
    have hplL : ∀ l : List AV, (∀ c ∈ l, pl c = true) → plL l = true := by
      intro l
      induction l with
      | nil => intro _; rfl
      | cons c l ih => intro h; simp only [plL, Bool.and_eq_true]; exact ⟨h c (by simp), ih fun x hx => h x (by simp [hx])⟩
    refine ⟨by simp [grp, h1], ?_, fun e he => ?_⟩
    · have hfl : ∀ L : List (List AV), flat (L.map .agg) = L.flatten := by
        intro L
        induction L with
        | nil => rfl
        | cons x L ih =>
          show (AV.agg x).cells ++ flat (L.map .agg) = x ++ L.flatten
          rw [ih]; rfl
      show flat ((groupBy n k cs).map .agg) = cs
      rw [hfl, h2]
    · obtain ⟨x, hx, rfl⟩ := List.mem_map.1 he
      obtain ⟨a1, a2⟩ := h3 x hx
      refine ⟨?_, ?_⟩
      · simp only [shOk, Bool.and_eq_true, beq_iff_eq, List.all_eq_true]
        exact ⟨a1, fun c hc => hat c (a2 c hc)⟩
      · simp only [pl]; exact hplL x fun c hc => hpl c (a2 c hc)

variable {B : Nat} {m : Mem}
theorem frz_sound (hm : MemR B w g m) : ∀ (k : Nat) (x x' : AV) (l : List Nat) (v : Value), V w g x v → frz m k x = some (x', l) →
    (∀ nm ∈ l, ∃ cs, m.get nm = some (.obj false cs)) ∧ cl x' = true ∧
    ∀ g2 : G, (∀ b off, g2.wr b off → g.wr b off) → (∀ b, g2.box b → g.box b) → (∀ nm ∈ l, ∀ b, g.loc nm = some b → ∀ off, ¬ g2.wr b off) → (noV x' = true ∨ ∀ nm cs b, m.get nm = some (.obj true cs) → g.loc nm = some b → ∀ off, ¬ g2.wr b off) → V w g2 x' v := by
  intro k
  induction k with
  | zero => intro x x' l v _ h; simp [frz] at h
  | succ k ih =>
    intro x x' l v hV h
    -- lists of parts
    have hlist : ∀ (cs rs : List AV) (l : List Nat) (f : Nat → Value), (∀ j, j < cs.length → V w g (cs.getD j .any) (f j)) → mapF (frz m k) cs = some (rs, l) →
        (∀ nm ∈ l, ∃ cs, m.get nm = some (.obj false cs)) ∧ clL rs = true ∧ rs.length = cs.length ∧
        ∀ g2 : G, (∀ b off, g2.wr b off → g.wr b off) → (∀ b, g2.box b → g.box b) → (∀ nm ∈ l, ∀ b, g.loc nm = some b → ∀ off, ¬ g2.wr b off) → (noVL rs = true ∨ ∀ nm cs b, m.get nm = some (.obj true cs) → g.loc nm = some b → ∀ off, ¬ g2.wr b off) → ∀ j, j < rs.length → V w g2 (rs.getD j .any) (f j) := by
      intro cs rs l f hv hmap
      obtain ⟨k1, k2, k3⟩ := mapF_facts _ _ _ _ hmap
      refine ⟨fun nm hn => ?_, clL_of fun x hx => ?_, k1, fun g2 c1 c2 c3 c4 j hj => ?_⟩
      · obtain ⟨j, lj, a1, a2, a3⟩ := k3 nm hn
        exact (ih _ _ _ _ (hv j a1) a2).1 nm a3
      · obtain ⟨j, hj, rfl⟩ := List.mem_iff_getElem.1 hx
        obtain ⟨lj, a1, _⟩ := k2 j (by omega)
        have := (ih _ _ _ _ (hv j (by omega)) a1).2.1
        simpa [List.getD_eq_getElem?_getD, hj] using this
      · obtain ⟨lj, a1, a2⟩ := k2 j (by omega)
        refine (ih _ _ _ _ (hv j (by omega)) a1).2.2 g2 c1 c2 (fun nm hn => c3 nm (a2 nm hn)) (c4.imp (fun h => ?_) id)
        exact noVL_mem h _ (getD_mem hj)
    cases hV with
    | any => simp [frz] at h; obtain ⟨rfl, rfl⟩ := h; exact ⟨by simp, rfl, fun _ _ _ _ _ => .any _⟩
    | int => simp [frz] at h; obtain ⟨rfl, rfl⟩ := h; exact ⟨by simp, rfl, fun _ _ _ _ _ => .int _ _⟩
    | bool => simp [frz] at h; obtain ⟨rfl, rfl⟩ := h; exact ⟨by simp, rfl, fun _ _ _ _ _ => .bool _⟩
    | str => simp [frz] at h; obtain ⟨rfl, rfl⟩ := h; exact ⟨by simp, rfl, fun _ _ _ _ _ => .str _⟩
    | nilp => simp [frz] at h; obtain ⟨rfl, rfl⟩ := h; exact ⟨by simp, rfl, fun _ _ _ _ _ => .nilp⟩
    | nilf => simp [frz] at h; obtain ⟨rfl, rfl⟩ := h; exact ⟨by simp, rfl, fun _ _ _ _ _ => .nilf⟩
    | nile => simp [frz] at h; obtain ⟨rfl, rfl⟩ := h; exact ⟨by simp, rfl, fun _ _ _ _ _ => .nile⟩
    | nils sh o ho =>
      rcases ho with rfl | rfl <;> (simp [frz] at h; obtain ⟨rfl, rfl⟩ := h; exact ⟨by simp, rfl, fun _ _ _ _ _ => .nils _ _ (by simp)⟩)
    | lst sh o es a cap us hs hc hmx hsh hcell hv ho =>
      have hno : V w g (.lst sh false .no es) (.slice (some a) es.length cap) := .lst sh .no es a cap us hs hc hmx hsh hcell hv trivial
      have hV' : V w g (.lst sh false o es) (.slice (some a) es.length cap) := .lst sh o es a cap us hs hc hmx hsh hcell hv ho
      cases o with
      | no => simp [frz] at h; obtain ⟨rfl, rfl⟩ := h; exact ⟨by simp, rfl, fun g2 c1 c2 _ _ => V_cl hV' rfl c1 c2⟩
      | full => simp [frz] at h; obtain ⟨rfl, rfl⟩ := h; exact ⟨by simp, rfl, fun g2 c1 c2 _ _ => V_cl hV' rfl c1 c2⟩
      | tok => simp [frz] at h; obtain ⟨rfl, rfl⟩ := h; exact ⟨by simp, rfl, fun g2 c1 c2 _ _ => V_cl hno rfl c1 c2⟩
    | arr nm off n sh a cap hs hc hmx hl =>
      simp only [frz, Option.bind_eq_some_iff] at h
      obtain ⟨⟨bx, cs⟩, hobj, h⟩ := h
      simp only at h
      split at h
      · rename_i hcond
        simp only [Bool.and_eq_true, Bool.not_eq_true', decide_eq_true_eq] at hcond
        obtain ⟨rfl, hle⟩ := hcond
        simp only [Option.bind_eq_some_iff] at h
        obtain ⟨⟨rs, l1⟩, hmap, h⟩ := h
        simp only at h
        split at h
        · rename_i hok
          simp only [Bool.and_eq_true, List.all_eq_true] at hok
          obtain ⟨hat, hpl⟩ := hok
          simp only [Option.some.injEq, Prod.mk.injEq] at h
          obtain ⟨rfl, rfl⟩ := h
          have hget := obj?_get hobj
          obtain ⟨b, c, e, o1, o2, o3, o4, o5, o6, o7⟩ := hm.obj nm false cs hget
          obtain ⟨p1, p2, p3, p4⟩ := hlist ((cs.drop off).take (n * sh.size)) rs l1 (fun j => c.getD (off + j) undef) (fun j hj => by
            simp only [List.length_take, List.length_drop] at hj
            have := o5 (off + j) (by omega)
            simpa [List.getD_eq_getElem?_getD, List.getElem?_take, List.getElem?_drop, show j < n * sh.size by omega] using this) hmap
          have hrl : rs.length = n * sh.size := by rw [p3]; simp; omega
          refine ⟨fun x hx => ?_, rfl, fun g2 c1 c2 c3 c4 => ?_⟩
          · rcases List.mem_cons.1 hx with rfl | hx
            · exact ⟨cs, hget⟩
            · exact p1 x hx
          · have hrs : ∀ c ∈ rs, pl c = true := plL_mem hpl
            by_cases hn0 : n = 0
            · subst hn0
              have hg0 : grp sh 0 rs = [] := by cases sh <;> simp [grp, groupBy]
              rw [hg0]
              exact .lst sh .no [] a cap (fun _ => undef) hs (Nat.zero_le _) hmx (by simp) (by simp) (by simp) trivial
            · obtain ⟨hl1, ha⟩ := hl.resolve_left hn0
              obtain rfl : a.block = b := by simpa [hl1] using o1
              by_cases hsz : sh.size = 0
              · -- elements of no cells do not occur: their rows are empty
                cases sh with
                | none => simp [Sh.size] at hsz
                | some s =>
                  simp only [Sh.size] at hsz
                  subst hsz
                  have hnil : rs = [] := List.eq_nil_of_length_eq_zero (by rw [hrl]; simp [Sh.size])
                  subst hnil
                  have hg : ∀ n, groupBy 0 n ([] : List AV) = List.replicate n [] := by
                    intro n
                    induction n with
                    | zero => rfl
                    | succ n ih => simp [groupBy, ih, List.replicate_succ]
                  have hes : grp (some 0) n [] = List.replicate n (.agg []) := by simp [grp, hg]
                  have hlen : n = (grp (some 0) n []).length := by rw [hes]; simp
                  have hfl : flat (grp (some 0) n []) = [] := by
                    rw [hes]
                    have : ∀ n, flat (List.replicate n (.agg [])) = [] := by
                      intro n
                      induction n with
                      | zero => rfl
                      | succ n ih =>
                        show (AV.agg []).cells ++ flat (List.replicate n (.agg [])) = []
                        rw [ih]; rfl
                    exact this n
                  have hV := V.lst (w := w) (g := g2) (some 0) .no (grp (some 0) n []) a cap (fun _ => undef) hs (by omega) hmx (fun e he => by
                    rw [hes] at he
                    obtain rfl := List.eq_of_mem_replicate he
                    exact ⟨rfl, rfl⟩) (by rw [hfl]; simp) (by rw [hfl]; simp) trivial
                  rw [← hlen] at hV
                  exact hV
              · obtain ⟨q1, q2, q3⟩ := grp_facts hrl (by omega) hat hrs
                have hV := V.lst (w := w) (g := g2) sh .no (grp sh n rs) a cap (fun j => c.getD (off + j) undef) hs (by omega) hmx q3 (fun j hj => by
                    rw [q2, hrl] at hj
                    have haoff : a.off = off := by rw [ha]
                    refine ⟨?_, c3 nm (by simp) _ hl1 _, fun hb => ?_⟩
                    · rw [haoff, cell_of_row w _ _ c e (0, 0) o3]
                      simp [Array.getD, show off + j < c.size by omega]
                    · have := o7.1 (c2 _ hb)
                      cases this) (fun j hj => by
                    rw [q2] at hj ⊢
                    refine p4 g2 c1 c2 (fun x hx => c3 x (by simp [hx])) (.inl ?_) j hj
                    exact plL_noVL rs hpl) trivial
                rw [q1] at hV
                exact hV
        · cases h
      · cases h
    | ptr nm off b hl =>
      simp only [frz, Option.bind_eq_some_iff] at h
      obtain ⟨⟨bx, cs⟩, hobj, h⟩ := h
      simp only at h
      split at h
      · rename_i hbx
        simp only [Option.map_eq_some_iff, Prod.mk.injEq] at h
        obtain ⟨⟨rs, l1⟩, hmap, rfl, rfl⟩ := h
        have hget := obj?_get hobj
        obtain ⟨b', c, e, o1, o2, o3, o4, o5, o6, o7⟩ := hm.obj nm bx cs hget
        obtain rfl : b = b' := by simpa [hl] using o1
        obtain ⟨p1, p2, p3, p4⟩ := hlist (cs.drop off) rs l1 (fun j => c.getD (off + j) undef) (fun j hj => by
          simp only [List.length_drop] at hj
          have := o5 (off + j) (by omega)
          simpa [List.getD_eq_getElem?_getD, List.getElem?_drop] using this) hmap
        refine ⟨p1, by simpa [cl] using p2, fun g2 c1 c2 c3 c4 => ?_⟩
        have c4' := c4.resolve_left (by simp [noV])
        refine .vptr rs b off (fun j => c.getD (off + j) undef) (fun j hj => ?_) (p4 g2 c1 c2 c3 (.inr c4'))
        rw [p3] at hj
        simp only [List.length_drop] at hj
        refine ⟨?_, c4' nm cs _ (hbx ▸ hget) hl _⟩
        rw [cell_of_row w _ _ c e (0, 0) o3]
        simp [Array.getD, show off + j < c.size by omega]
      · cases h
    | vptr cs b off us hcell hv =>
      simp only [frz, Option.map_eq_some_iff, Prod.mk.injEq] at h
      obtain ⟨⟨rs, l1⟩, hmap, rfl, rfl⟩ := h
      obtain ⟨p1, p2, p3, p4⟩ := hlist cs rs l1 us hv hmap
      refine ⟨p1, by simpa [cl] using p2, fun g2 c1 c2 c3 c4 => ?_⟩
      refine .vptr rs b off us (fun j hj => ?_) (p4 g2 c1 c2 c3 (.inr (c4.resolve_left (by simp [noV]))))
      rw [p3] at hj
      exact ⟨(hcell j hj).1, fun h => (hcell j hj).2 (c1 _ _ h)⟩
    | agg cs vs hl hv =>
      simp only [frz, Option.map_eq_some_iff, Prod.mk.injEq] at h
      obtain ⟨⟨rs, l1⟩, hmap, rfl, rfl⟩ := h
      obtain ⟨p1, p2, p3, p4⟩ := hlist cs rs l1 _ hv hmap
      exact ⟨p1, by simpa [cl] using p2, fun g2 c1 c2 c3 c4 => .agg _ _ (p3.trans hl) (p4 g2 c1 c2 c3 (c4.imp (fun h => by simpa [noV] using h) id))⟩
    | tup cs vs hl hv =>
      simp only [frz, Option.map_eq_some_iff, Prod.mk.injEq] at h
      obtain ⟨⟨rs, l1⟩, hmap, rfl, rfl⟩ := h
      obtain ⟨p1, p2, p3, p4⟩ := hlist cs rs l1 _ hv hmap
      exact ⟨p1, by simpa [cl] using p2, fun g2 c1 c2 c3 c4 => .tup _ _ (p3.trans hl) (p4 g2 c1 c2 c3 (c4.imp (fun h => by simpa [noV] using h) id))⟩
    | fn f cs vs hl hv =>
      simp only [frz, Option.map_eq_some_iff, Prod.mk.injEq] at h
      obtain ⟨⟨rs, l1⟩, hmap, rfl, rfl⟩ := h
      obtain ⟨p1, p2, p3, p4⟩ := hlist cs rs l1 _ hv hmap
      exact ⟨p1, by simpa [cl] using p2, fun g2 c1 c2 c3 c4 => .fn _ _ _ (p3.trans hl) (p4 g2 c1 c2 c3 (c4.imp (fun h => by simpa [noV] using h) id))⟩
end
end Go.Ab
