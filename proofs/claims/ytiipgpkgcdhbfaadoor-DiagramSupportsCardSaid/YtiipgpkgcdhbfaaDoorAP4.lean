/- The nodes of a diagram in postorder; the reference's list. Plain Lean. -/
import Derived.Test.YtiipgpkgcdhbfaaDoorAP3
import Derived.Test.YtiipgpkgcdhbfaaDoorAP2
import Derived.Test.YtiipgpkgcdhbfaaDoorAP1
import Derived.Test.YtiipgpkgcdhbfaaDoorProg
import Derived.Tactics
import Derived.Tactics2
import Derived.Defers
import Derived.Recover
import Derived.Laws.Pointers
import Derived.Test.YtiipgpkgcdhbfaaDoorAP0
import Derived.ProofKit
import Derived.OpenShut
import Derived.ChangeArms
import Derived.LaidMore
import Derived.Lay
import Derived.KernelRfl
import Derived.Test.YtiipgpkgcdhbfaaDoorRows
set_option linter.unusedVariables false
set_option linter.unusedSimpArgs false
namespace Go.Ab

def vis (l : List ND) : Nat → Nat → List Nat → List Nat
  | 0, _, out => out
  | n + 1, id, out => if id ∈ out then out else match l[id]? with
    | none => out
    | some x => (x.kids.foldl (fun o k => vis l n k.toNat o) out) ++ [id]
def Vi (l : List ND) (id : Nat) (out : List Nat) : List Nat := vis l (id + 1) id out
def Vis (l : List ND) (ks : List Int) (out : List Nat) : List Nat := ks.foldl (fun o k => Vi l k.toNat o) out
theorem foldl_same {α β : Type} {f g : β → α → β} : ∀ (l : List α) (b : β), (∀ x ∈ l, ∀ b, f b x = g b x) → l.foldl f b = l.foldl g b
  | [], _, _ => rfl
  | x :: l, b, h => by
    rw [List.foldl_cons, List.foldl_cons, h x List.mem_cons_self, foldl_same l _ fun y hy => h y (List.mem_cons_of_mem _ hy)]
section
variable {ar : List Int} {l : List ND}
theorem kid_lt (g : GoodL ar l) {i : Nat} (hi : i < l.length) : ∀ k ∈ l[i].kids, ∃ t : Nat, k = t ∧ t < i := fun k hk => by
  by_cases hv : 0 ≤ l[i].var
  · obtain ⟨t, e, ht, _⟩ := g.kid i hi hv k hk
    exact ⟨t, e, ht⟩
  · rcases g.ok _ (List.getElem_mem hi) with ⟨_, h2, _⟩ | ⟨h1, _⟩
    · rw [h2] at hk; cases hk
    · omega
theorem vis_fuel (g : GoodL ar l) : ∀ (n id m : Nat) (out : List Nat), id < l.length → id < n → id < m → vis l n id out = vis l m id out
  | 0, id, m, _, _, h, _ => by omega
  | n + 1, id, 0, _, _, _, h => by omega
  | n + 1, id, m + 1, out, hi, _, _ => by
    simp only [vis, List.getElem?_eq_getElem hi]
    rw [foldl_same l[id].kids out fun k hk b => ?_]
    obtain ⟨t, rfl, ht⟩ := kid_lt g hi k hk
    exact vis_fuel g n _ m b (by omega) (by simp; omega) (by simp; omega)
theorem Vi_eq (g : GoodL ar l) {id : Nat} (hi : id < l.length) (out : List Nat) : Vi l id out = if id ∈ out then out else Vis l l[id].kids out ++ [id] := by
  unfold Vi Vis
  rw [vis, List.getElem?_eq_getElem hi]
  dsimp only
  rw [foldl_same l[id].kids out fun k hk b => ?_]
  obtain ⟨t, rfl, ht⟩ := kid_lt g hi k hk
  exact vis_fuel g id _ _ b (by omega) (by simp; omega) (by simp [Vi])
theorem Vis_nil (out : List Nat) : Vis l [] out = out := rfl
theorem Vis_cons (k : Int) (ks : List Int) (out : List Nat) : Vis l (k :: ks) out = Vis l ks (Vi l k.toNat out) := rfl
/-- Each node behind its kids, none twice. -/
structure Cl (l : List ND) (out : List Nat) : Prop where
  nd : out.Nodup
  lt : ∀ j ∈ out, j < l.length
  cl : ∀ i (h : i < out.length) (hj : out[i] < l.length), ∀ k ∈ l[out[i]].kids, k.toNat ∈ out.take i
theorem cl_nil : Cl l [] := ⟨by simp, by simp, fun i h => by simp at h⟩
theorem Cl.kids {out : List Nat} (h : Cl l out) {j : Nat} (hj : j ∈ out) (hl : j < l.length) : ∀ k ∈ l[j].kids, k.toNat ∈ out := fun k hk => by
  obtain ⟨i, hi, e⟩ := List.getElem_of_mem hj
  subst e
  exact List.take_subset _ _ (h.cl i hi hl k hk)
theorem Cl.snoc {out : List Nat} (h : Cl l out) {id : Nat} (hi : id < l.length) (hn : id ∉ out) (hk : ∀ k ∈ l[id].kids, k.toNat ∈ out) : Cl l (out ++ [id]) := by
  refine ⟨?_, fun j hj => ?_, fun i h2 hj k hk2 => ?_⟩
  · rw [List.nodup_append]
    exact ⟨h.nd, by simp, fun a ha b hb e => by
      obtain rfl : b = id := by simpa using hb
      exact hn (e ▸ ha)⟩
  · rcases List.mem_append.1 hj with hj | hj
    · exact h.lt j hj
    · obtain rfl : j = id := by simpa using hj
      exact hi
  · by_cases hil : i < out.length
    · rw [List.take_append_of_le_length (by omega)]
      refine h.cl i hil (h.lt _ (List.getElem_mem hil)) k ?_
      have e : (out ++ [id])[i] = out[i] := List.getElem_append_left hil
      rw [List.getElem_of_eq rfl] at hk2
      have : ∀ (y : Nat) (hy : y < l.length), y = out[i] → k ∈ l[y].kids → k ∈ (l[out[i]]'(h.lt _ (List.getElem_mem hil))).kids := fun y hy e h => by subst e; exact h
      exact this _ hj e hk2
    · have hie : i = out.length := by simp at h2; omega
      subst hie
      have e : (out ++ [id])[out.length] = id := by simp
      have : ∀ (y : Nat) (hy : y < l.length), y = id → k ∈ l[y].kids → k ∈ l[id].kids := fun y hy e h => by subst e; exact h
      have := hk k (this _ hj e hk2)
      simpa using this
theorem Vi_facts (g : GoodL ar l) : ∀ id, id < l.length → ∀ out, Cl l out → Cl l (Vi l id out) ∧ id ∈ Vi l id out ∧ ∃ r, Vi l id out = out ++ r ∧ ∀ y ∈ r, y ≤ id := by
  intro id
  induction id using Nat.strongRecOn with
  | ind id ih =>
    intro hi out hc
    have key : ∀ (ks : List Int), (∀ k ∈ ks, ∃ t : Nat, k = t ∧ t < id) → ∀ out, Cl l out → Cl l (Vis l ks out) ∧ (∀ k ∈ ks, k.toNat ∈ Vis l ks out) ∧ ∃ r, Vis l ks out = out ++ r ∧ ∀ y ∈ r, y < id := by
      intro ks
      induction ks with
      | nil => intro _ out hc; exact ⟨hc, by simp, [], by simp [Vis], by simp⟩
      | cons k ks ihk =>
        intro hk out hc
        obtain ⟨t, rfl, ht⟩ := hk k List.mem_cons_self
        obtain ⟨a1, a2, r1, a3, a4⟩ := ih t ht (by omega) out hc
        obtain ⟨b1, b2, r2, b3, b4⟩ := ihk (fun k hk' => hk k (List.mem_cons_of_mem _ hk')) _ a1
        rw [Vis_cons, Int.toNat_natCast]
        refine ⟨b1, fun k hk' => ?_, r1 ++ r2, by rw [b3, a3, List.append_assoc], fun y hy => ?_⟩
        · rcases List.mem_cons.1 hk' with rfl | hk'
          · rw [b3]; exact List.mem_append_left _ (by simpa using a2)
          · exact b2 k hk'
        · rcases List.mem_append.1 hy with hy | hy
          · have := a4 y hy; omega
          · exact b4 y hy
    rw [Vi_eq g hi]
    by_cases hm : id ∈ out
    · rw [if_pos hm]; exact ⟨hc, hm, [], by simp, by simp⟩
    · rw [if_neg hm]
      obtain ⟨b1, b2, r, b3, b4⟩ := key l[id].kids (fun k hk => kid_lt g hi k hk) out hc
      refine ⟨b1.snoc hi (fun h => ?_) b2, by simp, r ++ [id], by rw [b3, List.append_assoc], fun y hy => ?_⟩
      · rw [b3] at h
        rcases List.mem_append.1 h with h | h
        · exact hm h
        · have := b4 _ h; omega
      · rcases List.mem_append.1 hy with hy | hy
        · have := b4 y hy; omega
        · have : y = id := by simpa using hy
          omega
theorem Vis_facts (g : GoodL ar l) {id : Nat} (hi : id < l.length) : ∀ (ks : List Int), (∀ k ∈ ks, ∃ t : Nat, k = t ∧ t < id) → ∀ out, Cl l out → Cl l (Vis l ks out) ∧ (∀ k ∈ ks, k.toNat ∈ Vis l ks out) ∧ ∃ r, Vis l ks out = out ++ r ∧ ∀ y ∈ r, y < id := by
  intro ks
  induction ks with
  | nil => intro _ out hc; exact ⟨hc, by simp, [], by simp [Vis], by simp⟩
  | cons k ks ihk =>
    intro hk out hc
    obtain ⟨t, rfl, ht⟩ := hk k List.mem_cons_self
    obtain ⟨a1, a2, r1, a3, a4⟩ := Vi_facts g t (by omega) out hc
    obtain ⟨b1, b2, r2, b3, b4⟩ := ihk (fun k hk' => hk k (List.mem_cons_of_mem _ hk')) _ a1
    rw [Vis_cons, Int.toNat_natCast]
    refine ⟨b1, fun k hk' => ?_, r1 ++ r2, by rw [b3, a3, List.append_assoc], fun y hy => ?_⟩
    · rcases List.mem_cons.1 hk' with rfl | hk'
      · rw [b3]; exact List.mem_append_left _ (by simpa using a2)
      · exact b2 k hk'
    · rcases List.mem_append.1 hy with hy | hy
      · have := a4 y hy; omega
      · exact b4 y hy
theorem Vis_same (g : GoodL ar l) : ∀ (ks : List Int) (out : List Nat), (∀ k ∈ ks, k.toNat ∈ out ∧ k.toNat < l.length) → Vis l ks out = out
  | [], _, _ => rfl
  | k :: ks, out, h => by
    obtain ⟨h1, h2⟩ := h k List.mem_cons_self
    rw [Vis_cons, Vi_eq g h2, if_pos h1]
    exact Vis_same g ks out fun k hk => h k (List.mem_cons_of_mem _ hk)
/-- What a node adds, where its kids are visited first. -/
theorem Vi_fold (g : GoodL ar l) {id : Nat} (hi : id < l.length) {out : List Nat} (hc : Cl l out) : Vi l id out = if id ∈ Vis l l[id].kids out then Vis l l[id].kids out else Vis l l[id].kids out ++ [id] := by
  rw [Vi_eq g hi]
  by_cases hm : id ∈ out
  · rw [Vis_same g _ _ fun k hk => ⟨hc.kids hm hi k hk, hc.lt _ (hc.kids hm hi k hk)⟩, if_pos hm]
    try rw [if_pos hm]
  · obtain ⟨b1, b2, r, b3, b4⟩ := Vis_facts g hi l[id].kids (fun k hk => kid_lt g hi k hk) out hc
    rw [if_neg hm, if_neg]
    intro h
    rw [b3] at h
    rcases List.mem_append.1 h with h | h
    · exact hm h
    · have := b4 _ h; omega
/-! ### The nodes, told by place in the list -/
def nd (l : List ND) (out : List Nat) (id : Nat) : ND := ⟨(l.getD id ⟨0, [], 0⟩).var, (l.getD id ⟨0, [], 0⟩).kids.map (fun k => ((out.idxOf k.toNat : Nat) : Int)), (l.getD id ⟨0, [], 0⟩).leaf⟩
def mapN (l : List ND) (out : List Nat) : List ND := out.map (nd l out)
theorem getD_at {id : Nat} (hi : id < l.length) : l.getD id ⟨0, [], 0⟩ = l[id] := by rw [List.getD_eq_getElem?_getD, List.getElem?_eq_getElem hi, Option.getD_some]
theorem nd_app {out : List Nat} {id : Nat} (hi : id < l.length) (hk : ∀ k ∈ l[id].kids, k.toNat ∈ out) (r : List Nat) : nd l (out ++ r) id = nd l out id := by
  unfold nd
  rw [getD_at hi]
  congr 1
  refine List.map_congr_left fun k hk' => ?_
  rw [List.idxOf_append, if_pos (hk k hk')]
theorem mapN_snoc {out : List Nat} (hc : Cl l out) {id : Nat} (hi : id < l.length) (hk : ∀ k ∈ l[id].kids, k.toNat ∈ out) : mapN l (out ++ [id]) = mapN l out ++ [nd l out id] := by
  unfold mapN
  rw [List.map_append, List.map_cons, List.map_nil, nd_app hi hk]
  congr 1
  exact List.map_congr_left fun j hj => nd_app (hc.lt j hj) (hc.kids hj (hc.lt j hj)) [id]
theorem idxOf_inj {out : List Nat} {a b : Nat} (ha : a ∈ out) (hb : b ∈ out) (e : out.idxOf a = out.idxOf b) : a = b := by
  have h1 := List.getElem_idxOf (List.idxOf_lt_length_of_mem ha)
  have h2 := List.getElem_idxOf (List.idxOf_lt_length_of_mem hb)
  rw [← h1, ← h2]
  simp only [e]
theorem nd_inj (g : GoodL ar l) {out : List Nat} {i j : Nat} (hi : i < l.length) (hj : j < l.length) (hki : ∀ k ∈ l[i].kids, k.toNat ∈ out) (hkj : ∀ k ∈ l[j].kids, k.toNat ∈ out) (e : nd l out i = nd l out j) : i = j := by
  unfold nd at e
  rw [getD_at hi, getD_at hj] at e
  injection e with e1 e2 e3
  have hk : l[i].kids = l[j].kids := by
    have hl : l[i].kids.length = l[j].kids.length := by have := congrArg List.length e2; simpa using this
    refine List.ext_getElem hl fun q h1 h2 => ?_
    have h3 := List.getElem_of_eq e2 (i := q) (by simpa using h1)
    rw [List.getElem_map, List.getElem_map] at h3
    have h4 := idxOf_inj (hki _ (List.getElem_mem h1)) (hkj _ (List.getElem_mem h2)) (by omega)
    obtain ⟨a, ea, _⟩ := kid_lt g hi _ (List.getElem_mem h1)
    obtain ⟨b, eb, _⟩ := kid_lt g hj _ (List.getElem_mem h2)
    omega
  have en : l[i] = l[j] := by
    generalize l[i] = x at *
    generalize l[j] = y at *
    obtain ⟨xv, xk, xl⟩ := x
    obtain ⟨yv, yk, yl⟩ := y
    simp only at e1 e3 hk
    rw [e1, e3, hk]
  exact nodup_inj g.nd hi hj en
theorem nd_mem (g : GoodL ar l) {out : List Nat} (hc : Cl l out) {id : Nat} (hi : id < l.length) (hk : ∀ k ∈ l[id].kids, k.toNat ∈ out) : nd l out id ∈ mapN l out ↔ id ∈ out := by
  unfold mapN
  rw [List.mem_map]
  constructor
  · rintro ⟨j, hj, e⟩
    have := nd_inj g (hc.lt j hj) hi (hc.kids hj (hc.lt j hj)) hk e
    exact this ▸ hj
  · intro h; exact ⟨id, h, rfl⟩
theorem nd_idx (g : GoodL ar l) {out : List Nat} (hc : Cl l out) {id : Nat} (hi : id < l.length) (hk : ∀ k ∈ l[id].kids, k.toNat ∈ out) : (mapN l out).idxOf (nd l out id) = out.idxOf id := by
  have key : ∀ (p : List Nat), (∀ j ∈ p, j ∈ out) → (p.map (nd l out)).idxOf (nd l out id) = p.idxOf id := by
    intro p
    induction p with
    | nil => intro _; rfl
    | cons j p ih =>
      intro h
      have hj := h j List.mem_cons_self
      rw [List.map_cons, List.idxOf_cons, List.idxOf_cons, ih fun q hq => h q (List.mem_cons_of_mem _ hq)]
      have : (nd l out j == nd l out id) = (j == id) := by
        by_cases e : j = id
        · subst e; simp
        · have : nd l out j ≠ nd l out id := fun h => e (nd_inj g (hc.lt j hj) hi (hc.kids hj (hc.lt j hj)) hk h)
          rw [beq_eq_false_iff_ne.2 e, beq_eq_false_iff_ne.2 this]
      rw [this]
  exact key out fun _ h => h
/-- What the reference's place does with its node. -/
theorem put_ref (g : GoodL ar l) {out : List Nat} (hc : Cl l out) {id : Nat} (hi : id < l.length) (hk : ∀ k ∈ l[id].kids, k.toNat ∈ out) :
    ins (mapN l out) (nd l out id) = mapN l (if id ∈ out then out else out ++ [id]) ∧ (mapN l out).idxOf (nd l out id) = (if id ∈ out then out else out ++ [id]).idxOf id := by
  have hm := nd_mem g hc hi hk
  rw [nd_idx g hc hi hk]
  unfold ins
  by_cases h : id ∈ out
  · rw [if_pos (hm.2 h), if_pos h]; exact ⟨rfl, rfl⟩
  · rw [if_neg (fun hh => h (hm.1 hh)), if_neg h, mapN_snoc hc hi hk, List.idxOf_append, if_neg h]
    refine ⟨rfl, ?_⟩
    rw [List.idxOf_eq_length h]; simp
/-! ### What tables tell of nodes -/
theorem tab_mem {id v : Nat} {t : List Int} (hv : v ≤ ar.length) (h : TabV ar l id v t) {a : Nat → Nat} (ha : Asg ar a) : S l a id ∈ t := by
  rw [h.val a ha]
  have := idx_lt ha (ar.length - v) v (by omega)
  rw [List.getD_eq_getElem?_getD, List.getElem?_eq_getElem (by rw [h.len]; exact this), Option.getD_some]
  exact List.getElem_mem _
theorem const_leaf (g : GoodL ar l) (h1 : ∀ x ∈ ar, 1 ≤ x) {id v : Nat} {t : List Int} (hv : v ≤ ar.length) (h : TabV ar l id v t) {c : Int} (hc : ∀ y ∈ t, y = c) : l.getD id ⟨0, [], 0⟩ = leafN c := by
  have hi := h.lt
  rw [getD_at hi]
  have hS : ∀ a, Asg ar a → S l a id = c := fun a ha => hc _ (tab_mem hv h ha)
  have hn : l[id].var < 0 := by
    refine Decidable.byContradiction fun hn => ?_
    have hv0 : 0 ≤ l[id].var := by omega
    have hvt : ((l[id].var.toNat : Nat) : Int) = l[id].var := by omega
    have a0 := asg0 h1
    have hlt := (g.var id hi hv0).1
    obtain ⟨t0, e0, ht0, _⟩ := kid_at g hi hv0 (k := 0) (by
      have := h1 (ar[l[id].var.toNat]) (List.getElem_mem (by omega))
      rw [List.getD_eq_getElem?_getD, List.getElem?_eq_getElem (by omega), Option.getD_some]; omega)
    have all : ∀ k : Nat, (k : Int) < ar.getD l[id].var.toNat 0 → ∀ a, Asg ar a → S l a (l[id].kids.getD k 0).toNat = c := fun k hk a ha => by
      rw [← S_upd g ha hi (v := l[id].var.toNat) (k := k) hvt.symm hk]
      exact hS _ (ha.upd hk)
    refine not_one g h1 hi (j := t0) hv0 fun k hk => ?_
    obtain ⟨tk, ek, htk, _⟩ := kid_at g hi hv0 hk
    rw [ek]
    congr 1
    refine canon g h1 _ tk t0 (by omega) (by omega) (Nat.lt_succ_self _) fun a ha => ?_
    have x1 := all k hk a ha
    have x2 := all 0 (by
      have := h1 (ar[l[id].var.toNat]) (List.getElem_mem (by omega))
      rw [List.getD_eq_getElem?_getD, List.getElem?_eq_getElem (by omega), Option.getD_some]; omega) a ha
    rw [ek, Int.toNat_natCast] at x1
    rw [e0, Int.toNat_natCast] at x2
    rw [x1, x2]
  have hl : l[id].leaf = c := by rw [← hS _ (asg0 h1), S_leaf hi hn]
  rcases g.ok _ (List.getElem_mem hi) with ⟨b1, b2, _⟩ | ⟨b1, _⟩
  · generalize l[id] = x at *
    obtain ⟨xv, xk, xl⟩ := x
    simp only at b1 b2 hl
    rw [b1, b2, hl]; rfl
  · omega
theorem tab_upd {id v : Nat} {t : List Int} (hv : v < ar.length) (h : TabV ar l id v t) {a : Nat → Nat} (ha : Asg ar a) {k : Nat} (hk : (k : Int) < ar.getD v 0) : S l (upd a v k) id = (part t (prodF (ar.drop (v + 1))) k).getD (idxF (ar.drop (v + 1)) (v + 1) a) 0 := by
  have hn := idx_lt ha (ar.length - (v + 1)) (v + 1) (by omega)
  rw [h.val _ (ha.upd hk), part_get hn, idx_step hv, idx_upd (ar.length - (v + 1)) (v + 1) (by omega) (by omega)]
  have : upd a v k v = k := by unfold upd; rw [if_pos rfl]
  rw [this]
theorem part_len' (h1 : ∀ x ∈ ar, 1 ≤ x) {v : Nat} {t : List Int} (hv : v < ar.length) (ht : t.length = prodF (ar.drop v)) {k : Nat} (hk : (k : Int) < ar.getD v 0) : (part t (prodF (ar.drop (v + 1))) k).length = prodF (ar.drop (v + 1)) := by
  rw [prod_step hv] at ht
  exact part_len ht (by omega)
theorem tab_kid (g : GoodL ar l) (h1 : ∀ x ∈ ar, 1 ≤ x) {id v : Nat} {t : List Int} (hv : v < ar.length) (h : TabV ar l id v t) (hi : id < l.length) (hvar : l[id].var = v) {k : Nat} (hk : (k : Int) < ar.getD v 0) : TabV ar l (l[id].kids.getD k 0).toNat (v + 1) (part t (prodF (ar.drop (v + 1))) k) := by
  have hvt : l[id].var.toNat = v := by omega
  obtain ⟨q, e, hq, h2⟩ := kid_at g hi (by omega) (k := k) (by rw [hvt]; exact hk)
  refine ⟨part_len' h1 hv h.len hk, by rw [e]; simp; omega, fun hh => ?_, fun a ha => ?_⟩
  · have := h2 (by omega)
    have e2 : (l[id].kids.getD k 0).toNat = q := by rw [e]; simp
    have : ∀ (y : Nat) (hy : y < l.length), y = q → (((v + 1 : Nat)) : Int) ≤ abv ar.length l[y] := fun y hy ey => by subst ey; omega
    exact this _ hh e2
  · rw [← S_upd g ha hi hvar hk]
    exact tab_upd hv h ha hk
/-- Where all parts are the same, the variable does not matter. -/
theorem free_tab (g : GoodL ar l) (h1 : ∀ x ∈ ar, 1 ≤ x) {id v : Nat} {t : List Int} (hv : v < ar.length) (h : TabV ar l id v t) (hf : ∀ k : Nat, (k : Int) < ar.getD v 0 → part t (prodF (ar.drop (v + 1))) k = part t (prodF (ar.drop (v + 1))) 0) : TabV ar l id (v + 1) (part t (prodF (ar.drop (v + 1))) 0) := by
  have hi := h.lt
  have hav : 1 ≤ ar.getD v 0 := by
    rw [List.getD_eq_getElem?_getD, List.getElem?_eq_getElem hv, Option.getD_some]; exact h1 _ (List.getElem_mem hv)
  have hne : l[id].var ≠ v := fun hvar => by
    have hvt : l[id].var.toNat = v := by omega
    refine not_one g h1 hi (j := (l[id].kids.getD 0 0).toNat) (by omega) fun k hk => ?_
    rw [hvt] at hk
    obtain ⟨q, e, hq, _⟩ := kid_at g hi (by omega) (k := k) (by rw [hvt]; exact hk)
    have t1 := tab_kid g h1 hv h hi hvar hk
    have t0 := tab_kid g h1 hv h hi hvar (k := 0) (by omega)
    rw [hf k hk] at t1
    have := tab_same g h1 t1 t0
    rw [← this, e]; simp
  have htop := h.top hi
  have hlt : (v : Int) < abv ar.length l[id] := by
    unfold abv at htop ⊢
    split
    · rename_i hh; rw [if_pos hh] at htop; omega
    · omega
  refine ⟨part_len' h1 hv h.len (by omega), hi, fun _ => by omega, fun a ha => ?_⟩
  have hk := ha v hv
  rw [← hf (a v) hk, ← tab_upd hv h ha hk, S_indep g ha hk id hi hlt]
/-- Where not all parts are the same, the node is of this variable. -/
theorem node_tab (g : GoodL ar l) (h1 : ∀ x ∈ ar, 1 ≤ x) {id v : Nat} {t : List Int} (hv : v < ar.length) (h : TabV ar l id v t) (hi : id < l.length) (hf : ¬ ∀ k : Nat, (k : Int) < ar.getD v 0 → part t (prodF (ar.drop (v + 1))) k = part t (prodF (ar.drop (v + 1))) 0) : l[id].var = v := by
  refine Decidable.byContradiction fun hne => hf fun k hk => ?_
  have htop := h.top hi
  have hav : 1 ≤ ar.getD v 0 := by
    rw [List.getD_eq_getElem?_getD, List.getElem?_eq_getElem hv, Option.getD_some]; exact h1 _ (List.getElem_mem hv)
  have hlt : (v : Int) < abv ar.length l[id] := by
    unfold abv at htop ⊢
    split
    · rename_i hh; rw [if_pos hh] at htop; omega
    · omega
  have e1 := part_len' h1 hv h.len hk
  have e0 := part_len' h1 hv h.len (k := 0) (by omega)
  refine list_eq_getD (e1.trans e0.symm) fun q hq => ?_
  obtain ⟨a, ha, e⟩ := idx_surj h1 (ar.length - (v + 1)) (v + 1) q (by omega) (by rw [← e1]; exact hq)
  rw [← e, ← tab_upd hv h ha hk, ← tab_upd hv h ha (k := 0) (by omega), S_indep g ha hk id hi hlt, S_indep g ha (by omega) id hi hlt]
end
end Go.Ab

/- Small functions of the laws and the reference; Eval; All: by value. -/
set_option linter.unusedVariables false
set_option linter.unusedSimpArgs false
set_option linter.unusedSectionVars false
set_option maxRecDepth 100000
namespace Go.Ab
open Go.Proofs Go.Proofs.Tryd

theorem W33 {z1 z2 : Bool} {o1 o2 : Own} {k1 k2 : List Int} (hl : k1.length = k2.length) (hl2 : k1.length ≤ 100000) (m : Mem) : ∀ j i : Nat, i + j = k1.length →
    L12_4 (IA z1 o1 k1) (IA z2 o2 k2) (.int .i64 k1.length) (.int .i64 i) m (K12_4 (finK cfg.P f12.results.toList)) = some (.bool (decide (k1.drop i = k2.drop i)), m)
  | 0, i, h => by
    rw [L12_4_eq, binA_lss, Option.bind_some, ifA_dec, if_neg (by omega), List.drop_eq_nil_of_le (by omega), List.drop_eq_nil_of_le (by omega), K12_4_x0]; rfl
  | j + 1, i, h => by
    have hi : i < k1.length := by omega
    have hi2 : i < k2.length := by omega
    have ih := W33 (z1 := z1) (z2 := z2) (o1 := o1) (o2 := o2) hl hl2 m j (i + 1) (by omega)
    rw [L12_4_eq, binA_lss, Option.bind_some, ifA_dec, if_pos (by omega), idx_IA hi, Option.bind_some, loadA_one, Option.bind_some, idx_IA hi2, Option.bind_some, loadA_one, Option.bind_some, binA_neq, Option.bind_some, ifA_dec, List.drop_eq_getElem_cons hi, List.drop_eq_getElem_cons hi2]
    by_cases he : k1[i] = k2[i]
    · rw [if_neg (by simpa using he), i_add1 (by omega), Option.bind_some, ih]
      congr 3
      exact decide_eq_decide.2 (by rw [he]; exact ⟨fun e => by rw [e], fun e => (List.cons.inj e).2⟩)
    · rw [if_pos he, K12_4_ret]
      congr 3
      exact (decide_eq_false (fun e => he (List.cons.inj e).1)).symm
theorem V33 (z1 z2 : Bool) (o1 o2 : Own) (k1 k2 : List Int) (hl2 : k1.length ≤ 100000) : AP cfg 12 [IA z1 o1 k1, IA z2 o2 k2] = some (.bool (decide (k1 = k2))) := by
  refine AP_of (m := []) (v := .bool (decide (k1 = k2))) (l := []) ?_ rfl rfl
  rw [T12, len_IA, Option.bind_some, len_IA, Option.bind_some, binA_neq, Option.bind_some, ifA_dec]
  by_cases hl : k1.length = k2.length
  · rw [if_neg (by omega), Option.bind_some, show (AV.int .i64 0) = .int .i64 ((0 : Nat) : Int) from rfl, W33 hl hl2 [] k1.length 0 (by omega), List.drop_zero, List.drop_zero]
  · rw [if_pos (by omega)]
    congr 3
    exact (decide_eq_false (fun e => hl (by rw [e]))).symm
theorem pc33 (z1 z2 : Bool) (o1 o2 : Own) (k1 k2 : List Int) (hl2 : k1.length ≤ 100000) (m : Mem) : pcall (AP cfg) none m 12 [IA z1 o1 k1, IA z2 o2 k2] = some (.bool (decide (k1 = k2)), m) := by
  rw [pcall2 (fz_IA z1 o1 k1) (fz_IA z2 o2 k2), V33 z1 z2 _ _ k1 k2 hl2]; rfl
theorem W79 {z1 z2 : Bool} {o1 o2 : Own} {k1 k2 : List Int} (hl : k1.length = k2.length) (hl2 : k1.length ≤ 100000) (m : Mem) : ∀ j i : Nat, i + j = k1.length →
    L43_4 (IA z1 o1 k1) (IA z2 o2 k2) (.int .i64 k1.length) (.int .i64 i) m (K43_4 (finK cfg.P f43.results.toList)) = some (.bool (decide (k1.drop i = k2.drop i)), m)
  | 0, i, h => by
    rw [L43_4_eq, binA_lss, Option.bind_some, ifA_dec, if_neg (by omega), List.drop_eq_nil_of_le (by omega), List.drop_eq_nil_of_le (by omega), K43_4_x0]; rfl
  | j + 1, i, h => by
    have hi : i < k1.length := by omega
    have hi2 : i < k2.length := by omega
    have ih := W79 (z1 := z1) (z2 := z2) (o1 := o1) (o2 := o2) hl hl2 m j (i + 1) (by omega)
    rw [L43_4_eq, binA_lss, Option.bind_some, ifA_dec, if_pos (by omega), idx_IA hi, Option.bind_some, loadA_one, Option.bind_some, idx_IA hi2, Option.bind_some, loadA_one, Option.bind_some, binA_neq, Option.bind_some, ifA_dec, List.drop_eq_getElem_cons hi, List.drop_eq_getElem_cons hi2]
    by_cases he : k1[i] = k2[i]
    · rw [if_neg (by simpa using he), i_add1 (by omega), Option.bind_some, ih]
      congr 3
      exact decide_eq_decide.2 (by rw [he]; exact ⟨fun e => by rw [e], fun e => (List.cons.inj e).2⟩)
    · rw [if_pos he, K43_4_ret]
      congr 3
      exact (decide_eq_false (fun e => he (List.cons.inj e).1)).symm
theorem V79 (z1 z2 : Bool) (o1 o2 : Own) (k1 k2 : List Int) (hl2 : k1.length ≤ 100000) : AP cfg 43 [IA z1 o1 k1, IA z2 o2 k2] = some (.bool (decide (k1 = k2))) := by
  refine AP_of (m := []) (v := .bool (decide (k1 = k2))) (l := []) ?_ rfl rfl
  rw [T43, len_IA, Option.bind_some, len_IA, Option.bind_some, binA_neq, Option.bind_some, ifA_dec]
  by_cases hl : k1.length = k2.length
  · rw [if_neg (by omega), Option.bind_some, show (AV.int .i64 0) = .int .i64 ((0 : Nat) : Int) from rfl, W79 hl hl2 [] k1.length 0 (by omega), List.drop_zero, List.drop_zero]
  · rw [if_pos (by omega)]
    congr 3
    exact (decide_eq_false (fun e => hl (by rw [e]))).symm
theorem pc79 (z1 z2 : Bool) (o1 o2 : Own) (k1 k2 : List Int) (hl2 : k1.length ≤ 100000) (m : Mem) : pcall (AP cfg) none m 43 [IA z1 o1 k1, IA z2 o2 k2] = some (.bool (decide (k1 = k2)), m) := by
  rw [pcall2 (fz_IA z1 o1 k1) (fz_IA z2 o2 k2), V79 z1 z2 _ _ k1 k2 hl2]; rfl
theorem W78 (z : Bool) (o : Own) (k0 : Int) (ks : List Int) (hl : (k0 :: ks).length ≤ 1000) (m : Mem) : ∀ j i : Nat, i + j = (k0 :: ks).length →
    L42_2 (IA z o (k0 :: ks)) (IA z o (k0 :: ks)) (.int .i64 (k0 :: ks).length) (.int .i64 i) m (K42_2 (finK cfg.P f42.results.toList)) = some (.bool (((k0 :: ks).drop i).all fun k => k == k0), m)
  | 0, i, h => by
    rw [L42_2_eq, binA_lss, Option.bind_some, ifA_dec, if_neg (by omega), List.drop_eq_nil_of_le (by omega), K42_2_x0]; rfl
  | j + 1, i, h => by
    have hi : i < (k0 :: ks).length := by omega
    rw [L42_2_eq, binA_lss, Option.bind_some, ifA_dec, if_pos (by omega), idx_IA hi, Option.bind_some, loadA_one, Option.bind_some, idx_IA0 (by simp), Option.bind_some, loadA_one, Option.bind_some, binA_neq, Option.bind_some, ifA_dec, List.drop_eq_getElem_cons hi, List.all_cons]
    by_cases he : (k0 :: ks)[i] = k0
    · rw [if_neg (by simpa using he), i_add1 (by omega), Option.bind_some, W78 z o k0 ks hl m j (i + 1) (by omega), show ((k0 :: ks)[i] == k0) = true by simpa using he, Bool.true_and]
    · rw [if_pos (by simpa using he), K42_2_ret, show ((k0 :: ks)[i] == k0) = false by simpa using he, Bool.false_and]
theorem V78 (z : Bool) (o : Own) (ks : List Int) (hne : ks ≠ []) (hl : ks.length ≤ 1000) : AP cfg 42 [IA z o ks] = some (.bool (ks.all fun k => k == ks.headD 0)) := by
  obtain ⟨k0, ks, rfl⟩ := List.exists_cons_of_ne_nil hne
  refine AP_of (m := []) (v := .bool ((k0 :: ks).all fun k => k == k0)) (l := []) ?_ rfl rfl
  rw [T42, len_IA, Option.bind_some, show (AV.int .i64 0) = .int .i64 ((0 : Nat) : Int) from rfl, W78 z o k0 ks hl [] (k0 :: ks).length 0 (by omega), List.drop_zero]
theorem pc78 (z : Bool) (o : Own) (ks : List Int) (hne : ks ≠ []) (hl : ks.length ≤ 1000) (m : Mem) : pcall (AP cfg) none m 42 [IA z o ks] = some (.bool (ks.all fun k => k == ks.headD 0), m) := by
  rw [pcall1 (fz_IA z o ks), V78 z _ ks hne hl]; rfl
/-! ### Assignment, All -/
theorem idx_cong {a b : Nat → Nat} : ∀ (r : List Int) (v : Nat), (∀ w, v ≤ w → a w = b w) → idxF r v a = idxF r v b
  | [], _, _ => rfl
  | n :: r, v, h => by rw [idxF, idxF, h v (Nat.le_refl _), idx_cong r (v + 1) fun w hw => h w (by omega)]
/-- The assignment that a row tells. -/
def asgOf (cs : List Int) : Nat → Nat := fun v => (cs.getD v 0).toNat
theorem mapF_int (m : Mem) (k : Nat) : ∀ ds : List Int, mapF (frz m (k + 1)) (ds.map (AV.int .i64)) = some (ds.map (AV.int .i64), [])
  | [] => rfl
  | d :: ds => by
    have : frz m (k + 1) (AV.int .i64 d) = some (AV.int .i64 d, []) := rfl
    simp [mapF, this, mapF_int m k ds]
theorem plL_int : ∀ ds : List Int, plL (ds.map (AV.int .i64)) = true
  | [] => rfl
  | d :: ds => by
    have : pl (AV.int .i64 d) = true := rfl
    simp [plL, this, plL_int ds]
theorem frz_int {m : Mem} {nm : Nat} {ds : List Int} (h : m.get nm = some (.obj false (ds.map (AV.int .i64)))) : frz m fuelF (.arr nm 0 ds.length none) = some (IA false .no ds, [nm]) := by
  have h1 : ((ds.map (AV.int .i64)).all atomOk) = true := by simp [List.all_map, atomOk]
  have hg : m.obj? nm = some (false, ds.map (AV.int .i64)) := by rw [obj_objE, h]; rfl
  show (m.obj? nm).bind _ = _
  rw [hg]
  simp only [Option.bind_some, Sh.size, List.length_map, Nat.zero_add, Nat.mul_one, Nat.le_refl, decide_true, Bool.not_false, Bool.and_self, if_true, List.drop_zero, List.take_of_length_le (by simp : (ds.map (AV.int .i64)).length ≤ ds.length)]
  rw [mapF_int]
  simp only [Option.bind_some, h1, plL_int, Bool.and_self, if_true, grp]
  rw [List.take_of_length_le (by simp)]
theorem st_int {m : Mem} {nm i : Nat} {ds : List Int} {y : Int} (h : m.get nm = some (.obj false (ds.map (AV.int .i64)))) (hi : i < ds.length) : storeA none m (.ptr nm i) (.int .i64 y) = some (m.set nm (some (.obj false ((ds.set i y).map (AV.int .i64))))) := by
  have hg : m.obj? nm = some (false, ds.map (AV.int .i64)) := by rw [obj_objE, h]; rfl
  have h1 : i + 1 ≤ ds.length := hi
  simp only [storeA, hg, Option.bind_some, Sh.size, List.length_map, h1, if_true, shOk, atomOk, AV.cells]
  congr 4
  simp only [putAt, List.length_cons, List.length_nil]
  rw [List.map_set, List.set_eq_take_append_cons_drop]
  simp [hi, List.map_take, List.map_drop]
theorem set_get {m : Mem} {nm : Nat} {e : Ent} (h : m.get nm = some e) : m.set nm (some e) = m := by
  have hlt := get_lt h
  apply List.ext_getElem?
  intro k
  rw [List.getElem?_set]
  split
  · rename_i hk
    subst hk
    first | rw [if_pos hlt] | skip
    unfold Mem.get at h
    cases hq : m[nm]? with
    | none => rw [hq] at h; cases h
    | some x => rw [hq] at h; simp only [Option.bind_some, id] at h; rw [h]
  · rfl
theorem W64 {z : Bool} {o : Own} {ar : List Int} (h1 : ∀ x ∈ ar, 1 ≤ x ∧ x ≤ 64) (hal : ar.length ≤ 16) {i0 nm : Nat} (hi0 : i0 ≤ 1000000) : ∀ (j : Nat), j ≤ ar.length → ∀ (q : Nat) (cs : List Int) (m : Mem), m.get nm = some (.obj false (cs.map (AV.int .i64))) → cs.length = ar.length → (∀ v, j ≤ v → v < ar.length → 0 ≤ cs.getD v 0 ∧ cs.getD v 0 < ar.getD v 0) → q ≤ i0 →
    i0 = q * prodF (ar.drop j) + idxF (ar.drop j) j (asgOf cs) → ∃ (cs' : List Int) (q' : Nat), L41_3 (IA z o ar) (.int .i64 q) (.arr nm 0 ar.length none) (.int .i64 ((j : Int) - 1)) m (K41_3 (finK cfg.P f41.results.toList)) = some (.arr nm 0 ar.length none, m.set nm (some (.obj false (cs'.map (AV.int .i64))))) ∧ cs'.length = ar.length ∧
      (∀ v, v < ar.length → 0 ≤ cs'.getD v 0 ∧ cs'.getD v 0 < ar.getD v 0) ∧ i0 = q' * prodF ar + idxF ar 0 (asgOf cs')
  | 0, _, q, cs, m, hg, hc, hb, hq, he => by
    refine ⟨cs, q, ?_, hc, fun v hv => hb v (Nat.zero_le _) hv, he⟩
    rw [set_get hg, L41_3_eq, binA_geq, Option.bind_some, ifA_dec, if_neg (by omega), K41_3_x0]
  | j + 1, hj, q, cs, m, hg, hc, hb, hq, he => by
    have hv : j < ar.length := by omega
    have hab := h1 _ (List.getElem_mem hv)
    obtain ⟨a, ha⟩ := Int.eq_ofNat_of_zero_le (by omega : 0 ≤ ar[j])
    have hget : ar.getD j 0 = (a : Int) := by rw [List.getD_eq_getElem?_getD, List.getElem?_eq_getElem hv, Option.getD_some, ha]
    have hix : indexAddrA none (IA z o ar) (.int .i64 j) = some (.vptr [.int .i64 a]) := by rw [idx_IA hv, ha]
    have hqa := Nat.div_le_self q a
    have hlt := Nat.mod_lt q (show a > 0 by omega)
    have hl := get_lt hg
    obtain ⟨cs', q', e, k⟩ := W64 (z := z) (o := o) h1 hal hi0 (nm := nm) j (by omega) (q / a) (cs.set j (q % a : Nat)) (m.set nm (some (.obj false ((cs.set j (q % a : Nat)).map (AV.int .i64))))) (g_seq rfl hl) (by rw [List.length_set]; exact hc) (fun v hv1 hv2 => by
      by_cases hvj : v = j
      · subst hvj
        rw [List.getD_eq_getElem?_getD, List.getElem?_set_self (by omega), Option.getD_some, hget]
        omega
      · rw [List.getD_eq_getElem?_getD, List.getElem?_set_ne (by omega), ← List.getD_eq_getElem?_getD]
        exact hb v (by omega) hv2) (by omega) (by
      rw [prod_step hv, idx_step hv, hget, idx_cong (a := asgOf (cs.set j (q % a : Nat))) (b := asgOf cs) (ar.drop (j + 1)) (j + 1) (fun w hw => by
        unfold asgOf
        rw [List.getD_eq_getElem?_getD, List.getElem?_set_ne (by omega), ← List.getD_eq_getElem?_getD])]
      have e1 : asgOf (cs.set j (q % a : Nat)) j = q % a := by
        unfold asgOf
        rw [List.getD_eq_getElem?_getD, List.getElem?_set_self (by omega), Option.getD_some, Int.toNat_natCast]
      have e2 : (a : Int).toNat = a := Int.toNat_natCast a
      rw [e1, e2, he]
      generalize prodF (ar.drop (j + 1)) = P
      have := Nat.div_add_mod q a
      have e3 : q * P = q / a * (a * P) + q % a * P := by
        rw [← Nat.mul_assoc, ← Nat.add_mul, Nat.mul_comm (q / a) a, this]
      omega)
    refine ⟨cs', q', ?_, k⟩
    have ej : ((j + 1 : Nat) : Int) - 1 = j := by omega
    rw [ej, L41_3_eq, binA_geq, Option.bind_some, ifA_dec, if_pos (by omega), hix, Option.bind_some, loadA_one, Option.bind_some, n_rem (by omega), Option.bind_some, index_arr hv, Option.bind_some, st_int hg (by omega), Option.bind_some, Option.bind_some, loadA_one, Option.bind_some, n_quo (by omega) (by omega), Option.bind_some, i_sub1z (by omega), Option.bind_some]
    rw [List.set_set] at e
    exact e
/-- A row is the assignment of a number. -/
structure Asn (ar : List Int) (i : Nat) (cs : List Int) : Prop where
  len : cs.length = ar.length
  bd : ∀ v, v < ar.length → 0 ≤ cs.getD v 0 ∧ cs.getD v 0 < ar.getD v 0
  idx : idxF ar 0 (asgOf cs) = i
theorem Asn.asg {ar : List Int} {i : Nat} {cs : List Int} (h : Asn ar i cs) : Asg ar (asgOf cs) := fun v hv => by
  have := h.bd v hv
  unfold asgOf; omega
theorem C64 (z : Bool) (o : Own) (ar : List Int) (h1 : ∀ x ∈ ar, 1 ≤ x ∧ x ≤ 64) (hal : ar.length ≤ 16) {i : Nat} (hi : i < prodF ar) (hi2 : i ≤ 1000000) (m : Mem) : ∃ cs, AC cfg 41 [IA z o ar, .int .i64 i] m = some (.arr m.length 0 ar.length none, m ++ [some (.obj false (cs.map (AV.int .i64)))]) ∧ Asn ar i cs := by
  have hmk : makeA none 3 none (.int .i64 0) 8 m (.int .i64 ar.length) (.int .i64 ar.length) = some (.arr m.length 0 ar.length none, m ++ [some (Ent.obj false ((List.replicate ar.length (0 : Int)).map (AV.int .i64)))]) := by
    have h3 : (ar.length : Int) * 8 ≤ 281474976710656 := by omega
    have h4 : (ar.length : Int) ≤ 9223372036854775807 := by omega
    have h5 : (0 : Int) ≤ ar.length := by omega
    simp only [makeA, newAt, zeros, Int.le_refl, if_true, Int.toNat_natCast, List.map_replicate]
    rw [if_pos ⟨h5, trivial, h3, h4⟩]
  obtain ⟨cs, q, e, hc, hb, he⟩ := W64 (z := z) (o := o) h1 hal hi2 (nm := m.length) ar.length (Nat.le_refl _) i (List.replicate ar.length (0 : Int)) (m ++ [some (Ent.obj false ((List.replicate ar.length (0 : Int)).map (AV.int .i64)))]) (g_eq rfl) (by simp) (fun v h1 h2 => by omega) (Nat.le_refl _) (by rw [List.drop_length]; simp [prodF, idxF])
  have asn : Asn ar i cs := by
    refine ⟨hc, hb, ?_⟩
    have hq : q = 0 := by
      refine Nat.eq_zero_of_not_pos fun hq => ?_
      have : 1 * prodF ar ≤ q * prodF ar := Nat.mul_le_mul_right _ hq
      omega
    rw [hq] at he
    omega
  refine ⟨cs, ?_, asn⟩
  have e2 : (m ++ [some (Ent.obj false ((List.replicate ar.length (0 : Int)).map (AV.int .i64)))]).set m.length (some (.obj false (cs.map (AV.int .i64)))) = m ++ [some (.obj false (cs.map (AV.int .i64)))] := by
    rw [List.set_append_right _ _ (Nat.le_refl _), Nat.sub_self]; rfl
  rw [e2] at e
  rw [T41, len_IA, Option.bind_some, hmk, Option.bind_some, Option.bind_some, i_sub1z (by omega), Option.bind_some]
  exact e
/-- Rows that may be written, in a row that may be written. -/
structure AL (n : Nat) (m0 m : Mem) (x : AV) (nms : List Nat) (css : List (List Int)) : Prop where
  len : nms.length = css.length
  row : ∀ k (h1 : k < nms.length) (h2 : k < css.length), m.get nms[k] = some (.obj false (css[k].map (AV.int .i64))) ∧ css[k].length = n
  nd : nms.Nodup
  lo : ∀ a ∈ nms, m0.length ≤ a
  kp : m0.length ≤ m.length ∧ ∀ k, k < m0.length → m.get k = m0.get k
  x : (x = .lst none true .full [] ∧ nms = []) ∨ ∃ t, x = .arr t 0 nms.length none ∧ 0 < nms.length ∧ m.get t = some (.obj false (nms.map fun a => .arr a 0 n none)) ∧ m0.length ≤ t ∧ t ∉ nms
theorem AL.lt {n : Nat} {m0 m : Mem} {x : AV} {nms : List Nat} {css : List (List Int)} (h : AL n m0 m x nms css) : ∀ a ∈ nms, a < m.length := fun a ha => by
  obtain ⟨k, hk, e⟩ := List.getElem_of_mem ha
  have hl := h.len
  have := (h.row k hk (by omega)).1
  rw [e] at this
  exact get_lt this
theorem al_app {n : Nat} {m0 m : Mem} {x : AV} {nms : List Nat} {css : List (List Int)} (h : AL n m0 m x nms css) {cs : List Int} (hc : cs.length = n) (hl : css.length ≤ 1000) :
    ∃ x' m', appA none true 22 none 24 (m ++ [some (Ent.obj false (cs.map (AV.int .i64)))]) x (.vec 1 none [.arr m.length 0 n none]) = some (x', m') ∧ AL n m0 m' x' (nms ++ [m.length]) (css ++ [cs]) := by
  have hlen := h.len
  have hlt := h.lt
  have hY : ∀ M : Mem, rowY M none (.vec 1 none [.arr m.length 0 n none]) = some (1, [.arr m.length 0 n none]) := fun M => rfl
  have nd2 : (nms ++ [m.length]).Nodup := by
    rw [List.nodup_append]
    exact ⟨h.nd, by simp, fun a ha b hb => by
      obtain rfl : b = m.length := by simpa using hb
      have := hlt a ha; omega⟩
  have rows : ∀ (m' : Mem), (∀ k, k < m.length + 1 → (∀ t, x = .arr t 0 nms.length none → k ≠ t) → m'.get k = Mem.get (m ++ [some (Ent.obj false (cs.map (AV.int .i64)))]) k) → ∀ k (h1 : k < (nms ++ [m.length]).length) (h2 : k < (css ++ [cs]).length), m'.get (nms ++ [m.length])[k] = some (.obj false ((css ++ [cs])[k].map (AV.int .i64))) ∧ (css ++ [cs])[k].length = n := by
    intro m' hm' k h1 h2
    by_cases hk : k < nms.length
    · rw [List.getElem_append_left hk, List.getElem_append_left (by omega)]
      have hmem := List.getElem_mem hk
      have hl2 := hlt _ hmem
      rw [hm' _ (by omega) (fun t ht e => by
        rcases h.x with ⟨rfl, _⟩ | ⟨t', rfl, _, _, _, hn⟩
        · cases ht
        · cases ht; exact hn (e ▸ hmem)), g_lt hl2]
      exact h.row k hk (by omega)
    · have hk1 : k = nms.length := by simp at h1; omega
      subst hk1
      have e1 : (nms ++ [m.length])[nms.length]'h1 = m.length := by simp
      have e2 : (css ++ [cs])[nms.length]'h2 = cs := by simp [hlen]
      rw [e1, e2, hm' _ (by omega) (fun t ht e => by
        rcases h.x with ⟨rfl, _⟩ | ⟨t', rfl, _, hg, _, hn⟩
        · cases ht
        · cases ht; have := get_lt hg; omega), g_eq rfl]
      exact ⟨rfl, hc⟩
  have lo2 : ∀ a ∈ nms ++ [m.length], m0.length ≤ a := fun a ha => by
    rcases List.mem_append.1 ha with ha | ha
    · exact h.lo a ha
    · obtain rfl : a = m.length := by simpa using ha
      exact h.kp.1
  have hroom : ∀ k : Nat, k ≤ 1000 → (k + 1) * 24 ≤ roomA := fun k hk => by unfold roomA; omega
  rcases h.x with ⟨rfl, rfl⟩ | ⟨t, rfl, hpos, hg, htl, htn⟩
  · have hX : rowX (m ++ [some (Ent.obj false (cs.map (AV.int .i64)))]) none (.lst none true .full []) = some (0, [], m ++ [some (.obj false (cs.map (AV.int .i64)))]) := rfl
    have ha : appA none true 22 none 24 (m ++ [some (Ent.obj false (cs.map (AV.int .i64)))]) (.lst none true .full []) (.vec 1 none [.arr m.length 0 n none]) = some (.arr (m ++ [some (Ent.obj false (cs.map (AV.int .i64)))]).length 0 1 none, (m ++ [some (Ent.obj false (cs.map (AV.int .i64)))]) ++ [some (.obj false [.arr m.length 0 n none])]) := by
      simp only [appA, appR, hY, hX, Option.bind_some]
      rfl
    refine ⟨_, _, ha, ?_, rows _ (fun k hk _ => g_lt (by simpa using hk)), nd2, lo2, ?_, .inr ⟨(m ++ [some (Ent.obj false (cs.map (AV.int .i64)))]).length, by simp, by simp, by rw [g_eq rfl]; rfl, by have := h.kp.1; simp; omega, by simp⟩⟩
    · simp only [List.length_append, List.length_cons, List.length_nil] at hlen ⊢
      omega
    · refine ⟨by have := h.kp.1; simp; omega, fun k hk => ?_⟩
      have := h.kp.1
      rw [g_lt (by simp; omega), g_lt (by omega)]
      exact h.kp.2 k hk
  · have htlt := get_lt hg
    have hg2 : Mem.get (m ++ [some (Ent.obj false (cs.map (AV.int .i64)))]) t = some (.obj false (nms.map fun a => .arr a 0 n none)) := by rw [g_lt htlt]; exact hg
    have ho : (m ++ [some (Ent.obj false (cs.map (AV.int .i64)))]).obj? t = some (false, nms.map fun a => .arr a 0 n none) := by rw [obj_objE, hg2]; rfl
    have hX : rowX (m ++ [some (Ent.obj false (cs.map (AV.int .i64)))]) none (.arr t 0 nms.length none) = some (nms.length, nms.map fun a => .arr a 0 n none, (m ++ [some (Ent.obj false (cs.map (AV.int .i64)))]).set t none) := by
      simp only [rowX, ho, Option.bind_some]
      rw [if_pos ⟨trivial, trivial, hpos, trivial, by simp [Sh.size]⟩]
    have ha : appA none true 22 none 24 (m ++ [some (Ent.obj false (cs.map (AV.int .i64)))]) (.arr t 0 nms.length none) (.vec 1 none [.arr m.length 0 n none]) = some (.arr ((m ++ [some (Ent.obj false (cs.map (AV.int .i64)))]).set t none).length 0 (nms.length + 1) none, ((m ++ [some (Ent.obj false (cs.map (AV.int .i64)))]).set t none) ++ [some (.obj false ((nms.map fun a => .arr a 0 n none) ++ [.arr m.length 0 n none]))]) := by
      simp only [appA, appR, hY, hX, Option.bind_some]
      rw [if_pos (hroom nms.length (by omega))]
    have hml : ((m ++ [some (Ent.obj false (cs.map (AV.int .i64)))]).set t none).length = m.length + 1 := by simp
    refine ⟨_, _, ha, ?_, rows _ (fun k hk hne => ?_), nd2, lo2, ?_, .inr ⟨((m ++ [some (Ent.obj false (cs.map (AV.int .i64)))]).set t none).length, by simp, by simp, by rw [g_eq rfl, List.map_append]; rfl, by have := h.kp.1; rw [hml]; omega, ?_⟩⟩
    · simp only [List.length_append, hlen, List.length_cons, List.length_nil]
    · rw [g_lt (by rw [hml]; exact hk), g_sne (hne t rfl)]
    · refine ⟨by have := h.kp.1; rw [List.length_append, hml]; omega, fun k hk => ?_⟩
      have := h.kp.1
      rw [g_lt (by rw [hml]; omega), g_sne (by omega), g_lt (by omega)]
      exact h.kp.2 k hk
    · rw [hml]
      intro hh
      rcases List.mem_append.1 hh with hh | hh
      · have := hlt _ hh; omega
      · simp at hh
theorem frz_int1 {m : Mem} {nm k : Nat} {ds : List Int} (h : m.get nm = some (.obj false (ds.map (AV.int .i64)))) : frz m (k + 2) (.arr nm 0 ds.length none) = some (IA false .no ds, [nm]) := by
  have h1 : ((ds.map (AV.int .i64)).all atomOk) = true := by simp [List.all_map, atomOk]
  have hg : m.obj? nm = some (false, ds.map (AV.int .i64)) := by rw [obj_objE, h]; rfl
  show (m.obj? nm).bind _ = _
  rw [hg]
  simp only [Option.bind_some, Sh.size, List.length_map, Nat.zero_add, Nat.mul_one, Nat.le_refl, decide_true, Bool.not_false, Bool.and_self, if_true, List.drop_zero, List.take_of_length_le (by simp : (ds.map (AV.int .i64)).length ≤ ds.length)]
  rw [mapF_int]
  simp only [Option.bind_some, h1, plL_int, Bool.and_self, if_true, grp]
  rw [List.take_of_length_le (by simp)]
theorem mapF_rows {m : Mem} {n k : Nat} : ∀ (nms : List Nat) (css : List (List Int)), nms.length = css.length → (∀ i (h1 : i < nms.length) (h2 : i < css.length), m.get nms[i] = some (.obj false (css[i].map (AV.int .i64))) ∧ css[i].length = n) → mapF (frz m (k + 2)) (nms.map fun a => .arr a 0 n none) = some (css.map (IA false .no), nms)
  | [], [], _, _ => rfl
  | [], _ :: _, h, _ => by simp at h
  | _ :: _, [], h, _ => by simp at h
  | a :: nms, cs :: css, h, hr => by
    obtain ⟨r1, r2⟩ := hr 0 (by simp) (by simp)
    simp only [List.getElem_cons_zero] at r1 r2
    have ih := mapF_rows (n := n) (k := k) (m := m) nms css (by simpa using h) (fun i h1 h2 => by
      have := hr (i + 1) (by simpa using h1) (by simpa using h2)
      simpa using this)
    have h1 := frz_int1 (k := k) r1
    rw [r2] at h1
    simp only [List.map_cons, mapF, h1, Option.bind_some, ih, Option.map_some, List.singleton_append]
theorem plL_rows : ∀ css : List (List Int), plL (css.map (IA false .no)) = true
  | [] => rfl
  | c :: css => by
    have : pl (IA false .no c) = true := rfl
    simp [plL, this, plL_rows css]
theorem frz_all {n t : Nat} {m0 m : Mem} {nms : List Nat} {css : List (List Int)} (h : AL n m0 m (.arr t 0 nms.length none) nms css) : frz m fuelF (.arr t 0 nms.length none) = some (.lst none false .no (css.map (IA false .no)), t :: nms) := by
  have hg : m.get t = some (.obj false (nms.map fun a => .arr a 0 n none)) := by
    rcases h.x with ⟨e, _⟩ | ⟨t', e, _, hg, _, _⟩
    · cases e
    · cases e; exact hg
  have ho : m.obj? t = some (false, nms.map fun a => .arr a 0 n none) := by rw [obj_objE, hg]; rfl
  have hlen := h.len
  have h1 : ((css.map (IA false .no)).all atomOk) = true := by simp [List.all_map, atomOk, IA]
  show (m.obj? t).bind _ = _
  rw [ho]
  simp only [Option.bind_some, Sh.size, List.length_map, Nat.zero_add, Nat.mul_one, Nat.le_refl, decide_true, Bool.not_false, Bool.and_self, if_true, List.drop_zero, List.take_of_length_le (by simp : (nms.map fun a => AV.arr a 0 n none).length ≤ nms.length)]
  rw [mapF_rows nms css hlen h.row]
  simp only [Option.bind_some, h1, plL_rows, Bool.and_self, if_true, grp]
  rw [List.take_of_length_le (by simp; omega)]
theorem W35 {z : Bool} {o : Own} {ar : List Int} (h1 : ∀ x ∈ ar, 1 ≤ x ∧ x ≤ 64) (hal : ar.length ≤ 16) (hp : prodF ar ≤ 300) {m0 : Mem} : ∀ (j i : Nat) (m : Mem) (x : AV) (nms : List Nat) (css : List (List Int)), i + j = prodF ar → AL ar.length m0 m x nms css → css.length = i → (∀ k (h : k < css.length), Asn ar k css[k]) →
    ∃ (m' : Mem) (x' : AV) (nms' : List Nat) (css' : List (List Int)), L27_3 (IA z o ar) x (.int .i64 i) m (K27_3 (finK cfg.P f27.results.toList)) = some (x', m') ∧ AL ar.length m0 m' x' nms' css' ∧ css'.length = prodF ar ∧ ∀ k (h : k < css'.length), Asn ar k css'[k] := by
  have hpl : placesF 1048576 1 ar = (prodF ar : Nat) := by
    rw [places_big ar 1 (fun a ha => (h1 a ha).1) (by omega) (by omega), Int.one_mul]
  intro j
  induction j with
  | zero =>
    intro i m x nms css hi h hl hc
    refine ⟨m, x, nms, css, ?_, h, by omega, hc⟩
    rw [L27_3_eq, pc27 _ _ _ hal h1 1048576 (by omega), Option.bind_some, hpl, n_lss, Option.bind_some, ifA_dec, if_neg (by omega), K27_3_x0]
  | succ j ih =>
    intro i m x nms css hi h hl hc
    obtain ⟨cs, e64, hcs⟩ := C64 z o ar h1 hal (i := i) (by omega) (by omega) m
    obtain ⟨x1, m1, ea, g1⟩ := al_app h hcs.len (by omega)
    obtain ⟨m', x', nms', css', e, k⟩ := ih (i + 1) m1 x1 (nms ++ [m.length]) (css ++ [cs]) (by omega) g1 (by simp [hl]) (fun k hk => by
      by_cases hk2 : k < css.length
      · rw [List.getElem_append_left hk2]; exact hc k hk2
      · have : k = css.length := by simp at hk; omega
        subst this
        have e : (css ++ [cs])[css.length]'(by simp) = cs := by simp
        rw [e, hl]; exact hcs)
    refine ⟨m', x', nms', css', ?_, k⟩
    have hb : buildSliceA none [.arr m.length 0 ar.length none] = some (.vec 1 none [.arr m.length 0 ar.length none]) := rfl
    rw [L27_3_eq, pc27 _ _ _ hal h1 1048576 (by omega), Option.bind_some, hpl, n_lss, Option.bind_some, ifA_dec, if_pos (by omega), e64, Option.bind_some, hb, Option.bind_some, ea, Option.bind_some, i_add1 (by omega), Option.bind_some]
    exact e
theorem C35 (z : Bool) (o : Own) (ar : List Int) (h1 : ∀ x ∈ ar, 1 ≤ x ∧ x ≤ 64) (hal : ar.length ≤ 16) (hp : prodF ar ≤ 300) (m : Mem) : ∃ (m' : Mem) (t : Nat) (nms : List Nat) (css : List (List Int)), AC cfg 27 [IA z o ar] m = some (.arr t 0 nms.length none, m') ∧ AL ar.length m m' (.arr t 0 nms.length none) nms css ∧ css.length = prodF ar ∧ ∀ k (h : k < css.length), Asn ar k css[k] := by
  obtain ⟨m', x', nms, css, e, g, hl, hc⟩ := W35 (z := z) (o := o) h1 hal hp (m0 := m) (prodF ar) 0 m (.lst none true .full []) [] [] (by omega) ⟨rfl, fun k h => by simp at h, by simp, by simp, ⟨Nat.le_refl _, fun _ _ => rfl⟩, .inl ⟨rfl, rfl⟩⟩ rfl (fun k h => by simp at h)
  have hpos := prod_pos fun x hx => (h1 x hx).1
  have hlen := g.len
  rcases g.x with ⟨_, rfl⟩ | ⟨t, rfl, _⟩
  · simp at hlen; omega
  · refine ⟨m', t, nms, css, ?_, g, hl, hc⟩
    rw [T27]
    exact e
theorem V35 (z : Bool) (o : Own) (ar : List Int) (h1 : ∀ x ∈ ar, 1 ≤ x ∧ x ≤ 64) (hal : ar.length ≤ 16) (hp : prodF ar ≤ 300) : ∃ (z' : Bool) (o' : Own) (css : List (List Int)), AP cfg 27 [IA z o ar] = some (.lst none z' o' (css.map (IA false .no))) ∧ css.length = prodF ar ∧ ∀ k (h : k < css.length), Asn ar k css[k] := by
  obtain ⟨m', t, nms, css, e, g, hl, hc⟩ := C35 z o ar h1 hal hp []
  exact ⟨false, .no, css, AP_of e (frz_all g) rfl, hl, hc⟩
theorem pc35 (z : Bool) (o : Own) (ar : List Int) (h1 : ∀ x ∈ ar, 1 ≤ x ∧ x ≤ 64) (hal : ar.length ≤ 16) (hp : prodF ar ≤ 300) (m : Mem) : ∃ (z' : Bool) (o' : Own) (css : List (List Int)), pcall (AP cfg) none m 27 [IA z o ar] = some (.lst none z' o' (css.map (IA false .no)), m) ∧ css.length = prodF ar ∧ ∀ k (h : k < css.length), Asn ar k css[k] := by
  obtain ⟨z', o', css, e, h⟩ := V35 z o.fr ar h1 hal hp
  exact ⟨z', o', css, by rw [pcall1 (fz_IA z o ar), e]; rfl, h⟩
/-! ### Eval -/
section
variable {m : Mem} {s : Nat} {F : List Nat} {most : Int} {l : List ND} {zs z : Bool} {os o : Own} {ar : List Int} {cs : List Int}
end
end Go.Ab

/- The store's list of a diagram, by value. -/
set_option linter.unusedVariables false
set_option linter.unusedSimpArgs false
set_option linter.unusedSectionVars false
set_option maxRecDepth 100000
namespace Go.Ab
open Go.Proofs Go.Proofs.Tryd

theorem ld_box {m : Mem} {nm : Nat} {b : Bool} {v : AV} (h : m.get nm = some (.obj b [v])) : loadA none m (.ptr nm 0) = some v := by
  rw [ld_ptr, h, objE_obj, Option.bind_some]; rfl
theorem st_box {m : Mem} {nm : Nat} {b : Bool} {v0 v : AV} (h : m.get nm = some (.obj b [v0])) (hv : shOk none v = true) (hc : v.cells = [v]) : storeA none m (.ptr nm 0) v = some (m.set nm (some (.obj b [v]))) := by
  rw [st_ptr, h, objE_obj, Option.bind_some]
  simp [putE1, Sh.size, hv, putAt, hc]
theorem ld_bool {m : Mem} {nm i : Nat} {ds : List Bool} (h : m.get nm = some (.obj false (ds.map .bool))) (hi : i < ds.length) : loadA none m (.ptr nm i) = some (.bool (ds.getD i false)) := by
  rw [ld_ptr, h, objE_obj, Option.bind_some, cut1, List.getElem?_map, List.getElem?_eq_getElem hi, List.getD_eq_getElem?_getD, List.getElem?_eq_getElem hi]; rfl
theorem st_bool {m : Mem} {nm i : Nat} {ds : List Bool} {y : Bool} (h : m.get nm = some (.obj false (ds.map .bool))) (hi : i < ds.length) : storeA none m (.ptr nm i) (.bool y) = some (m.set nm (some (.obj false ((ds.set i y).map .bool)))) := by
  have hg : m.obj? nm = some (false, ds.map .bool) := by rw [obj_objE, h]; rfl
  have h1 : i + 1 ≤ ds.length := hi
  simp only [storeA, hg, Option.bind_some, Sh.size, List.length_map, h1, if_true, shOk, atomOk, AV.cells]
  congr 4
  simp only [putAt, List.length_cons, List.length_nil]
  rw [List.map_set, List.set_eq_take_append_cons_drop]
  simp [hi, List.map_take, List.map_drop]
theorem f1v (a b c : AV) : fieldAddrA 1 (.vptr [a, b, c]) = some (.vptr [b, c]) := rfl
theorem l2v (m : Mem) (a b : AV) : loadA none m (.vptr [a, b]) = some a := rfl
/-- Where the listing stands. -/
structure LS (m0 m : Mem) (b s : Nat) (sb : List Bool) (out : List Nat) (x : AV) (T : List Nat) : Prop where
  hb : b = m0.length
  fr : Fr m0 m []
  h0 : m.get b = some (.obj true [.ptr s 0])
  h1 : m.get (b + 1) = some (.obj true [x])
  h2 : m.get (b + 2) = some (.obj false (sb.map .bool))
  h3 : m.get (b + 3) = some (.obj true [.arr (b + 2) 0 sb.length none])
  h4 : m.get (b + 4) = some (.obj true [.fn 40 [.ptr (b + 3) 0, .ptr b 0, .ptr (b + 4) 0, .ptr (b + 1) 0]])
  gr : GR 3 m x ((out.map Int.ofNat).map (AV.int .i64)) T
  hT : ∀ y ∈ T, b + 5 ≤ y
theorem nodup_lt : ∀ (n : Nat) (l : List Nat), l.Nodup → (∀ x ∈ l, x < n) → l.length ≤ n
  | 0, [], _, _ => Nat.le_refl _
  | 0, x :: l, _, h => by have := h x List.mem_cons_self; omega
  | n + 1, l, hn, h => by
    by_cases hm : n ∈ l
    · have e := List.length_erase_of_mem hm
      have := nodup_lt n (l.erase n) (hn.erase n) fun x hx => by
        have h1 := (hn.mem_erase_iff).1 hx
        have := h x h1.2
        have := h1.1
        omega
      omega
    · have := nodup_lt n l hn fun x hx => by
        have h1 := h x hx
        have : x ≠ n := fun e => hm (e ▸ hx)
        omega
      omega
section
variable {m0 : Mem} {b s : Nat} {F : List Nat} {arms : AV} {most : Int} {l : List ND} {ar : List Int}
def At75 (l : List ND) (m0 : Mem) (b s id : Nat) : Prop := ∀ (m : Mem) (sb : List Bool) (out : List Nat) (x : AV) (T : List Nat), LS m0 m b s sb out x T → sb.length = l.length → Cl l out → (∀ i, i ≤ id → sb.getD i false = decide (i ∈ out)) →
  ∃ (m' : Mem) (sb' : List Bool) (x' : AV) (T' : List Nat), AC cfg 40 [.int .i64 id, .ptr (b + 3) 0, .ptr b 0, .ptr (b + 4) 0, .ptr (b + 1) 0] m = some (.tup [], m') ∧ LS m0 m' b s sb' (Vi l id out) x' T' ∧ sb'.length = l.length ∧
    (∀ i, i ≤ id → sb'.getD i false = decide (i ∈ Vi l id out)) ∧ ∀ i, id < i → sb'.getD i false = sb.getD i false
theorem W75 (g : GoodL ar l) {id : Nat} (hid : id < l.length) (hll : l.length ≤ 100000) (ih : ∀ k, k < id → At75 l m0 b s k) {z : Bool} {o : Own} {kids : List Int} (hk : ∀ k ∈ kids, ∃ t : Nat, k = t ∧ t < id) (hkl : kids.length ≤ 1000) : ∀ (j i : Nat) (m : Mem) (sb : List Bool) (out : List Nat) (x : AV) (T : List Nat), i + j = kids.length → LS m0 m b s sb out x T → sb.length = l.length → Cl l out → (∀ i, i < id → sb.getD i false = decide (i ∈ out)) →
    ∃ (m' : Mem) (sb' : List Bool) (x' : AV) (T' : List Nat), L40_3 (.int .i64 id) (.ptr (b + 4) 0) (.ptr (b + 1) 0) (IA z o kids) (.int .i64 kids.length) (.int .i64 i) m (K40_3 (finK cfg.P f40.results.toList)) = K40_3 (finK cfg.P f40.results.toList) (.exit 0) (O40_3 (.int .i64 id) (.ptr (b + 1) 0) m') ∧
      LS m0 m' b s sb' (Vis l (kids.drop i) out) x' T' ∧ sb'.length = l.length ∧ (∀ i, i < id → sb'.getD i false = decide (i ∈ Vis l (kids.drop i) out) ∨ True) ∧ (∀ q, q < id → sb'.getD q false = decide (q ∈ Vis l (kids.drop i) out)) ∧ ∀ q, id ≤ q → sb'.getD q false = sb.getD q false := by
  intro j
  induction j with
  | zero =>
    intro i m sb out x T hi h hsl hc hsb
    refine ⟨m, sb, x, T, ?_, ?_, hsl, fun _ _ => .inr trivial, ?_, fun _ _ => rfl⟩
    · rw [L40_3_eq, binA_lss, Option.bind_some, ifA_dec, if_neg (by omega)]
    · rw [List.drop_eq_nil_of_le (by omega)]; exact h
    · rw [List.drop_eq_nil_of_le (by omega)]; exact hsb
  | succ j ihj =>
    intro i m sb out x T hi h hsl hc hsb
    have hil : i < kids.length := by omega
    obtain ⟨t, et, ht⟩ := hk _ (List.getElem_mem hil)
    obtain ⟨m1, sb1, x1, T1, e1, k1, k2, k3, k4⟩ := ih t ht m sb out x T h hsl hc (fun q hq => hsb q (by omega))
    obtain ⟨c1, c2, r, c3, c4⟩ := Vi_facts g t (by omega) out hc
    have hsb1 : ∀ q, q < id → sb1.getD q false = decide (q ∈ Vi l t out) := fun q hq => by
      by_cases hqt : q ≤ t
      · exact k3 q hqt
      · rw [k4 q (by omega), hsb q hq]
        refine decide_eq_decide.2 ⟨fun hh => by rw [c3]; exact List.mem_append_left _ hh, fun hh => ?_⟩
        rw [c3] at hh
        rcases List.mem_append.1 hh with hh | hh
        · exact hh
        · have := c4 q hh; omega
    obtain ⟨m', sb', x', T', e2, n1, n2, _, n3, n4⟩ := ihj (i + 1) m1 sb1 (Vi l t out) x1 T1 (by omega) k1 k2 c1 hsb1
    have ed : Vis l (kids.drop i) out = Vis l (kids.drop (i + 1)) (Vi l t out) := by
      rw [List.drop_eq_getElem_cons hil, Vis_cons, et, Int.toNat_natCast]
    refine ⟨m', sb', x', T', ?_, by rw [ed]; exact n1, n2, fun _ _ => .inr trivial, by rw [ed]; exact n3, fun q hq => by rw [n4 q hq, k4 q (by omega)]⟩
    have e1 : AC cfg 40 ([.int .i64 kids[i]] ++ [.ptr (b + 3) 0, .ptr b 0, .ptr (b + 4) 0, .ptr (b + 1) 0]) m = some (.tup [], m1) := by rw [et]; exact e1
    rw [L40_3_eq, binA_lss, Option.bind_some, ifA_dec, if_pos (by omega), idx_IA hil, Option.bind_some, loadA_one, Option.bind_some, ld_box h.h4, Option.bind_some, show fnOf (.fn 40 [.ptr (b + 3) 0, .ptr b 0, .ptr (b + 4) 0, .ptr (b + 1) 0]) = some (40, [.ptr (b + 3) 0, .ptr b 0, .ptr (b + 4) 0, .ptr (b + 1) 0]) from rfl, Option.bind_some, callK_in rfl rfl rfl, e1, Option.bind_some, i_add1 (by omega), Option.bind_some]
    exact e2
theorem A75 (h0 : St8 m0 s F arms most l) (hb : b = m0.length) (g : GoodL ar l) (hll : l.length ≤ 100000) : ∀ id, id < l.length → At75 l m0 b s id := by
  intro id
  induction id using Nat.strongRecOn with
  | ind id ih =>
    intro hid m sb out x T h hsl hc hsb
    have hsb0 := hsb id (Nat.le_refl _)
    have ld3 := ld_box h.h3
    have hixa : indexAddrA none (.arr (b + 2) 0 sb.length none) (.int .i64 id) = some (.ptr (b + 2) id) := index_arr (by omega)
    have st := h0.app h.fr
    obtain ⟨p, na, TT, st, _⟩ := st
    have hs := st.hs
    have hnx := na_idx st.hn hid
    have lb := ld_bool h.h2 (i := id) (by omega)
    have b2 := get_lt h.h2
    have b4 := get_lt h.h4
    have hsm : s < m0.length := by
      obtain ⟨p, na, TT, st0, _⟩ := h0
      exact get_lt st0.hs
    by_cases hm : id ∈ out
    · rw [decide_eq_true hm] at hsb0
      refine ⟨m, sb, x, T, ?_, ?_, hsl, ?_, fun _ _ => rfl⟩
      · rw [T40, ld3, Option.bind_some, hixa, Option.bind_some, lb, Option.bind_some, hsb0, ifA_t]
      · rw [Vi_eq g hid, if_pos hm]; exact h
      · rw [Vi_eq g hid, if_pos hm]; exact hsb
    · rw [decide_eq_false hm] at hsb0
      have sbq := st_bool (y := true) h.h2 (i := id) (by omega)
      have h' : LS m0 (m.set (b + 2) (some (.obj false ((sb.set id true).map .bool)))) b s (sb.set id true) out x T := by
        refine ⟨hb, h.fr.set _ (.inr (by omega)), ?_, ?_, ?_, ?_, ?_, ?_, h.hT⟩
        · rw [g_sne (by omega)]; exact h.h0
        · rw [g_sne (by omega)]; exact h.h1
        · exact g_seq rfl b2
        · rw [g_sne (by omega), List.length_set]; exact h.h3
        · rw [g_sne (by omega)]; exact h.h4
        · exact gr_move h.gr fun y hy => g_sne (by have := h.hT y hy; omega)
      have hsb' : ∀ q, q < id → (sb.set id true).getD q false = decide (q ∈ out) := fun q hq => by
        rw [List.getD_eq_getElem?_getD, List.getElem?_set_ne (by omega), ← List.getD_eq_getElem?_getD]
        exact hsb q (by omega)
      have hkA := kids_IA (st.ok _ (List.getElem_mem hid))
      have hkl : l[id].kids.length ≤ 1000 := by
        rcases st.ok _ (List.getElem_mem hid) with ⟨_, h2, _⟩ | ⟨_, _, _, _, h5⟩
        · rw [h2]; simp
        · omega
      obtain ⟨m1, sb1, x1, T1, e1, k1, k2, _, k3, k4⟩ := W75 g hid hll (fun k hk => ih k hk (by omega)) (z := kz l[id]) (o := ko l[id]) (kids := l[id].kids) (fun k hk => kid_lt g hid k hk) hkl l[id].kids.length 0 _ _ out x T (by omega) h' (by rw [List.length_set]; exact hsl) hc hsb'
      rw [List.drop_zero] at k1 k3
      obtain ⟨c1, c2, r, c3, c4⟩ := Vis_facts g hid l[id].kids (fun k hk => kid_lt g hid k hk) out hc
      have hl2 : (Vis l l[id].kids out).length ≤ l.length := by
        exact nodup_lt _ _ c1.nd c1.lt
      obtain ⟨x2, m2, T2, ea, g2, f2, gg2⟩ := gr_app (b := 8) k1.gr (by simp; omega) (by omega) (.int .i64 (id : Nat))
      have hne : ∀ q, q < b + 5 → q ∉ T1 := fun q hq hT => by have := k1.hT q hT; omega
      have ge : ∀ q, q < b + 5 → m2.get q = m1.get q := fun q hq => f2.get q (by have := get_lt k1.h4; omega) (hne q hq)
      have hl1 := get_lt k1.h4
      have hl12 := f2.len
      have g21 : m2.get (b + 1) = some (.obj true [x1]) := by rw [ge _ (by omega)]; exact k1.h1
      obtain ⟨xz, xo, rfl, _⟩ := gr_out g2
      have sx := st_box (v := .lst none xz xo ((Vis l l[id].kids out).map Int.ofNat |>.map (AV.int .i64) |>.append [.int .i64 id])) g21 rfl rfl
      have eV : Vi l id out = Vis l l[id].kids out ++ [id] := by rw [Vi_eq g hid, if_neg hm]
      have sx : storeA none m2 (.ptr (b + 1) 0) (.lst none xz xo (((Vis l l[id].kids out).map Int.ofNat).map (AV.int .i64) ++ [.int .i64 id])) = some (m2.set (b + 1) (some (.obj true [.lst none xz xo (((Vis l l[id].kids out).map Int.ofNat).map (AV.int .i64) ++ [.int .i64 id])]))) := st_box g21 rfl rfl
      refine ⟨m2.set (b + 1) (some (.obj true [.lst none xz xo (((Vis l l[id].kids out).map Int.ofNat).map (AV.int .i64) ++ [.int .i64 id])])), sb1, .lst none xz xo (((Vis l l[id].kids out).map Int.ofNat).map (AV.int .i64) ++ [.int .i64 id]), T2, ?_, ?_, k2, ?_, ?_⟩
      · rw [T40, ld3, Option.bind_some, hixa, Option.bind_some, lb, Option.bind_some, hsb0, ifA_f]
        rw [Option.bind_some, hixa, Option.bind_some, sbq, Option.bind_some, ld_box h'.h0, Option.bind_some, nil_ptr, Option.bind_some, fa_ptr, Option.bind_some]
        have ldna : loadA none (m.set (b + 2) (some (.obj false ((sb.set id true).map .bool)))) (.ptr s (0 + 1)) = some na := by
          rw [ld_ptr, g_sne (by omega), hs]; rfl
        rw [ldna, Option.bind_some, hnx, Option.bind_some, f1v, Option.bind_some, l2v, Option.bind_some, hkA, len_IA, Option.bind_some]
        have e1 : L40_3 (.int .i64 id) (.ptr (b + 4) 0) (.ptr (b + 1) 0) (IA (kz l[id]) (ko l[id]) l[id].kids) (.int .i64 l[id].kids.length) (.int .i64 0) (m.set (b + 2) (some (.obj false ((sb.set id true).map .bool)))) (K40_3 (finK cfg.P f40.results.toList)) = _ := e1
        rw [e1, K40_3_x0, ld_box k1.h1, Option.bind_some, build_int, Option.bind_some, ea, Option.bind_some, sx, Option.bind_some]
      · rw [eV]
        refine ⟨hb, (Fr.trans k1.fr f2 fun y hy => .inr (by have := k1.hT y hy; omega)).set _ (.inr (by omega)), ?_, ?_, ?_, ?_, ?_, ?_, ?_⟩
        · rw [g_sne (by omega), ge _ (by omega)]; exact k1.h0
        · exact g_seq rfl (by omega)
        · rw [g_sne (by omega), ge _ (by omega)]; exact k1.h2
        · rw [g_sne (by omega), ge _ (by omega)]; exact k1.h3
        · rw [g_sne (by omega), ge _ (by omega)]; exact k1.h4
        · rw [List.map_append, List.map_append]
          refine gr_move g2 fun y hy => g_sne ?_
          rcases gg2 y hy with hh | hh
          · have := k1.hT y hh; omega
          · omega
        · intro y hy
          rcases gg2 y hy with hh | hh
          · exact k1.hT y hh
          · omega
      · intro q hq
        rw [eV]
        by_cases hqi : q = id
        · subst hqi
          rw [k4 q (Nat.le_refl _), List.getD_eq_getElem?_getD, List.getElem?_set_self (by omega), Option.getD_some]
          exact (decide_eq_true (by simp)).symm
        · rw [k3 q (by omega)]
          refine decide_eq_decide.2 ⟨fun hh => List.mem_append_left _ hh, fun hh => ?_⟩
          rcases List.mem_append.1 hh with hh | hh
          · exact hh
          · exact absurd (by simpa using hh) hqi
      · intro q hq
        rw [k4 q (by omega), List.getD_eq_getElem?_getD, List.getElem?_set_ne (by omega), ← List.getD_eq_getElem?_getD]
theorem make_bool (m : Mem) (n : Nat) (h : n ≤ 100000) : makeA none 4 none (.bool false) 1 m (.int .i64 n) (.int .i64 n) = some (.arr m.length 0 n none, m ++ [some (Ent.obj false ((List.replicate n false).map .bool))]) := by
  have h3 : (n : Int) * 1 ≤ 281474976710656 := by omega
  have h4 : (n : Int) ≤ 9223372036854775807 := by omega
  have h5 : (0 : Int) ≤ n := by omega
  simp only [makeA, newAt, zeros, Int.le_refl, if_true, Int.toNat_natCast, List.map_replicate]
  rw [if_pos ⟨h5, trivial, h3, h4⟩]
theorem A61 (h0 : St8 m0 s F arms most l) (g : GoodL ar l) (hll : l.length ≤ 100000) {id : Nat} (hid : id < l.length) : ∃ (m' : Mem) (x : AV) (T : List Nat), AC cfg 26 [.ptr s 0, .int .i64 id] m0 = some (x, m') ∧ GR 3 m' x (((Vi l id []).map Int.ofNat).map (AV.int .i64)) T ∧ Fr m0 m' [] := by
  have hx := h0
  obtain ⟨p, na, TT, h, _⟩ := hx
  have hs := h.hs
  have hsl := get_lt hs
  have hlen : lenA false na = some (.int .i64 l.length) := by
    cases h.hn with
    | none => rfl
    | some t l ht => rw [lenA_lst, List.length_map]
  have mk := fun m => make_bool m l.length hll
  generalize hM : (List.set ((List.set (((m0 ++ [some (Ent.obj true [.ptr s 0])]) ++ [some (Ent.obj true [.lst none true .full []])]) ++ [some (Ent.obj false ((List.replicate l.length false).map .bool))] ++ [some (Ent.obj true [.lst none true .full []])]) (m0.length + 1 + 1 + 1) (some (Ent.obj true [.arr (m0.length + 1 + 1) 0 l.length none]))) ++ [some (Ent.obj true [.nilf])]) (m0.length + 1 + 1 + 1 + 1) (some (Ent.obj true [.fn 40 [.ptr (m0.length + 1 + 1 + 1) 0, .ptr m0.length 0, .ptr (m0.length + 1 + 1 + 1 + 1) 0, .ptr (m0.length + 1) 0]]))) = M
  have ls : LS m0 M m0.length s (List.replicate l.length false) [] (.lst none true .full []) [] := by
    rw [← hM]
    refine ⟨rfl, ?_, (by simp (disch := (first | assumption | omega | (simp only [List.length_append, List.length_set, List.length_cons, List.length_nil]; first | done | omega))) only [resv1, g_lt, g_eq, g_sne, g_seq]; first | done | rfl), (by simp (disch := (first | assumption | omega | (simp only [List.length_append, List.length_set, List.length_cons, List.length_nil]; first | done | omega))) only [resv1, g_lt, g_eq, g_sne, g_seq]; first | done | rfl), (by simp (disch := (first | assumption | omega | (simp only [List.length_append, List.length_set, List.length_cons, List.length_nil]; first | done | omega))) only [resv1, g_lt, g_eq, g_sne, g_seq]; first | done | rfl), ?_, (by simp (disch := (first | assumption | omega | (simp only [List.length_append, List.length_set, List.length_cons, List.length_nil]; first | done | omega))) only [resv1, g_lt, g_eq, g_sne, g_seq]; first | done | rfl), .none, by simp⟩
    · exact ((((((Fr.app m0 _ _).snoc _).snoc _).snoc _).set _ (.inr (by omega))).snoc _).set _ (.inr (by omega))
    · rw [List.length_replicate]; exact (by simp (disch := (first | assumption | omega | (simp only [List.length_append, List.length_set, List.length_cons, List.length_nil]; first | done | omega))) only [resv1, g_lt, g_eq, g_sne, g_seq]; first | done | rfl)
  obtain ⟨m', sb', x', T', e, k1, _, _, _⟩ := A75 h0 rfl g hll id hid M (List.replicate l.length false) [] (.lst none true .full []) [] ls (by simp) cl_nil (fun i hi => by
    rw [List.getD_eq_getElem?_getD, List.getElem?_replicate, if_pos (by omega)]; rfl)
  refine ⟨m', x', T', ?_, k1.gr, k1.fr⟩
  rw [T26]
  repeat ((with_reducible (first | apply bs | apply bsy)); (focus (first | (simp (disch := (first | assumption | omega | (simp only [List.length_append, List.length_set, List.length_cons, List.length_nil]; first | done | omega))) only [List.all_cons, List.all_nil, Bool.and_true, Bool.and_self, beq_self_eq_true, resv1, List.length_map, ld_v3, ld_v1, binA_eql, binA_neq, binA_lss, binA_leq, binA_gtr, binA_geq, loadA_one, un_not, ld_ptr, st_ptr, putE1, objE_obj, Option.bind_some, cut1, cut3, cut4, nil_ptr, fa_ptr, g_lt, g_eq, g_sne, g_seq, new_n, box_n, List.getElem?_cons_zero, List.getElem?_cons_succ, ex0, ex1, Sh.size, cells_int, aok_int, cells_bool, aok_bool, cells_str, aok_str, cells_lst, aok_lst, cells_ptr, aok_ptr, cells_arr, aok_arr, cells_fn, aok_fn, cells_mref, aok_mref, cells_nilp, aok_nilp, cells_agg, shOk_n, shOk_s, lenA_lst, List.length_cons, List.length_nil, if_true, putAt, List.take_succ_cons, List.take_zero, List.drop_succ_cons, List.drop_zero, List.cons_append, List.nil_append, List.append_nil, Nat.zero_add, Nat.reduceAdd, Nat.reduceLeDiff, Nat.le_refl, List.drop_nil, List.take_nil, List.length_append, List.length_set, hs, hlen, mk, box_p]; first | done | rfl) | rfl)); try dsimp only)
  have en : (newAt none (m0 ++ [some (Ent.obj true [.ptr s 0])]) .resv).1 = m0.length + 1 := by simp [new_n]
  rw [callK_in rfl rfl rfl, hM, List.singleton_append, e, Option.bind_some, en]
  dsimp only
  rw [ld_box k1.h1, Option.bind_some]
end
end Go.Ab

/- List: the nodes of a diagram, each with the places of its kids. -/
set_option linter.unusedVariables false
set_option linter.unusedSimpArgs false
set_option linter.unusedSectionVars false
set_option maxRecDepth 100000
namespace Go.Ab
open Go.Proofs Go.Proofs.Tryd

/-- A row's parts strip to a node's kids. -/
theorem strip_gr {m : Mem} {x : AV} {ks : List Int} {T : List Nat} (h : GR 3 m x (ks.map (AV.int .i64)) T) {n : ND} (hk : n.kids = ks) (hn : n.ok) (hne : ¬ n.var < 0 → ks ≠ []) : ∃ z o, x = .lst none z o (n.kids.map (AV.int .i64)) ∧ stripA (.lst none z o (n.kids.map (AV.int .i64))) = kidsA n := by
  subst hk
  generalize he : n.kids.map (AV.int .i64) = es at h
  cases h with
  | none =>
    refine ⟨true, .full, rfl, ?_⟩
    unfold kidsA
    rw [if_pos]
    · rfl
    · refine Decidable.byContradiction fun hv => hne hv (List.map_eq_nil_iff.1 he)
  | some t es ht hne2 =>
    refine ⟨false, .tok t 3, rfl, ?_⟩
    unfold kidsA
    rw [if_neg, he]
    · rfl
    · intro hv
      rcases hn with ⟨_, h2, _⟩ | ⟨h1, _⟩
      · rw [h2] at he
        exact hne2 he.symm
      · omega
/-! ### The walk over the ids -/
section
variable {m0 : Mem} {s : Nat} {F : List Nat} {arms : AV} {most : Int} {l : List ND} {ar : List Int}
theorem nd_ok (g : GoodL ar l) (hll : l.length ≤ 100000) {p : List Nat} (hp : p.length ≤ 100000) {id : Nat} (hid : id < l.length) : (nd l p id).ok := by
  unfold nd
  rw [getD_at hid]
  rcases g.ok _ (List.getElem_mem hid) with ⟨a1, a2, a3⟩ | ⟨a1, a2, a3, a4, a5⟩
  · refine .inl ⟨a1, ?_, a3⟩
    simp only [a2]; rfl
  · refine .inr ⟨a1, a2, a3, fun k hk => ?_, by simpa using a5⟩
    obtain ⟨q, _, rfl⟩ := List.mem_map.1 hk
    have := List.idxOf_le_length (a := q.toNat) (l := p)
    omega
theorem good_kn (g : GoodL ar l) : kidsNe l := fun n hn hv => by
  obtain ⟨i, hi, rfl⟩ := List.getElem_of_mem hn
  obtain ⟨k, hk, _⟩ := g.dif i hi (by omega)
  exact List.ne_nil_of_mem hk
end
end Go.Ab

/- The reference's list of a table, by value. -/
set_option linter.unusedVariables false
set_option linter.unusedSimpArgs false
set_option linter.unusedSectionVars false
set_option maxRecDepth 100000
namespace Go.Ab
open Go.Proofs Go.Proofs.Tryd

theorem st_new3' {m : Mem} {a b c a' b' c' : AV} (hs : shOk (some 3) (.agg [a', b', c']) = true) : storeA (some 3) (m ++ [some (Ent.obj true [a, b, c])]) (.ptr m.length 0) (.agg [a', b', c']) = some (m ++ [some (Ent.obj true [a', b', c'])]) := by
  rw [st_ptr, g_eq rfl, objE_obj, Option.bind_some]
  simp [putE1, Sh.size, hs, putAt, AV.cells]
theorem nr_appS {e : Nat} {m : Mem} {x : AV} {l : List ND} {T : List Nat} (h : NR e m x l T) (hl : l.length ≤ 100000) (n : ND) : ∃ x' m' T', appA (some m.length) false e (some 3) 40 (m ++ [some Ent.resv]) x (.lst (some 3) false .full [n.av]) = some (x', m') ∧ NR e m' x' (l ++ [n]) T' ∧ Fr m m' T ∧ Gr m T T' := by
  have h2 : (l.length + 1) * 40 ≤ roomA := by unfold roomA; omega
  cases h with
  | none =>
    refine ⟨.lst (some 3) false (.tok m.length e) [n.av], (m ++ [some Ent.resv]).set m.length (some (Ent.tok 1 3)), [m.length], ?_, .some _ [n] (by simp (disch := (first | assumption | omega | (simp only [List.length_append, List.length_set, List.length_cons, List.length_nil]; first | done | omega))) only [resv1, g_lt, g_eq, g_sne, g_seq]; first | done | rfl), (Fr.app m _ _).set _ (.inr (Nat.le_refl _)), fun k hk => ?_⟩
    · have h2 : 40 ≤ roomA := by unfold roomA; omega
      simp [appA, h2, newAt, Sh.size]
    · obtain rfl : k = m.length := by simpa using hk
      exact .inr (Nat.le_refl _)
  | some t es ht =>
    have htl := get_lt ht
    have ht' : Mem.get (m ++ [some Ent.resv]) t = some (.tok l.length 3) := by rw [g_lt htl]; exact ht
    refine ⟨.lst (some 3) false (.tok t e) (l.map ND.av ++ [n.av]), (m ++ [some Ent.resv]).set t (some (Ent.tok (l.length + 1) 3)), [t], ?_, ?_, (Fr.app m _ [t]).set _ (.inl (by simp)), Gr.refl _ _⟩
    · simp [appA, ht', Sh.size, h2]
    · have e3 : l.map ND.av ++ [n.av] = (l ++ [n]).map ND.av := by simp
      rw [e3]
      refine .some t (l ++ [n]) ?_
      rw [g_seq rfl (by simp; omega), List.length_append]; rfl
theorem fz_node (a b : Int) (z : Bool) (o : Own) (ks : List AV) : Fz (.agg [.int .i64 a, .lst none z o ks, .int .i64 b]) (.agg [.int .i64 a, stripA (.lst none z o ks), .int .i64 b]) := fun m => by cases o <;> rfl
theorem nr_lst {e : Nat} {m : Mem} {x : AV} {l : List ND} {T : List Nat} (h : NR e m x l T) : ∃ sh z o es, x = .lst sh z o es := by
  cases h with
  | none => exact ⟨_, _, _, _, rfl⟩
  | some t l ht => exact ⟨_, _, _, _, rfl⟩
/-- The search, and the putting behind. -/
theorem A70t {m : Mem} {b q : Nat} {arms x : AV} {L : List ND} {T : List Nat} {n : ND} {z : Bool} {o : Own} (hbg : m.get b = some (.obj true [arms, x])) (h : NR 71 m x L T) (hbT : b ∉ T) (hqb : q ≠ b) (hqT : q ∉ T) (hq : m.get q = some (.obj true [.int .i64 n.var, .lst none z o (n.kids.map (AV.int .i64)), .int .i64 n.leaf]))
    (hk : stripA (.lst none z o (n.kids.map (AV.int .i64))) = kidsA n) (hn : n.ok) (hL : ∀ y ∈ L, y.ok) (hl : L.length ≤ 100000) :
    ∃ (m' : Mem) (x' : AV) (T' : List Nat), L29_18 (.ptr b 0) (.ptr q 0) x (.int .i64 L.length) (.int .i64 0) m (K29_18 (finK cfg.P f29.results.toList)) = some (.int .i64 (L.idxOf n : Nat), m') ∧ m'.get b = some (.obj true [arms, x']) ∧ NR 71 m' x' (ins L n) T' ∧ Fr m m' (b :: T) ∧ Gr m T T' ∧ b ∉ T' := by
  have hbl := get_lt hbg
  have hql := get_lt hq
  have hav : AV.agg [.int .i64 n.var, kidsA n, .int .i64 n.leaf] = n.av := rfl
  have W : ∀ (j i : Nat) (m1 : Mem), i + j = L.length → (∀ t (ht : t < L.length), t < i → L[t] ≠ n) → Fr m m1 [] →
      ∃ m2, L29_18 (.ptr b 0) (.ptr q 0) x (.int .i64 L.length) (.int .i64 i) m1 (K29_18 (finK cfg.P f29.results.toList)) = (if n ∈ L then some (.int .i64 (L.idxOf n : Nat), m2) else K29_18 (finK cfg.P f29.results.toList) (.exit 4) (O29_18 (.ptr b 0) (.ptr q 0) m2)) ∧ Fr m m2 [] := by
    intro j
    induction j with
    | zero =>
      intro i m1 hi hne f
      have hnm : n ∉ L := fun hm => by
        obtain ⟨t, ht, e⟩ := List.getElem_of_mem hm
        exact hne t ht (by omega) e
      refine ⟨m1, ?_, f⟩
      rw [L29_18_eq, binA_lss, Option.bind_some, ifA_dec, if_neg (by omega), if_neg hnm]
    | succ j ih =>
      intro i m1 hi hne f
      have hil : i < L.length := by omega
      have hidx := nr_idx h hil
      have bxi := box_av L[i] m1 (get_len m1)
      have f2 : Fr m (m1 ++ [some (Ent.obj true [.int .i64 L[i].var, kidsA L[i], .int .i64 L[i].leaf])]) [] := f.snoc _
      have gq : Mem.get (m1 ++ [some (Ent.obj true [.int .i64 L[i].var, kidsA L[i], .int .i64 L[i].leaf])]) q = _ := (f2.get q hql (by simp)).trans hq
      have ld1 : loadA (some 3) (m1 ++ [some (Ent.obj true [.int .i64 L[i].var, kidsA L[i], .int .i64 L[i].leaf])]) (.ptr q 0) = some (.agg [.int .i64 n.var, .lst none z o (n.kids.map (AV.int .i64)), .int .i64 n.leaf]) := by
        rw [ld_ptr, gq]; rfl
      have ld2 : loadA (some 3) (m1 ++ [some (Ent.obj true [.int .i64 L[i].var, kidsA L[i], .int .i64 L[i].leaf])]) (.ptr m1.length 0) = some L[i].av := by
        rw [ld_ptr, g_eq rfl]; rfl
      have p60 : pcall (AP cfg) none (m1 ++ [some (Ent.obj true [.int .i64 L[i].var, kidsA L[i], .int .i64 L[i].leaf])]) 44 [.agg [.int .i64 n.var, .lst none z o (n.kids.map (AV.int .i64)), .int .i64 n.leaf], L[i].av] = some (.bool (decide (n = L[i])), m1 ++ [some (Ent.obj true [.int .i64 L[i].var, kidsA L[i], .int .i64 L[i].leaf])]) := by
        rw [pcall2 (fz_node _ _ _ _ _) (fz_av _), hk, hav, V60 hn (hL _ (List.getElem_mem hil))]; rfl
      have e0 : L29_18 (.ptr b 0) (.ptr q 0) x (.int .i64 L.length) (.int .i64 i) m1 (K29_18 (finK cfg.P f29.results.toList)) = ifA (.bool (decide (n = L[i]))) (some (.int .i64 i, m1 ++ [some (Ent.obj true [.int .i64 L[i].var, kidsA L[i], .int .i64 L[i].leaf])])) (L29_18 (.ptr b 0) (.ptr q 0) x (.int .i64 L.length) (.int .i64 (i + 1 : Nat)) (m1 ++ [some (Ent.obj true [.int .i64 L[i].var, kidsA L[i], .int .i64 L[i].leaf])]) (K29_18 (finK cfg.P f29.results.toList))) := by
        rw [L29_18_eq, binA_lss, Option.bind_some, ifA_dec, if_pos (by omega), hidx, Option.bind_some, ld_v3, Option.bind_some, new_n, new_n]
        dsimp only
        rw [bxi, Option.bind_some, ld1, Option.bind_some, ld2, Option.bind_some, p60, Option.bind_some, i_add1 (by omega), Option.bind_some, K29_18_ret]
      rw [e0, ifA_dec]
      by_cases he : n = L[i]
      · have hm : n ∈ L := he ▸ List.getElem_mem hil
        have hix : L.idxOf n = i := idxOf_first hil he.symm hne
        refine ⟨_, ?_, f2⟩
        rw [if_pos he, if_pos hm, hix]
      · rw [if_neg he]
        exact ih (i + 1) _ (by omega) (fun t ht hti => by
          rcases Nat.lt_or_ge t i with hh | hh
          · exact hne t ht hh
          · obtain rfl : t = i := by omega
            exact fun e => he e.symm) f2
  obtain ⟨m2, e2, f2⟩ := W L.length 0 m (by omega) (fun _ _ h => by omega) (Fr.refl _ _)
  have e2 : L29_18 (.ptr b 0) (.ptr q 0) x (.int .i64 L.length) (.int .i64 0) m (K29_18 (finK cfg.P f29.results.toList)) = _ := e2
  rw [e2]
  have gb2 : m2.get b = some (.obj true [arms, x]) := (f2.get b hbl (by simp)).trans hbg
  by_cases hm : n ∈ L
  · rw [if_pos hm, ins, if_pos hm]
    exact ⟨m2, x, T, rfl, gb2, nr_move h fun k hk => f2.get k (nr_lt h k hk) (by simp), f2.mono (by simp), Gr.refl _ _, hbT⟩
  · rw [if_neg hm, ins, if_neg hm, idxOf_not hm]
    have gq2 : Mem.get m2 q = some (.obj true [.int .i64 n.var, .lst none z o (n.kids.map (AV.int .i64)), .int .i64 n.leaf]) := (f2.get q hql (by simp)).trans hq
    have h2 : NR 71 m2 x L T := nr_move h fun k hk => f2.get k (nr_lt h k hk) (by simp)
    obtain ⟨x3, m3, T3, ea, n3, f3, gg3⟩ := nr_appS h2 hl n
    have hbs := bsl_nd n.var n.leaf z o (n.kids.map (AV.int .i64))
    rw [hk, hav] at hbs
    have hb2l := get_lt gb2
    have hq2l := get_lt gq2
    have gb3 : m3.get b = some (.obj true [arms, x]) := (f3.get b hb2l hbT).trans gb2
    have hb3l := get_lt gb3
    have ldx : loadA none (reserve m2 1) (.ptr b (0 + 1)) = some x := by rw [resv1, ld_ptr, g_lt hb2l, gb2]; rfl
    have ldq : loadA (some 3) (reserve m2 1) (.ptr q 0) = some (.agg [.int .i64 n.var, .lst none z o (n.kids.map (AV.int .i64)), .int .i64 n.leaf]) := by rw [resv1, ld_ptr, g_lt hq2l, gq2]; rfl
    obtain ⟨sh3, z3, o3, es3, rfl⟩ := nr_lst n3
    have st : storeA none m3 (.ptr b (0 + 1)) (.lst sh3 z3 o3 es3) = some (m3.set b (some (.obj true [arms, .lst sh3 z3 o3 es3]))) := by
      rw [st_ptr, gb3, objE_obj, Option.bind_some]; rfl
    have ld4 : loadA none (m3.set b (some (.obj true [arms, .lst sh3 z3 o3 es3]))) (.ptr b (0 + 1)) = some (.lst sh3 z3 o3 es3) := by
      rw [ld_ptr, g_seq rfl hb3l]; rfl
    have ln := nr_len n3
    have hbT3 : b ∉ T3 := fun hh => by
      rcases gg3 b hh with h4 | h4
      · exact hbT h4
      · omega
    refine ⟨m3.set b (some (.obj true [arms, .lst sh3 z3 o3 es3])), .lst sh3 z3 o3 es3, T3, ?_, g_seq rfl hb3l, nr_move n3 fun k hk => g_sne (fun e => hbT3 (e ▸ hk)), ?_, ?_, hbT3⟩
    · rw [resv1] at ldx ldq
      rw [K29_18_x4, nil_ptr, Option.bind_some, fa_ptr, Option.bind_some, resv1, ldx, Option.bind_some, ldq, Option.bind_some, hbs, Option.bind_some, ea, Option.bind_some, Option.bind_some, fa_ptr, Option.bind_some, st, Option.bind_some, Option.bind_some, fa_ptr, Option.bind_some, ld4, Option.bind_some, ln, Option.bind_some, List.length_append, i_sub1 (by simp) (by simp; omega), Option.bind_some]
      simp
    · exact ((Fr.trans (f2.mono (F' := b :: T) (by simp)) f3 fun x hx => .inl (by simp [hx])).set _ (.inl (by simp)))
    · intro k hk
      rcases gg3 k hk with h4 | h4
      · exact .inl h4
      · have := f2.len; exact .inr (by omega)
end Go.Ab

/- The reference's list of a table, by value: place. -/
set_option linter.unusedVariables false
set_option linter.unusedSimpArgs false
set_option linter.unusedSectionVars false
set_option maxRecDepth 100000
namespace Go.Ab
open Go.Proofs Go.Proofs.Tryd

theorem gr_tok {e : Nat} {m : Mem} {x : AV} {l : List AV} {T : List Nat} (h : GR e m x l T) : ∀ k ∈ T, ∃ n, m.get k = some (.tok n 1) := by
  cases h with
  | none => simp
  | some t l ht _ =>
    intro k hk
    obtain rfl : k = t := by simpa using hk
    exact ⟨_, ht⟩
/-- What place does. -/
def At70 (l : List ND) (ar : List Int) (za : Bool) (oa : Own) (b v : Nat) : Prop := ∀ (m : Mem) (z : Bool) (o : Own) (part : List Int) (id : Nat) (out : List Nat) (x : AV) (T : List Nat), m.get b = some (.obj true [IA za oa ar, x]) → NR 71 m x (mapN l out) T → b ∉ T → Cl l out → TabV ar l id v part →
  ∃ (m' : Mem) (x' : AV) (T' : List Nat), AC cfg 29 [.ptr b 0, .int .i64 v, IA z o part] m = some (.int .i64 ((Vi l id out).idxOf id : Nat), m') ∧ m'.get b = some (.obj true [IA za oa ar, x']) ∧ NR 71 m' x' (mapN l (Vi l id out)) T' ∧ Fr m m' (b :: T) ∧ Gr m T T' ∧ b ∉ T'
section
variable {l : List ND} {ar : List Int} {za : Bool} {oa : Own} {b v : Nat}
/-- Are all parts the same? -/
theorem W70f {m : Mem} {x : AV} (hbg : m.get b = some (.obj true [IA za oa ar, x])) {z z1 : Bool} {o o1 : Own} {part first : List Int} {a n : Nat} (hv : v < ar.length) (ha : ar[v] = (a : Int)) (ha64 : a ≤ 64) (hp : part.length = a * n) (hpl : part.length ≤ 300) (hf : first.length ≤ 300) (x7 : AV) (K : Ex → St → Option (AV × Mem)) : ∀ (j k : Nat) (fr : Bool), k + j = a →
    ∃ fr' : Bool, L29_7 (.ptr b 0) (.int .i64 v) (IA z o part) x7 (.int .i64 n) (IA z1 o1 first) (.bool fr) (.int .i64 k) m K = K (.exit 0) (O29_7 (.ptr b 0) (.int .i64 v) (IA z o part) x7 (.int .i64 n) (IA z1 o1 first) (.bool fr') m) ∧ (fr' = true ↔ fr = true ∧ ∀ q, k ≤ q → q < a → _root_.Go.Ab.part part n q = first) := by
  have hix : indexAddrA none (IA za oa ar) (.int .i64 v) = some (.vptr [.int .i64 a]) := by rw [idx_IA hv, ha]
  have ldx : loadA none m (.ptr b (0 + 0)) = some (IA za oa ar) := by rw [ld_ptr, hbg]; rfl
  intro j
  induction j with
  | zero =>
    intro k fr hk
    refine ⟨fr, ?_, ⟨fun h => ⟨h, fun q h1 h2 => by omega⟩, fun h => h.1⟩⟩
    rw [L29_7_eq, nil_ptr, Option.bind_some, fa_ptr, Option.bind_some, ldx, Option.bind_some, hix, Option.bind_some, loadA_one, Option.bind_some, n_lss, Option.bind_some, ifA_dec, if_neg (by omega)]
  | succ j ih =>
    intro k fr hk
    have hka : k < a := by omega
    have hkn : (k + 1) * n ≤ part.length := by rw [hp]; exact Nat.mul_le_mul_right _ (by omega)
    have hkn0 : k * n ≤ (k + 1) * n := Nat.mul_le_mul_right _ (by omega)
    have hpk := part_len hp hka
    have hn0 : n ≤ (k + 1) * n := Nat.le_mul_of_pos_left _ (by omega)
    cases fr with
    | false =>
      obtain ⟨fr', e, h⟩ := ih (k + 1) false (by omega)
      refine ⟨fr', ?_, ?_⟩
      · rw [L29_7_eq, nil_ptr, Option.bind_some, fa_ptr, Option.bind_some, ldx, Option.bind_some, hix, Option.bind_some, loadA_one, Option.bind_some, n_lss, Option.bind_some, ifA_dec, if_pos hka, ifA_f, i_add1 (by omega), Option.bind_some]
        exact e
      · rw [h]; simp
    | true =>
      obtain ⟨fr', e, h⟩ := ih (k + 1) (decide (_root_.Go.Ab.part part n k = first)) (by omega)
      refine ⟨fr', ?_, ?_⟩
      · rw [L29_7_eq, nil_ptr, Option.bind_some, fa_ptr, Option.bind_some, ldx, Option.bind_some, hix, Option.bind_some, loadA_one, Option.bind_some, n_lss, Option.bind_some, ifA_dec, if_pos hka, ifA_t, n_mul (by omega), Option.bind_some, i_add1 (by omega), Option.bind_some, n_mul (by omega), Option.bind_some, cut_IA z o part .i64 hkn, Option.bind_some, pc79 z z1 .no o1 _ first (by omega) m, Option.bind_some, Option.bind_some]
        exact e
      · rw [h, decide_eq_true_iff]
        constructor
        · rintro ⟨h1, h2⟩
          refine ⟨rfl, fun q hq1 hq2 => ?_⟩
          by_cases hqk : q = k
          · subst hqk; exact h1
          · exact h2 q (by omega) hq2
        · rintro ⟨_, h2⟩
          exact ⟨h2 k (Nat.le_refl _) hka, fun q hq1 hq2 => h2 q (by omega) hq2⟩
/-- The kids are placed. -/
theorem W70k (g : GoodL ar l) (h1 : ∀ x ∈ ar, 1 ≤ x ∧ x ≤ 64) (hll : l.length ≤ 100000) (hv : v < ar.length) (hal : ar.length ≤ 16) {a n : Nat} (ha : ar[v] = (a : Int)) (hn : n = prodF (ar.drop (v + 1))) {id : Nat} (hid : id < l.length) (hvar : l[id].var = v) {part : List Int} (htab : TabV ar l id v part) (hpl : part.length ≤ 300) (ih : At70 l ar za oa b (v + 1)) {z : Bool} {o : Own}
    {m0 : Mem} {T0 : List Nat} {q : Nat} (hq0 : m0.length ≤ q) (hbq : b < m0.length) (hT0 : ∀ y ∈ T0, y < m0.length) : ∀ (j k : Nat) (m : Mem) (out : List Nat) (x xk : AV) (T Tk : List Nat), k + j = a → m.get b = some (.obj true [IA za oa ar, x]) → NR 71 m x (mapN l out) T → b ∉ T → Cl l out → Fr m0 m (b :: T0) → Gr m0 T0 T → q ∉ T → (∀ i ∈ l[id].kids.take k, i.toNat ∈ out) →
      m.get q = some (.obj true [.int .i64 v, xk, .int .i64 0]) → GR 3 m xk (((l[id].kids.take k).map fun i => ((out.idxOf i.toNat : Nat) : Int)).map (AV.int .i64)) Tk → (∀ y ∈ Tk, m0.length ≤ y ∧ y ∉ T) →
      ∃ (m' : Mem) (x' xk' : AV) (T' Tk' : List Nat), L29_14 (.ptr b 0) (.int .i64 v) (IA z o part) (.ptr q 0) (.int .i64 n) (.int .i64 k) m (K29_14 (finK cfg.P f29.results.toList)) = K29_14 (finK cfg.P f29.results.toList) (.exit 2) (O29_14 (.ptr b 0) (.ptr q 0) m') ∧
        m'.get b = some (.obj true [IA za oa ar, x']) ∧ NR 71 m' x' (mapN l (Vis l (l[id].kids.drop k) out)) T' ∧ b ∉ T' ∧ Fr m0 m' (b :: T0) ∧ Gr m0 T0 T' ∧ q ∉ T' ∧ m'.get q = some (.obj true [.int .i64 v, xk', .int .i64 0]) ∧ GR 3 m' xk' ((l[id].kids.map fun i => (((Vis l (l[id].kids.drop k) out).idxOf i.toNat : Nat) : Int)).map (AV.int .i64)) Tk' := by
  have hget : ar.getD v 0 = (a : Int) := by rw [List.getD_eq_getElem?_getD, List.getElem?_eq_getElem hv, Option.getD_some, ha]
  have hab := h1 _ (List.getElem_mem hv)
  have hkl : l[id].kids.length = a := by
    have := (g.var id hid (by omega)).2
    rw [hvar, Int.toNat_natCast, hget] at this
    omega
  have hp : part.length = a * n := by
    rw [htab.len, prod_step hv, hget, hn]; rfl
  have hix : indexAddrA none (IA za oa ar) (.int .i64 v) = some (.vptr [.int .i64 a]) := by rw [idx_IA hv, ha]
  intro j
  induction j with
  | zero =>
    intro k m out x xk T Tk hk hbg hnr hbT hc f gr hqT hkin hqg hgk hTk
    have hd : l[id].kids.drop k = [] := List.drop_eq_nil_of_le (by omega)
    have ht : l[id].kids.take k = l[id].kids := List.take_of_length_le (by omega)
    rw [ht] at hgk
    have ldx : loadA none m (.ptr b (0 + 0)) = some (IA za oa ar) := by rw [ld_ptr, hbg]; rfl
    refine ⟨m, x, xk, T, Tk, ?_, hbg, by rw [hd]; exact hnr, hbT, f, gr, hqT, hqg, by rw [hd]; exact hgk⟩
    rw [L29_14_eq, nil_ptr, Option.bind_some, fa_ptr, Option.bind_some, ldx, Option.bind_some, hix, Option.bind_some, loadA_one, Option.bind_some, n_lss, Option.bind_some, ifA_dec, if_neg (by omega)]
  | succ j ihj =>
    intro k m out x xk T Tk hk hbg hnr hbT hc f gr hqT hkin hqg hgk hTk
    have hka : k < a := by omega
    have hkk : k < l[id].kids.length := by omega
    have hkn : (k + 1) * n ≤ part.length := by rw [hp]; exact Nat.mul_le_mul_right _ (by omega)
    have hkn0 : k * n ≤ (k + 1) * n := Nat.mul_le_mul_right _ (by omega)
    have ldx : loadA none m (.ptr b (0 + 0)) = some (IA za oa ar) := by rw [ld_ptr, hbg]; rfl
    obtain ⟨t, et, ht⟩ := kid_lt g hid _ (List.getElem_mem hkk)
    have htk := tab_kid g (fun x hx => (h1 x hx).1) hv htab hid hvar (k := k) (by rw [hget]; omega)
    have eg : l[id].kids.getD k 0 = (t : Int) := by rw [List.getD_eq_getElem?_getD, List.getElem?_eq_getElem hkk, Option.getD_some, et]
    rw [eg, Int.toNat_natCast, ← hn] at htk
    have hbl := get_lt hbg
    have hql := get_lt hqg
    obtain ⟨m1, x1, T1, e70, gb1, n1, f1, gr1, hbT1⟩ := ih m z .no _ t out x T hbg hnr hbT hc htk
    obtain ⟨c1, c2, r, c3, c4⟩ := Vi_facts g t htk.lt out hc
    have hqb : q ≠ b := by omega
    have hq1 : m1.get q = some (.obj true [.int .i64 v, xk, .int .i64 0]) := (f1.get q hql (by simp; exact ⟨hqb, hqT⟩)).trans hqg
    have hqT1 : q ∉ T1 := fun hh => by
      rcases gr1 q hh with h4 | h4
      · exact hqT h4
      · omega
    have hgk1 : GR 3 m1 xk (((l[id].kids.take k).map fun i => (((Vi l t out).idxOf i.toNat : Nat) : Int)).map (AV.int .i64)) Tk := by
      have e : ((l[id].kids.take k).map fun i => (((Vi l t out).idxOf i.toNat : Nat) : Int)) = ((l[id].kids.take k).map fun i => ((out.idxOf i.toNat : Nat) : Int)) := List.map_congr_left fun i hi => by
        rw [c3, List.idxOf_append, if_pos (hkin i hi)]
      rw [e]
      exact gr_move hgk fun y hy => f1.get y (gr_lt hgk y hy) (by
        simp only [List.mem_cons, not_or]
        exact ⟨fun e => by have := (hTk y hy).1; omega, (hTk y hy).2⟩)
    obtain ⟨x2, m2, Tk2, ea, g2, f2, gg2⟩ := gr_app (b := 8) hgk1 (by simp; omega) (by omega) (.int .i64 ((Vi l t out).idxOf t : Nat))
    have ntk : ∀ y, y ∉ Tk → y < m1.length → m2.get y = m1.get y := fun y h h' => f2.get y h' h
    have hb1l := get_lt gb1
    have hq1l := get_lt hq1
    have hTkb : b ∉ Tk := fun h => by have := (hTk b h).1; omega
    have hTkq : q ∉ Tk := fun h => by
      have h2 := gr_lt hgk q h
      obtain ⟨k', ht'⟩ := gr_tok hgk q h
      rw [hqg] at ht'; cases ht'
    have gb2 : m2.get b = some (.obj true [IA za oa ar, x1]) := (ntk b hTkb hb1l).trans gb1
    have gq2 : m2.get q = some (.obj true [.int .i64 v, xk, .int .i64 0]) := (ntk q hTkq hq1l).trans hq1
    have hTkT1 : ∀ y ∈ Tk, y ∉ T1 := fun y hy hh => by
      rcases gr1 y hh with h4 | h4
      · exact (hTk y hy).2 h4
      · have := gr_lt hgk y hy; omega
    have n2 : NR 71 m2 x1 (mapN l (Vi l t out)) T1 := nr_move n1 fun y hy => ntk y (fun h => hTkT1 y h hy) (nr_lt n1 y hy)
    have hq2l := get_lt gq2
    obtain ⟨xz, xo, rfl, _⟩ := gr_out g2
    have st : storeA none m2 (.ptr q (0 + 1)) (.lst none xz xo (((l[id].kids.take k).map fun i => (((Vi l t out).idxOf i.toNat : Nat) : Int)).map (AV.int .i64) ++ [.int .i64 ((Vi l t out).idxOf t : Nat)])) = some (m2.set q (some (.obj true [.int .i64 v, .lst none xz xo (((l[id].kids.take k).map fun i => (((Vi l t out).idxOf i.toNat : Nat) : Int)).map (AV.int .i64) ++ [.int .i64 ((Vi l t out).idxOf t : Nat)]), .int .i64 0]))) := by
      rw [st_ptr, gq2, objE_obj, Option.bind_some]; rfl
    have ek : (((l[id].kids.take k).map fun i => (((Vi l t out).idxOf i.toNat : Nat) : Int)).map (AV.int .i64) ++ [.int .i64 ((Vi l t out).idxOf t : Nat)]) = ((l[id].kids.take (k + 1)).map fun i => (((Vi l t out).idxOf i.toNat : Nat) : Int)).map (AV.int .i64) := by
      rw [List.take_succ_eq_append_getElem hkk, List.map_append, List.map_append, et]; rfl
    have hnq : ∀ y ∈ Tk2, y ≠ q := fun y hy e => by
      rcases gg2 y hy with h4 | h4
      · exact hTkq (e ▸ h4)
      · omega
    have ed : Vis l (l[id].kids.drop k) out = Vis l (l[id].kids.drop (k + 1)) (Vi l t out) := by
      rw [List.drop_eq_getElem_cons hkk, Vis_cons, et, Int.toNat_natCast]
    have F1 : Fr m0 m1 (b :: T0) := Fr.trans f f1 fun y hy => by
      rcases List.mem_cons.1 hy with rfl | hy
      · exact .inl (by simp)
      · rcases gr y hy with h4 | h4
        · exact .inl (by simp [h4])
        · exact .inr h4
    have F2 : Fr m0 m2 (b :: T0) := Fr.trans F1 f2 fun y hy => .inr (hTk y hy).1
    obtain ⟨m', x', xk', T', Tk', e, k1, k2, k3, k4, k5, k6, k7, k8⟩ := ihj (k + 1) (m2.set q (some (.obj true [.int .i64 v, .lst none xz xo (((l[id].kids.take k).map fun i => (((Vi l t out).idxOf i.toNat : Nat) : Int)).map (AV.int .i64) ++ [.int .i64 ((Vi l t out).idxOf t : Nat)]), .int .i64 0]))) (Vi l t out) x1 _ T1 Tk2 (by omega)
      (by rw [g_sne (fun e => hqb e.symm)]; exact gb2) (nr_move n2 fun y hy => g_sne (fun e => hqT1 (e ▸ hy))) hbT1 c1 (F2.set _ (.inr hq0)) (Gr.trans f.len gr gr1) hqT1 (fun i hi => by
        rw [List.take_succ_eq_append_getElem hkk] at hi
        rcases List.mem_append.1 hi with hi | hi
        · rw [c3]; exact List.mem_append_left _ (hkin i hi)
        · obtain rfl : i = l[id].kids[k] := by simpa using hi
          rw [et, Int.toNat_natCast]; exact c2) (g_seq rfl hq2l) (by
        rw [← ek]
        exact gr_move g2 fun y hy => g_sne (hnq y hy)) (fun y hy => by
        have l1 := f1.len; have l0 := f.len
        rcases gg2 y hy with h4 | h4
        · exact ⟨(hTk y h4).1, hTkT1 y h4⟩
        · refine ⟨by omega, fun hh => ?_⟩
          have := nr_lt n1 y hh
          omega)
    refine ⟨m', x', xk', T', Tk', ?_, k1, by rw [ed]; exact k2, k3, k4, k5, k6, k7, by rw [ed]; exact k8⟩
    have ldk : loadA none m (.ptr q (0 + 1)) = some xk := by rw [ld_ptr, hqg]; rfl
    have ldk1 : loadA none m1 (.ptr q (0 + 1)) = some xk := by rw [ld_ptr, hq1]; rfl
    rw [L29_14_eq, nil_ptr, Option.bind_some, fa_ptr, Option.bind_some, ldx, Option.bind_some, hix, Option.bind_some, loadA_one, Option.bind_some, n_lss, Option.bind_some, ifA_dec, if_pos hka, fa_ptr, Option.bind_some, ldk, Option.bind_some, i_add1 (by omega), Option.bind_some, n_mul (by omega), Option.bind_some, i_add1 (by omega), Option.bind_some, n_mul (by omega), Option.bind_some, cut_IA z o part .i64 hkn, Option.bind_some, e70, Option.bind_some]
    rw [ifP_pos (by simp only [ldk1, Option.bind_some]), build_int, Option.bind_some, ea, Option.bind_some, Option.bind_some, st, Option.bind_some, Option.bind_some]
    exact e
theorem mapN_ok (g : GoodL ar l) (hll : l.length ≤ 100000) {out : List Nat} (hc : Cl l out) : ∀ y ∈ mapN l out, y.ok := fun y hy => by
  obtain ⟨i, hi, rfl⟩ := List.mem_map.1 hy
  have := nodup_lt _ _ hc.nd hc.lt
  exact nd_ok g hll (by omega) (hc.lt i hi)
theorem A70s (g : GoodL ar l) (h1 : ∀ x ∈ ar, 1 ≤ x ∧ x ≤ 64) (hll : l.length ≤ 100000) (hal : ar.length ≤ 16) (hv : v ≤ ar.length) (hpv : prodF (ar.drop v) ≤ 300) (ih : v < ar.length → At70 l ar za oa b (v + 1)) : At70 l ar za oa b v := by
  intro m z o part id out x T hbg hnr hbT hc htab
  have h1' : ∀ x ∈ ar, 1 ≤ x := fun x hx => (h1 x hx).1
  have hid := htab.lt
  have hpp : 1 ≤ prodF (ar.drop v) := prod_pos fun x hx => h1' x (List.drop_subset _ _ hx)
  have hpl := htab.len
  obtain ⟨c0, ct, ec⟩ := List.exists_cons_of_ne_nil (show part ≠ [] from fun e => by rw [e] at hpl; simp at hpl; omega)
  have hbl := get_lt hbg
  have i0 : indexAddrA none (IA z o part) (.int .i64 0) = some (.vptr [.int .i64 c0]) := by rw [ec]; exact idx_IA0 (by simp)
  have hb : buildA (.agg [(.int .i64 0), (.lst none true .full []), (.int .i64 0)]) [(0, none, (.int .i64 (-1))), (2, none, .int .i64 c0)] = some (.agg [.int .i64 (-1), .lst none true .full [], .int .i64 c0]) := rfl
  have sn := st_new3' (m := m) (a := .int .i64 0) (b := .lst none true .full []) (c := .int .i64 0) (a' := .int .i64 (-1)) (b' := .lst none true .full []) (c' := .int .i64 c0) rfl
  have f4 : Fr m (m ++ [some (Ent.obj true [.int .i64 (-1), .lst none true .full [], .int .i64 c0])]) [] := Fr.app m _ _
  generalize hm4 : m ++ [some (Ent.obj true [.int .i64 (-1), .lst none true .full [], .int .i64 c0])] = m4 at sn f4
  have gq : m4.get m.length = some (Ent.obj true [.int .i64 (-1), .lst none true .full [], .int .i64 c0]) := by rw [← hm4]; exact (by simp (disch := (first | assumption | omega | (simp only [List.length_append, List.length_set, List.length_cons, List.length_nil]; first | done | omega))) only [resv1, g_lt, g_eq, g_sne, g_seq]; first | done | rfl)
  have l4 : m4.length = m.length + 1 := by rw [← hm4]; simp
  have gb4 : m4.get b = some (.obj true [IA za oa ar, x]) := (f4.get b hbl (by simp)).trans hbg
  have n4 : NR 71 m4 x (mapN l out) T := nr_move hnr fun k hk => f4.get k (nr_lt hnr k hk) (by simp)
  have hqT : m.length ∉ T := fun h => by have := nr_lt hnr _ h; omega
  have hol : out.length ≤ l.length := nodup_lt _ _ hc.nd hc.lt
  have p78 := pc78 z o part (by rw [ec]; simp) (by omega) m4
  have e0 : AC cfg 29 [.ptr b 0, .int .i64 v, IA z o part] m = _ := T29 _ _ _ m
  rw [i0, Option.bind_some, loadA_one, Option.bind_some, hb, Option.bind_some, new_n, new_n] at e0
  dsimp only at e0
  rw [sn, Option.bind_some, p78, Option.bind_some, un_not, Option.bind_some, ec, List.headD_cons, ← ec] at e0
  have ldx0 : loadA none m4 (.ptr b (0 + 0)) = some (IA za oa ar) := by rw [ld_ptr, gb4]; rfl
  have ldx1 : loadA none m4 (.ptr b (0 + 1)) = some x := by rw [ld_ptr, gb4]; rfl
  by_cases hall : (part.all fun k => k == c0) = true
  · -- a leaf
    rw [hall, Bool.not_true, ifA_f, nil_ptr, Option.bind_some, fa_ptr, Option.bind_some, ldx1, Option.bind_some, nr_len hnr, Option.bind_some] at e0
    have hleaf := const_leaf g h1' hv htab (c := c0) (fun y hy => by simpa using List.all_eq_true.1 hall y hy)
    have hnd : nd l out id = leafN c0 := by
      unfold nd
      rw [hleaf]; rfl
    rw [getD_at hid] at hleaf
    have hkids : l[id].kids = [] := by rw [hleaf]; rfl
    have hok := nd_ok g hll (p := out) (by omega) hid
    rw [hnd] at hok
    obtain ⟨m5, x5, T5, e5, k1, k2, k3, k4, k5⟩ := A70t (n := leafN c0) (z := true) (o := .full) gb4 n4 hbT (show m.length ≠ b by omega) hqT gq rfl hok (mapN_ok g hll hc) (by unfold mapN; rw [List.length_map]; omega)
    have pr := put_ref g hc hid (by rw [hkids]; simp)
    have eV : Vi l id out = if id ∈ out then out else out ++ [id] := by rw [Vi_fold g hid hc, hkids, Vis_nil]
    rw [hnd, ← eV] at pr
    refine ⟨m5, x5, T5, ?_, k1, by rw [← pr.1]; exact k2, Fr.trans (f4.mono (by simp)) k3 fun y hy => .inl hy, Gr.trans f4.len (Gr.refl _ _) k4, k5⟩
    rw [e0, e5, pr.2]
  · rw [Bool.not_eq_true] at hall
    have hvl : v < ar.length := by
      refine Decidable.byContradiction fun hn => ?_
      have : ar.drop v = [] := List.drop_eq_nil_of_le (by omega)
      rw [this] at hpl
      have hpl : part.length = 1 := hpl
      rw [ec] at hpl hall
      have : ct = [] := by simpa using hpl
      rw [this] at hall
      simp at hall
    have hab := h1 _ (List.getElem_mem hvl)
    obtain ⟨a, ha⟩ := Int.eq_ofNat_of_zero_le (by omega : 0 ≤ ar[v])
    have hget : ar.getD v 0 = (a : Int) := by rw [List.getD_eq_getElem?_getD, List.getElem?_eq_getElem hvl, Option.getD_some, ha]
    have hix : indexAddrA none (IA za oa ar) (.int .i64 v) = some (.vptr [.int .i64 a]) := by rw [idx_IA hvl, ha]
    have hps : prodF (ar.drop v) = a * prodF (ar.drop (v + 1)) := by rw [prod_step hvl, hget]; rfl
    have hn0 : 1 ≤ prodF (ar.drop (v + 1)) := prod_pos fun x hx => h1' x (List.drop_subset _ _ hx)
    have hta : part.length = a * prodF (ar.drop (v + 1)) := by rw [hpl, hps]
    have hle : prodF (ar.drop (v + 1)) ≤ part.length := by rw [hta]; exact Nat.le_mul_of_pos_left _ (by omega)
    have hdiv : part.length / a = prodF (ar.drop (v + 1)) := by rw [hta, Nat.mul_div_cancel_left _ (by omega)]
    have hsl : sliceT none (IA z o part) none (some (.int .i64 (prodF (ar.drop (v + 1)) : Nat))) none = some (IA z .no (_root_.Go.Ab.part part (prodF (ar.drop (v + 1))) 0)) := by
      rw [slice_IA _ _ _ _ _ hle]
      unfold _root_.Go.Ab.part
      rw [Nat.zero_mul, List.drop_zero]
    have hp0 := part_len hta (k := 0) (by omega)
    obtain ⟨fr, e7, hfr⟩ := W70f (z := z) (z1 := z) (o := o) (o1 := .no) (first := _root_.Go.Ab.part part (prodF (ar.drop (v + 1))) 0) gb4 hvl ha (by omega) hta (by omega) (by omega) (.ptr m.length 0) (K29_7 (finK cfg.P f29.results.toList)) (a - 1) 1 true (by omega)
    have e7 : L29_7 (.ptr b 0) (.int .i64 v) (IA z o part) (.ptr m.length 0) (.int .i64 (prodF (ar.drop (v + 1)) : Nat)) (IA z .no (_root_.Go.Ab.part part (prodF (ar.drop (v + 1))) 0)) (.bool true) (.int .i64 1) m4 (K29_7 (finK cfg.P f29.results.toList)) = _ := e7
    rw [hall, Bool.not_false, ifA_t, len_IA, Option.bind_some, nil_ptr, Option.bind_some, fa_ptr, Option.bind_some, ldx0, Option.bind_some, hix, Option.bind_some, loadA_one, Option.bind_some, n_quo (by omega) (by omega), Option.bind_some, hdiv, hsl, Option.bind_some, e7, K29_7_x0] at e0
    have hfr' : fr = true ↔ ∀ k : Nat, (k : Int) < ar.getD v 0 → _root_.Go.Ab.part part (prodF (ar.drop (v + 1))) k = _root_.Go.Ab.part part (prodF (ar.drop (v + 1))) 0 := by
      rw [hfr, hget]
      constructor
      · rintro ⟨_, h⟩ k hk
        by_cases hk0 : k = 0
        · rw [hk0]
        · exact h k (by omega) (by omega)
      · exact fun h => ⟨rfl, fun q _ hq => h q (by omega)⟩
    by_cases hf : fr = true
    · -- the variable does not matter
      rw [hf, ifA_t, i_add1 (by omega), Option.bind_some] at e0
      have ht := free_tab g h1' hvl htab (hfr'.1 hf)
      obtain ⟨m5, x5, T5, e5, k1, k2, k3, k4, k5⟩ := ih hvl m4 z .no _ id out x T gb4 n4 hbT hc ht
      refine ⟨m5, x5, T5, ?_, k1, k2, Fr.trans (f4.mono (by simp)) k3 fun y hy => .inl hy, Gr.trans f4.len (Gr.refl _ _) k4, k5⟩
      rw [e0, e5, Option.bind_some]
    · have hff : fr = false := by simpa using hf
      have hvar := node_tab g h1' hvl htab hid (fun h => hf (hfr'.2 h))
      have hb2 : buildA (.agg [(.int .i64 0), (.lst none true .full []), (.int .i64 0)]) [(0, none, .int .i64 v)] = some (.agg [.int .i64 v, .lst none true .full [], .int .i64 0]) := rfl
      have st : storeA (some 3) m4 (.ptr m.length 0) (.agg [.int .i64 v, .lst none true .full [], .int .i64 0]) = some (m4.set m.length (some (Ent.obj true [.int .i64 v, .lst none true .full [], .int .i64 0]))) := st_agg3 gq rfl
      rw [hff, ifA_f, hb2, Option.bind_some, st, Option.bind_some] at e0
      have f5 : Fr m (m4.set m.length (some (Ent.obj true [.int .i64 v, .lst none true .full [], .int .i64 0]))) (b :: T) := (f4.mono (F' := b :: T) (by simp)).set _ (.inr (Nat.le_refl _))
      obtain ⟨m6, x6, xk, T6, Tk, e14, k1, k2, k3, k4, k5, k6, k7, k8⟩ := W70k g h1 hll hvl hal ha rfl hid hvar htab (by omega) (ih hvl) (z := z) (o := o) (m0 := m) (T0 := T) (q := m.length) (Nat.le_refl _) hbl (nr_lt hnr) a 0 (m4.set m.length (some (Ent.obj true [.int .i64 v, .lst none true .full [], .int .i64 0]))) out x (.lst none true .full []) T [] (by omega)
        (by rw [g_sne (by omega)]; exact gb4) (nr_move n4 fun y hy => g_sne (fun e => hqT (e ▸ hy))) hbT hc f5 (Gr.refl _ _) hqT (by simp) (g_seq rfl (by omega)) .none (by simp)
      rw [List.drop_zero] at k2 k8
      obtain ⟨c1, c2, r, c3, c4⟩ := Vis_facts g hid l[id].kids (fun k hk => kid_lt g hid k hk) out hc
      have hol1 := nodup_lt _ _ c1.nd c1.lt
      have hnk : (nd l (Vis l l[id].kids out) id).kids = l[id].kids.map fun i => (((Vis l l[id].kids out).idxOf i.toNat : Nat) : Int) := by
        unfold nd; rw [getD_at hid]
      have hnv : (nd l (Vis l l[id].kids out) id).var = v := by unfold nd; rw [getD_at hid]; exact hvar
      have hok := nd_ok g hll (p := Vis l l[id].kids out) (by omega) hid
      have hnl : (nd l (Vis l l[id].kids out) id).leaf = 0 := by
        rcases hok with ⟨q1, _⟩ | ⟨_, _, q3, _⟩
        · rw [hnv] at q1; omega
        · exact q3
      have hkne : l[id].kids ≠ [] := good_kn g _ (List.getElem_mem hid) (by omega)
      obtain ⟨kz', ko', rfl, hstr⟩ := strip_gr k8 hnk hok (fun _ => by simpa using hkne)
      have gq6 : m6.get m.length = some (.obj true [.int .i64 (nd l (Vis l l[id].kids out) id).var, .lst none kz' ko' ((nd l (Vis l l[id].kids out) id).kids.map (AV.int .i64)), .int .i64 (nd l (Vis l l[id].kids out) id).leaf]) := by
        rw [k7, hnv, hnl]
      obtain ⟨m7, x7, T7, e18, j1, j2, j3, j4, j5⟩ := A70t (n := nd l (Vis l l[id].kids out) id) (z := kz') (o := ko') k1 k2 k3 (show m.length ≠ b by omega) k6 gq6 hstr hok (mapN_ok g hll c1) (by unfold mapN; rw [List.length_map]; omega)
      have pr := put_ref g c1 hid c2
      rw [← Vi_fold g hid hc] at pr
      refine ⟨m7, x7, T7, ?_, j1, by rw [← pr.1]; exact j2, Fr.trans k4 j3 fun y hy => ?_, Gr.trans k4.len k5 j4, j5⟩
      · have e14 : L29_14 (.ptr b 0) (.int .i64 v) (IA z o part) (.ptr m.length 0) (.int .i64 (prodF (ar.drop (v + 1)) : Nat)) (.int .i64 0) (m4.set m.length (some (Ent.obj true [.int .i64 v, .lst none true .full [], .int .i64 0]))) (K29_14 (finK cfg.P f29.results.toList)) = _ := e14
        have ld6 : loadA none m6 (.ptr b (0 + 1)) = some x6 := by rw [ld_ptr, k1]; rfl
        rw [e0, e14, K29_14_x2, nil_ptr, Option.bind_some, fa_ptr, Option.bind_some, ld6, Option.bind_some, nr_len k2, Option.bind_some, e18, pr.2]
      · rcases List.mem_cons.1 hy with rfl | hy
        · exact .inl (by simp)
        · rcases k5 y hy with h4 | h4
          · exact .inl (by simp [h4])
          · exact .inr h4
theorem A70 (g : GoodL ar l) (h1 : ∀ x ∈ ar, 1 ≤ x ∧ x ≤ 64) (hll : l.length ≤ 100000) (hal : ar.length ≤ 16) : ∀ (d v : Nat), v + d = ar.length → prodF (ar.drop v) ≤ 300 → At70 l ar za oa b v := by
  have h1' : ∀ x ∈ ar, 1 ≤ x := fun x hx => (h1 x hx).1
  intro d
  induction d with
  | zero =>
    intro v hv hpv
    exact A70s g h1 hll hal (by omega) hpv (fun hlt => by omega)
  | succ d ih =>
    intro v hv hpv
    refine A70s g h1 hll hal (by omega) hpv (fun hlt => ih (v + 1) (by omega) ?_)
    have hab := h1 _ (List.getElem_mem hlt)
    have hps := prod_step hlt
    rw [List.getD_eq_getElem?_getD, List.getElem?_eq_getElem hlt, Option.getD_some] at hps
    have : prodF (ar.drop (v + 1)) ≤ prodF (ar.drop v) := by
      rw [hps]; exact Nat.le_mul_of_pos_left _ (by omega)
    omega
end
end Go.Ab

/- DiagramTells in values. -/
set_option linter.unusedVariables false
set_option linter.unusedSimpArgs false
set_option linter.unusedSectionVars false
set_option maxRecDepth 100000
namespace Go.Ab
open Go.Proofs Go.Proofs.Tryd

theorem nr_ne {e : Nat} {m : Mem} {x : AV} {l : List ND} {T : List Nat} (h : NR e m x l T) (hl : l ≠ []) : ∃ t, x = NL false (.tok t e) l := by
  cases h with
  | none => exact absurd rfl hl
  | some t l ht => exact ⟨t, rfl⟩
theorem V46 {l : List ND} {ar : List Int} (g : GoodL ar l) (h1 : ∀ x ∈ ar, 1 ≤ x ∧ x ≤ 64) (hll : l.length ≤ 100000) (hal : ar.length ≤ 16) (hp : prodF ar ≤ 300) {id : Nat} {t : List Int} (htab : TabV ar l id 0 t) (za z : Bool) (oa o : Own) :
    AP cfg 15 [IA za oa ar, IA z o t] = some (NL false .no (mapN l (Vi l id []))) := by
  have hne : mapN l (Vi l id []) ≠ [] := by
    obtain ⟨_, c2, _⟩ := Vi_facts g id htab.lt [] cl_nil
    intro e
    unfold mapN at e
    rw [List.map_eq_nil_iff] at e
    rw [e] at c2; cases c2
  have hb : buildA (.agg [(.lst none true .full []), (.lst none true .full [])]) [(0, none, IA za oa ar)] = some (.agg [IA za oa ar, .lst none true .full []]) := rfl
  have hx : boxA none (some 2) ([] : Mem) (.agg [IA za oa ar, .lst none true .full []]) = some (.ptr 0 0, [some (Ent.obj true [IA za oa ar, .lst none true .full []])]) := rfl
  obtain ⟨m', x', T', e, k1, k2, _, _, _⟩ := A70 (za := za) (oa := oa) (b := 0) g h1 hll hal ar.length 0 (by omega) hp [some (Ent.obj true [IA za oa ar, .lst none true .full []])] z o t id [] (.lst none true .full []) [] rfl .none (by simp) cl_nil htab
  obtain ⟨tk, rfl⟩ := nr_ne k2 hne
  refine AP_of (m := m') (v := NL false (.tok tk 71) (mapN l (Vi l id []))) (l := []) ?_ rfl rfl
  have e : AC cfg 29 [.ptr 0 0, .int .i64 0, IA z o t] [some (Ent.obj true [IA za oa ar, .lst none true .full []])] = _ := e
  have ld : loadA none m' (.ptr 0 (0 + 1)) = some (NL false (.tok tk 71) (mapN l (Vi l id []))) := by rw [ld_ptr, k1]; rfl
  rw [T15, hb, Option.bind_some, hx, Option.bind_some, e, Option.bind_some, nil_ptr, Option.bind_some, fa_ptr, Option.bind_some, ld, Option.bind_some]
theorem pc28 (z zl : Bool) (o ol : Own) (ar l : List Int) (h1 : ar.length ≤ 16) (h2 : ∀ a ∈ ar, 1 ≤ a ∧ a ≤ 64) {N : Nat} (hN : placesF 300 1 ar = N) (hN2 : N ≤ 300) (m : Mem) : ∃ (z' : Bool) (o' : Own) (t : List Int), pcall (AP cfg) none m 7 [IA z o ar, IA zl ol l] = some (IA z' o' t, m) ∧ (z' = true → t = []) ∧ t.length = N ∧ ∀ y ∈ t, 0 ≤ y ∧ y ≤ 4 := by
  obtain ⟨z', o', t, e, h⟩ := V28 z zl o.fr ol.fr ar l h1 h2 hN hN2
  exact ⟨z', o', t, by rw [pcall2 (fz_IA z o ar) (fz_IA zl ol l), e]; rfl, h⟩
/-- Arms that few leaves: how many places. -/
theorem few_places {r : List Int} (hg : goodArms r) (he : armsE r = 0) : placesF 300 1 r = (prodF r : Nat) ∧ prodF r ≤ 300 := by
  obtain ⟨_, h2⟩ := armsE_ok he
  have := places_prod r 1 (fun a ha => (h2 a ha).1) (by omega) (by omega) (hg he)
  rw [Int.one_mul] at this
  exact ⟨this.1, by omega⟩
end Go.Ab

/- What the interpreter does, function by function. -/
set_option maxRecDepth 100000
set_option linter.unusedVariables false
namespace Go.Ab
open Go.Proofs.Tryd
/-! ### (*sortilege/diagram.Store).told -/
def O21_7 (x8 : AV) (m : Mem) : St := ⟨[.any, .any, .any, .any, .any, .any, .any, .any, x8, .any, .any, .any, .any, .any, .any, .any, .any, .any, .any, .any, .any, .any, .any, .any, .any, .any, .any, .any, .any, .any, .any, .any, .any, .any, .any, .any, .any, .any, .any, .any, .any, .any, .any, .any, .any, .any, .any, .any, .any], m⟩
noncomputable def L21_7 (x0 x2 x8 x21 x22 x23 : AV) (m : Mem) (K : Ex → St → Option (AV × Mem)) : Option (AV × Mem) := loopW (execW cfg 21 (AP cfg) (AC cfg) (c1 (c1 (c2 (c1 (c2 (c2 (c2 (c2 (bodyOf f21)))))))))) (cfg.mask 21 (some 7)) ⟨[x0, .any, x2, .any, .any, .any, .any, .any, x8, .any, .any, .any, .any, .any, .any, .any, .any, .any, .any, .any, .any, x21, x22, x23, .any, .any, .any, .any, .any, .any, .any, .any, .any, .any, .any, .any, .any, .any, .any, .any, .any, .any, .any, .any, .any, .any, .any, .any, .any], m⟩ K
noncomputable abbrev K21_7_0 (K : Ex → St → Option (AV × Mem)) : Ex → St → Option (AV × Mem) := seqK (fun st => execW cfg 21 (AP cfg) (AC cfg) (c2 (c2 (c2 (c2 (c2 (bodyOf f21)))))) st K) K
noncomputable abbrev K21_7_1 (K : Ex → St → Option (AV × Mem)) : Ex → St → Option (AV × Mem) := blockK 0 (K21_7_0 K)
noncomputable abbrev K21_7 (K : Ex → St → Option (AV × Mem)) : Ex → St → Option (AV × Mem) := (K21_7_1 K)
theorem T21 (a0 a1 a2 : AV) (m : Mem) : AC cfg 21 [a0, a1, a2] m =
  (AC cfg 24 [a0] m).bind fun r1 =>
  ifA r1.1 (
  some ((.tup [(.lst none true .full []), (.int .i64 4)]), r1.2)) (
  (AC cfg 25 [a0, a1] r1.2).bind fun r2 =>
  (unA .not r2.1).bind fun v3 =>
  ifA v3 (
  some ((.tup [(.lst none true .full []), (.int .i64 1)]), r2.2)) (
  (AC cfg 26 [a0, a1] r2.2).bind fun r4 =>
  (lenA false r4.1).bind fun v5 =>
  L21_7 a0 a2 (.lst none true .full []) r4.1 v5 (.int .i64 0) r4.2 (K21_7 (finK cfg.P f21.results.toList)))) :=
(AC_eq cfg 21 [a0, a1, a2] m (fn := f21) (c := bodyOf f21) at21 rfl).trans (by kernel_rfl)
theorem L21_7_eq (x0 x2 x8 x21 x22 x23 : AV) (m : Mem) (K : Ex → St → Option (AV × Mem)) : L21_7 x0 x2 x8 x21 x22 x23 m K =
  (binA .other .lss x23 x22).bind fun v1 =>
  ifA v1 (
  (indexAddrA none x21 x23).bind fun v2 =>
  (loadA none m v2).bind fun v3 =>
  (nilA x0).bind fun v4 =>
  (fieldAddrA 1 v4).bind fun v5 =>
  (loadA none m v5).bind fun v6 =>
  (indexAddrA (some 3) v6 v3).bind fun v7 =>
  (loadA (some 3) m v7).bind fun v8 =>
  (fnOf x2).bind fun g9 =>
  callK cfg 21 (AP cfg) (AC cfg) none g9.1 ([v8] ++ g9.2) m fun v10 m11 =>
  (extractA v10 0).bind fun v12 =>
  (extractA v10 1).bind fun v13 =>
  ifA v13 (
  (buildSliceA none [v12]).bind fun v14 =>
  (appA none true 3 none 8 m11 x8 v14).bind fun r15 =>
  (binA .other .add x23 (.int .i64 1)).bind fun v16 =>
  L21_7 x0 x2 r15.1 x21 x22 v16 r15.2 K) (
  (binA .other .add x23 (.int .i64 1)).bind fun v17 =>
  L21_7 x0 x2 x8 x21 x22 v17 m11 K)) (
  K (.exit 0) (O21_7 x8 m)) :=
(loopW_eq (execW_lin _) _ _ _).trans (by kernel_rfl)
theorem K21_7_x0 (x8 : AV) (m : Mem) : K21_7 (finK cfg.P f21.results.toList) (.exit 0) (O21_7 x8 m) =
  (sortA [x8] m).bind fun r1 =>
  (compactA [x8] r1.2).bind fun r2 =>
  some ((.tup [r2.1, (.int .i64 0)]), r2.2) := by kernel_rfl
/-! ### (*sortilege/diagram.Store).Support -/
theorem T9 (a0 a1 : AV) (m : Mem) : AC cfg 9 [a0, a1] m =
  (AC cfg 21 [a0, a1, (.fn 22 [])] m).bind fun r1 =>
  (extractA r1.1 0).bind fun v2 =>
  (extractA r1.1 1).bind fun v3 =>
  some ((.tup [v2, v3]), r1.2) :=
(AC_eq cfg 9 [a0, a1] m (fn := f9) (c := bodyOf f9) at9 rfl).trans (by kernel_rfl)
/-! ### (*sortilege/diagram.Store).Leaves -/
theorem T10 (a0 a1 : AV) (m : Mem) : AC cfg 10 [a0, a1] m =
  (AC cfg 21 [a0, a1, (.fn 23 [])] m).bind fun r1 =>
  (extractA r1.1 0).bind fun v2 =>
  (extractA r1.1 1).bind fun v3 =>
  some ((.tup [v2, v3]), r1.2) :=
(AC_eq cfg 10 [a0, a1] m (fn := f10) (c := bodyOf f10) at10 rfl).trans (by kernel_rfl)
/-! ### (*sortilege/diagram.Store).Size -/
theorem T11 (a0 a1 : AV) (m : Mem) : AC cfg 11 [a0, a1] m =
  (AC cfg 24 [a0] m).bind fun r1 =>
  ifA r1.1 (
  some ((.tup [(.int .i64 0), (.int .i64 4)]), r1.2)) (
  (AC cfg 25 [a0, a1] r1.2).bind fun r2 =>
  (unA .not r2.1).bind fun v3 =>
  ifA v3 (
  some ((.tup [(.int .i64 0), (.int .i64 1)]), r2.2)) (
  (AC cfg 26 [a0, a1] r2.2).bind fun r4 =>
  (lenA false r4.1).bind fun v5 =>
  some ((.tup [v5, (.int .i64 0)]), r4.2))) :=
(AC_eq cfg 11 [a0, a1] m (fn := f11) (c := bodyOf f11) at11 rfl).trans (by kernel_rfl)
/-! ### (*sortilege/diagram.Store).Support$1 -/
theorem T22 (a0 : AV) (m : Mem) : AC cfg 22 [a0] m =
  (boxA none (some 3) m a0).bind fun r1 =>
  (fieldAddrA 0 r1.1).bind fun v2 =>
  (loadA none r1.2 v2).bind fun v3 =>
  (fieldAddrA 0 r1.1).bind fun v4 =>
  (loadA none r1.2 v4).bind fun v5 =>
  (binA .other .geq v5 (.int .i64 0)).bind fun v6 =>
  some ((.tup [v3, v6]), r1.2) :=
(AC_eq cfg 22 [a0] m (fn := f22) (c := bodyOf f22) at22 rfl).trans (by kernel_rfl)
/-! ### (*sortilege/diagram.Store).Leaves$1 -/
theorem T23 (a0 : AV) (m : Mem) : AC cfg 23 [a0] m =
  (boxA none (some 3) m a0).bind fun r1 =>
  (fieldAddrA 2 r1.1).bind fun v2 =>
  (loadA none r1.2 v2).bind fun v3 =>
  (fieldAddrA 0 r1.1).bind fun v4 =>
  (loadA none r1.2 v4).bind fun v5 =>
  (binA .other .lss v5 (.int .i64 0)).bind fun v6 =>
  some ((.tup [v3, v6]), r1.2) :=
(AC_eq cfg 23 [a0] m (fn := f23) (c := bodyOf f23) at23 rfl).trans (by kernel_rfl)
end Go.Ab

/- What the nodes of a diagram tell: the variables that its table hangs on, the values of the table. Plain Lean. -/
set_option linter.unusedVariables false
set_option linter.unusedSimpArgs false
namespace Go.Ab

section
variable {ar : List Int} {l : List ND}
/-- A node is reached. -/
inductive Rc (l : List ND) (id : Nat) : Nat → Prop
  | refl : Rc l id id
  | kid (j : Nat) (k : Int) (h : Rc l id j) (hj : j < l.length) (hk : k ∈ l[j].kids) : Rc l id k.toNat
theorem Rc.lt (g : GoodL ar l) {id j : Nat} (h : Rc l id j) (hid : id < l.length) : j < l.length := by
  induction h with
  | refl => exact hid
  | kid j k h hj hk ih =>
    obtain ⟨t, rfl, ht⟩ := kid_lt g hj k hk
    rw [Int.toNat_natCast]; omega
theorem Rc.trans (g : GoodL ar l) {a b c : Nat} (h : Rc l a b) (k : Rc l b c) : Rc l a c := by
  induction k with
  | refl => exact h
  | kid j q _ hj hk ih => exact .kid j q ih hj hk
theorem Vi_reach (g : GoodL ar l) : ∀ id, id < l.length → ∀ out, ∀ y ∈ Vi l id out, y ∈ out ∨ Rc l id y := by
  intro id
  induction id using Nat.strongRecOn with
  | ind id ih =>
    intro hi out y hy
    have key : ∀ (ks : List Int), (∀ k ∈ ks, k ∈ l[id].kids) → ∀ out, ∀ y ∈ Vis l ks out, y ∈ out ∨ Rc l id y := by
      intro ks
      induction ks with
      | nil => intro _ out y hy; exact .inl hy
      | cons k ks ihk =>
        intro hk out y hy
        obtain ⟨t, e, ht⟩ := kid_lt g hi k (hk k List.mem_cons_self)
        rw [Vis_cons] at hy
        rcases ihk (fun k hk' => hk k (List.mem_cons_of_mem _ hk')) _ y hy with h | h
        · rw [e, Int.toNat_natCast] at h
          rcases ih t ht (by omega) out y h with h | h
          · exact .inl h
          · refine .inr (Rc.trans g ?_ h)
            have := Rc.kid id k (Rc.refl (l := l) (id := id)) hi (hk k List.mem_cons_self)
            rw [e, Int.toNat_natCast] at this
            exact this
        · exact .inr h
    rw [Vi_eq g hi] at hy
    split at hy
    · exact .inl hy
    · rcases List.mem_append.1 hy with hy | hy
      · exact key _ (fun _ h => h) out y hy
      · have : y = id := by simpa using hy
        rw [this]; exact .inr .refl
/-- Assignments that agree from a node on. -/
theorem S_agree (g : GoodL ar l) {a b : Nat → Nat} (ha : Asg ar a) (hb : Asg ar b) : ∀ (i : Nat) (hi : i < l.length), (∀ w : Nat, abv ar.length l[i] ≤ (w : Int) → w < ar.length → a w = b w) → S l a i = S l b i := by
  intro i
  induction i using Nat.strongRecOn with
  | ind i ih =>
    intro hi h
    by_cases hv : l[i].var < 0
    · rw [S_leaf hi hv, S_leaf hi hv]
    · obtain ⟨hv1, hv2⟩ := g.var i hi (by omega)
      have hab : abv ar.length l[i] = l[i].var := by unfold abv; rw [if_pos (by omega)]
      have hw : a l[i].var.toNat = b l[i].var.toNat := h _ (by omega) (by omega)
      rw [S_node g ha hi hv, S_node g hb hi hv, hw]
      obtain ⟨t, e, ht, h2⟩ := kid_at g hi (by omega) (hb l[i].var.toNat (by omega))
      rw [e, Int.toNat_natCast]
      have h3 := h2 (by omega)
      exact ih t ht (by omega) fun w hw1 hw2 => h w (by omega) hw2
theorem upd_lt {a : Nat → Nat} {v k w : Nat} (h : w ≠ v) : upd a v k w = a w := by unfold upd; rw [if_neg h]
theorem upd_self {a : Nat → Nat} {v k : Nat} : upd a v k v = k := by unfold upd; rw [if_pos rfl]
/-- To each node that is reached some assignment leads. -/
theorem Rc.path (g : GoodL ar l) (h1 : ∀ x ∈ ar, 1 ≤ x) {id j : Nat} (h : Rc l id j) (hid : id < l.length) : ∃ y0, Asg ar y0 ∧ ∀ (hj : j < l.length) y, Asg ar y → (∀ w : Nat, (w : Int) < abv ar.length l[j] → w < ar.length → y w = y0 w) → S l y id = S l y j := by
  induction h with
  | refl => exact ⟨_, asg0 h1, fun _ y _ _ => rfl⟩
  | kid j k h hj hk ih =>
    obtain ⟨y0, hy0, hp⟩ := ih
    have hvar : 0 ≤ l[j].var := by
      refine Decidable.byContradiction fun hn => ?_
      rcases g.ok _ (List.getElem_mem hj) with ⟨_, h2, _⟩ | ⟨h3, _⟩
      · rw [h2] at hk; cases hk
      · omega
    obtain ⟨v1, v2⟩ := g.var j hj hvar
    have hab : abv ar.length l[j] = l[j].var := by unfold abv; rw [if_pos hvar]
    obtain ⟨i, hi, e⟩ := List.getElem_of_mem hk
    obtain ⟨v, hv⟩ := Int.eq_ofNat_of_zero_le hvar
    have hvt : l[j].var.toNat = v := by omega
    rw [hvt] at v2
    have hia : (i : Int) < ar.getD v 0 := by omega
    refine ⟨upd y0 v i, hy0.upd hia, fun hj' y hy hag => ?_⟩
    obtain ⟨t, et, ht, h2⟩ := g.kid j hj hvar k hk
    have htl : t < l.length := by omega
    have h3 := h2 htl
    have e1 : ∀ (q : Nat) (hq : q < l.length), q = k.toNat → abv ar.length l[q] = abv ar.length l[k.toNat] := fun q hq e => by subst e; rfl
    have hkt : k.toNat = t := by rw [et, Int.toNat_natCast]
    have h4 : l[j].var < abv ar.length l[k.toNat] := by rw [← e1 t htl hkt.symm]; exact h3
    have a1 := hp hj y hy fun w hw hwl => by
      rw [hab] at hw
      rw [hag w (by omega) hwl, upd_lt (by omega)]
    rw [a1, S_node g hy hj (by omega), hvt]
    have hyv : y v = i := by rw [hag v (by omega) (by omega), upd_self]
    rw [hyv, List.getD_eq_getElem?_getD, List.getElem?_eq_getElem hi, Option.getD_some, e]
/-- The table hangs on the variable. -/
def Dep (ar : List Int) (l : List ND) (id v : Nat) : Prop := ∃ (y : Nat → Nat) (a : Nat), Asg ar y ∧ (a : Int) < ar.getD v 0 ∧ S l (upd y v a) id ≠ S l y id
theorem dep_of (g : GoodL ar l) (h1 : ∀ x ∈ ar, 1 ≤ x) {id j : Nat} (h : Rc l id j) (hid : id < l.length) (hj : j < l.length) {v : Nat} (hv : l[j].var = v) : v < ar.length ∧ Dep ar l id v := by
  obtain ⟨v1, v2⟩ := g.var j hj (by omega)
  have hvt : l[j].var.toNat = v := by omega
  rw [hvt] at v2
  have hvl : v < ar.length := by omega
  refine ⟨hvl, ?_⟩
  obtain ⟨k, hk, hne⟩ := g.dif j hj (by omega)
  have hk0 : l[j].kids.headD 0 ∈ l[j].kids := by
    cases hks : l[j].kids with
    | nil => rw [hks] at hk; cases hk
    | cons a b => simp
  obtain ⟨i, hi, ei⟩ := List.getElem_of_mem hk
  obtain ⟨i0, hi0, ei0⟩ := List.getElem_of_mem hk0
  obtain ⟨t, et, ht, ht2⟩ := g.kid j hj (by omega) k hk
  obtain ⟨t0, et0, ht0, ht02⟩ := g.kid j hj (by omega) _ hk0
  have htl : t < l.length := by omega
  have ht0l : t0 < l.length := by omega
  have htv := ht2 htl
  have ht0v := ht02 ht0l
  have hd : ∃ z, Asg ar z ∧ S l z t ≠ S l z t0 := by
    refine Classical.byContradiction fun hn => ?_
    have := canon g h1 (t + t0 + 1) t t0 htl ht0l (Nat.lt_succ_self _) fun a ha => Classical.byContradiction fun hh => hn ⟨a, ha, hh⟩
    rw [et, et0, this] at hne
    exact hne rfl
  obtain ⟨z, hz, hzne⟩ := hd
  obtain ⟨y0, hy0, hp⟩ := h.path g h1 hid
  have hab : abv ar.length l[j] = l[j].var := by unfold abv; rw [if_pos (by omega)]
  let y1 : Nat → Nat := fun w => if w < v then y0 w else z w
  have hy1 : Asg ar y1 := fun w hw => by
    show ((if w < v then y0 w else z w : Nat) : Int) < _
    split
    · exact hy0 w hw
    · exact hz w hw
  have hia : (i : Int) < ar.getD v 0 := by omega
  have hi0a : (i0 : Int) < ar.getD v 0 := by omega
  have key : ∀ (q t : Nat) (ht : t < l.length), (q : Int) < ar.getD v 0 → q < l[j].kids.length → l[j].kids.getD q 0 = (t : Int) → (v : Int) < abv ar.length l[t] → S l (upd y1 v q) id = S l z t := fun q t ht hq hql hqt htv => by
    have hu := hy1.upd (v := v) hq
    rw [hp hj _ hu fun w hw hwl => by
      rw [hab, hv] at hw
      rw [upd_lt (by omega)]
      show (if w < v then y0 w else z w) = y0 w
      rw [if_pos (by omega)]]
    rw [S_node g hu hj (by omega), hvt, upd_self, hqt, Int.toNat_natCast]
    refine S_agree g hu hz t ht fun w hw hwl => ?_
    rw [upd_lt (by omega)]
    show (if w < v then y0 w else z w) = z w
    rw [if_neg (by omega)]
  have k1 := key i t htl hia hi (by rw [List.getD_eq_getElem?_getD, List.getElem?_eq_getElem hi, Option.getD_some, ei, et]) (by omega)
  have k0 := key i0 t0 ht0l hi0a hi0 (by rw [List.getD_eq_getElem?_getD, List.getElem?_eq_getElem hi0, Option.getD_some, ei0, et0]) (by omega)
  refine ⟨upd y1 v i0, i, hy1.upd hi0a, hia, ?_⟩
  have eu : upd (upd y1 v i0) v i = upd y1 v i := by
    funext w
    unfold upd
    split <;> rfl
  rw [eu, k1, k0]
  exact hzne
/-- A variable of no node is not asked. -/
theorem not_dep (g : GoodL ar l) {out : List Nat} (hc : Cl l out) {v : Nat} (hv : v < ar.length) (hn : ∀ j ∈ out, ∀ hj : j < l.length, l[j].var ≠ v) {y : Nat → Nat} (hy : Asg ar y) {a : Nat} (ha : (a : Int) < ar.getD v 0) : ∀ (k : Nat), k ∈ out → S l (upd y v a) k = S l y k := by
  intro k
  induction k using Nat.strongRecOn with
  | ind k ih =>
    intro hk
    have hkl := hc.lt k hk
    by_cases hvar : l[k].var < 0
    · rw [S_leaf hkl hvar, S_leaf hkl hvar]
    · rw [S_node g (hy.upd ha) hkl hvar, S_node g hy hkl hvar]
      have hne := hn k hk hkl
      obtain ⟨v1, v2⟩ := g.var k hkl (by omega)
      rw [upd_lt (by omega)]
      obtain ⟨t, e, ht, _⟩ := kid_at g hkl (by omega) (hy l[k].var.toNat (by omega))
      have hm : l[k].kids.getD (y l[k].var.toNat) 0 ∈ l[k].kids := by
        have hq : y l[k].var.toNat < l[k].kids.length := by have := hy l[k].var.toNat (by omega); omega
        rw [List.getD_eq_getElem?_getD, List.getElem?_eq_getElem hq, Option.getD_some]
        exact List.getElem_mem hq
      have hmo := hc.kids hk hkl _ hm
      rw [e, Int.toNat_natCast] at hmo ⊢
      exact ih t ht hmo
/-- Each value is some leaf's. -/
theorem leaf_mem (g : GoodL ar l) {out : List Nat} (hc : Cl l out) {y : Nat → Nat} (hy : Asg ar y) : ∀ (k : Nat), k ∈ out → ∃ j ∈ out, ∃ hj : j < l.length, l[j].var < 0 ∧ l[j].leaf = S l y k := by
  intro k
  induction k using Nat.strongRecOn with
  | ind k ih =>
    intro hk
    have hkl := hc.lt k hk
    by_cases hvar : l[k].var < 0
    · exact ⟨k, hk, hkl, hvar, (S_leaf hkl hvar).symm⟩
    · rw [S_node g hy hkl hvar]
      obtain ⟨v1, v2⟩ := g.var k hkl (by omega)
      obtain ⟨t, e, ht, _⟩ := kid_at g hkl (by omega) (hy l[k].var.toNat (by omega))
      have hm : l[k].kids.getD (y l[k].var.toNat) 0 ∈ l[k].kids := by
        have hq : y l[k].var.toNat < l[k].kids.length := by have := hy l[k].var.toNat (by omega); omega
        rw [List.getD_eq_getElem?_getD, List.getElem?_eq_getElem hq, Option.getD_some]
        exact List.getElem_mem hq
      have hmo := hc.kids hk hkl _ hm
      rw [e, Int.toNat_natCast] at hmo ⊢
      exact ih t ht hmo
/-- The variables of the nodes. -/
theorem vars_iff (g : GoodL ar l) (h1 : ∀ x ∈ ar, 1 ≤ x) {id : Nat} (hid : id < l.length) {v : Nat} (hv : v < ar.length) : (∃ j ∈ Vi l id [], ∃ hj : j < l.length, l[j].var = v) ↔ Dep ar l id v := by
  obtain ⟨c1, c2, _⟩ := Vi_facts g id hid [] cl_nil
  constructor
  · rintro ⟨j, hj, hjl, e⟩
    have hr := (Vi_reach g id hid [] j hj).resolve_left (by simp)
    exact (dep_of g h1 hr hid hjl e).2
  · rintro ⟨y, a, hy, ha, hne⟩
    refine Classical.byContradiction fun hn => hne ?_
    exact not_dep g c1 hv (fun j hj hjl e => hn ⟨j, hj, hjl, e⟩) hy ha id c2
/-- The leaves of the nodes. -/
theorem leaves_iff (g : GoodL ar l) (h1 : ∀ x ∈ ar, 1 ≤ x) {id : Nat} (hid : id < l.length) {x : Int} : (∃ j ∈ Vi l id [], ∃ hj : j < l.length, l[j].var < 0 ∧ l[j].leaf = x) ↔ ∃ y, Asg ar y ∧ S l y id = x := by
  obtain ⟨c1, c2, _⟩ := Vi_facts g id hid [] cl_nil
  constructor
  · rintro ⟨j, hj, hjl, hv, e⟩
    have hr := (Vi_reach g id hid [] j hj).resolve_left (by simp)
    obtain ⟨y0, hy0, hp⟩ := hr.path g h1 hid
    exact ⟨y0, hy0, by rw [hp hjl y0 hy0 fun w _ _ => rfl, S_leaf hjl hv, e]⟩
  · rintro ⟨y, hy, e⟩
    obtain ⟨j, hj, hjl, h2, h3⟩ := leaf_mem g c1 hy id c2
    exact ⟨j, hj, hjl, h2, h3.trans e⟩
end
/-! ### Rows that rise -/
theorem rise_eq : ∀ {a b : List Int}, a.Pairwise (· < ·) → b.Pairwise (· < ·) → (∀ x, x ∈ a ↔ x ∈ b) → a = b
  | [], [], _, _, _ => rfl
  | [], y :: b, _, _, h => by have := (h y).2 List.mem_cons_self; cases this
  | x :: a, [], _, _, h => by have := (h x).1 List.mem_cons_self; cases this
  | x :: a, y :: b, ha, hb, h => by
    rw [List.pairwise_cons] at ha hb
    have hxy : x = y := by
      rcases List.mem_cons.1 ((h x).1 List.mem_cons_self) with e | e
      · exact e
      · rcases List.mem_cons.1 ((h y).2 List.mem_cons_self) with e' | e'
        · exact e'.symm
        · have := ha.1 y e'; have := hb.1 x e; omega
    subst hxy
    rw [rise_eq ha.2 hb.2 fun z => ?_]
    constructor
    · intro hz
      rcases List.mem_cons.1 ((h z).1 (List.mem_cons_of_mem _ hz)) with e | e
      · have := ha.1 z hz; omega
      · exact e
    · intro hz
      rcases List.mem_cons.1 ((h z).2 (List.mem_cons_of_mem _ hz)) with e | e
      · have := hb.1 z hz; omega
      · exact e
end Go.Ab

/- slices.Compact of a row that rises. Plain Lean. -/
set_option linter.unusedVariables false
set_option linter.unusedSimpArgs false
namespace Go.Ab

theorem sortI_len (ns : List Int) : (sortI ns).length = ns.length := List.length_mergeSort _
theorem sortI_mem (ns : List Int) (x : Int) : x ∈ sortI ns ↔ x ∈ ns := by
  unfold sortI
  exact List.mem_mergeSort
theorem sortI_sorted (ns : List Int) : (sortI ns).Pairwise (· ≤ ·) := by
  have h : (sortI ns).Pairwise fun a b => decide (a ≤ b) = true := List.pairwise_mergeSort (fun a b c h1 h2 => by simp only [decide_eq_true_eq] at *; omega) (fun a b => by simp only [Bool.or_eq_true, decide_eq_true_eq]; omega) ns
  exact h.imp fun h => by simpa using h
theorem compact_len (zs : List Int) : (Lib.compact zs).length ≤ zs.length := by
  unfold Lib.compact Lib.compactUpTo
  rw [List.length_map]
  have := List.length_filter_le (Lib.keeps zs.toArray) (List.range zs.length)
  rwa [List.length_range] at this
theorem getBang {zs : List Int} {j : Nat} (h : j < zs.length) : zs.toArray[j]! = zs[j] := by simp [h]
theorem keeps_iff (zs : List Int) (j : Nat) : Lib.keeps zs.toArray j = true ↔ j = 0 ∨ zs.toArray[j]! ≠ zs.toArray[j - 1]! := by
  unfold Lib.keeps
  simp
theorem compact_mem {zs : List Int} (x : Int) : x ∈ Lib.compact zs ↔ x ∈ zs := by
  unfold Lib.compact Lib.compactUpTo
  rw [List.mem_map]
  constructor
  · rintro ⟨j, hj, rfl⟩
    have hjl : j < zs.length := by
      have := (List.mem_filter.1 hj).1
      simpa using this
    rw [getBang hjl]
    exact List.getElem_mem hjl
  · intro hx
    obtain ⟨i, hi, e⟩ := List.getElem_of_mem hx
    have key : ∀ i, (hi : i < zs.length) → ∃ j, j < zs.length ∧ Lib.keeps zs.toArray j = true ∧ zs.toArray[j]! = zs[i] := by
      intro i
      induction i with
      | zero => intro hi; exact ⟨0, hi, (keeps_iff zs 0).2 (.inl rfl), getBang hi⟩
      | succ i ih =>
        intro hi
        by_cases hk : Lib.keeps zs.toArray (i + 1) = true
        · exact ⟨i + 1, hi, hk, getBang hi⟩
        · have hi' : i < zs.length := by omega
          obtain ⟨j, h1, h2, h3⟩ := ih hi'
          refine ⟨j, h1, h2, h3.trans ?_⟩
          rw [keeps_iff] at hk
          have h4 : zs.toArray[i + 1]! = zs.toArray[i]! := Classical.byContradiction fun hne => hk (.inr (by rw [Nat.add_sub_cancel]; exact hne))
          rw [getBang hi, getBang hi'] at h4
          exact h4.symm
    obtain ⟨j, h1, h2, h3⟩ := key i hi
    exact ⟨j, List.mem_filter.2 ⟨by simpa using h1, h2⟩, h3.trans e⟩
theorem compact_rise {zs : List Int} (h : zs.Pairwise (· ≤ ·)) : (Lib.compact zs).Pairwise (· < ·) := by
  unfold Lib.compact Lib.compactUpTo
  rw [List.pairwise_map]
  have hr : ((List.range zs.length).filter (Lib.keeps zs.toArray)).Pairwise (· < ·) := List.Pairwise.filter _ List.pairwise_lt_range
  refine List.Pairwise.imp_of_mem ?_ hr
  intro a b ha hb hab
  have hal : a < zs.length := by simpa using (List.mem_filter.1 ha).1
  have hbl : b < zs.length := by simpa using (List.mem_filter.1 hb).1
  have hk := (keeps_iff zs b).1 (List.mem_filter.1 hb).2
  have hb0 : b ≠ 0 := by omega
  have hne := hk.resolve_left hb0
  have hb1 : b - 1 < zs.length := by omega
  rw [getBang hbl, getBang hb1] at hne
  rw [getBang hal, getBang hbl]
  have hp := List.pairwise_iff_getElem.1 h
  have h1 : zs[a] ≤ zs[b - 1] := by
    by_cases e : a = b - 1
    · subst e; exact Int.le_refl _
    · exact hp a (b - 1) hal hb1 (by omega)
  have h2 : zs[b - 1] ≤ zs[b] := hp (b - 1) b hb1 hbl (by omega)
  omega
/-- What a row of numbers tells, rising, each once. -/
def told (ns : List Int) : List Int := Lib.compact (sortI ns)
theorem told_nil : told [] = [] := by
  refine List.eq_nil_of_length_eq_zero ?_
  have h1 := compact_len (sortI [])
  have h2 := sortI_len []
  unfold told
  simp only [List.length_nil] at h2
  omega
theorem told_rise (ns : List Int) : (told ns).Pairwise (· < ·) := compact_rise (sortI_sorted ns)
theorem told_mem (ns : List Int) (x : Int) : x ∈ told ns ↔ x ∈ ns := by unfold told; rw [compact_mem, sortI_mem]
end Go.Ab

/- Support, Leaves, Size by value. -/
set_option linter.unusedVariables false
set_option linter.unusedSimpArgs false
set_option linter.unusedSectionVars false
set_option maxRecDepth 100000
namespace Go.Ab
open Go.Proofs Go.Proofs.Tryd

/-- A row of whole numbers that grows and may be written. -/
def OutR (B : Nat) (m : Mem) (x : AV) (ns : List Int) : Prop := (x = .lst none true .full [] ∧ ns = []) ∨ ∃ t, x = .arr t 0 ns.length none ∧ 0 < ns.length ∧ m.get t = some (.obj false (ns.map (AV.int .i64))) ∧ B ≤ t
theorem OutR.move {B : Nat} {m m' : Mem} {x : AV} {ns : List Int} (h : OutR B m x ns) (hm : ∀ t, x = .arr t 0 ns.length none → t < m.length → m'.get t = m.get t) : OutR B m' x ns := by
  rcases h with h | ⟨t, hx, h1, h2, h3⟩
  · exact .inl h
  · exact .inr ⟨t, hx, h1, by rw [hm t hx (get_lt h2)]; exact h2, h3⟩
theorem or_app {B : Nat} {m : Mem} {x : AV} {ns : List Int} (h : OutR B m x ns) (hl : ns.length ≤ 100000) (hB : B ≤ m.length) (v : Int) : ∃ x' m', appA none true 3 none 8 m x (.lst none false .full [.int .i64 v]) = some (x', m') ∧ OutR B m' x' (ns ++ [v]) ∧ m.length ≤ m'.length ∧ ∀ y, y < m.length → (∀ t, x = .arr t 0 ns.length none → y ≠ t) → m'.get y = m.get y := by
  rcases h with ⟨rfl, rfl⟩ | ⟨t, rfl, hpos, hg, htB⟩
  · have ha : appA none true 3 none 8 m (.lst none true .full []) (.lst none false .full [.int .i64 v]) = some (.arr m.length 0 1 none, m ++ [some (.obj false [.int .i64 v])]) := by
      simp only [appA, List.length_nil, List.length_cons, Nat.zero_add, if_true, or_true, List.nil_append, newAt]
      rfl
    exact ⟨_, _, ha, .inr ⟨m.length, by simp, by simp, by rw [g_eq rfl]; rfl, hB⟩, by simp, fun y hy _ => g_lt hy⟩
  · have htl := get_lt hg
    have ho : m.obj? t = some (false, ns.map (AV.int .i64)) := by rw [obj_objE, hg]; rfl
    have hY : rowY m none (.lst none false .full [.int .i64 v]) = some (1, [.int .i64 v]) := rfl
    have hX : rowX m none (.arr t 0 ns.length none) = some (ns.length, ns.map (AV.int .i64), m.set t none) := by
      simp only [rowX, ho, Option.bind_some]
      rw [if_pos ⟨trivial, trivial, hpos, trivial, by simp [Sh.size]⟩]
    have ha : appA none true 3 none 8 m (.arr t 0 ns.length none) (.lst none false .full [.int .i64 v]) = some (.arr (m.set t none).length 0 (ns.length + 1) none, (m.set t none) ++ [some (.obj false (ns.map (AV.int .i64) ++ [.int .i64 v]))]) := by
      simp only [appA, appR, hY, hX, Option.bind_some]
      rw [if_pos (show (ns.length + 1) * 8 ≤ roomA by unfold roomA; omega)]
    have hml : (m.set t (none : Option Ent)).length = m.length := List.length_set
    refine ⟨_, _, ha, .inr ⟨(m.set t none).length, by simp, by simp, by rw [g_eq rfl, List.map_append]; rfl, by rw [hml]; exact hB⟩, by simp, fun y hy hne => ?_⟩
    rw [g_lt (by rw [hml]; exact hy), g_sne (hne t rfl)]
/-- A row of whole numbers that has been answered. -/
def ResR (B : Nat) (m : Mem) (y : AV) (rs : List Int) : Prop := (y = .lst none true .full [] ∧ rs = []) ∨ ∃ t zs, y = .arr t 0 rs.length none ∧ m.get t = some (.obj false ((rs ++ zs).map (AV.int .i64))) ∧ B ≤ t
theorem ResR.fr {B : Nat} {m m' : Mem} {x : AV} {ns : List Int} (h : ResR B m x ns) (f : Fr m m' []) : ResR B m' x ns := by
  rcases h with h | ⟨t, zs, hx, h2, h3⟩
  · exact .inl h
  · exact .inr ⟨t, zs, hx, by rw [f.get t (get_lt h2) (by simp)]; exact h2, h3⟩
theorem frz_pre {m : Mem} {nm : Nat} {ds zs : List Int} (h : m.get nm = some (.obj false ((ds ++ zs).map (AV.int .i64)))) : frz m fuelF (.arr nm 0 ds.length none) = some (IA false .no ds, [nm]) := by
  have h1 : ((ds.map (AV.int .i64)).all atomOk) = true := by simp [List.all_map, atomOk]
  have hg : m.obj? nm = some (false, (ds ++ zs).map (AV.int .i64)) := by rw [obj_objE, h]; rfl
  have htk : ((ds ++ zs).map (AV.int .i64)).take ds.length = ds.map (AV.int .i64) := by rw [← List.map_take, List.take_left']; rfl
  show (m.obj? nm).bind _ = _
  rw [hg]
  have hle : ds.length ≤ (ds ++ zs).length := by simp
  simp only [Option.bind_some, Sh.size, List.length_map, Nat.zero_add, Nat.mul_one, hle, decide_true, Bool.not_false, Bool.and_self, if_true, List.drop_zero, htk]
  rw [mapF_int]
  simp only [Option.bind_some, h1, plL_int, Bool.and_self, if_true, grp]
  rw [List.take_of_length_le (by simp)]
theorem pc12R {B : Nat} {m : Mem} {y : AV} {rs : List Int} (h : ResR B m y rs) (z : Bool) (o : Own) (us : List Int) (hl : rs.length ≤ 100000) : ∃ m', pcall (AP cfg) none m 12 [y, IA z o us] = some (.bool (decide (rs = us)), m') ∧ (m' = m ∨ ∃ t, y = .arr t 0 rs.length none ∧ m' = m.set t none) := by
  have hu := fz_IA z o us m
  rcases h with ⟨rfl, rfl⟩ | ⟨t, zs, rfl, hg, hB⟩
  · refine ⟨m, ?_, .inl rfl⟩
    have := pc33 true z .full o [] us (by simp) m
    exact this
  · have hf := frz_pre hg
    refine ⟨m.set t none, ?_, .inr ⟨t, rfl, rfl⟩⟩
    have hm : mapF (frz m fuelF) [.arr t 0 rs.length none, IA z o us] = some ([IA false .no rs, IA z o.fr us], [t]) := by
      simp only [mapF, hu, hf, Option.bind_some, Option.map_some]
      rfl
    unfold pcall
    rw [hm]
    simp only [Option.bind_some, Option.isSome_none, Bool.false_and, Bool.false_eq_true, if_false, V33 false z .no o.fr rs us hl, Option.map_some]
    rfl
/-! ### told -/
section
variable {s : Nat} {F : List Nat} {arms : AV} {most : Int} {l : List ND}
theorem B22 (n : ND) (m : Mem) : AC cfg 22 [n.av] m = some (.tup [.int .i64 n.var, .bool (decide (n.var ≥ 0))], m ++ [some (Ent.obj true [.int .i64 n.var, kidsA n, .int .i64 n.leaf])]) := by
  have e : shOk (some 3) n.av = true := by unfold ND.av kidsA; split <;> rfl
  have hb : boxA none (some 3) m n.av = some (.ptr m.length 0, m ++ [some (Ent.obj true [.int .i64 n.var, kidsA n, .int .i64 n.leaf])]) := by
    unfold boxA
    rw [if_pos e]; rfl
  have l0 : loadA none (m ++ [some (Ent.obj true [.int .i64 n.var, kidsA n, .int .i64 n.leaf])]) (.ptr m.length (0 + 0)) = some (.int .i64 n.var) := by
    rw [ld_ptr, g_eq rfl]; rfl
  rw [T22, hb, Option.bind_some, fa_ptr, Option.bind_some, l0, Option.bind_some, Option.bind_some, l0, Option.bind_some, binA_geq, Option.bind_some]
theorem B23 (n : ND) (m : Mem) : AC cfg 23 [n.av] m = some (.tup [.int .i64 n.leaf, .bool (decide (n.var < 0))], m ++ [some (Ent.obj true [.int .i64 n.var, kidsA n, .int .i64 n.leaf])]) := by
  have e : shOk (some 3) n.av = true := by unfold ND.av kidsA; split <;> rfl
  have hb : boxA none (some 3) m n.av = some (.ptr m.length 0, m ++ [some (Ent.obj true [.int .i64 n.var, kidsA n, .int .i64 n.leaf])]) := by
    unfold boxA
    rw [if_pos e]; rfl
  have l0 : loadA none (m ++ [some (Ent.obj true [.int .i64 n.var, kidsA n, .int .i64 n.leaf])]) (.ptr m.length (0 + 0)) = some (.int .i64 n.var) := by
    rw [ld_ptr, g_eq rfl]; rfl
  have l2 : loadA none (m ++ [some (Ent.obj true [.int .i64 n.var, kidsA n, .int .i64 n.leaf])]) (.ptr m.length (0 + 2)) = some (.int .i64 n.leaf) := by
    rw [ld_ptr, g_eq rfl]; rfl
  rw [T23, hb, Option.bind_some, fa_ptr, Option.bind_some, l2, Option.bind_some, fa_ptr, Option.bind_some, l0, Option.bind_some, binA_lss, Option.bind_some]
/-- What the nodes tell. -/
def tellF (val : ND → Int) (keep : ND → Bool) (l : List ND) (ids : List Nat) : List Int := (ids.filter fun i => keep (l.getD i ⟨0, [], 0⟩)).map fun i => val (l.getD i ⟨0, [], 0⟩)
theorem tellF_snoc (val : ND → Int) (keep : ND → Bool) (l : List ND) (p : List Nat) (i : Nat) : tellF val keep l (p ++ [i]) = tellF val keep l p ++ (if keep (l.getD i ⟨0, [], 0⟩) = true then [val (l.getD i ⟨0, [], 0⟩)] else []) := by
  unfold tellF
  rw [List.filter_append, List.map_append, List.filter_cons, List.filter_nil]
  congr 1
  split <;> rfl
theorem X21 {cf : Nat} {val : ND → Int} {keep : ND → Bool} (c1 : ((cfg.lib cf).isNone && (cfg.libm cf).isNone) = true) (c2 : cfg.inl 21 cf = true) (c3 : cfg.thaw 21 cf = false) (c4 : cfg.frzc 21 cf = false) (hcf : ∀ (n : ND) m, AC cfg cf [n.av] m = some (.tup [.int .i64 (val n), .bool (keep n)], m ++ [some (Ent.obj true [.int .i64 n.var, kidsA n, .int .i64 n.leaf])]))
    {m0 : Mem} (h0 : St8 m0 s F arms most l) {ids : List Nat} (hids : ∀ i ∈ ids, i < l.length) (hil : ids.length ≤ 100000) {z : Bool} {o : Own} : ∀ (q p : List Nat) (m : Mem) (x : AV), ids = p ++ q → Fr m0 m [] → OutR m0.length m x (tellF val keep l p) →
    ∃ m' x', L21_7 (.ptr s 0) (.fn cf []) x (IA z o (ids.map Int.ofNat)) (.int .i64 ids.length) (.int .i64 p.length) m (K21_7 (finK cfg.P f21.results.toList)) = K21_7 (finK cfg.P f21.results.toList) (.exit 0) (O21_7 x' m') ∧ Fr m0 m' [] ∧ OutR m0.length m' x' (tellF val keep l ids) := by
  intro q
  induction q with
  | nil =>
    intro p m x hpq f hx
    rw [List.append_nil] at hpq
    subst hpq
    refine ⟨m, x, ?_, f, hx⟩
    rw [L21_7_eq, n_lss, Option.bind_some, ifA_dec, if_neg (by omega)]
  | cons i q ih =>
    intro p m x hpq f hx
    have hpl : p.length < ids.length := by rw [hpq]; simp
    have hat : ids[p.length] = i := by simp [hpq]
    have hi : i < l.length := hids i (by rw [hpq]; simp)
    have hix : indexAddrA none (IA z o (ids.map Int.ofNat)) (.int .i64 p.length) = some (.vptr [.int .i64 (i : Nat)]) := by
      rw [idx_IA (by simpa using hpl)]
      simp [hat]
    have hst := h0.app f
    obtain ⟨p0, na, TT, st, _⟩ := hst
    have ldn : loadA none m (.ptr s (0 + 1)) = some na := by rw [ld_ptr, st.hs]; rfl
    have hnx := na_idx st.hn hi
    have ldv : loadA (some 3) m (.vptr [.int .i64 l[i].var, kidsA l[i], .int .i64 l[i].leaf]) = some l[i].av := rfl
    have hc := hcf l[i] m
    have hgd : l.getD i ⟨0, [], 0⟩ = l[i] := getD_at hi
    have f1 : Fr m0 (m ++ [some (Ent.obj true [.int .i64 l[i].var, kidsA l[i], .int .i64 l[i].leaf])]) [] := f.snoc _
    have hx1 : OutR m0.length (m ++ [some (Ent.obj true [.int .i64 l[i].var, kidsA l[i], .int .i64 l[i].leaf])]) x (tellF val keep l p) := hx.move fun t _ ht => g_lt ht
    have hp1 : (p ++ [i]).length = p.length + 1 := by simp
    have htl : (tellF val keep l p).length ≤ 100000 := by
      unfold tellF
      rw [List.length_map]
      have := List.length_filter_le (fun i => keep (l.getD i ⟨0, [], 0⟩)) p
      omega
    have hstep : L21_7 (.ptr s 0) (.fn cf []) x (IA z o (ids.map Int.ofNat)) (.int .i64 ids.length) (.int .i64 p.length) m (K21_7 (finK cfg.P f21.results.toList)) = ifA (.bool (keep l[i])) ((appA none true 3 none 8 (m ++ [some (Ent.obj true [.int .i64 l[i].var, kidsA l[i], .int .i64 l[i].leaf])]) x (.lst none false .full [.int .i64 (val l[i])])).bind fun r15 => L21_7 (.ptr s 0) (.fn cf []) r15.1 (IA z o (ids.map Int.ofNat)) (.int .i64 ids.length) (.int .i64 (p.length + 1 : Nat)) r15.2 (K21_7 (finK cfg.P f21.results.toList))) (L21_7 (.ptr s 0) (.fn cf []) x (IA z o (ids.map Int.ofNat)) (.int .i64 ids.length) (.int .i64 (p.length + 1 : Nat)) (m ++ [some (Ent.obj true [.int .i64 l[i].var, kidsA l[i], .int .i64 l[i].leaf])]) (K21_7 (finK cfg.P f21.results.toList))) := by
      rw [L21_7_eq, n_lss, Option.bind_some, ifA_dec, if_pos hpl, hix, Option.bind_some, loadA_one, Option.bind_some, nil_ptr, Option.bind_some, fa_ptr, Option.bind_some, ldn, Option.bind_some, hnx, Option.bind_some, ldv, Option.bind_some, show fnOf (.fn cf []) = some (cf, []) from rfl, Option.bind_some, callK_in c1 c2 c3 c4, List.append_nil, hc, Option.bind_some, ex0, Option.bind_some, ex1, Option.bind_some, i_add1 (by omega), build_int, Option.bind_some]
      rfl
    cases hk : keep l[i] with
    | true =>
      obtain ⟨x2, m2, ea, hx2, hlen, hg2⟩ := or_app hx1 htl (by have := f1.len; omega) (val l[i])
      have f2 : Fr m0 m2 [] := ⟨by have := f1.len; omega, fun y hy _ => by
        have hl := f1.len
        rw [hg2 y (by omega) (fun t ht e => by
          rcases hx1 with ⟨h1, _⟩ | ⟨t', h1, _, _, h4⟩
          · rw [h1] at ht; cases ht
          · rw [h1] at ht; cases ht; omega)]
        exact f1.get y hy (by simp)⟩
      have het : tellF val keep l (p ++ [i]) = tellF val keep l p ++ [val l[i]] := by
        rw [tellF_snoc, hgd, hk, if_pos rfl]
      obtain ⟨m', x', e, k1, k2⟩ := ih (p ++ [i]) m2 x2 (by rw [hpq, List.append_assoc]; rfl) f2 (by rw [het]; exact hx2)
      refine ⟨m', x', ?_, k1, k2⟩
      rw [hp1] at e
      rw [hstep, hk, ifA_t, ea, Option.bind_some]
      exact e
    | false =>
      have het : tellF val keep l (p ++ [i]) = tellF val keep l p := by
        rw [tellF_snoc, hgd, hk, if_neg (by simp), List.append_nil]
      obtain ⟨m', x', e, k1, k2⟩ := ih (p ++ [i]) _ x (by rw [hpq, List.append_assoc]; rfl) f1 (by rw [het]; exact hx1)
      refine ⟨m', x', ?_, k1, k2⟩
      rw [hp1] at e
      rw [hstep, hk, ifA_f]
      exact e
theorem B21 {cf : Nat} {val : ND → Int} {keep : ND → Bool} (c1 : ((cfg.lib cf).isNone && (cfg.libm cf).isNone) = true) (c2 : cfg.inl 21 cf = true) (c3 : cfg.thaw 21 cf = false) (c4 : cfg.frzc 21 cf = false) (hcf : ∀ (n : ND) m, AC cfg cf [n.av] m = some (.tup [.int .i64 (val n), .bool (keep n)], m ++ [some (Ent.obj true [.int .i64 n.var, kidsA n, .int .i64 n.leaf])]))
    {m0 : Mem} {ar : List Int} (h0 : St8 m0 s F arms most l) (hm : most ≠ 0) (g : GoodL ar l) (hll : l.length ≤ 100000) {id : Nat} (hid : id < l.length) :
    ∃ m' y, AC cfg 21 [.ptr s 0, .int .i64 id, .fn cf []] m0 = some (.tup [y, .int .i64 0], m') ∧ Fr m0 m' [] ∧ ResR m0.length m' y (told (tellF val keep l (Vi l id []))) := by
  have e50 := A50 h0 hm
  have e56 := A56 h0 id
  rw [decide_eq_true (by omega)] at e56
  obtain ⟨m1, x, T, e61, hgr, f1⟩ := A61 h0 g hll hid
  obtain ⟨z, o, rfl, _⟩ := gr_out hgr
  obtain ⟨cc1, cc2, _⟩ := Vi_facts g id hid [] cl_nil
  have hvl := nodup_lt _ _ cc1.nd cc1.lt
  have st1 := h0.app f1
  obtain ⟨m2, x2, e, f2, hx2⟩ := X21 c1 c2 c3 c4 hcf st1 (ids := Vi l id []) cc1.lt (by omega) (z := z) (o := o) (Vi l id []) [] m1 (.lst none true .full []) rfl (Fr.refl _ _) (.inl ⟨rfl, rfl⟩)
  have hlenx : lenA false (IA z o ((Vi l id []).map Int.ofNat)) = some (.int .i64 (Vi l id []).length) := by rw [len_IA, List.length_map]
  have f12 : Fr m0 m2 [] := Fr.trans f1 f2 fun _ hh => by cases hh
  have hl1 := f1.len; have hl2 := f2.len
  have e0 : AC cfg 21 [.ptr s 0, .int .i64 id, .fn cf []] m0 = K21_7 (finK cfg.P f21.results.toList) (.exit 0) (O21_7 x2 m2) := by
    have e61 : AC cfg 26 [.ptr s 0, .int .i64 id] m0 = some (IA z o ((Vi l id []).map Int.ofNat), m1) := e61
    rw [T21, e50, Option.bind_some, ifA_f, e56, Option.bind_some, un_not, Option.bind_some, Bool.not_true, ifA_f, e61, Option.bind_some, hlenx, Option.bind_some]
    exact e
  rw [e0, K21_7_x0]
  generalize hns : tellF val keep l (Vi l id []) = ns at *
  have hnl : ns.length ≤ 100000 := by
    rw [← hns]
    unfold tellF
    rw [List.length_map]
    have := List.length_filter_le (fun i => keep (l.getD i ⟨0, [], 0⟩)) (Vi l id [])
    omega
  rcases hx2 with ⟨rfl, rfl⟩ | ⟨t, rfl, hpos, hg, htB⟩
  · exact ⟨m2, _, rfl, f12, .inl ⟨rfl, told_nil⟩⟩
  · have htl := get_lt hg
    have ho : m2.obj? t = some (false, ns.map (AV.int .i64)) := by rw [obj_objE, hg]; rfl
    have es : sortA [.arr t 0 ns.length none] m2 = some (.tup [], m2.set t (some (.obj false ((sortI ns).map (AV.int .i64))))) := by
      simp only [sortA, ho, Option.bind_some]
      rw [if_pos ⟨trivial, trivial, hpos, by simp, by omega⟩, intsM_map]; rfl
    have hg2 : Mem.get (m2.set t (some (.obj false ((sortI ns).map (AV.int .i64))))) t = some (.obj false ((sortI ns).map (AV.int .i64))) := g_seq rfl htl
    have ho2 : Mem.obj? (m2.set t (some (.obj false ((sortI ns).map (AV.int .i64))))) t = some (false, (sortI ns).map (AV.int .i64)) := by rw [obj_objE, hg2]; rfl
    have hsl := sortI_len ns
    have ec : compactA [.arr t 0 ns.length none] (m2.set t (some (.obj false ((sortI ns).map (AV.int .i64))))) = some (.arr t 0 (told ns).length none, m2.set t (some (.obj false ((told ns ++ List.replicate ((sortI ns).length - (told ns).length) 0).map (AV.int .i64))))) := by
      simp only [compactA, ho2, Option.bind_some]
      rw [if_pos ⟨trivial, trivial, hpos, by rw [List.length_map, hsl], by omega⟩, intsM_map, Option.map_some, List.set_set]; rfl
    refine ⟨_, _, by rw [es, Option.bind_some, ec, Option.bind_some], ⟨by rw [List.length_set]; exact f12.len, fun y hy _ => ?_⟩, .inr ⟨t, List.replicate ((sortI ns).length - (told ns).length) 0, rfl, g_seq rfl htl, by omega⟩⟩
    rw [g_sne (by omega)]
    exact f12.get y hy (by simp)
theorem B9 {m0 : Mem} {ar : List Int} (h0 : St8 m0 s F arms most l) (hm : most ≠ 0) (g : GoodL ar l) (hll : l.length ≤ 100000) {id : Nat} (hid : id < l.length) :
    ∃ m' y, AC cfg 9 [.ptr s 0, .int .i64 id] m0 = some (.tup [y, .int .i64 0], m') ∧ Fr m0 m' [] ∧ ResR m0.length m' y (told (tellF (fun n => n.var) (fun n => decide (n.var ≥ 0)) l (Vi l id []))) := by
  obtain ⟨m', y, e, h1, h2⟩ := B21 (cf := 22) rfl rfl rfl rfl B22 h0 hm g hll hid
  exact ⟨m', y, by rw [T9, e, Option.bind_some, ex0, Option.bind_some, ex1, Option.bind_some], h1, h2⟩
theorem B10 {m0 : Mem} {ar : List Int} (h0 : St8 m0 s F arms most l) (hm : most ≠ 0) (g : GoodL ar l) (hll : l.length ≤ 100000) {id : Nat} (hid : id < l.length) :
    ∃ m' y, AC cfg 10 [.ptr s 0, .int .i64 id] m0 = some (.tup [y, .int .i64 0], m') ∧ Fr m0 m' [] ∧ ResR m0.length m' y (told (tellF (fun n => n.leaf) (fun n => decide (n.var < 0)) l (Vi l id []))) := by
  obtain ⟨m', y, e, h1, h2⟩ := B21 (cf := 23) rfl rfl rfl rfl B23 h0 hm g hll hid
  exact ⟨m', y, by rw [T10, e, Option.bind_some, ex0, Option.bind_some, ex1, Option.bind_some], h1, h2⟩
theorem B11 {m0 : Mem} {ar : List Int} (h0 : St8 m0 s F arms most l) (hm : most ≠ 0) (g : GoodL ar l) (hll : l.length ≤ 100000) {id : Nat} (hid : id < l.length) :
    ∃ m', AC cfg 11 [.ptr s 0, .int .i64 id] m0 = some (.tup [.int .i64 (Vi l id []).length, .int .i64 0], m') ∧ Fr m0 m' [] := by
  have e50 := A50 h0 hm
  have e56 := A56 h0 id
  rw [decide_eq_true (by omega)] at e56
  obtain ⟨m1, x, T, e61, hgr, f1⟩ := A61 h0 g hll hid
  obtain ⟨z, o, rfl, _⟩ := gr_out hgr
  have hlenx : lenA false (IA z o ((Vi l id []).map Int.ofNat)) = some (.int .i64 (Vi l id []).length) := by rw [len_IA, List.length_map]
  have e61 : AC cfg 26 [.ptr s 0, .int .i64 id] m0 = some (IA z o ((Vi l id []).map Int.ofNat), m1) := e61
  exact ⟨m1, by rw [T11, e50, Option.bind_some, ifA_f, e56, Option.bind_some, un_not, Option.bind_some, Bool.not_true, ifA_f, e61, Option.bind_some, hlenx, Option.bind_some], f1⟩
end
end Go.Ab

/- What the interpreter does, function by function. -/
set_option maxRecDepth 100000
set_option linter.unusedVariables false
namespace Go.Ab
open Go.Proofs.Tryd
/-! ### sortilege/sortilegeref23.Support -/
def O13_3 (x5 : AV) (m : Mem) : St := ⟨[.any, .any, .any, .any, .any, x5, .any, .any, .any, .any, .any, .any, .any, .any, .any, .any, .any, .any, .any, .any, .any, .any, .any, .any, .any, .any, .any, .any, .any, .any, .any, .any, .any, .any, .any, .any, .any, .any, .any, .any, .any, .any, .any, .any, .any, .any, .any, .any, .any, .any, .any, .any, .any, .any, .any, .any, .any, .any, .any, .any, .any, .any], m⟩
noncomputable def L13_3 (x0 x1 x5 x13 x14 : AV) (m : Mem) (K : Ex → St → Option (AV × Mem)) : Option (AV × Mem) := loopW (execW cfg 13 (AP cfg) (AC cfg) (c1 (c1 (c2 (c1 (c2 (c2 (bodyOf f13)))))))) (cfg.mask 13 (some 3)) ⟨[x0, x1, .any, .any, .any, x5, .any, .any, .any, .any, .any, .any, .any, x13, x14, .any, .any, .any, .any, .any, .any, .any, .any, .any, .any, .any, .any, .any, .any, .any, .any, .any, .any, .any, .any, .any, .any, .any, .any, .any, .any, .any, .any, .any, .any, .any, .any, .any, .any, .any, .any, .any, .any, .any, .any, .any, .any, .any, .any, .any, .any, .any], m⟩ K
def O13_7 (x0 x1 x5 x6 x7 x13 x14 : AV) (m : Mem) : St := ⟨[x0, x1, .any, .any, .any, x5, x6, x7, .any, .any, .any, .any, .any, x13, x14, .any, .any, .any, .any, .any, .any, .any, .any, .any, .any, .any, .any, .any, .any, .any, .any, .any, .any, .any, .any, .any, .any, .any, .any, .any, .any, .any, .any, .any, .any, .any, .any, .any, .any, .any, .any, .any, .any, .any, .any, .any, .any, .any, .any, .any, .any, .any], m⟩
noncomputable def L13_7 (x0 x1 x5 x6 x7 x13 x14 x18 x19 x20 : AV) (m : Mem) (K : Ex → St → Option (AV × Mem)) : Option (AV × Mem) := loopW (execW cfg 13 (AP cfg) (AC cfg) (c1 (c1 (c2 (c1 (c2 (c2 (c1 (c1 (c2 (c2 (c1 (c1 (c2 (c1 (c2 (c2 (bodyOf f13)))))))))))))))))) (cfg.mask 13 (some 7)) ⟨[x0, x1, .any, .any, .any, x5, x6, x7, .any, .any, .any, .any, .any, x13, x14, .any, .any, .any, x18, x19, x20, .any, .any, .any, .any, .any, .any, .any, .any, .any, .any, .any, .any, .any, .any, .any, .any, .any, .any, .any, .any, .any, .any, .any, .any, .any, .any, .any, .any, .any, .any, .any, .any, .any, .any, .any, .any, .any, .any, .any, .any, .any], m⟩ K
def O13_10 (x0 x1 x5 x6 x7 x13 x14 x18 x19 x20 : AV) (m : Mem) : St := ⟨[x0, x1, .any, .any, .any, x5, x6, x7, .any, .any, .any, .any, .any, x13, x14, .any, .any, .any, x18, x19, x20, .any, .any, .any, .any, .any, .any, .any, .any, .any, .any, .any, .any, .any, .any, .any, .any, .any, .any, .any, .any, .any, .any, .any, .any, .any, .any, .any, .any, .any, .any, .any, .any, .any, .any, .any, .any, .any, .any, .any, .any, .any], m⟩
noncomputable def L13_10 (x0 x1 x5 x6 x7 x8 x9 x10 x13 x14 x18 x19 x20 : AV) (m : Mem) (K : Ex → St → Option (AV × Mem)) : Option (AV × Mem) := loopW (execW cfg 13 (AP cfg) (AC cfg) (c1 (c1 (c2 (c2 (c1 (c1 (c2 (c2 (c1 (c1 (c2 (c1 (c2 (c2 (c1 (c1 (c2 (c2 (c1 (c1 (c2 (c1 (c2 (c2 (bodyOf f13)))))))))))))))))))))))))) (cfg.mask 13 (some 10)) ⟨[x0, x1, .any, .any, .any, x5, x6, x7, x8, x9, x10, .any, .any, x13, x14, .any, .any, .any, x18, x19, x20, .any, .any, .any, .any, .any, .any, .any, .any, .any, .any, .any, .any, .any, .any, .any, .any, .any, .any, .any, .any, .any, .any, .any, .any, .any, .any, .any, .any, .any, .any, .any, .any, .any, .any, .any, .any, .any, .any, .any, .any, .any], m⟩ K
noncomputable abbrev K13_3_0 (K : Ex → St → Option (AV × Mem)) : Ex → St → Option (AV × Mem) := seqK (fun st => execW cfg 13 (AP cfg) (AC cfg) (c2 (c2 (c2 (bodyOf f13)))) st K) K
noncomputable abbrev K13_3_1 (K : Ex → St → Option (AV × Mem)) : Ex → St → Option (AV × Mem) := blockK 0 (K13_3_0 K)
noncomputable abbrev K13_3 (K : Ex → St → Option (AV × Mem)) : Ex → St → Option (AV × Mem) := (K13_3_1 K)
noncomputable abbrev K13_7_0 (K : Ex → St → Option (AV × Mem)) : Ex → St → Option (AV × Mem) := seqK (fun st => execW cfg 13 (AP cfg) (AC cfg) (c2 (c2 (c2 (c1 (c1 (c2 (c1 (c2 (c2 (bodyOf f13)))))))))) st (roundG (fun st => loopW (execW cfg 13 (AP cfg) (AC cfg) (c1 (c1 (c2 (c1 (c2 (c2 (bodyOf f13)))))))) (cfg.mask 13 (some 3)) st K) (cfg.mask 13 (some 3)) K)) (roundG (fun st => loopW (execW cfg 13 (AP cfg) (AC cfg) (c1 (c1 (c2 (c1 (c2 (c2 (bodyOf f13)))))))) (cfg.mask 13 (some 3)) st K) (cfg.mask 13 (some 3)) K)
noncomputable abbrev K13_7_1 (K : Ex → St → Option (AV × Mem)) : Ex → St → Option (AV × Mem) := blockK 1 (K13_7_0 K)
noncomputable abbrev K13_7_2 (K : Ex → St → Option (AV × Mem)) : Ex → St → Option (AV × Mem) := seqK (fun st => execW cfg 13 (AP cfg) (AC cfg) (c2 (c2 (c2 (c1 (c1 (c2 (c2 (c1 (c1 (c2 (c1 (c2 (c2 (bodyOf f13)))))))))))))) st (K13_7_1 K)) (K13_7_1 K)
noncomputable abbrev K13_7_3 (K : Ex → St → Option (AV × Mem)) : Ex → St → Option (AV × Mem) := blockK 2 (K13_7_2 K)
noncomputable abbrev K13_7 (K : Ex → St → Option (AV × Mem)) : Ex → St → Option (AV × Mem) := (K13_7_3 K)
noncomputable abbrev K13_10_0 (K : Ex → St → Option (AV × Mem)) : Ex → St → Option (AV × Mem) := seqK (fun st => execW cfg 13 (AP cfg) (AC cfg) (c2 (c2 (c2 (c1 (c1 (c2 (c1 (c2 (c2 (c1 (c1 (c2 (c2 (c1 (c1 (c2 (c1 (c2 (c2 (bodyOf f13)))))))))))))))))))) st (roundG (fun st => loopW (execW cfg 13 (AP cfg) (AC cfg) (c1 (c1 (c2 (c1 (c2 (c2 (c1 (c1 (c2 (c2 (c1 (c1 (c2 (c1 (c2 (c2 (bodyOf f13)))))))))))))))))) (cfg.mask 13 (some 7)) st K) (cfg.mask 13 (some 7)) K)) (roundG (fun st => loopW (execW cfg 13 (AP cfg) (AC cfg) (c1 (c1 (c2 (c1 (c2 (c2 (c1 (c1 (c2 (c2 (c1 (c1 (c2 (c1 (c2 (c2 (bodyOf f13)))))))))))))))))) (cfg.mask 13 (some 7)) st K) (cfg.mask 13 (some 7)) K)
noncomputable abbrev K13_10_1 (K : Ex → St → Option (AV × Mem)) : Ex → St → Option (AV × Mem) := blockK 3 (K13_10_0 K)
noncomputable abbrev K13_10_2 (K : Ex → St → Option (AV × Mem)) : Ex → St → Option (AV × Mem) := blockK 4 (K13_10_1 K)
noncomputable abbrev K13_10 (K : Ex → St → Option (AV × Mem)) : Ex → St → Option (AV × Mem) := (K13_10_2 K)
theorem T13 (a0 a1 : AV) (m : Mem) : AC cfg 13 [a0, a1] m =
  (lenA false a0).bind fun v1 =>
  L13_3 a0 a1 (.lst none true .full []) v1 (.int .i64 0) m (K13_3 (finK cfg.P f13.results.toList)) :=
(AC_eq cfg 13 [a0, a1] m (fn := f13) (c := bodyOf f13) at13 rfl).trans (by kernel_rfl)
theorem L13_3_eq (x0 x1 x5 x13 x14 : AV) (m : Mem) (K : Ex → St → Option (AV × Mem)) : L13_3 x0 x1 x5 x13 x14 m K =
  (binA .other .lss x14 x13).bind fun v1 =>
  ifA v1 (
  (pcall (AP cfg) none m 27 [x0]).bind fun r2 =>
  (lenA false r2.1).bind fun v3 =>
  L13_7 x0 x1 x5 x14 (.bool false) x13 x14 r2.1 v3 (.int .i64 0) r2.2 (K13_7 K)) (
  K (.exit 0) (O13_3 x5 m)) :=
(loopW_eq (execW_lin _) _ _ _).trans (by kernel_rfl)
theorem L13_7_eq (x0 x1 x5 x6 x7 x13 x14 x18 x19 x20 : AV) (m : Mem) (K : Ex → St → Option (AV × Mem)) : L13_7 x0 x1 x5 x6 x7 x13 x14 x18 x19 x20 m K =
  (binA .other .lss x20 x19).bind fun v1 =>
  ifA v1 (
  (indexAddrA none x18 x20).bind fun v2 =>
  (loadA none m v2).bind fun v3 =>
  L13_10 x0 x1 x5 x6 x7 x20 v3 (.int .i64 0) x13 x14 x18 x19 x20 m (K13_10 K)) (
  K (.exit 2) (O13_7 x0 x1 x5 x6 x7 x13 x14 m)) :=
(loopW_eq (execW_lin _) _ _ _).trans (by kernel_rfl)
theorem L13_10_eq (x0 x1 x5 x6 x7 x8 x9 x10 x13 x14 x18 x19 x20 : AV) (m : Mem) (K : Ex → St → Option (AV × Mem)) : L13_10 x0 x1 x5 x6 x7 x8 x9 x10 x13 x14 x18 x19 x20 m K =
  (indexAddrA none x0 x6).bind fun v1 =>
  (loadA none m v1).bind fun v2 =>
  (binA .other .lss x10 v2).bind fun v3 =>
  ifA v3 (
  (buildSliceA none []).bind fun v4 =>
  (appA none true 3 none 8 m v4 x9).bind fun r5 =>
  (indexAddrA none r5.1 x6).bind fun v6 =>
  (storeA none r5.2 v6 x10).bind fun m7 =>
  ifA x7 (
  ifP (some (AV.tup [], m7) = some (AV.tup [], m7)) (
  (binA .other .add x10 (.int .i64 1)).bind fun v8 =>
  L13_10 x0 x1 x5 x6 (.bool true) x8 x9 v8 x13 x14 x18 x19 x20 m7 K)) (
  (indexAddrA none x1 x8).bind fun v9 =>
  (loadA none m7 v9).bind fun v10 =>
  (pcall (AP cfg) none m7 28 [x0, r5.1]).bind fun r11 =>
  ifP ((loadA none r11.2 v9).bind (fun v => some (v, r11.2)) = some (v10, r11.2)) (
  (indexAddrA none x1 r11.1).bind fun v12 =>
  (loadA none r11.2 v12).bind fun v13 =>
  (binA .other .neq v13 v10).bind fun v14 =>
  (binA .other .add x10 (.int .i64 1)).bind fun v15 =>
  L13_10 x0 x1 x5 x6 v14 x8 x9 v15 x13 x14 x18 x19 x20 r11.2 K))) (
  K (.exit 4) (O13_10 x0 x1 x5 x6 x7 x13 x14 x18 x19 x20 m)) :=
(loopW_eq (execW_lin _) _ _ _).trans (by kernel_rfl)
theorem K13_3_x0 (x5 : AV) (m : Mem) : K13_3 (finK cfg.P f13.results.toList) (.exit 0) (O13_3 x5 m) =
  some (x5, m) := by kernel_rfl
theorem K13_7_x2 (x0 x1 x5 x6 x7 x13 x14 : AV) (m : Mem) (K : Ex → St → Option (AV × Mem)) : K13_7 K (.exit 2) (O13_7 x0 x1 x5 x6 x7 x13 x14 m) =
  ifA x7 (
  (buildSliceA none [x6]).bind fun v1 =>
  (appA none true 3 none 8 m x5 v1).bind fun r2 =>
  (binA .other .add x14 (.int .i64 1)).bind fun v3 =>
  L13_3 x0 x1 r2.1 x13 v3 r2.2 K) (
  (binA .other .add x14 (.int .i64 1)).bind fun v4 =>
  L13_3 x0 x1 x5 x13 v4 m K) := by kernel_rfl
theorem K13_10_x4 (x0 x1 x5 x6 x7 x13 x14 x18 x19 x20 : AV) (m : Mem) (K : Ex → St → Option (AV × Mem)) : K13_10 K (.exit 4) (O13_10 x0 x1 x5 x6 x7 x13 x14 x18 x19 x20 m) =
  (binA .other .add x20 (.int .i64 1)).bind fun v1 =>
  L13_7 x0 x1 x5 x6 x7 x13 x14 x18 x19 v1 m K := by kernel_rfl
/-! ### sortilege/sortilegeref23.Leaves -/
def R14_2 (x2 : AV) (m : Mem) : St := ⟨[.any, .any, x2, .any, .any, .any, .any, .any, .any, .any, .any, .any, .any, .any, .any, .any, .any, .any, .any, .any, .any, .any, .any, .any, .any, .any, .any, .any, .any, .any, .any, .any, .any, .any, .any, .any, .any, .any, .any, .any, .any, .any, .any, .any, .any], m⟩
noncomputable def L14_2 (x0 x3 : AV) (m : Mem) (K : Ex → St → Option (AV × Mem)) : Option (AV × Mem) := loopW (execW cfg 14 (AP cfg) (AC cfg) (c1 (c1 (c2 (c2 (bodyOf f14)))))) (cfg.mask 14 (some 2)) ⟨[x0, .any, .any, x3, .any, .any, .any, .any, .any, .any, .any, .any, .any, .any, .any, .any, .any, .any, .any, .any, .any, .any, .any, .any, .any, .any, .any, .any, .any, .any, .any, .any, .any, .any, .any, .any, .any, .any, .any, .any, .any, .any, .any, .any, .any], m⟩ K
def O14_4 (x0 x3 x4 x5 : AV) (m : Mem) : St := ⟨[x0, .any, .any, x3, x4, x5, .any, .any, .any, .any, .any, .any, .any, .any, .any, .any, .any, .any, .any, .any, .any, .any, .any, .any, .any, .any, .any, .any, .any, .any, .any, .any, .any, .any, .any, .any, .any, .any, .any, .any, .any, .any, .any, .any, .any], m⟩
noncomputable def L14_4 (x0 x3 x4 x5 x8 x9 x10 : AV) (m : Mem) (K : Ex → St → Option (AV × Mem)) : Option (AV × Mem) := loopW (execW cfg 14 (AP cfg) (AC cfg) (c1 (c1 (c2 (c1 (c2 (c1 (c1 (c1 (c2 (c2 (bodyOf f14)))))))))))) (cfg.mask 14 (some 4)) ⟨[x0, .any, .any, x3, x4, x5, .any, .any, x8, x9, x10, .any, .any, .any, .any, .any, .any, .any, .any, .any, .any, .any, .any, .any, .any, .any, .any, .any, .any, .any, .any, .any, .any, .any, .any, .any, .any, .any, .any, .any, .any, .any, .any, .any, .any], m⟩ K
noncomputable abbrev K14_2_0 (K : Ex → St → Option (AV × Mem)) : Ex → St → Option (AV × Mem) := blockK 0 K
noncomputable abbrev K14_2 (K : Ex → St → Option (AV × Mem)) : Ex → St → Option (AV × Mem) := (K14_2_0 K)
noncomputable abbrev K14_4_0 (K : Ex → St → Option (AV × Mem)) : Ex → St → Option (AV × Mem) := blockK 1 (roundG (fun st => loopW (execW cfg 14 (AP cfg) (AC cfg) (c1 (c1 (c2 (c2 (bodyOf f14)))))) (cfg.mask 14 (some 2)) st K) (cfg.mask 14 (some 2)) K)
noncomputable abbrev K14_4_1 (K : Ex → St → Option (AV × Mem)) : Ex → St → Option (AV × Mem) := seqK (fun st => execW cfg 14 (AP cfg) (AC cfg) (c2 (c2 (c1 (c1 (c1 (c2 (c2 (bodyOf f14)))))))) st (K14_4_0 K)) (K14_4_0 K)
noncomputable abbrev K14_4_2 (K : Ex → St → Option (AV × Mem)) : Ex → St → Option (AV × Mem) := blockK 2 (K14_4_1 K)
noncomputable abbrev K14_4 (K : Ex → St → Option (AV × Mem)) : Ex → St → Option (AV × Mem) := (K14_4_2 K)
theorem T14 (a0 : AV) (m : Mem) : AC cfg 14 [a0] m =
  L14_2 a0 (.lst none true .full []) m (K14_2 (finK cfg.P f14.results.toList)) :=
(AC_eq cfg 14 [a0] m (fn := f14) (c := bodyOf f14) at14 rfl).trans (by kernel_rfl)
theorem L14_2_eq (x0 x3 : AV) (m : Mem) (K : Ex → St → Option (AV × Mem)) : L14_2 x0 x3 m K =
  (lenA false x0).bind fun v1 =>
  L14_4 x0 x3 (.int .i64 0) (.bool false) x0 v1 (.int .i64 0) m (K14_4 K) :=
(loopW_eq (execW_lin _) _ _ _).trans (by kernel_rfl)
theorem L14_4_eq (x0 x3 x4 x5 x8 x9 x10 : AV) (m : Mem) (K : Ex → St → Option (AV × Mem)) : L14_4 x0 x3 x4 x5 x8 x9 x10 m K =
  (binA .other .lss x10 x9).bind fun v1 =>
  ifA v1 (
  (indexAddrA none x8 x10).bind fun v2 =>
  (loadA none m v2).bind fun v3 =>
  (lenA false x3).bind fun v4 =>
  (binA .other .eql v4 (.int .i64 0)).bind fun v5 =>
  ifA v5 (
  (unA .not x5).bind fun v6 =>
  ifA v6 (
  (binA .other .add x10 (.int .i64 1)).bind fun v7 =>
  L14_4 x0 x3 v3 (.bool true) x8 x9 v7 m K) (
  (binA .other .lss v3 x4).bind fun v8 =>
  ifA v8 (
  (binA .other .add x10 (.int .i64 1)).bind fun v9 =>
  L14_4 x0 x3 v3 (.bool true) x8 x9 v9 m K) (
  (binA .other .add x10 (.int .i64 1)).bind fun v10 =>
  L14_4 x0 x3 x4 x5 x8 x9 v10 m K))) (
  (lenA false x3).bind fun v11 =>
  (binA .other .sub v11 (.int .i64 1)).bind fun v12 =>
  (indexAddrA none x3 v12).bind fun v13 =>
  (loadA none m v13).bind fun v14 =>
  (binA .other .gtr v3 v14).bind fun v15 =>
  ifA v15 (
  (unA .not x5).bind fun v16 =>
  ifA v16 (
  (binA .other .add x10 (.int .i64 1)).bind fun v17 =>
  L14_4 x0 x3 v3 (.bool true) x8 x9 v17 m K) (
  (binA .other .lss v3 x4).bind fun v18 =>
  ifA v18 (
  (binA .other .add x10 (.int .i64 1)).bind fun v19 =>
  L14_4 x0 x3 v3 (.bool true) x8 x9 v19 m K) (
  (binA .other .add x10 (.int .i64 1)).bind fun v20 =>
  L14_4 x0 x3 x4 x5 x8 x9 v20 m K))) (
  (binA .other .add x10 (.int .i64 1)).bind fun v21 =>
  L14_4 x0 x3 x4 x5 x8 x9 v21 m K))) (
  K (.exit 2) (O14_4 x0 x3 x4 x5 m)) :=
(loopW_eq (execW_lin _) _ _ _).trans (by kernel_rfl)
theorem K14_2_ret (x2 : AV) (m : Mem) : K14_2 (finK cfg.P f14.results.toList) .ret (R14_2 x2 m) =
  some (x2, m) := by kernel_rfl
theorem K14_4_x2 (x0 x3 x4 x5 : AV) (m : Mem) (K : Ex → St → Option (AV × Mem)) : K14_4 K (.exit 2) (O14_4 x0 x3 x4 x5 m) =
  (unA .not x5).bind fun v1 =>
  ifA v1 (
  K .ret (R14_2 x3 m)) (
  (buildSliceA none [x4]).bind fun v2 =>
  (appA none false 3 none 8 m x3 v2).bind fun r3 =>
  L14_2 x0 r3.1 r3.2 K) := by kernel_rfl
end Go.Ab

/- Number and the reference's Restrict, by value. -/
set_option linter.unusedVariables false
set_option linter.unusedSimpArgs false
set_option linter.unusedSectionVars false
set_option maxRecDepth 100000
namespace Go.Ab
open Go.Proofs Go.Proofs.Tryd

theorem nat_add {tk : TK} {a b : Nat} (h : a + b < 9223372036854775808) : binA tk .add (.int .i64 a) (.int .i64 b) = some (.int .i64 (a + b : Nat)) := by
  rw [binA_add, ← Int.natCast_add]
  generalize a + b = q at *
  rw [wrap_i64 (by omega) (by omega)]
theorem W43 {z1 z2 : Bool} {o1 o2 : Own} {ar cs : List Int} (h1 : ∀ x ∈ ar, 1 ≤ x ∧ x ≤ 64) (hal : ar.length ≤ 16) (hc : cs.length = ar.length) (hb : ∀ v, v < ar.length → 0 ≤ cs.getD v 0) (m : Mem) : ∀ (j i : Nat), i + j = ar.length → ∀ n : Nat, n * prodF (ar.drop i) + idxF (ar.drop i) i (asgOf cs) ≤ 1000000 →
    L28_3 (IA z1 o1 ar) (IA z2 o2 cs) (.int .i64 n) (.int .i64 ar.length) (.int .i64 i) m (K28_3 (finK cfg.P f28.results.toList)) = some (.int .i64 (n * prodF (ar.drop i) + idxF (ar.drop i) i (asgOf cs) : Nat), m)
  | 0, i, h, n, hn => by
    rw [L28_3_eq, binA_lss, Option.bind_some, ifA_dec, if_neg (by omega), K28_3_x0, List.drop_eq_nil_of_le (by omega)]
    simp [prodF, idxF]
  | j + 1, i, h, n, hn => by
    have hv : i < ar.length := by omega
    have hvc : i < cs.length := by omega
    have hab := h1 _ (List.getElem_mem hv)
    obtain ⟨a, ha⟩ := Int.eq_ofNat_of_zero_le (by omega : 0 ≤ ar[i])
    have hget : ar.getD i 0 = (a : Int) := by rw [List.getD_eq_getElem?_getD, List.getElem?_eq_getElem hv, Option.getD_some, ha]
    have hcg : cs.getD i 0 = cs[i] := by rw [List.getD_eq_getElem?_getD, List.getElem?_eq_getElem hvc, Option.getD_some]
    obtain ⟨c, hcc⟩ := Int.eq_ofNat_of_zero_le (by have := hb i hv; omega : 0 ≤ cs[i])
    have hix : indexAddrA none (IA z1 o1 ar) (.int .i64 i) = some (.vptr [.int .i64 a]) := by rw [idx_IA hv, ha]
    have hic : indexAddrA none (IA z2 o2 cs) (.int .i64 i) = some (.vptr [.int .i64 c]) := by rw [idx_IA hvc, hcc]
    have hP : 1 ≤ prodF (ar.drop (i + 1)) := prod_pos fun x hx => (h1 x (List.drop_subset _ _ hx)).1
    have hy : asgOf cs i = c := by unfold asgOf; rw [hcg, hcc, Int.toNat_natCast]
    have e2 : (a : Int).toNat = a := Int.toNat_natCast a
    have e0 : n * prodF (ar.drop i) + idxF (ar.drop i) i (asgOf cs) = (n * a + c) * prodF (ar.drop (i + 1)) + idxF (ar.drop (i + 1)) (i + 1) (asgOf cs) := by
      rw [prod_step hv, idx_step hv, hget, hy, e2, Nat.add_mul, ← Nat.mul_assoc, Nat.add_assoc]
    rw [e0] at hn ⊢
    have hle : n * a + c ≤ (n * a + c) * prodF (ar.drop (i + 1)) := Nat.le_mul_of_pos_right _ hP
    have hmul : n * a < 9223372036854775808 := by omega
    have hadd : n * a + c < 9223372036854775808 := by omega
    rw [L28_3_eq, binA_lss, Option.bind_some, ifA_dec, if_pos (by omega), hix, Option.bind_some, loadA_one, Option.bind_some, n_mul hmul, Option.bind_some, hic, Option.bind_some, loadA_one, Option.bind_some, nat_add hadd, Option.bind_some, i_add1 (by omega), Option.bind_some]
    exact W43 h1 hal hc hb m j (i + 1) (by omega) (n * a + c) hn
theorem V43 (z1 z2 : Bool) (o1 o2 : Own) {ar cs : List Int} (h1 : ∀ x ∈ ar, 1 ≤ x ∧ x ≤ 64) (hal : ar.length ≤ 16) (hp : prodF ar ≤ 300) (hc : cs.length = ar.length) (hb : ∀ v, v < ar.length → 0 ≤ cs.getD v 0 ∧ cs.getD v 0 < ar.getD v 0) : AP cfg 28 [IA z1 o1 ar, IA z2 o2 cs] = some (.int .i64 (idxF ar 0 (asgOf cs) : Nat)) := by
  have hlt := idx_lt (ar := ar) (a := asgOf cs) (fun v hv => by have := hb v hv; unfold asgOf; omega) ar.length 0 (by omega)
  rw [List.drop_zero] at hlt
  have e := W43 (z1 := z1) (z2 := z2) (o1 := o1) (o2 := o2) h1 hal hc (fun v hv => (hb v hv).1) [] ar.length 0 (by omega) 0 (by rw [List.drop_zero]; omega)
  rw [List.drop_zero, Nat.zero_mul, Nat.zero_add] at e
  refine AP_of (m := []) (v := .int .i64 (idxF ar 0 (asgOf cs) : Nat)) (l := []) ?_ rfl rfl
  rw [T28, len_IA, Option.bind_some]
  exact e
/-- Of a row that may be written: it is lost. -/
theorem pc43a (z1 : Bool) (o1 : Own) {ar cs : List Int} (h1 : ∀ x ∈ ar, 1 ≤ x ∧ x ≤ 64) (hal : ar.length ≤ 16) (hp : prodF ar ≤ 300) (hc : cs.length = ar.length) (hb : ∀ v, v < ar.length → 0 ≤ cs.getD v 0 ∧ cs.getD v 0 < ar.getD v 0) {m : Mem} {a : Nat} (hg : m.get a = some (.obj false (cs.map (AV.int .i64)))) : pcall (AP cfg) none m 28 [IA z1 o1 ar, .arr a 0 ar.length none] = some (.int .i64 (idxF ar 0 (asgOf cs) : Nat), m.set a none) := by
  have hf := frz_int hg
  rw [hc] at hf
  have hm : mapF (frz m fuelF) [IA z1 o1 ar, .arr a 0 ar.length none] = some ([IA z1 o1.fr ar, IA false .no cs], [a]) := by
    have h0 := fz_IA z1 o1 ar m
    simp only [mapF, h0, hf, Option.bind_some, Option.map_some]
    rfl
  unfold pcall
  rw [hm]
  simp only [Option.bind_some, Option.isSome_none, Bool.false_and, Bool.false_eq_true, if_false, V43 z1 false o1.fr .no h1 hal hp hc hb, Option.map_some]
  rfl
theorem idx_agree {ar : List Int} {a b : Nat → Nat} (h : ∀ w, w < ar.length → a w = b w) : ∀ (d v : Nat), v + d = ar.length → idxF (ar.drop v) v a = idxF (ar.drop v) v b
  | 0, v, e => by rw [List.drop_eq_nil_of_le (by omega)]; rfl
  | d + 1, v, e => by
    have hv : v < ar.length := by omega
    rw [idx_step hv, idx_step hv, h v hv, idx_agree h d (v + 1) (by omega)]
theorem idx_inj {ar : List Int} (h1 : ∀ x ∈ ar, 1 ≤ x ∧ x ≤ 64) {a b : Nat → Nat} (ha : Asg ar a) (hb : Asg ar b) : ∀ (d v : Nat), v + d = ar.length → idxF (ar.drop v) v a = idxF (ar.drop v) v b → ∀ w, v ≤ w → w < ar.length → a w = b w
  | 0, v, e, _, w, h2, h3 => by omega
  | d + 1, v, e, hh, w, h2, h3 => by
    have hv : v < ar.length := by omega
    rw [idx_step hv, idx_step hv] at hh
    have la := idx_lt ha d (v + 1) (by omega)
    have lb := idx_lt hb d (v + 1) (by omega)
    generalize prodF (ar.drop (v + 1)) = P at *
    generalize hp : idxF (ar.drop (v + 1)) (v + 1) a = p at *
    generalize hq : idxF (ar.drop (v + 1)) (v + 1) b = q at *
    have hP : 0 < P := by omega
    have h4 : a v = b v := by
      have e1 : (a v * P + p) / P = a v := by rw [Nat.mul_comm, Nat.mul_add_div hP, Nat.div_eq_of_lt la]; rfl
      have e2 : (b v * P + q) / P = b v := by rw [Nat.mul_comm, Nat.mul_add_div hP, Nat.div_eq_of_lt lb]; rfl
      rw [← e1, hh, e2]
    have h5 : p = q := by rw [h4] at hh; omega
    by_cases hw : w = v
    · subst hw; exact h4
    · exact idx_inj h1 ha hb d (v + 1) (by omega) (by rw [hp, hq]; exact h5) w (by omega) h3
theorem asg_set {cs : List Int} {v arm : Nat} (hv : v < cs.length) : asgOf (cs.set v arm) = upd (asgOf cs) v arm := by
  funext w
  unfold asgOf upd
  by_cases h : w = v
  · subst h
    rw [if_pos rfl, List.getD_eq_getElem?_getD, List.getElem?_set_self hv, Option.getD_some, Int.toNat_natCast]
  · rw [if_neg h, List.getD_eq_getElem?_getD, List.getElem?_set_ne (fun e => h e.symm), ← List.getD_eq_getElem?_getD]
end Go.Ab

/- The reference's Support and Leaves, by value. -/
set_option linter.unusedVariables false
set_option linter.unusedSimpArgs false
set_option linter.unusedSectionVars false
set_option maxRecDepth 100000
namespace Go.Ab
open Go.Proofs Go.Proofs.Tryd

theorem getD_at' {l : List Int} {i : Nat} (h : i < l.length) : l.getD i 0 = l[i] := by rw [List.getD_eq_getElem?_getD, List.getElem?_eq_getElem h, Option.getD_some]
/-- The table hangs on a variable. -/
def Hd (ar t : List Int) (v : Nat) : Prop := ∃ (y : Nat → Nat) (a : Nat), Asg ar y ∧ (a : Int) < ar.getD v 0 ∧ t.getD (idxF ar 0 (upd y v a)) 0 ≠ t.getD (idxF ar 0 y) 0
theorem app_row {m : Mem} {z : Bool} {o : Own} {cs : List Int} (hne : cs ≠ []) (hl : cs.length ≤ 1000) : appA none true 3 none 8 m (.lst none false .full []) (IA z o cs) = some (.arr m.length 0 cs.length none, m ++ [some (.obj false (cs.map (AV.int .i64)))]) := by
  obtain ⟨c, ct, rfl⟩ := List.exists_cons_of_ne_nil hne
  have hb : (ct.length + 1) * 8 ≤ roomA := by
    simp only [List.length_cons] at hl
    unfold roomA; omega
  have hf : ((AV.int IntKind.i64 c :: ct.map (AV.int IntKind.i64)).flatMap AV.cells) = AV.int IntKind.i64 c :: ct.map (AV.int IntKind.i64) := by
    have := flat_ints (c :: ct)
    simpa using this
  show appA none true 3 none 8 m (.lst none false .full []) (.lst none z o ((c :: ct).map (AV.int .i64))) = _
  simp only [appA, List.map_cons, List.length_nil, List.length_cons, List.length_map, Nat.zero_add, hb, if_true, or_true, List.nil_append, newAt, hf]
section
variable {z zt zr : Bool} {o ot or_ : Own} {ar t : List Int} {v : Nat}
theorem X13c (h1 : ∀ x ∈ ar, 1 ≤ x ∧ x ≤ 64) (hal : ar.length ≤ 16) (hp : prodF ar ≤ 300) (hv : v < ar.length) (ht : t.length = prodF ar) {cs : List Int} {i : Nat} (A : Asn ar i cs) (hi : i < t.length) (x5 x13 x14 x18 x19 : AV) (K : Ex → St → Option (AV × Mem)) {m0 : Mem} : ∀ (j arm : Nat), (arm : Int) + j = ar.getD v 0 → ∀ (b : Bool) (m : Mem), Fr m0 m [] →
    ∃ b' m', L13_10 (IA z o ar) (IA zt ot t) x5 (.int .i64 v) (.bool b) (.int .i64 i) (IA false .no cs) (.int .i64 arm) x13 x14 x18 x19 (.int .i64 i) m (K13_10 K) = K13_10 K (.exit 4) (O13_10 (IA z o ar) (IA zt ot t) x5 (.int .i64 v) (.bool b') x13 x14 x18 x19 (.int .i64 i) m') ∧ Fr m0 m' [] ∧
      (b' = true ↔ b = true ∨ ∃ q : Nat, arm ≤ q ∧ (q : Int) < ar.getD v 0 ∧ t.getD (idxF ar 0 (upd (asgOf cs) v q)) 0 ≠ t.getD i 0) := by
  have hget := getD_at' hv
  have hix : indexAddrA none (IA z o ar) (.int .i64 v) = some (.vptr [.int .i64 (ar.getD v 0)]) := by rw [idx_IA hv, hget]
  have hvc : v < cs.length := by rw [A.len]; exact hv
  have hne : cs ≠ [] := fun e => by rw [e] at hvc; simp at hvc
  have hit : indexAddrA none (IA zt ot t) (.int .i64 i) = some (.vptr [.int .i64 (t.getD i 0)]) := by rw [idx_IA hi, getD_at' hi]
  have hb0 : buildSliceA none [] = some (.lst none false .full []) := rfl
  intro j
  induction j with
  | zero =>
    intro arm ha b m f
    refine ⟨b, m, ?_, f, ?_⟩
    · rw [L13_10_eq, hix, Option.bind_some, loadA_one, Option.bind_some, binA_lss, Option.bind_some, ifA_dec, if_neg (by omega)]
    · constructor
      · exact .inl
      · rintro (h | ⟨q, h2, h3, _⟩)
        · exact h
        · omega
  | succ j ih =>
    intro arm ha b m f
    have har : (arm : Int) < ar.getD v 0 := by omega
    have hab := h1 _ (List.getElem_mem hv)
    have hag : ar.getD v 0 = ar[v] := hget
    have hr := app_row (m := m) (z := false) (o := .no) hne (by have := A.len; omega)
    have hgm : Mem.get (m ++ [some (.obj false (cs.map (AV.int .i64)))]) m.length = some (.obj false (cs.map (AV.int .i64))) := g_eq rfl
    have hiv : indexAddrA none (.arr m.length 0 cs.length none) (.int .i64 v) = some (.ptr m.length v) := index_arr hvc
    have st := st_int (y := (arm : Int)) hgm hvc
    have hml : m.length < (m ++ [some (Ent.obj false (cs.map (AV.int .i64)))]).length := by simp
    have f1 : Fr m0 ((m ++ [some (Ent.obj false (cs.map (AV.int .i64)))]).set m.length (some (.obj false ((cs.set v (arm : Int)).map (AV.int .i64))))) [] := (f.snoc _).set _ (.inr f.len)
    cases b with
    | true =>
      obtain ⟨b', m', e, k1, k2⟩ := ih (arm + 1) (by omega) true _ f1
      refine ⟨b', m', ?_, k1, by rw [k2]; simp⟩
      rw [L13_10_eq, hix, Option.bind_some, loadA_one, Option.bind_some, binA_lss, Option.bind_some, ifA_dec, if_pos har, hb0, Option.bind_some, hr, Option.bind_some, hiv, Option.bind_some, st, Option.bind_some, ifA_t, ifP_pos rfl, i_add1 (by omega), Option.bind_some]
      exact e
    | false =>
      have hg1 : Mem.get ((m ++ [some (Ent.obj false (cs.map (AV.int .i64)))]).set m.length (some (.obj false ((cs.set v (arm : Int)).map (AV.int .i64))))) m.length = some (.obj false ((cs.set v (arm : Int)).map (AV.int .i64))) := g_seq rfl hml
      have bd1 : ∀ w, w < ar.length → 0 ≤ (cs.set v (arm : Int)).getD w 0 ∧ (cs.set v (arm : Int)).getD w 0 < ar.getD w 0 := fun w hw => by
        by_cases hwv : w = v
        · subst hwv
          rw [List.getD_eq_getElem?_getD, List.getElem?_set_self hvc, Option.getD_some]
          omega
        · rw [List.getD_eq_getElem?_getD, List.getElem?_set_ne (fun e => hwv e.symm), ← List.getD_eq_getElem?_getD]
          exact A.bd w hw
      have p43 := pc43a z o h1 hal hp (by rw [List.length_set]; exact A.len) bd1 hg1
      rw [← A.len, List.set_set, asg_set hvc] at p43
      have f2 : Fr m0 ((m ++ [some (Ent.obj false (cs.map (AV.int .i64)))]).set m.length none) [] := (f.snoc _).set _ (.inr f.len)
      have hlt : idxF ar 0 (upd (asgOf cs) v arm) < t.length := by
        have := idx_lt (A.asg.upd har) ar.length 0 (by omega)
        rw [List.drop_zero] at this
        omega
      have hi2 : indexAddrA none (IA zt ot t) (.int .i64 (idxF ar 0 (upd (asgOf cs) v arm) : Nat)) = some (.vptr [.int .i64 (t.getD (idxF ar 0 (upd (asgOf cs) v arm)) 0)]) := by rw [idx_IA hlt, getD_at' hlt]
      obtain ⟨b', m', e, k1, k2⟩ := ih (arm + 1) (by omega) (decide (t.getD (idxF ar 0 (upd (asgOf cs) v arm)) 0 ≠ t.getD i 0)) _ f2
      refine ⟨b', m', ?_, k1, ?_⟩
      · have hld : ∀ M : Mem, loadA none M (.vptr [.int .i64 (t.getD i 0)]) = some (.int .i64 (t.getD i 0)) := fun _ => rfl
        have hP : ∀ M : Mem, ((loadA none M (.vptr [.int .i64 (t.getD i 0)])).bind (fun v => some (v, M)) = some (.int .i64 (t.getD i 0), M)) := fun _ => rfl
        rw [L13_10_eq, hix, Option.bind_some, loadA_one, Option.bind_some, binA_lss, Option.bind_some, ifA_dec, if_pos har, hb0, Option.bind_some, hr, Option.bind_some, hiv, Option.bind_some, st, Option.bind_some, ifA_f, hit, Option.bind_some, hld, Option.bind_some, p43, Option.bind_some, ifP_pos (hP _), hi2, Option.bind_some, loadA_one, Option.bind_some, binA_neq, Option.bind_some, i_add1 (by omega), Option.bind_some]
        exact e
      · rw [k2, decide_eq_true_eq]
        constructor
        · rintro (h | ⟨q, h2, h3, h4⟩)
          · exact .inr ⟨arm, Nat.le_refl _, har, h⟩
          · exact .inr ⟨q, by omega, h3, h4⟩
        · rintro (h | ⟨q, h2, h3, h4⟩)
          · cases h
          · by_cases hq : q = arm
            · subst hq; exact .inl h4
            · exact .inr ⟨q, by omega, h3, h4⟩
theorem X13b (h1 : ∀ x ∈ ar, 1 ≤ x ∧ x ≤ 64) (hal : ar.length ≤ 16) (hp : prodF ar ≤ 300) (hv : v < ar.length) (ht : t.length = prodF ar) {css : List (List Int)} (hcl : css.length = prodF ar) (hcs : ∀ k (h : k < css.length), Asn ar k css[k]) (x5 x13 x14 : AV) (K : Ex → St → Option (AV × Mem)) {m0 : Mem} : ∀ (j i : Nat), i + j = css.length → ∀ (b : Bool) (m : Mem), Fr m0 m [] →
    ∃ b' m', L13_7 (IA z o ar) (IA zt ot t) x5 (.int .i64 v) (.bool b) x13 x14 (.lst none zr or_ (css.map (IA false .no))) (.int .i64 css.length) (.int .i64 i) m (K13_7 K) = K13_7 K (.exit 2) (O13_7 (IA z o ar) (IA zt ot t) x5 (.int .i64 v) (.bool b') x13 x14 m') ∧ Fr m0 m' [] ∧
      (b' = true ↔ b = true ∨ ∃ k, ∃ hk : k < css.length, i ≤ k ∧ ∃ q : Nat, (q : Int) < ar.getD v 0 ∧ t.getD (idxF ar 0 (upd (asgOf css[k]) v q)) 0 ≠ t.getD k 0) := by
  intro j
  induction j with
  | zero =>
    intro i hi b m f
    refine ⟨b, m, ?_, f, ?_⟩
    · rw [L13_7_eq, n_lss, Option.bind_some, ifA_dec, if_neg (by omega)]
    · constructor
      · exact .inl
      · rintro (h | ⟨k, hk, h2, _⟩)
        · exact h
        · omega
  | succ j ih =>
    intro i hi b m f
    have hil : i < css.length := by omega
    have A := hcs i hil
    have hir : indexAddrA none (.lst none zr or_ (css.map (IA false .no))) (.int .i64 i) = some (.vptr [IA false .no css[i]]) := by
      simp [indexAddrA, hil, AV.cells, IA]
    have l1v : loadA none m (.vptr [IA false .no css[i]]) = some (IA false .no css[i]) := rfl
    have hav := h1 _ (List.getElem_mem hv)
    have hget := getD_at' hv
    obtain ⟨a, ha⟩ := Int.eq_ofNat_of_zero_le (by omega : 0 ≤ ar.getD v 0)
    obtain ⟨b1, m1, e1, f1, k1⟩ := X13c (z := z) (zt := zt) (o := o) (ot := ot) h1 hal hp hv ht A (by omega) x5 x13 x14 (.lst none zr or_ (css.map (IA false .no))) (.int .i64 css.length) (K13_7 K) a 0 (by omega) b m f
    obtain ⟨b', m', e, f2, k2⟩ := ih (i + 1) (by omega) b1 m1 f1
    refine ⟨b', m', ?_, f2, ?_⟩
    · have e1 : L13_10 (IA z o ar) (IA zt ot t) x5 (.int .i64 v) (.bool b) (.int .i64 i) (IA false .no css[i]) (.int .i64 0) x13 x14 (.lst none zr or_ (css.map (IA false .no))) (.int .i64 css.length) (.int .i64 i) m (K13_10 (K13_7 K)) = _ := e1
      rw [L13_7_eq, n_lss, Option.bind_some, ifA_dec, if_pos hil, hir, Option.bind_some, l1v, Option.bind_some, e1, K13_10_x4, i_add1 (by omega), Option.bind_some]
      exact e
    · rw [k2, k1]
      constructor
      · rintro ((h | ⟨q, _, h3, h4⟩) | ⟨k, hk, h2, h3⟩)
        · exact .inl h
        · exact .inr ⟨i, hil, Nat.le_refl _, q, h3, h4⟩
        · exact .inr ⟨k, hk, by omega, h3⟩
      · rintro (h | ⟨k, hk, h2, q, h3, h4⟩)
        · exact .inl (.inl h)
        · by_cases hki : k = i
          · subst hki; exact .inl (.inr ⟨q, Nat.zero_le _, h3, h4⟩)
          · exact .inr ⟨k, hk, by omega, q, h3, h4⟩
theorem hd_iff (h1 : ∀ x ∈ ar, 1 ≤ x ∧ x ≤ 64) {css : List (List Int)} (hcl : css.length = prodF ar) (hcs : ∀ k (h : k < css.length), Asn ar k css[k]) : (∃ k, ∃ hk : k < css.length, 0 ≤ k ∧ ∃ q : Nat, (q : Int) < ar.getD v 0 ∧ t.getD (idxF ar 0 (upd (asgOf css[k]) v q)) 0 ≠ t.getD k 0) ↔ Hd ar t v := by
  constructor
  · rintro ⟨k, hk, _, q, h3, h4⟩
    have A := hcs k hk
    exact ⟨asgOf css[k], q, A.asg, h3, by rw [A.idx]; exact h4⟩
  · rintro ⟨y, q, hy, h3, h4⟩
    have hlt := idx_lt hy ar.length 0 (by omega)
    rw [List.drop_zero] at hlt
    have hk : idxF ar 0 y < css.length := by omega
    have A := hcs _ hk
    have hag := idx_inj h1 A.asg hy ar.length 0 (by omega) (by rw [List.drop_zero]; exact A.idx)
    have hal2 : ∀ w, w < ar.length → upd (asgOf css[idxF ar 0 y]) v q w = upd y v q w := fun w hw => by
      unfold upd
      split
      · rfl
      · exact hag w (Nat.zero_le _) hw
    have := idx_agree hal2 ar.length 0 (by omega)
    rw [List.drop_zero] at this
    exact ⟨idxF ar 0 y, hk, Nat.zero_le _, q, h3, by rw [this]; exact h4⟩
theorem X13a (h1 : ∀ x ∈ ar, 1 ≤ x ∧ x ≤ 64) (hal : ar.length ≤ 16) (hp : prodF ar ≤ 300) (ht : t.length = prodF ar) : ∀ (j v : Nat), v + j = ar.length → ∀ (m : Mem) (x : AV) (us : List Int), OutR 0 m x us → us.Pairwise (· < ·) → (∀ y ∈ us, ∃ u : Nat, y = u ∧ u < v ∧ Hd ar t u) → (∀ u : Nat, u < v → Hd ar t u → (u : Int) ∈ us) → us.length ≤ v →
    ∃ m' x' us', L13_3 (IA z o ar) (IA zt ot t) x (.int .i64 ar.length) (.int .i64 v) m (K13_3 (finK cfg.P f13.results.toList)) = some (x', m') ∧ OutR 0 m' x' us' ∧ us'.Pairwise (· < ·) ∧ (∀ y ∈ us', ∃ u : Nat, y = u ∧ u < ar.length ∧ Hd ar t u) ∧ ∀ u : Nat, u < ar.length → Hd ar t u → (u : Int) ∈ us' := by
  intro j
  induction j with
  | zero =>
    intro v hv m x us hx hpw h2 h3 _
    refine ⟨m, x, us, ?_, hx, hpw, fun y hy => ?_, fun u hu => h3 u (by omega)⟩
    · rw [L13_3_eq, n_lss, Option.bind_some, ifA_dec, if_neg (by omega), K13_3_x0]
    · obtain ⟨u, e, hu, hd⟩ := h2 y hy
      exact ⟨u, e, by omega, hd⟩
  | succ j ih =>
    intro v hv m x us hx hpw h2 h3 hul
    have hvl : v < ar.length := by omega
    obtain ⟨z35, o35, css, e35, hcl, hcs⟩ := pc35 z o ar h1 hal hp m
    have hlen35 : lenA false (.lst none z35 o35 (css.map (IA false .no))) = some (.int .i64 css.length) := by rw [lenA_lst, List.length_map]
    obtain ⟨b, m1, e, f1, k1⟩ := X13b (z := z) (zt := zt) (o := o) (ot := ot) (zr := z35) (or_ := o35) h1 hal hp hvl ht hcl hcs x (.int .i64 ar.length) (.int .i64 v) (K13_3 (finK cfg.P f13.results.toList)) css.length 0 (by omega) false m (Fr.refl _ _)
    have hb : b = true ↔ Hd ar t v := by
      rw [k1, ← hd_iff h1 hcl hcs]
      simp
    have hx1 : OutR 0 m1 x us := hx.move fun t _ ht => f1.get t ht (by simp)
    have e : L13_7 (IA z o ar) (IA zt ot t) x (.int .i64 v) (.bool false) (.int .i64 ar.length) (.int .i64 v) (.lst none z35 o35 (css.map (IA false .no))) (.int .i64 css.length) (.int .i64 0) m (K13_7 (K13_3 (finK cfg.P f13.results.toList))) = _ := e
    have e0 : L13_3 (IA z o ar) (IA zt ot t) x (.int .i64 ar.length) (.int .i64 v) m (K13_3 (finK cfg.P f13.results.toList)) = K13_7 (K13_3 (finK cfg.P f13.results.toList)) (.exit 2) (O13_7 (IA z o ar) (IA zt ot t) x (.int .i64 v) (.bool b) (.int .i64 ar.length) (.int .i64 v) m1) := by
      rw [L13_3_eq, n_lss, Option.bind_some, ifA_dec, if_pos hvl, e35, Option.bind_some, hlen35, Option.bind_some]
      exact e
    cases b with
    | true =>
      have hdv := hb.1 rfl
      obtain ⟨x2, m2, ea, hx2, _, _⟩ := or_app hx1 (by omega) (Nat.zero_le _) (v : Int)
      obtain ⟨m', x', us', e', k⟩ := ih (v + 1) (by omega) m2 x2 (us ++ [(v : Int)]) hx2 (by
        rw [List.pairwise_append]
        refine ⟨hpw, by simp, fun a ha b hb => ?_⟩
        obtain ⟨u, e, hu, _⟩ := h2 a ha
        have : b = (v : Int) := by simpa using hb
        omega) (fun y hy => by
        rcases List.mem_append.1 hy with hy | hy
        · obtain ⟨u, e, hu, hd⟩ := h2 y hy
          exact ⟨u, e, by omega, hd⟩
        · have : y = (v : Int) := by simpa using hy
          exact ⟨v, this, by omega, hdv⟩) (fun u hu hd => by
        by_cases huv : u = v
        · subst huv; simp
        · exact List.mem_append_left _ (h3 u (by omega) hd)) (by simp; omega)
      refine ⟨m', x', us', ?_, k⟩
      rw [e0, K13_7_x2, ifA_t, build_int, Option.bind_some, ea, Option.bind_some, i_add1 (by omega), Option.bind_some]
      exact e'
    | false =>
      have hdv : ¬ Hd ar t v := fun h => by have := hb.2 h; cases this
      obtain ⟨m', x', us', e', k⟩ := ih (v + 1) (by omega) m1 x us hx1 hpw (fun y hy => by
        obtain ⟨u, e, hu, hd⟩ := h2 y hy
        exact ⟨u, e, by omega, hd⟩) (fun u hu hd => by
        by_cases huv : u = v
        · subst huv; exact absurd hd hdv
        · exact h3 u (by omega) hd) (by omega)
      refine ⟨m', x', us', ?_, k⟩
      rw [e0, K13_7_x2, ifA_f, i_add1 (by omega), Option.bind_some]
      exact e'
theorem B13 (h1 : ∀ x ∈ ar, 1 ≤ x ∧ x ≤ 64) (hal : ar.length ≤ 16) (hp : prodF ar ≤ 300) (ht : t.length = prodF ar) (z zt : Bool) (o ot : Own) (m : Mem) : ∃ (z' : Bool) (o' : Own) (us : List Int), pcall (AP cfg) none m 13 [IA z o ar, IA zt ot t] = some (IA z' o' us, m) ∧ us.Pairwise (· < ·) ∧ (∀ y ∈ us, ∃ u : Nat, y = u ∧ u < ar.length ∧ Hd ar t u) ∧ ∀ u : Nat, u < ar.length → Hd ar t u → (u : Int) ∈ us := by
  obtain ⟨m', x', us, e, hx, k1, k2, k3⟩ := X13a (z := z) (zt := zt) (o := o.fr) (ot := ot.fr) h1 hal hp ht ar.length 0 (by omega) [] (.lst none true .full []) [] (.inl ⟨rfl, rfl⟩) (by simp) (by simp) (fun u hu => by omega) (by simp)
  have e0 : AC cfg 13 [IA z o.fr ar, IA zt ot.fr t] [] = some (x', m') := by
    rw [T13, len_IA, Option.bind_some]
    exact e
  rcases hx with ⟨rfl, rfl⟩ | ⟨q, rfl, hpos, hg, _⟩
  · refine ⟨true, .full, [], ?_, k1, k2, k3⟩
    rw [pcall2 (fz_IA z o ar) (fz_IA zt ot t), AP_of (m := m') (v := .lst none true .full []) (v' := .lst none true .full []) (l := []) e0 rfl rfl]; rfl
  · refine ⟨false, .no, us, ?_, k1, k2, k3⟩
    rw [pcall2 (fz_IA z o ar) (fz_IA zt ot t), AP_of (m := m') (v := .arr q 0 us.length none) (v' := IA false .no us) (l := [q]) e0 (frz_int hg) rfl]; rfl
end
end Go.Ab

/- What the interpreter does, function by function. -/
set_option maxRecDepth 100000
set_option linter.unusedVariables false
namespace Go.Ab
open Go.Proofs.Tryd
/-! ### sortilege/sortilegelaw23.DiagramSupports -/
theorem T3 (a0 a1 : AV) (m : Mem) : AC cfg 3 [a0, a1] m =
  (pcall (AP cfg) none m 4 [a0]).bind fun r1 =>
  (pcall (AP cfg) none r1.2 5 [r1.1]).bind fun r2 =>
  (binA .other .neq r2.1 (.int .i64 0)).bind fun v3 =>
  ifA v3 (
  (pcall (AP cfg) none r2.2 6 []).bind fun r4 =>
  some (r4.1, r4.2)) (
  (pcall (AP cfg) none r2.2 7 [r1.1, a1]).bind fun r5 =>
  (AC cfg 8 [r1.1, r5.1] r5.2).bind fun r6 =>
  (extractA r6.1 0).bind fun v7 =>
  (extractA r6.1 1).bind fun v8 =>
  (extractA r6.1 2).bind fun v9 =>
  (unA .not v9).bind fun v10 =>
  ifA v10 (
  some ((.bool false), r6.2)) (
  (AC cfg 9 [v7, v8] r6.2).bind fun r11 =>
  (extractA r11.1 0).bind fun v12 =>
  (extractA r11.1 1).bind fun v13 =>
  (AC cfg 10 [v7, v8] r11.2).bind fun r14 =>
  (extractA r14.1 0).bind fun v15 =>
  (extractA r14.1 1).bind fun v16 =>
  (AC cfg 11 [v7, v8] r14.2).bind fun r17 =>
  (extractA r17.1 0).bind fun v18 =>
  (extractA r17.1 1).bind fun v19 =>
  (binA .other .eql v13 (.int .i64 0)).bind fun v20 =>
  ifA v20 (
  (binA .other .eql v16 (.int .i64 0)).bind fun v21 =>
  ifA v21 (
  (binA .other .eql v19 (.int .i64 0)).bind fun v22 =>
  ifA v22 (
  (pcall (AP cfg) none r17.2 13 [r1.1, r5.1]).bind fun r23 =>
  (pcall (AP cfg) none r23.2 12 [v12, r23.1]).bind fun r24 =>
  ifA r24.1 (
  (pcall (AP cfg) none r24.2 14 [r5.1]).bind fun r25 =>
  (pcall (AP cfg) none r25.2 12 [v15, r25.1]).bind fun r26 =>
  ifA r26.1 (
  (pcall (AP cfg) none r26.2 15 [r1.1, r5.1]).bind fun r27 =>
  (lenA false r27.1).bind fun v28 =>
  (binA .other .eql v18 v28).bind fun v29 =>
  ifA v29 (
  (pcall (AP cfg) none r27.2 6 []).bind fun r30 =>
  some (r30.1, r30.2)) (
  some ((.bool false), r27.2))) (
  some ((.bool false), r26.2))) (
  some ((.bool false), r24.2))) (
  some ((.bool false), r17.2))) (
  some ((.bool false), r17.2))) (
  some ((.bool false), r17.2)))) :=
(AC_eq cfg 3 [a0, a1] m (fn := f3) (c := bodyOf f3) at3 rfl).trans (by kernel_rfl)
end Go.Ab

/- The reference's Leaves, by value; DiagramSupports in values. -/
set_option linter.unusedVariables false
set_option linter.unusedSimpArgs false
set_option linter.unusedSectionVars false
set_option maxRecDepth 100000
namespace Go.Ab
open Go.Proofs Go.Proofs.Tryd

theorem rise_le5 {os : List Int} (h : os.Pairwise (· < ·)) (hb : ∀ y ∈ os, 0 ≤ y ∧ y ≤ 4) : os.length ≤ 5 := by
  have hn : (os.map Int.toNat).Nodup := by
    rw [List.nodup_iff_pairwise_ne, List.pairwise_map]
    refine List.Pairwise.imp_of_mem ?_ h
    intro a b ha hb' hab e
    have := hb a ha; have := hb b hb'
    omega
  have := nodup_lt 5 _ hn fun x hx => by
    obtain ⟨y, hy, rfl⟩ := List.mem_map.1 hx
    have := hb y hy; omega
  rwa [List.length_map] at this
/-- The last of a row that rises is the greatest. -/
theorem rise_last {os : List Int} (h : os.Pairwise (· < ·)) : ∀ y ∈ os, y ≤ os.getLastD 0 := by
  intro y hy
  obtain ⟨i, hi, rfl⟩ := List.getElem_of_mem hy
  have hne : os ≠ [] := fun e => by rw [e] at hi; simp at hi
  have hl : os.getLastD 0 = os[os.length - 1]'(by omega) := by
    rw [List.getLastD_eq_getLast?, List.getLast?_eq_getElem?, List.getElem?_eq_getElem (by omega)]; rfl
  rw [hl]
  by_cases e : i = os.length - 1
  · subst e; exact Int.le_refl _
  · exact Int.le_of_lt (List.pairwise_iff_getElem.1 h i (os.length - 1) hi (by omega) (by omega))
def okB (os : List Int) (n : Int) : Bool := os.isEmpty || decide (n > os.getLastD 0)
section
variable {z zo : Bool} {o oo : Own} {t : List Int}
theorem X14b (htl : t.length ≤ 300) {os : List Int} (hol : os.length ≤ 100) (m : Mem) (K : Ex → St → Option (AV × Mem)) : ∀ (j i : Nat), i + j = t.length → ∀ (nx : Int) (fd : Bool), (fd = false → ∀ k (h : k < t.length), k < i → okB os t[k] = false) → (fd = true → okB os nx = true ∧ nx ∈ t ∧ ∀ k (h : k < t.length), k < i → okB os t[k] = true → nx ≤ t[k]) →
    ∃ nx' fd', L14_4 (IA z o t) (IA zo oo os) (.int .i64 nx) (.bool fd) (IA z o t) (.int .i64 t.length) (.int .i64 i) m (K14_4 K) = K14_4 K (.exit 2) (O14_4 (IA z o t) (IA zo oo os) (.int .i64 nx') (.bool fd') m) ∧ (fd' = false → ∀ k (h : k < t.length), okB os t[k] = false) ∧ (fd' = true → okB os nx' = true ∧ nx' ∈ t ∧ ∀ k (h : k < t.length), okB os t[k] = true → nx' ≤ t[k]) := by
  intro j
  induction j with
  | zero =>
    intro i hi nx fd h1 h2
    refine ⟨nx, fd, ?_, fun h k hk => h1 h k hk (by omega), fun h => ⟨(h2 h).1, (h2 h).2.1, fun k hk => (h2 h).2.2 k hk (by omega)⟩⟩
    rw [L14_4_eq, n_lss, Option.bind_some, ifA_dec, if_neg (by omega)]
  | succ j ih =>
    intro i hi nx fd h1 h2
    have hil : i < t.length := by omega
    have hit : indexAddrA none (IA z o t) (.int .i64 i) = some (.vptr [.int .i64 t[i]]) := idx_IA hil
    -- taking the number
    have take : okB os t[i] = true → (fd = true → t[i] < nx) → ∃ nx' fd', L14_4 (IA z o t) (IA zo oo os) (.int .i64 t[i]) (.bool true) (IA z o t) (.int .i64 t.length) (.int .i64 (i + 1 : Nat)) m (K14_4 K) = K14_4 K (.exit 2) (O14_4 (IA z o t) (IA zo oo os) (.int .i64 nx') (.bool fd') m) ∧ (fd' = false → ∀ k (h : k < t.length), okB os t[k] = false) ∧ (fd' = true → okB os nx' = true ∧ nx' ∈ t ∧ ∀ k (h : k < t.length), okB os t[k] = true → nx' ≤ t[k]) := fun hok hlt =>
      ih (i + 1) (by omega) t[i] true (fun h => by cases h) fun _ => ⟨hok, List.getElem_mem hil, fun k hk hki hok2 => by
        by_cases e : k = i
        · subst e; exact Int.le_refl _
        · cases hf : fd with
          | false => have := h1 hf k hk (by omega); rw [this] at hok2; cases hok2
          | true => have := (h2 hf).2.2 k hk (by omega) hok2; have := hlt hf; omega⟩
    -- leaving it
    have leave : (okB os t[i] = true → fd = true ∧ nx ≤ t[i]) → ∃ nx' fd', L14_4 (IA z o t) (IA zo oo os) (.int .i64 nx) (.bool fd) (IA z o t) (.int .i64 t.length) (.int .i64 (i + 1 : Nat)) m (K14_4 K) = K14_4 K (.exit 2) (O14_4 (IA z o t) (IA zo oo os) (.int .i64 nx') (.bool fd') m) ∧ (fd' = false → ∀ k (h : k < t.length), okB os t[k] = false) ∧ (fd' = true → okB os nx' = true ∧ nx' ∈ t ∧ ∀ k (h : k < t.length), okB os t[k] = true → nx' ≤ t[k]) := fun hle =>
      ih (i + 1) (by omega) nx fd (fun h k hk hki => by
        by_cases e : k = i
        · subst e
          cases hq : okB os t[k] with
          | false => rfl
          | true => have := (hle hq).1; rw [h] at this; cases this
        · exact h1 h k hk (by omega)) fun h => ⟨(h2 h).1, (h2 h).2.1, fun k hk hki hok2 => by
        by_cases e : k = i
        · subst e; exact (hle hok2).2
        · exact (h2 h).2.2 k hk (by omega) hok2⟩
    rw [L14_4_eq, n_lss, Option.bind_some, ifA_dec, if_pos hil, hit, Option.bind_some, loadA_one, Option.bind_some, len_IA, Option.bind_some, n_eql0, Option.bind_some, ifA_dec]
    by_cases hoe : os.length = 0
    · have hok : okB os t[i] = true := by
        unfold okB
        have : os = [] := List.eq_nil_of_length_eq_zero hoe
        rw [this]; rfl
      rw [if_pos hoe, un_not, Option.bind_some]
      cases hf : fd with
      | false =>
        obtain ⟨a, b, e, k⟩ := take hok fun h => by rw [hf] at h; cases h
        exact ⟨a, b, by rw [Bool.not_false, ifA_t, i_add1 (by omega), Option.bind_some]; exact e, k⟩
      | true =>
        rw [Bool.not_true, ifA_f, binA_lss, Option.bind_some, ifA_dec]
        by_cases hlt : t[i] < nx
        · obtain ⟨a, b, e, k⟩ := take hok fun _ => hlt
          exact ⟨a, b, by rw [if_pos hlt, i_add1 (by omega), Option.bind_some]; exact e, k⟩
        · obtain ⟨a, b, e, k⟩ := leave fun _ => ⟨hf, by omega⟩
          rw [hf] at e
          exact ⟨a, b, by rw [if_neg hlt, i_add1 (by omega), Option.bind_some]; exact e, k⟩
    · have hol1 : os.length - 1 < os.length := by omega
      have hlast : os.getLastD 0 = os[os.length - 1] := by
        rw [List.getLastD_eq_getLast?, List.getLast?_eq_getElem?, List.getElem?_eq_getElem hol1]; rfl
      have hil2 : indexAddrA none (IA zo oo os) (.int .i64 (os.length - 1 : Nat)) = some (.vptr [.int .i64 (os.getLastD 0)]) := by rw [idx_IA hol1, hlast]
      have hemp : os.isEmpty = false := by
        cases os with
        | nil => simp at hoe
        | cons a b => rfl
      rw [if_neg hoe, Option.bind_some, i_sub1 (by omega) (by omega), Option.bind_some, hil2, Option.bind_some, loadA_one, Option.bind_some, binA_gtr, Option.bind_some, ifA_dec]
      by_cases hgt : t[i] > os.getLastD 0
      · have hok : okB os t[i] = true := by unfold okB; rw [decide_eq_true hgt, Bool.or_true]
        rw [if_pos hgt, un_not, Option.bind_some]
        cases hf : fd with
        | false =>
          obtain ⟨a, b, e, k⟩ := take hok fun h => by rw [hf] at h; cases h
          exact ⟨a, b, by rw [Bool.not_false, ifA_t, i_add1 (by omega), Option.bind_some]; exact e, k⟩
        | true =>
          rw [Bool.not_true, ifA_f, binA_lss, Option.bind_some, ifA_dec]
          by_cases hlt : t[i] < nx
          · obtain ⟨a, b, e, k⟩ := take hok fun _ => hlt
            exact ⟨a, b, by rw [if_pos hlt, i_add1 (by omega), Option.bind_some]; exact e, k⟩
          · obtain ⟨a, b, e, k⟩ := leave fun _ => ⟨hf, by omega⟩
            rw [hf] at e
            exact ⟨a, b, by rw [if_neg hlt, i_add1 (by omega), Option.bind_some]; exact e, k⟩
      · have hok : okB os t[i] = false := by unfold okB; rw [hemp, decide_eq_false hgt]; rfl
        obtain ⟨a, b, e, k⟩ := leave fun h => by rw [hok] at h; cases h
        exact ⟨a, b, by rw [if_neg hgt, i_add1 (by omega), Option.bind_some]; exact e, k⟩
theorem X14a (htl : t.length ≤ 300) (hb : ∀ y ∈ t, 0 ≤ y ∧ y ≤ 4) : ∀ (j : Nat) (m : Mem) (x : AV) (os : List Int) (T : List Nat), os.length + j = 6 → GR 3 m x (os.map (AV.int .i64)) T → os.Pairwise (· < ·) → (∀ y ∈ os, y ∈ t) → (os ≠ [] → ∀ y ∈ t, y ≤ os.getLastD 0 → y ∈ os) →
    ∃ (m' : Mem) (x' : AV) (os' : List Int) (T' : List Nat), L14_2 (IA z o t) x m (K14_2 (finK cfg.P f14.results.toList)) = some (x', m') ∧ GR 3 m' x' (os'.map (AV.int .i64)) T' ∧ os'.Pairwise (· < ·) ∧ ∀ y, y ∈ os' ↔ y ∈ t := by
  intro j
  induction j with
  | zero =>
    intro m x os T hj hx hp hs _
    have := rise_le5 hp fun y hy => hb y (hs y hy)
    omega
  | succ j ih =>
    intro m x os T hj hx hp hs hc
    obtain ⟨zo, oo, rfl, _⟩ := gr_out hx
    obtain ⟨nx, fd, e, k1, k2⟩ := X14b (z := z) (o := o) (zo := zo) (oo := oo) htl (os := os) (by omega) m (K14_2 (finK cfg.P f14.results.toList)) t.length 0 (by omega) 0 false (fun _ k hk hk0 => by omega) (fun h => by cases h)
    have e : L14_4 (IA z o t) (IA zo oo os) (.int .i64 0) (.bool false) (IA z o t) (.int .i64 t.length) (.int .i64 0) m (K14_4 (K14_2 (finK cfg.P f14.results.toList))) = _ := e
    have e0 : L14_2 (IA z o t) (IA zo oo os) m (K14_2 (finK cfg.P f14.results.toList)) = K14_4 (K14_2 (finK cfg.P f14.results.toList)) (.exit 2) (O14_4 (IA z o t) (IA zo oo os) (.int .i64 nx) (.bool fd) m) := by
      rw [L14_2_eq, len_IA, Option.bind_some]
      exact e
    have last : ∀ y, okB os y = false → os ≠ [] ∧ y ≤ os.getLastD 0 := fun y h => by
      unfold okB at h
      rw [Bool.or_eq_false_iff, decide_eq_false_iff_not] at h
      exact ⟨fun e => by rw [e] at h; simp at h, by omega⟩
    cases fd with
    | false =>
      refine ⟨m, _, os, T, ?_, hx, hp, fun y => ⟨hs y, fun hy => ?_⟩⟩
      · have e0 : L14_2 (IA z o t) (.lst none zo oo (os.map (AV.int .i64))) m (K14_2 (finK cfg.P f14.results.toList)) = _ := e0
        rw [e0, K14_4_x2, un_not, Option.bind_some, Bool.not_false, ifA_t, K14_2_ret]
      · obtain ⟨i, hi, rfl⟩ := List.getElem_of_mem hy
        obtain ⟨h1, h2⟩ := last _ (k1 rfl i hi)
        exact hc h1 _ hy h2
    | true =>
      obtain ⟨q1, q2, q3⟩ := k2 rfl
      obtain ⟨x2, m2, T2, ea, g2, _, _⟩ := gr_app (b := 8) hx (by rw [List.length_map]; omega) (by omega) (.int .i64 nx)
      have hlt : ∀ y ∈ os, y < nx := fun y hy => by
        have h1 := rise_last hp y hy
        have hne : os.isEmpty = false := by
          cases os with
          | nil => cases hy
          | cons a b => rfl
        unfold okB at q1
        rw [hne, Bool.false_or, decide_eq_true_eq] at q1
        omega
      obtain ⟨m', x', os', T', e', k⟩ := ih m2 x2 (os ++ [nx]) T2 (by simp; omega) (by rw [List.map_append]; exact g2) (by
        rw [List.pairwise_append]
        exact ⟨hp, by simp, fun a ha b hb' => by
          have : b = nx := by simpa using hb'
          rw [this]; exact hlt a ha⟩) (fun y hy => by
        rcases List.mem_append.1 hy with hy | hy
        · exact hs y hy
        · have : y = nx := by simpa using hy
          rw [this]; exact q2) (fun _ y hy hle => by
        have hl : (os ++ [nx]).getLastD 0 = nx := by simp
        rw [hl] at hle
        obtain ⟨i, hi, rfl⟩ := List.getElem_of_mem hy
        cases hq : okB os t[i] with
        | true =>
          have := q3 i hi hq
          have e2 : t[i] = nx := by omega
          rw [e2]; simp
        | false =>
          obtain ⟨h1, h2⟩ := last _ hq
          exact List.mem_append_left _ (hc h1 _ hy h2))
      refine ⟨m', x', os', T', ?_, k⟩
      have e0 : L14_2 (IA z o t) (.lst none zo oo (os.map (AV.int .i64))) m (K14_2 (finK cfg.P f14.results.toList)) = _ := e0
      have ea : appA none false 3 none 8 m (IA zo oo os) (.lst none false .full [.int .i64 nx]) = _ := ea
      rw [e0, K14_4_x2, un_not, Option.bind_some, Bool.not_true, ifA_f, build_int, Option.bind_some, ea, Option.bind_some]
      exact e'
theorem B14 (htl : t.length ≤ 300) (hb : ∀ y ∈ t, 0 ≤ y ∧ y ≤ 4) (z : Bool) (o : Own) (m : Mem) : ∃ (z' : Bool) (o' : Own) (os : List Int), pcall (AP cfg) none m 14 [IA z o t] = some (IA z' o' os, m) ∧ os.Pairwise (· < ·) ∧ ∀ y, y ∈ os ↔ y ∈ t := by
  obtain ⟨m', x', os, T, e, hx, k⟩ := X14a (z := z) (o := o.fr) htl hb 6 [] (.lst none true .full []) [] [] rfl .none (by simp) (by simp) (fun h => absurd rfl h)
  obtain ⟨z', o', rfl, _⟩ := gr_out hx
  refine ⟨z', o'.fr, os, ?_, k⟩
  have e0 : AC cfg 14 [IA z o.fr t] [] = some (IA z' o' os, m') := by
    rw [T14]; exact e
  rw [pcall1 (fz_IA z o t), AP_of (m := m') (v := IA z' o' os) (v' := IA z' o'.fr os) (l := []) e0 (by cases o' <;> rfl) rfl]; rfl
end
/-! ### The law -/
theorem tell_mem {val : ND → Int} {keep : ND → Bool} {l : List ND} {ids : List Nat} (hids : ∀ i ∈ ids, i < l.length) (x : Int) : x ∈ tellF val keep l ids ↔ ∃ j ∈ ids, ∃ hj : j < l.length, keep l[j] = true ∧ val l[j] = x := by
  unfold tellF
  rw [List.mem_map]
  constructor
  · rintro ⟨j, hj, rfl⟩
    obtain ⟨h1, h2⟩ := List.mem_filter.1 hj
    have hl := hids j h1
    rw [getD_at hl] at h2 ⊢
    exact ⟨j, h1, hl, h2, rfl⟩
  · rintro ⟨j, hj, hl, h2, rfl⟩
    refine ⟨j, List.mem_filter.2 ⟨hj, ?_⟩, ?_⟩
    · rw [getD_at hl]; exact h2
    · rw [getD_at hl]
theorem DiagramSupports_law (z zl : Bool) (ar l : List Int) : ∃ m', AC cfg 3 [IA z .no ar, IA zl .no l] [] = some (.bool true, m') := by
  obtain ⟨o', r, e11, hg, hr17, ho'⟩ := V11 z .no ar
  have p11 : ∀ m, pcall (AP cfg) none m 4 [IA z .no ar] = some (IA false o' r, m) := fun m => by
    rw [pcall1 (fz_IA z .no ar), show (Own.no).fr = Own.no from rfl, e11]; rfl
  rw [T3, p11, Option.bind_some, pc12, Option.bind_some, binA_neq, Option.bind_some, ifA_dec]
  by_cases he : armsE r = 0
  · rw [if_neg (by simpa using he)]
    obtain ⟨h1, h2⟩ := armsE_ok he
    obtain ⟨hN, hN2⟩ := few_places hg he
    have h2' : ∀ x ∈ r, 1 ≤ x := fun x hx => (h2 x hx).1
    obtain ⟨zt, ot, t, e28, _, htl, htb⟩ := pc28 false zl o' .no r l h1 h2 hN hN2 []
    obtain ⟨m1, s, F, zs, os, l1, id1, e29, st1, g1, tab1, hl1, f1, _⟩ := A29 (za := false) (z := zt) (oa := o') (o := ot) (ar := r) (t := t) [] (fun h => by cases h) he hN2 htl htb
    have hid := tab1.lt
    have hll : l1.length ≤ 100000 := by omega
    obtain ⟨cc1, cc2, _⟩ := Vi_facts g1 id1 hid [] cl_nil
    have hvl := nodup_lt _ _ cc1.nd cc1.lt
    obtain ⟨m2, y1, e9, f2, r1⟩ := B9 st1 (by omega) g1 hll hid
    have st2 := st1.app f2
    obtain ⟨m3, y2, e10, f3, r2⟩ := B10 st2 (by omega) g1 hll hid
    have st3 := st2.app f3
    obtain ⟨m4, e11', f4⟩ := B11 st3 (by omega) g1 hll hid
    have r1' := (r1.fr f3).fr f4
    have r2' := r2.fr f4
    obtain ⟨z13, o13, us, p13, u1, u2, u3⟩ := B13 h2 h1 hN2 htl false zt o' ot m4
    have tab : ∀ y, Asg r y → S l1 y id1 = t.getD (idxF r 0 y) 0 := fun y hy => by
      have := tab1.val y hy
      rwa [List.drop_zero] at this
    have hdep : ∀ v, v < r.length → (Dep r l1 id1 v ↔ Hd r t v) := fun v hv => by
      constructor
      · rintro ⟨y, a, hy, ha, hne⟩
        exact ⟨y, a, hy, ha, by rw [← tab _ (hy.upd ha), ← tab _ hy]; exact hne⟩
      · rintro ⟨y, a, hy, ha, hne⟩
        exact ⟨y, a, hy, ha, by rw [tab _ (hy.upd ha), tab _ hy]; exact hne⟩
    have eq1 : told (tellF (fun n => n.var) (fun n => decide (n.var ≥ 0)) l1 (Vi l1 id1 [])) = us := by
      refine rise_eq (told_rise _) u1 fun x => ?_
      rw [told_mem, tell_mem cc1.lt]
      constructor
      · rintro ⟨j, hj, hjl, hk, rfl⟩
        rw [decide_eq_true_eq] at hk
        obtain ⟨v, hv⟩ := Int.eq_ofNat_of_zero_le hk
        have hv' : l1[j].var = (v : Int) := hv
        have hvl2 := (g1.var j hjl hk).1
        rw [hv']
        exact u3 v (by omega) ((hdep v (by omega)).1 ((vars_iff g1 h2' hid (by omega)).1 ⟨j, hj, hjl, hv'⟩))
      · intro hx
        obtain ⟨v, rfl, hv, hd⟩ := u2 x hx
        obtain ⟨j, hj, hjl, e⟩ := (vars_iff g1 h2' hid hv).2 ((hdep v hv).2 hd)
        exact ⟨j, hj, hjl, decide_eq_true (by omega), e⟩
    have hul : us.length ≤ 100000 := by
      have hn : (us.map Int.toNat).Nodup := by
        rw [List.nodup_iff_pairwise_ne, List.pairwise_map]
        refine List.Pairwise.imp_of_mem ?_ u1
        intro a b ha hb' hab e
        obtain ⟨u, rfl, _⟩ := u2 a ha
        obtain ⟨w, rfl, _⟩ := u2 b hb'
        omega
      have := nodup_lt r.length _ hn fun x hx => by
        obtain ⟨y, hy, rfl⟩ := List.mem_map.1 hx
        obtain ⟨u, rfl, hu, _⟩ := u2 y hy
        omega
      rw [List.length_map] at this
      omega
    obtain ⟨m5, p12, hm5⟩ := pc12R r1' z13 o13 us (by rw [eq1]; exact hul)
    rw [eq1, decide_eq_true rfl] at p12
    obtain ⟨z14, o14, ls, p14, v1, v2⟩ := B14 (t := t) (by omega) htb zt ot m5
    have hleaf : ∀ x, (∃ y, Asg r y ∧ S l1 y id1 = x) ↔ x ∈ t := fun x => by
      constructor
      · rintro ⟨y, hy, rfl⟩
        rw [tab y hy]
        have hlt := idx_lt hy r.length 0 (by omega)
        rw [List.drop_zero] at hlt
        have hi : idxF r 0 y < t.length := by omega
        rw [getD_at' hi]
        exact List.getElem_mem hi
      · intro hx
        obtain ⟨i, hi, rfl⟩ := List.getElem_of_mem hx
        obtain ⟨y, hy, e⟩ := idx_surj h2' r.length 0 i (by omega) (by rw [List.drop_zero]; omega)
        rw [List.drop_zero] at e
        exact ⟨y, hy, by rw [tab y hy, e, getD_at' hi]⟩
    have eq2 : told (tellF (fun n => n.leaf) (fun n => decide (n.var < 0)) l1 (Vi l1 id1 [])) = ls := by
      refine rise_eq (told_rise _) v1 fun x => ?_
      rw [told_mem, tell_mem cc1.lt, v2, ← hleaf, ← leaves_iff g1 h2' hid]
      constructor
      · rintro ⟨j, hj, hjl, hk, rfl⟩
        exact ⟨j, hj, hjl, by simpa using hk, rfl⟩
      · rintro ⟨j, hj, hjl, hk, rfl⟩
        exact ⟨j, hj, hjl, by simpa using hk, rfl⟩
    have r2'' : ResR m2.length m5 y2 (told (tellF (fun n => n.leaf) (fun n => decide (n.var < 0)) l1 (Vi l1 id1 []))) := by
      rcases hm5 with rfl | ⟨q, hq, rfl⟩
      · exact r2'
      · rcases r2' with h | ⟨t2, zs2, hx2, hg2, hB2⟩
        · exact .inl h
        · refine .inr ⟨t2, zs2, hx2, ?_, hB2⟩
          rcases r1 with ⟨h, _⟩ | ⟨t1, zs1, hx1, hg1, _⟩
          · rw [h] at hq; cases hq
          · rw [hx1] at hq
            have := get_lt hg1
            rw [g_sne (by cases hq; omega)]
            exact hg2
    have hlsl : ls.length ≤ 100000 := by
      have := rise_le5 v1 fun y hy => htb y ((v2 y).1 hy)
      omega
    obtain ⟨m6, p12', _⟩ := pc12R r2'' z14 o14 ls (by rw [eq2]; exact hlsl)
    rw [eq2, decide_eq_true rfl] at p12'
    have p15 : ∀ m, pcall (AP cfg) none m 15 [IA false o' r, IA zt ot t] = some (NL false .no (mapN l1 (Vi l1 id1 [])), m) := fun m => by
      rw [pcall2 (fz_IA false o' r) (fz_IA zt ot t), V46 g1 h2 hll h1 hN2 tab1]; rfl
    have hlenP : (mapN l1 (Vi l1 id1 [])).length = (Vi l1 id1 []).length := by unfold mapN; rw [List.length_map]
    have e15 : lenA false (NL false .no (mapN l1 (Vi l1 id1 []))) = some (.int .i64 (Vi l1 id1 []).length) := by rw [len_NL, hlenP]
    have eq0 : binA .other .eql (.int .i64 0) (.int .i64 0) = some (.bool true) := rfl
    rw [e28, Option.bind_some, e29, Option.bind_some, show extractA (.tup [.ptr s 0, .int .i64 (id1 : Nat), .bool true]) 0 = some (.ptr s 0) from rfl, Option.bind_some, show extractA (.tup [.ptr s 0, .int .i64 (id1 : Nat), .bool true]) 1 = some (.int .i64 (id1 : Nat)) from rfl, Option.bind_some, show extractA (.tup [.ptr s 0, .int .i64 (id1 : Nat), .bool true]) 2 = some (.bool true) from rfl, Option.bind_some, un_not, Option.bind_some, Bool.not_true, ifA_f,
      e9, Option.bind_some, ex0, Option.bind_some, ex1, Option.bind_some, e10, Option.bind_some, ex0, Option.bind_some, ex1, Option.bind_some, e11', Option.bind_some, ex0, Option.bind_some, ex1, Option.bind_some, eq0, Option.bind_some, ifA_t, Option.bind_some, ifA_t, Option.bind_some, ifA_t, p13, Option.bind_some, p12, Option.bind_some, ifA_t, p14, Option.bind_some, p12', Option.bind_some, ifA_t, p15, Option.bind_some, e15, Option.bind_some, binA_eql, Option.bind_some, ifA_dec, if_pos rfl, pc13, Option.bind_some]
    exact ⟨_, rfl⟩
  · rw [if_pos he, pc13, Option.bind_some]
    exact ⟨_, rfl⟩
end Go.Ab

/- The deferred closures of the diagram seat: where nothing has panicked they do nothing. -/
set_option linter.unusedVariables false
set_option linter.unusedSimpArgs false
set_option linter.unusedSectionVars false
namespace Go.Ab
open Go.Proofs Go.RowKit

theorem idle72 (caps : Array Value) (w : World) : CallsD Tryd.prog 46 caps .returning w fun e u w' => (∃ v, e = .returned v) ∧ u = .returning ∧ w' = w := by
  refine callsD_of_wpS Tryd.func46 rfl fun c₀ cs hu => ?_
  have hs : 45 ≤ (caps ++ Array.replicate (Tryd.f46.ntmps - caps.size) undef).size := by
    rw [Tryd.ntmps46, Array.size_append, Array.size_replicate]; omega
  generalize caps ++ Array.replicate (Tryd.f46.ntmps - caps.size) undef = T at hs
  apply wpS_seq
  apply wpS_region
  simp [wpOpsS, go_sem, recoverD, hu, Exit.thenS, Act.put, Act.eval, show 9 < T.size by omega, show 4 < T.size by omega]
  apply wpS_seq
  apply wpS_seq
  apply wpS_region
  simp [wpOpsS, go_sem, recoverD, hu, Exit.thenS, Act.put, Act.eval, show 9 < T.size by omega, show 4 < T.size by omega, show 10 < T.size by omega, show 11 < T.size by omega]
  refine wpS_cond (t := true) (by simp [Act.eval, show 11 < T.size by omega]) ?_
  simp only [if_true]
  refine wpS_of_wp (wp_ret ?_)
  cases c₀
  simp_all [bodyPostS, results, Tryd.results46, Exit.thenS]
theorem benD_of {g : Nat} {fn : Func} (hfn : Tryd.prog.funcs[g]? = some fn) (hname : (fn.name == "runtime.NumGoroutine") = false) (hbody : fn.body.isSome) (caps : Array Value)
    (h : ∀ w, CallsD Tryd.prog g caps .returning w fun e u w' => (∃ v, e = .returned v) ∧ u = .returning ∧ w' = w) : BenD Tryd.prog { target := .fn (.func g) caps, args := #[] } := by
  refine ⟨.func g, caps, g, caps, rfl, fun w => ⟨?_, h w⟩⟩
  have hb : fn.body.isNone = false := by cases hb : fn.body <;> simp_all
  simp only [invoke, callFunc, hfn, hname, hb, Sem.run_bind, Sem.run_pure, run_program, Result.andThen_ok, Bool.false_eq_true, if_false, Array.empty_append]
theorem ben72 (caps : Array Value) : BenD Tryd.prog { target := .fn (.func 46) caps, args := #[] } := benD_of Tryd.func46 (by kernel_rfl) (by kernel_rfl) caps (idle72 caps)
end Go.Ab

/- Data that can be read, as values of the interpreter: any type of whole numbers, truth values, texts, rows of these, and flat structs. -/
set_option linter.unusedVariables false
set_option linter.unusedSimpArgs false
set_option maxRecDepth 100000
set_option linter.unusedSectionVars false
namespace Go.Ab
open Go.RowKit

def gN : G := ⟨fun _ _ => False, fun _ => False, fun _ => none, fun _ _ => none⟩
def atomT (P : Program) (t : Nat) : Bool := match P.underlying t with
  | some (.int _) | some .bool | some .string | some (.slice _) => true
  | _ => false
def shE (P : Program) (t : Nat) : Sh := match P.underlying t with
  | some (.struct fs) => some fs.size
  | _ => none
/-- What stands in a variable of a type, by depth. -/
def Reads (P : Program) : Nat → Nat → AV → Prop
  | 0, _, _ => False
  | n + 1, t, v => match P.underlying t with
    | some (.int k) => ∃ i, v = .int k i ∧ (Lit.int k i).wf = true
    | some .bool => ∃ b, v = .bool b
    | some .string => ∃ s, v = .str s ∧ s.size ≤ maxLen
    | some (.slice e) => ∃ z es, v = .lst (shE P e) z .no es ∧ (z = true → es = []) ∧ ∀ x ∈ es, Reads P n e x
    | some (.struct fs) => ∃ cs, v = .agg cs ∧ cs.length = fs.size ∧ ∀ i f, fs[i]? = some f → Reads P n f.type (cs.getD i .any)
    | _ => False
def fieldsOk (P : Program) (ok : Nat → Bool) : Nat → List Field → Bool
  | _, [] => true
  | i, f :: l => f.offset == i && P.cellsOf f.type == 1 && atomT P f.type && ok f.type && fieldsOk P ok (i + 1) l
def tyOk (P : Program) : Nat → Nat → Bool
  | 0, _ => false
  | n + 1, t => match P.underlying t with
    | some (.int _) | some .bool | some .string => P.cellsOf t == 1
    | some (.slice e) => P.cellsOf t == 1 && tyOk P n e
    | some (.struct fs) => P.cellsOf t == fs.size && decide (0 < fs.size) && fieldsOk P (tyOk P n) 0 fs.toList
    | _ => false
theorem fieldsOk_get {P : Program} {ok : Nat → Bool} : ∀ {l : List Field} {i0 : Nat}, fieldsOk P ok i0 l = true → ∀ i f, l[i]? = some f → f.offset = i0 + i ∧ P.cellsOf f.type = 1 ∧ atomT P f.type = true ∧ ok f.type = true
  | [], i0, h, i, f, hf => by simp at hf
  | g :: l, i0, h, i, f, hf => by
    simp only [fieldsOk, Bool.and_eq_true, beq_iff_eq] at h
    obtain ⟨⟨⟨⟨h1, h2⟩, h3⟩, h4⟩, h5⟩ := h
    cases i with
    | zero =>
      simp at hf; subst hf
      exact ⟨h1, h2, h3, h4⟩
    | succ i =>
      simp at hf
      obtain ⟨a, b⟩ := fieldsOk_get h5 i f hf
      exact ⟨by omega, b⟩
theorem flatS {s : Nat} (hs : 0 < s) : ∀ {es : List AV}, (∀ e ∈ es, e.cells.length = s) → (flat es).length = es.length * s ∧ ∀ j, j < es.length * s → (flat es).getD j .any = (es.getD (j / s) .any).cells.getD (j % s) .any
  | [], h => ⟨by simp [flat], fun j hj => by simp at hj⟩
  | e :: es, h => by
    have h0 := h e List.mem_cons_self
    obtain ⟨h1, h2⟩ := flatS hs (fun x hx => h x (List.mem_cons_of_mem _ hx))
    have e1 : flat (e :: es) = e.cells ++ flat es := rfl
    have e2 : (e :: es).length * s = es.length * s + s := by rw [List.length_cons, Nat.add_mul, Nat.one_mul]
    refine ⟨by rw [e1, List.length_append, h0, h1, e2]; omega, fun j hj => ?_⟩
    rw [e1, List.getD_eq_getElem?_getD]
    by_cases hj2 : j < s
    · rw [List.getElem?_append_left (by omega), Nat.div_eq_of_lt hj2, Nat.mod_eq_of_lt hj2]
      show _ = e.cells.getD j .any
      rw [List.getD_eq_getElem?_getD]
    · rw [List.getElem?_append_right (by omega), h0, ← List.getD_eq_getElem?_getD, h2 (j - s) (by omega)]
      have e3 : j / s = (j - s) / s + 1 := by
        have := Nat.div_eq_sub_div hs (by omega : s ≤ j)
        omega
      have e4 : j % s = (j - s) % s := Nat.mod_eq_sub_mod (by omega)
      rw [e3, e4, List.getD_cons_succ]
theorem reads_ok {P : Program} : ∀ (n t : Nat) (v : AV), tyOk P n t = true → Reads P n t v → shOk (shE P t) v = true ∧ pl v = true ∧ v.cells.length = P.cellsOf t ∧ 0 < P.cellsOf t ∧ (shE P t).size = P.cellsOf t ∧ (atomT P t = true → atomOk v = true)
  | 0, t, v, ht, _ => by simp [tyOk] at ht
  | n + 1, t, v, ht, h => by
    unfold Reads at h
    unfold tyOk at ht
    unfold shE atomT
    cases hu : P.underlying t with
    | none => rw [hu] at h; exact h.elim
    | some ty =>
      rw [hu] at h ht
      cases ty with
      | int k =>
        obtain ⟨i, rfl, _⟩ := h
        have hc : P.cellsOf t = 1 := by simpa using ht
        exact ⟨rfl, rfl, hc.symm, by omega, hc.symm, fun _ => rfl⟩
      | bool =>
        obtain ⟨i, rfl⟩ := h
        have hc : P.cellsOf t = 1 := by simpa using ht
        exact ⟨rfl, rfl, hc.symm, by omega, hc.symm, fun _ => rfl⟩
      | string =>
        obtain ⟨i, rfl, _⟩ := h
        have hc : P.cellsOf t = 1 := by simpa using ht
        exact ⟨rfl, rfl, hc.symm, by omega, hc.symm, fun _ => rfl⟩
      | slice e =>
        obtain ⟨z, es, rfl, _⟩ := h
        have hc : P.cellsOf t = 1 := by
          simp only [Bool.and_eq_true, beq_iff_eq] at ht
          exact ht.1
        exact ⟨rfl, rfl, hc.symm, by omega, hc.symm, fun _ => rfl⟩
      | struct fs =>
        obtain ⟨cs, rfl, hl, hf⟩ := h
        simp only [Bool.and_eq_true, beq_iff_eq, decide_eq_true_eq] at ht
        obtain ⟨⟨h1, h2⟩, h3⟩ := ht
        have hall : ∀ c ∈ cs, atomOk c = true ∧ pl c = true := by
          intro c hc
          obtain ⟨i, hi, rfl⟩ := List.mem_iff_getElem.1 hc
          have hfi : fs[i]? = some (fs[i]'(by omega)) := Array.getElem?_eq_getElem (by omega)
          obtain ⟨_, b, c2, d⟩ := fieldsOk_get h3 i _ (by rw [Array.getElem?_toList]; exact hfi)
          have r := hf i _ hfi
          rw [List.getD_eq_getElem?_getD, List.getElem?_eq_getElem hi] at r
          have := reads_ok n _ _ d r
          exact ⟨this.2.2.2.2.2 c2, this.2.1⟩
        have hpl : ∀ l : List AV, (∀ c ∈ l, pl c = true) → plL l = true := by
          intro l
          induction l with
          | nil => intro _; rfl
          | cons a l ih =>
            intro h
            show (pl a && plL l) = true
            rw [h a List.mem_cons_self, ih (fun c hc => h c (List.mem_cons_of_mem _ hc))]; rfl
        refine ⟨?_, hpl cs (fun c hc => (hall c hc).2), by show cs.length = _; omega, by omega, h1.symm, fun h => by cases h⟩
        show (cs.length == fs.size && cs.all atomOk) = true
        rw [Bool.and_eq_true]
        exact ⟨by simp [hl], List.all_eq_true.2 fun c hc => (hall c hc).1⟩
      | _ => exact h.elim
section
variable {P : Program} {H : Type} {enc : TypeId × Value → H} {W : World}
theorem rd_cells {w : World} {a : Addr} {n : Nat} {cs : List Value} (h : w.cells? 0 a n = some cs) : cs.length = n ∧ ∀ j, j < n → w.cell? (a.add j) = cs[j]? := by
  unfold World.cells? at h
  rw [if_pos (Nat.zero_le _)] at h
  refine ⟨by simpa using mapM_some_length h, fun j hj => mapM_some_get h j j (by simp [hj])⟩
theorem rd_add {a : Addr} (h : a.spot = none) (j : Nat) : a.add j = ⟨a.block, a.off + j, none⟩ := by
  obtain ⟨b, o, s⟩ := a
  subst h
  exact Addr_add b o j
/-- Whatever can be read is a value of the interpreter. -/
theorem reads : ∀ (n t : Nat), tyOk P n t = true → ∀ {fuel : Nat} {cs : List Value} {x : DataW H × List MemPlace}, DataW.trod enc P W 0 (fun _ => true) true fuel t cs = some x → ∃ v : AV, Reads P n t v ∧ cs.length = P.cellsOf t ∧ ∀ j, j < P.cellsOf t → V W gN (v.cells.getD j .any) (cs.getD j undef)
  | 0, t, ht, _, _, _, _ => by simp [tyOk] at ht
  | n + 1, t, ht, fuel, cs, x, h => by
    have ht0 := ht
    unfold tyOk at ht
    unfold Reads
    cases hu : P.underlying t with
    | none => rw [hu] at ht; cases ht
    | some ty =>
      rw [hu] at ht
      cases ty with
      | int k =>
        have hc : P.cellsOf t = 1 := by simpa using ht
        obtain ⟨i, rfl, _, hw⟩ := DataW.trod_int hu h
        refine ⟨.int k i, ⟨i, rfl, hw⟩, hc.symm, fun j hj => ?_⟩
        obtain rfl : j = 0 := by omega
        exact .int _ _
      | bool =>
        have hc : P.cellsOf t = 1 := by simpa using ht
        obtain ⟨i, rfl, _⟩ := DataW.trod_bool hu h
        refine ⟨.bool i, ⟨i, rfl⟩, hc.symm, fun j hj => ?_⟩
        obtain rfl : j = 0 := by omega
        exact .bool _
      | string =>
        have hc : P.cellsOf t = 1 := by simpa using ht
        obtain ⟨i, rfl, _, hw⟩ := DataW.trod_string hu h
        refine ⟨.str i, ⟨i, rfl, hw⟩, hc.symm, fun j hj => ?_⟩
        obtain rfl : j = 0 := by omega
        exact .str _
      | slice e =>
        simp only [Bool.and_eq_true, beq_iff_eq] at ht
        obtain ⟨hc, hte⟩ := ht
        rcases DataW.trod_slice hu h with ⟨rfl, _⟩ | ⟨a, len, cap, elems, rest, m, _, rfl, _, _, hl, hm, he, hel, hre, _⟩
        · refine ⟨.lst (shE P e) true .no [], ⟨true, [], rfl, fun _ => rfl, fun x hx => by cases hx⟩, hc.symm, fun j hj => ?_⟩
          obtain rfl : j = 0 := by omega
          exact .nils _ .no (.inr rfl)
        · obtain ⟨hrl, hre⟩ := hre rfl
          have raw : ∀ i, i < cap → ∃ y, (W.cells? 0 (a.add (i * P.cellsOf e)) (P.cellsOf e)).bind (DataW.trod enc P W 0 (fun _ => true) true m e) = some y := by
            intro i hi
            by_cases hi2 : i < len
            · have h1 := hel i hi2
              rw [List.getElem?_eq_getElem (by omega)] at h1
              exact ⟨_, h1⟩
            · have h1 := hre (i - len) (by omega)
              rw [List.getElem?_eq_getElem (by omega), show len + (i - len) = i by omega] at h1
              exact ⟨_, h1⟩
          have at1 : ∀ i, i < cap → (i = 0 ∨ a.spot = none) → a.spot = none ∧ ∃ v : AV, Reads P n e v ∧ ∀ j, j < P.cellsOf e → ∃ u, W.cell? ⟨a.block, a.off + (i * P.cellsOf e + j), none⟩ = some u ∧ V W gN (v.cells.getD j .any) u := by
            intro i hi hs0
            obtain ⟨y, hy⟩ := raw i hi
            obtain ⟨cs, h1, h2⟩ := Option.bind_eq_some_iff.1 hy
            obtain ⟨v, hv, hlen, hV⟩ := reads n e hte h2
            have hpos := (reads_ok n e v hte hv).2.2.2.1
            have h3 := (rd_cells h1).2
            have hs : a.spot = none := by
              rcases hs0 with rfl | hs0
              · rw [Nat.zero_mul] at h3
                have h4 := h3 0 hpos
                rw [List.getElem?_eq_getElem (by omega)] at h4
                exact World.cell?_spot h4
              · exact hs0
            refine ⟨hs, v, hv, fun j hj => ?_⟩
            have h4 := h3 j hj
            rw [rd_add hs, Addr_add, Nat.add_assoc, List.getElem?_eq_getElem (by omega)] at h4
            refine ⟨_, h4, ?_⟩
            have := hV j hj
            rwa [List.getD_eq_getElem?_getD (l := cs), List.getElem?_eq_getElem (by omega)] at this
          have hsp : cap = 0 ∨ a.spot = none := by
            by_cases h0 : cap = 0
            · exact .inl h0
            · exact .inr (at1 0 (by omega) (.inl rfl)).1
          have cell : ∀ i, ∃ v : AV, i < cap → Reads P n e v ∧ ∀ j, j < P.cellsOf e → ∃ u, W.cell? ⟨a.block, a.off + (i * P.cellsOf e + j), none⟩ = some u ∧ V W gN (v.cells.getD j .any) u := by
            intro i
            by_cases hi : i < cap
            · obtain ⟨v, hv⟩ := (at1 i hi (.inr (hsp.resolve_left (by omega)))).2
              exact ⟨v, fun _ => hv⟩
            · exact ⟨.any, fun h => absurd h hi⟩
          obtain ⟨f, hf⟩ := Classical.axiomOfChoice cell
          have hlen : ((List.range len).map f).length = len := by simp
          have hmem : ∀ v ∈ (List.range len).map f, Reads P n e v := by
            intro v hv
            obtain ⟨i, hi, rfl⟩ := List.mem_map.1 hv
            exact (hf i (by have := List.mem_range.1 hi; omega)).1
          have hok := fun v hv => reads_ok n e v hte (hmem v hv)
          by_cases hl0 : len = 0
          · subst hl0
            refine ⟨.lst (shE P e) false .no [], ⟨false, [], rfl, (fun h => by cases h), fun x hx => by cases hx⟩, hc.symm, fun j hj => ?_⟩
            obtain rfl : j = 0 := by omega
            exact V.lst (w := W) (g := gN) (shE P e) .no [] a cap (fun _ => undef) hsp (Nat.zero_le _) hm (fun e he => by cases he) (fun j hj => by simp [flat] at hj) (fun j hj => by simp [flat] at hj) trivial
          · have hs0 : 0 < P.cellsOf e := (hok (f 0) (List.mem_map.2 ⟨0, List.mem_range.2 (by omega), rfl⟩)).2.2.2.1
            obtain ⟨fl1, fl2⟩ := flatS hs0 (fun v hv => (hok v hv).2.2.1)
            rw [hlen] at fl1 fl2
            have hcl : ∀ j, j < len * P.cellsOf e → ∃ u, W.cell? ⟨a.block, a.off + j, none⟩ = some u ∧ V W gN ((flat ((List.range len).map f)).getD j .any) u := by
              intro j hj
              have hd : j / P.cellsOf e < len := Nat.div_lt_of_lt_mul (by rw [Nat.mul_comm]; exact hj)
              have h1 := (hf (j / P.cellsOf e) (by omega)).2 (j % P.cellsOf e) (Nat.mod_lt _ hs0)
              have e1 : j / P.cellsOf e * P.cellsOf e + j % P.cellsOf e = j := Nat.div_add_mod' j _
              rw [e1] at h1
              rw [fl2 j hj, List.getD_eq_getElem?_getD (l := (List.range len).map f), List.getElem?_map, List.getElem?_range hd]
              exact h1
            have hus : ∀ j, ∃ u, j < len * P.cellsOf e → W.cell? ⟨a.block, a.off + j, none⟩ = some u ∧ V W gN ((flat ((List.range len).map f)).getD j .any) u := by
              intro j
              by_cases hj : j < len * P.cellsOf e
              · obtain ⟨u, hu⟩ := hcl j hj
                exact ⟨u, fun _ => hu⟩
              · exact ⟨undef, fun h => absurd h hj⟩
            obtain ⟨us, hus⟩ := Classical.axiomOfChoice hus
            refine ⟨.lst (shE P e) false .no ((List.range len).map f), ⟨false, _, rfl, (fun h => by cases h), hmem⟩, hc.symm, fun j hj => ?_⟩
            obtain rfl : j = 0 := by omega
            have hV := V.lst (w := W) (g := gN) (shE P e) .no ((List.range len).map f) a cap us hsp (by rw [hlen]; exact hl) hm
              (fun v hv => ⟨(hok v hv).1, (hok v hv).2.1⟩)
              (fun j hj => by
                rw [fl1] at hj
                exact ⟨(hus j hj).1, fun h => h, fun h => h⟩)
              (fun j hj => by
                rw [fl1] at hj
                exact (hus j hj).2) trivial
            rw [hlen] at hV
            exact hV
      | struct fs =>
        simp only [Bool.and_eq_true, beq_iff_eq, decide_eq_true_eq] at ht
        obtain ⟨⟨h1, h2⟩, h3⟩ := ht
        obtain ⟨xs, m, _, _, hcl, hxl, hf⟩ := DataW.trod_struct hu h
        have fld : ∀ i, ∃ v : AV, i < fs.size → ∀ f, fs[i]? = some f → Reads P n f.type v ∧ V W gN v (cs.getD i undef) := by
          intro i
          by_cases hi : i < fs.size
          · have hfi : fs[i]? = some fs[i] := Array.getElem?_eq_getElem hi
            obtain ⟨o, c, a, k⟩ := fieldsOk_get h3 i fs[i] (by rw [Array.getElem?_toList]; exact hfi)
            have hx := hf i fs[i] hfi
            rw [List.getElem?_eq_getElem (by omega)] at hx
            obtain ⟨v, hv, hlen, hV⟩ := reads n _ k hx
            refine ⟨v, fun _ f hf => ?_⟩
            rw [hfi] at hf
            obtain rfl := Option.some.inj hf
            refine ⟨hv, ?_⟩
            have h0 := hV 0 (by omega)
            have hat := (reads_ok n _ v k hv).2.2.2.2.2 a
            have hcells : v.cells = [v] := by
              cases v <;> first | rfl | (simp [atomOk] at hat)
            rw [hcells, o, Nat.zero_add, c] at h0
            have e0 : ((cs.drop i).take 1).getD 0 undef = cs.getD i undef := by
              rw [List.getD_eq_getElem?_getD, List.getD_eq_getElem?_getD, List.getElem?_take_of_lt (by omega), List.getElem?_drop]; rfl
            rw [e0] at h0
            exact h0
          · exact ⟨.any, fun h => absurd h hi⟩
        obtain ⟨F, hF⟩ := Classical.axiomOfChoice fld
        have hg : ∀ i, i < fs.size → ((List.range fs.size).map F).getD i .any = F i := by
          intro i hi
          rw [List.getD_eq_getElem?_getD, List.getElem?_map, List.getElem?_range hi]; rfl
        refine ⟨.agg ((List.range fs.size).map F), ⟨_, rfl, by simp, fun i f hf => ?_⟩, hcl, fun j hj => ?_⟩
        · have hi : i < fs.size := (Array.getElem?_eq_some_iff.1 hf).1
          rw [hg i hi]
          exact (hF i hi f hf).1
        · rw [h1] at hj
          show V W gN (((List.range fs.size).map F).getD j .any) _
          rw [hg j hj]
          exact (hF j hj fs[j] (Array.getElem?_eq_getElem hj)).2
      | _ => cases ht
theorem read_slice {n t e : Nat} (ht : tyOk P n t = true) {v : Value} {d : DataW H} {ps : List MemPlace} (hu : P.underlying t = some (.slice e)) (hv : ∃ a len cap, v = .slice a len cap) (h : DataW.Trod enc P W 0 (fun _ => true) true t v d ps) : ∃ y : AV, V W gN y v ∧ Reads P n t y := by
  obtain ⟨a, len, cap, rfl⟩ := hv
  obtain ⟨fuel, h⟩ := h
  have h : DataW.trod enc P W 0 (fun _ => true) true fuel t [.slice a len cap] = some (d, ps) := h
  obtain ⟨y, hy, hl, hV⟩ := reads n t ht h
  obtain ⟨_, _, h3, _, _, h6⟩ := reads_ok n t y ht hy
  have hat : atomT P t = true := by unfold atomT; rw [hu]
  have hc : y.cells = [y] := by
    have := h6 hat
    cases y <;> first | rfl | (simp [atomOk] at this)
  have := hV 0 (by rw [← hl]; exact Nat.zero_lt_one)
  rw [hc] at this
  exact ⟨y, this, hy⟩
end
end Go.Ab

/- What the rows of the diagram seat share: the settings are sound; the table of powers; arguments read as data. -/
set_option linter.unusedVariables false
set_option linter.unusedSimpArgs false
set_option maxRecDepth 100000
namespace Go.Ab
open Go.Proofs Go.Proofs.Tryd Go.RowKit

theorem get_nil (nm : Nat) : Mem.get ([] : Mem) nm = none := by simp [Mem.get]
theorem memR0 {w : World} (h : Yd.tab w) : MemR w.heap.size w gN [] where
  obj nm bx cs h := by rw [get_nil] at h; cases h
  tok nm n sz h := by rw [get_nil] at h; cases h
  resv nm h := ⟨rfl, fun _ => rfl⟩
  fresh nm h := ⟨rfl, fun _ => rfl⟩
  inj nm nm' b h := by unfold blk at h; rw [get_nil] at h; cases h
  wrLt b off h := h.elim
  inv w' k := Yd.tab_below (Yd.tab_lt h) h k
  boxLt b h := h.elim
  mp nm kk es h := by rw [get_nil] at h; cases h
theorem cfgOk : CfgOk cfg where
  ben g h caps := by
    have h : tokGet benOf g = true := h
    unfold benOf at h
    simp only [tokGet] at h
    split at h
    · rename_i e; obtain rfl : 46 = g := Nat.eq_of_beq_eq_true e; exact ben72 caps
    · cases h
  name g fn h := by
    have hall : (Tryd.prog.funcs.toList.all fun fn => !(fn.name == "runtime.NumGoroutine")) = true := by kernel_rfl
    have hm : fn ∈ Tryd.prog.funcs.toList := by
      rw [Array.mem_toList_iff]
      exact Array.mem_of_getElem? h
    have := List.all_eq_true.1 hall fn hm
    simpa using this
  lib g h hh := by
    have hh : (match Nat.beq g 47 with | true => some nameA | false => none) = some h := hh
    split at hh
    · rename_i e
      obtain rfl : g = 47 := Nat.eq_of_beq_eq_true e
      obtain rfl := Option.some.inj hh
      exact ⟨⟨f47, at47, by kernel_rfl⟩, fun vs v hv m => name_ok vs v hv m⟩
    · cases hh
  libm g h hh := by
    have hh : (match Nat.beq g 38 with | true => some sortA | false => match Nat.beq g 39 with | true => some compactA | false => none) = some h := hh
    split at hh
    · rename_i e
      obtain rfl : g = 38 := Nat.eq_of_beq_eq_true e
      obtain rfl := Option.some.inj hh
      exact ⟨⟨f38, at38, by kernel_rfl⟩, fun vs m v m' hv => sort_ok (fun blk cap zs w hH hb hs => Tryd.slices_Sort_int blk 0 cap zs w hH hb hs) (fun p cap w => Tryd.slices_Sort_int_none p cap w) vs m v m' hv⟩
    · split at hh
      · rename_i e
        obtain rfl : g = 39 := Nat.eq_of_beq_eq_true e
        obtain rfl := Option.some.inj hh
        exact ⟨⟨f39, (show Tryd.prog.funcs[39]? = some f39 by kernel_rfl), by kernel_rfl⟩, fun vs m v m' hv => compact_ok (fun blk cap zs w hH hs hc => Tryd.slices_Compact_int blk 0 cap zs w hH hs hc) (fun p cap w => Tryd.slices_Compact_int_empty p cap w) compact_len vs m v m' hv⟩
      · cases hh
/-- A law that answers true in values answers true on the machine, and turns nothing that was there. -/
theorem law_calls {f : Nat} {args : List AV} {vs : Array Value} {W : World} (ht : Yd.tab W) (h : ∃ m', AC cfg f args [] = some (.bool true, m')) (hl : args.length = vs.size) (hv : ∀ j, j < args.length → V W gN (args.getD j .any) (vs.getD j undef)) :
    Calls Tryd.prog f vs W fun e W' => e = .returned (.bool true) ∧ Below W.heap.size W W' := by
  obtain ⟨m', hm'⟩ := h
  refine ((AC_sound cfgOk f args [] _ _ hm').1 W.heap.size W gN vs (memR0 ht) (Nat.le_refl _) hl hv).mono ?_
  rintro e W' ⟨v', g', rfl, hs, _, hv'⟩
  cases hv'
  exact ⟨rfl, hs.below⟩
/-! ### The table of powers -/
abbrev laidOf : List (String × DataW Unit) := YtiipgpkgcdhbfaaDoor.Rows.diagramSupportsRow.laid
theorem tab_of_laid {W : World} (h : laidMetH Tryd.prog laidOf W) : Yd.tab W := by
  rw [MakeChecks.laidMetH_plain _ _ _ (by kernel_rfl)] at h
  obtain ⟨ps, ⟨g1, t1, cs1, fuel1, p1, q1, _, _, _, _, ⟨g2, t2, cs2, fuel2, p2, q2, _, _, _, _, ⟨g, t, cs, fuel, p, q, hg, ht, hv, hd, _, _⟩, _⟩, _⟩, _⟩ := h
  obtain rfl := Option.some.inj (Yd.globalPow.symm.trans hg)
  obtain rfl := Option.some.inj ((show (Tryd.prog.globals[0]?).map (·.type) = some 124 by kernel_rfl).symm.trans ht)
  unfold Yd.tab Lib.TabIs
  rw [hv]
  have := Lib.cells_of_tab (zs := Lib.pow10Tab) (k := .u64) Tryd.underlying124 Tryd.underlying105 (by kernel_rfl) (by kernel_rfl) hd
  rw [← this]
/-! ### Types, readers -/
theorem u3 : Tryd.prog.underlying 3 = some (.int .i64) := by kernel_rfl
theorem u4 : Tryd.prog.underlying 4 = some .bool := by kernel_rfl
theorem u22 : Tryd.prog.underlying 22 = some (.slice 3) := by kernel_rfl
noncomputable def fieldsOf (t : Nat) : Array Field := match Tryd.prog.underlying t with
  | some (.struct fs) => fs
  | _ => #[]
theorem s3 : shE Tryd.prog 3 = none := by unfold shE; rw [u3]
theorem sz {t : Nat} {l : List Nat} (h : (fieldsOf t).toList.map (fun f => f.type) = l) : (fieldsOf t).size = l.length := by
  rw [← h, List.length_map, Array.length_toList]
theorem rd_slice {n t e : Nat} {v : AV} (ht : Tryd.prog.underlying t = some (.slice e)) (h : Reads Tryd.prog (n + 1) t v) : ∃ z es, v = .lst (shE Tryd.prog e) z .no es ∧ (z = true → es = []) ∧ ∀ x ∈ es, Reads Tryd.prog n e x := by
  unfold Reads at h
  rw [ht] at h
  exact h
theorem rd_int {n : Nat} {v : AV} (h : Reads Tryd.prog (n + 1) 3 v) : ∃ i, v = .int .i64 i ∧ Yd.i64 i := by
  unfold Reads at h
  rw [u3] at h
  obtain ⟨i, h1, hw⟩ := h
  refine ⟨i, h1, ?_⟩
  simp only [Lit.wf, Bool.and_eq_true, decide_eq_true_eq] at hw
  exact hw
theorem list_map' {α : Type} {f : α → AV} {Q : α → Prop} : ∀ {es : List AV}, (∀ x ∈ es, ∃ a, x = f a ∧ Q a) → ∃ l : List α, es = l.map f ∧ ∀ a ∈ l, Q a
  | [], _ => ⟨[], rfl, by simp⟩
  | x :: es, h => by
    obtain ⟨a, rfl, ha⟩ := h x List.mem_cons_self
    obtain ⟨l, rfl, hl⟩ := list_map' (f := f) (Q := Q) fun y hy => h y (List.mem_cons_of_mem _ hy)
    exact ⟨a :: l, rfl, fun b hb => by
      rcases List.mem_cons.1 hb with rfl | hb
      · exact ha
      · exact hl b hb⟩
theorem rd_ints {n : Nat} {v : AV} (h : Reads Tryd.prog (n + 2) 22 v) : ∃ z ns, v = IA z .no ns ∧ (z = true → ns = []) ∧ ∀ k ∈ ns, Yd.i64 k := by
  obtain ⟨z, es, rfl, hz, he⟩ := rd_slice u22 h
  obtain ⟨ns, rfl, hd⟩ := list_map' (f := AV.int .i64) (Q := Yd.i64) (fun x hx => rd_int (he x hx))
  exact ⟨z, ns, by rw [s3], fun h => List.map_eq_nil_iff.1 (hz h), hd⟩
theorem ok22 : tyOk Tryd.prog 2 22 = true := by kernel_rfl
section
variable {H : Type} {enc : TypeId × Value → H} {W : World}
theorem ints_read {v : Value} {d : DataW H} {ps : List MemPlace} (hv : ∃ a len cap, v = .slice a len cap) (h : DataW.Trod enc Tryd.prog W 0 (fun _ => true) true 22 v d ps) : ∃ z ns, V W gN (IA z .no ns) v ∧ (z = true → ns = []) ∧ ∀ k ∈ ns, Yd.i64 k := by
  obtain ⟨y, hy, hr⟩ := read_slice ok22 u22 hv h
  obtain ⟨z, ns, rfl, hc⟩ := rd_ints hr
  exact ⟨z, ns, hy, hc⟩
end
end Go.Ab
