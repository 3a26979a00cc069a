/- What the interpreter does, function by function. -/
import Derived.Test.YtpkhogofbdlfeaaDoorFP2
import Derived.Test.YtpkhogofbdlfeaaDoorFP4
import Derived.Test.YtpkhogofbdlfeaaDoorFP3
import Derived.Test.YtpkhogofbdlfeaaDoorFP1
import Derived.Test.YtpkhogofbdlfeaaDoorProg
import Derived.Tactics
import Derived.Tactics2
import Derived.Defers
import Derived.Recover
import Derived.Laws.Pointers
import Derived.Test.YtpkhogofbdlfeaaDoorFP0
import Derived.ProofKit
import Derived.OpenShut
import Derived.ChangeArms
import Derived.LaidMore
import Derived.Lay
import Derived.KernelRfl
import Derived.Test.YtpkhogofbdlfeaaDoorRows
set_option maxRecDepth 100000
set_option linter.unusedVariables false
namespace Go.Ab
open Go.Proofs.Tryd
/-! ### sortilege/sortilegelaw23.DiagramRestricts -/
def O8_14 (m : Mem) : St := ⟨[.any, .any, .any, .any, .any, .any, .any, .any, .any, .any, .any, .any, .any, .any, .any, .any, .any, .any, .any, .any, .any, .any, .any, .any, .any, .any, .any, .any, .any, .any, .any, .any, .any, .any, .any, .any, .any, .any, .any, .any, .any, .any, .any, .any, .any, .any, .any, .any, .any, .any, .any, .any, .any, .any, .any, .any, .any, .any, .any, .any, .any, .any, .any, .any, .any, .any, .any, .any, .any, .any, .any, .any, .any, .any, .any, .any, .any, .any, .any, .any, .any, .any, .any, .any, .any, .any, .any, .any, .any, .any, .any, .any, .any, .any, .any, .any, .any, .any, .any, .any, .any, .any, .any, .any, .any, .any, .any, .any, .any, .any, .any, .any, .any, .any, .any, .any, .any, .any, .any, .any, .any, .any, .any, .any, .any], m⟩
def R8_14 (x8 : AV) (m : Mem) : St := ⟨[.any, .any, .any, .any, .any, .any, .any, .any, x8, .any, .any, .any, .any, .any, .any, .any, .any, .any, .any, .any, .any, .any, .any, .any, .any, .any, .any, .any, .any, .any, .any, .any, .any, .any, .any, .any, .any, .any, .any, .any, .any, .any, .any, .any, .any, .any, .any, .any, .any, .any, .any, .any, .any, .any, .any, .any, .any, .any, .any, .any, .any, .any, .any, .any, .any, .any, .any, .any, .any, .any, .any, .any, .any, .any, .any, .any, .any, .any, .any, .any, .any, .any, .any, .any, .any, .any, .any, .any, .any, .any, .any, .any, .any, .any, .any, .any, .any, .any, .any, .any, .any, .any, .any, .any, .any, .any, .any, .any, .any, .any, .any, .any, .any, .any, .any, .any, .any, .any, .any, .any, .any, .any, .any, .any, .any], m⟩
noncomputable def L8_14 (x0 x2 x9 x10 x11 x87 x88 x89 : AV) (m : Mem) (K : Ex → St → Option (AV × Mem)) : Option (AV × Mem) := loopW (execW cfg 8 (AP cfg) (AC cfg) (c1 (c1 (c2 (c1 (c2 (c2 (c2 (c2 (c2 (c2 (c2 (c2 (c2 (bodyOf f8))))))))))))))) (cfg.mask 8 (some 14)) ⟨[x0, .any, x2, .any, .any, .any, .any, .any, .any, x9, x10, x11, .any, .any, .any, .any, .any, .any, .any, .any, .any, .any, .any, .any, .any, .any, .any, .any, .any, .any, .any, .any, .any, .any, .any, .any, .any, .any, .any, .any, .any, .any, .any, .any, .any, .any, .any, .any, .any, .any, .any, .any, .any, .any, .any, .any, .any, .any, .any, .any, .any, .any, .any, .any, .any, .any, .any, .any, .any, .any, .any, .any, .any, .any, .any, .any, .any, .any, .any, .any, .any, .any, .any, .any, .any, .any, .any, x87, x88, x89, .any, .any, .any, .any, .any, .any, .any, .any, .any, .any, .any, .any, .any, .any, .any, .any, .any, .any, .any, .any, .any, .any, .any, .any, .any, .any, .any, .any, .any, .any, .any, .any, .any, .any, .any], m⟩ K
noncomputable abbrev K8_14_0 (K : Ex → St → Option (AV × Mem)) : Ex → St → Option (AV × Mem) := seqK (fun st => execW cfg 8 (AP cfg) (AC cfg) (c2 (c2 (c2 (c2 (c2 (c2 (c2 (c2 (c2 (c2 (bodyOf f8))))))))))) st K) K
noncomputable abbrev K8_14_1 (K : Ex → St → Option (AV × Mem)) : Ex → St → Option (AV × Mem) := blockK 0 (K8_14_0 K)
noncomputable abbrev K8_14 (K : Ex → St → Option (AV × Mem)) : Ex → St → Option (AV × Mem) := (K8_14_1 K)
theorem T8 (a0 a1 a2 a3 : AV) (m : Mem) : AC cfg 8 [a0, a1, a2, a3] m =
  (pcall (AP cfg) none m 11 [a0]).bind fun r1 =>
  (pcall (AP cfg) none r1.2 12 [r1.1]).bind fun r2 =>
  (binA .other .neq r2.1 (.int .i64 0)).bind fun v3 =>
  ifA v3 (
  (pcall (AP cfg) none r2.2 13 []).bind fun r4 =>
  some (r4.1, r4.2)) (
  (pcall (AP cfg) none r2.2 28 [r1.1, a1]).bind fun r5 =>
  (AC cfg 29 [r1.1, r5.1] r5.2).bind fun r6 =>
  (extractA r6.1 0).bind fun v7 =>
  (extractA r6.1 1).bind fun v8 =>
  (extractA r6.1 2).bind fun v9 =>
  (unA .not v9).bind fun v10 =>
  ifA v10 (
  some ((.bool false), r6.2)) (
  (AC cfg 41 [v7, v8, a2, a3] r6.2).bind fun r11 =>
  (extractA r11.1 0).bind fun v12 =>
  (extractA r11.1 1).bind fun v13 =>
  (binA .other .lss a2 (.int .i64 0)).bind fun v14 =>
  ifA v14 (
  (binA .other .eql v13 (.int .i64 1)).bind fun v15 =>
  ifA v15 (
  (pcall (AP cfg) none r11.2 13 []).bind fun r16 =>
  some (r16.1, r16.2)) (
  some ((.bool false), r11.2))) (
  (lenA false r1.1).bind fun v17 =>
  (binA .other .geq a2 v17).bind fun v18 =>
  ifA v18 (
  (binA .other .eql v13 (.int .i64 1)).bind fun v19 =>
  ifA v19 (
  (pcall (AP cfg) none r11.2 13 []).bind fun r20 =>
  some (r20.1, r20.2)) (
  some ((.bool false), r11.2))) (
  (binA .other .lss a3 (.int .i64 0)).bind fun v21 =>
  ifA v21 (
  (binA .other .eql v13 (.int .i64 1)).bind fun v22 =>
  ifA v22 (
  (pcall (AP cfg) none r11.2 13 []).bind fun r23 =>
  some (r23.1, r23.2)) (
  some ((.bool false), r11.2))) (
  (indexAddrA none r1.1 a2).bind fun v24 =>
  (loadA none r11.2 v24).bind fun v25 =>
  (binA .other .geq a3 v25).bind fun v26 =>
  ifA v26 (
  (binA .other .eql v13 (.int .i64 1)).bind fun v27 =>
  ifA v27 (
  (pcall (AP cfg) none r11.2 13 []).bind fun r28 =>
  some (r28.1, r28.2)) (
  some ((.bool false), r11.2))) (
  (binA .other .neq v13 (.int .i64 0)).bind fun v29 =>
  ifA v29 (
  some ((.bool false), r11.2)) (
  (pcall (AP cfg) none r11.2 42 [r1.1, r5.1, a2, a3]).bind fun r30 =>
  (AC cfg 34 [v7, v12, r1.1, r30.1] r30.2).bind fun r31 =>
  (unA .not r31.1).bind fun v32 =>
  ifA v32 (
  some ((.bool false), r31.2)) (
  (pcall (AP cfg) none r31.2 35 [r1.1]).bind fun r33 =>
  (lenA false r33.1).bind fun v34 =>
  L8_14 r1.1 a2 r5.1 v7 v8 r33.1 v34 (.int .i64 0) r33.2 (K8_14 (finK cfg.P f8.results.toList)))))))))) :=
(AC_eq cfg 8 [a0, a1, a2, a3] m (fn := f8) (c := bodyOf f8) at8 rfl).trans (by kernel_rfl)
theorem L8_14_eq (x0 x2 x9 x10 x11 x87 x88 x89 : AV) (m : Mem) (K : Ex → St → Option (AV × Mem)) : L8_14 x0 x2 x9 x10 x11 x87 x88 x89 m K =
  (binA .other .lss x89 x88).bind fun v1 =>
  ifA v1 (
  (indexAddrA none x87 x89).bind fun v2 =>
  (loadA none m v2).bind fun v3 =>
  (indexAddrA none v3 x2).bind fun v4 =>
  (loadA none m v4).bind fun v5 =>
  (AC cfg 41 [x10, x11, x2, v5] m).bind fun r6 =>
  (extractA r6.1 0).bind fun v7 =>
  (extractA r6.1 1).bind fun v8 =>
  (AC cfg 36 [x10, v7, v3] r6.2).bind fun r9 =>
  (extractA r9.1 0).bind fun v10 =>
  (extractA r9.1 1).bind fun v11 =>
  (binA .other .neq v11 (.int .i64 0)).bind fun v12 =>
  ifA v12 (
  K .ret (R8_14 (.bool false) r9.2)) (
  (pcall (AP cfg) none r9.2 43 [x0, v3]).bind fun r13 =>
  (indexAddrA none x9 r13.1).bind fun v14 =>
  (loadA none r13.2 v14).bind fun v15 =>
  (binA .other .neq v10 v15).bind fun v16 =>
  ifA v16 (
  K .ret (R8_14 (.bool false) r13.2)) (
  (binA .other .add x89 (.int .i64 1)).bind fun v17 =>
  L8_14 x0 x2 x9 x10 x11 x87 x88 v17 r13.2 K))) (
  K (.exit 0) (O8_14 m)) :=
(loopW_eq (execW_lin _) _ _ _).trans (by kernel_rfl)
theorem K8_14_x0 (m : Mem) : K8_14 (finK cfg.P f8.results.toList) (.exit 0) (O8_14  m) =
  (pcall (AP cfg) none m 13 []).bind fun r1 =>
  some (r1.1, r1.2) := by kernel_rfl
end Go.Ab

/- DiagramRestricts: Restrict by value, the law. -/
set_option linter.unusedVariables false
set_option linter.unusedSimpArgs false
set_option linter.unusedSectionVars false
set_option maxRecDepth 100000
namespace Go.Ab
open Go.Proofs Go.Proofs.Tryd

theorem prodF_app : ∀ (a b : List Int), prodF (a ++ b) = prodF a * prodF b
  | [], b => by simp [prodF]
  | x :: a, b => by rw [List.cons_append, prodF, prodF, prodF_app a b, Nat.mul_assoc]
theorem take_getD {ar : List Int} {v w : Nat} (hw : w < v) : (ar.take v).getD w 0 = ar.getD w 0 := by
  rw [List.getD_eq_getElem?_getD, List.getElem?_take, if_pos hw, ← List.getD_eq_getElem?_getD]
section
variable {s pm : Nat} {zs : Bool} {os : Own} {ar : List Int} {v k : Nat}
theorem A69s (h1 : ∀ x ∈ ar, 1 ≤ x ∧ x ≤ 64) (hal : ar.length ≤ 16) (hv : v < ar.length) (hk : (k : Int) < ar.getD v 0) {w : Nat} (ih : ∀ w', w < w' → w < v → At69 s pm zs os ar v k w') : At69 s pm zs os ar v k w := by
  intro m F l E id h g hid hw hE hpg hpF hl hEl
  have h1' : ∀ x ∈ ar, 1 ≤ x := fun x hx => (h1 x hx).1
  have h1t : ∀ x ∈ ar.take v, 1 ≤ x := fun x hx => h1' x (List.take_subset _ _ hx)
  have hP := pos_drop h1t w
  have hub := abv_ub g hid
  obtain ⟨m1, e57a, f1⟩ := A57 h hid
  have h1s := h.app f1
  obtain ⟨m2, e57b, f2⟩ := A57 h1s hid
  rw [← abvD_at hid] at e57a e57b
  have h2 := h1s.app f2
  have f12 : Fr m m2 [] := Fr.trans f1 f2 fun _ hh => by cases hh
  have hpml := get_lt hpg
  have hpg1 : m1.get pm = some (.mp (.int .i64) (qi E)) := (f1.get pm hpml (by simp)).trans hpg
  have hpg2 : m2.get pm = some (.mp (.int .i64) (qi E)) := (f12.get pm hpml (by simp)).trans hpg
  have e0 := T69 (.ptr s 0) (.int .i64 id) (.int .i64 v) (.int .i64 k) (.mref pm) m
  rw [e57a, Option.bind_some, binA_gtr, Option.bind_some, ifA_dec] at e0
  by_cases hgt : abvD ar l id > (v : Int)
  · rw [if_pos hgt] at e0
    refine ⟨m1, F, [], [], id, e0, by rw [List.append_nil]; exact h1s, by rw [List.append_nil]; exact g, by rw [List.append_nil, List.append_nil]; exact hE, by rw [List.append_nil]; exact hpg1, by rw [List.append_nil]; exact .hi id hid (by omega), by simp; omega, by simp; omega, fun _ => rfl, by simp, f1.mono (by simp), Gr.refl _ _⟩
  rw [if_neg hgt, e57b, Option.bind_some, binA_eql, Option.bind_some, ifA_dec] at e0
  have hst := h2
  obtain ⟨p, na, TT, st, hFF⟩ := hst
  have ldn : loadA none m2 (.ptr s (0 + 1)) = some na := by rw [ld_ptr, st.hs]; rfl
  have hnx := na_idx st.hn hid
  have hkA := kids_IA (st.ok _ (List.getElem_mem hid))
  by_cases heq : abvD ar l id = (v : Int)
  · obtain ⟨a1, a2, a3, a4⟩ := abv_var g hid (by omega)
    have hvt : (abvD ar l id).toNat = v := by omega
    rw [hvt] at a3
    have hkl : k < (l.getD id ⟨0, [], 0⟩).kids.length := by omega
    obtain ⟨b1, b2, b3⟩ := kidAt_facts g hid (by omega) hkl
    have hkl' : k < l[id].kids.length := by rw [← getD_at hid]; exact hkl
    have hix : indexAddrA none (kidsA l[id]) (.int .i64 k) = some (.vptr [.int .i64 (kidAt l id k : Nat)]) := by
      rw [hkA, idx_IA hkl', ← b3, ← getD_el hkl', getD_at hid]
    rw [if_pos heq, nil_ptr, Option.bind_some, fa_ptr, Option.bind_some, ldn, Option.bind_some, hnx, Option.bind_some, f1v, Option.bind_some, l2v, Option.bind_some, hix, Option.bind_some, loadA_one, Option.bind_some] at e0
    refine ⟨m2, F, [], [], kidAt l id k, e0, by rw [List.append_nil]; exact h2, by rw [List.append_nil]; exact g, by rw [List.append_nil, List.append_nil]; exact hE, by rw [List.append_nil]; exact hpg2, by rw [List.append_nil]; exact .here id hid heq, by simp; omega, by simp; omega, fun _ => rfl, by simp, f12.mono (by simp), Gr.refl _ _⟩
  have hlt : abvD ar l id < (v : Int) := by omega
  obtain ⟨a1, a2, a3, a4⟩ := abv_var g hid (by omega)
  obtain ⟨w1, hw1⟩ := Int.eq_ofNat_of_zero_le a2
  have hw1' : abvD ar l id = (w1 : Int) := hw1
  have hid4 : id ≤ 1000000 := by omega
  rw [if_neg heq, look_q hpg2 hid4, Option.bind_some] at e0
  cases hf : E.find? fun e => decide (e.1 = id) with
  | some e =>
    rw [hf] at e0
    dsimp only at e0
    rw [ex0, Option.bind_some, ex1, Option.bind_some, ifA_t] at e0
    have hem := List.mem_of_find?_eq_some hf
    have hek : e.1 = id := by have := List.find?_some hf; simpa using this
    have ho := hE e hem
    rw [hek] at ho
    exact ⟨m2, F, [], [], e.2, e0, by rw [List.append_nil]; exact h2, by rw [List.append_nil]; exact g, by rw [List.append_nil, List.append_nil]; exact hE, by rw [List.append_nil]; exact hpg2, by rw [List.append_nil]; exact ho, by simp; omega, by simp; omega, fun _ => rfl, by simp, f12.mono (by simp), Gr.refl _ _⟩
  | none =>
    rw [hf] at e0
    dsimp only at e0
    have hEn : ∀ e ∈ E, e.1 ≠ id := fun e he hh => by
      have := List.find?_eq_none.1 hf e he
      simp [hh] at this
    have hww : w ≤ w1 := by omega
    have hwv : w1 < v := by omega
    have hwt : (abvD ar l id).toNat = w1 := by omega
    rw [hwt] at a3
    have hlenT : (ar.take v).length = v := by rw [List.length_take]; omega
    have hps : prodF ((ar.take v).drop w1) = (l.getD id ⟨0, [], 0⟩).kids.length * prodF ((ar.take v).drop (w1 + 1)) := by
      rw [prod_step (by omega), take_getD hwv, ← a3, Int.toNat_natCast]
    have hpm := prod_mono h1t w (w1 - w)
    rw [show w + (w1 - w) = w1 by omega] at hpm
    have hlA : lenA false (kidsA l[id]) = some (.int .i64 (l.getD id ⟨0, [], 0⟩).kids.length) := by rw [hkA, len_IA, getD_at hid]
    have hkA' : kidsA l[id] = IA (kz l[id]) (ko l[id]) (l.getD id ⟨0, [], 0⟩).kids := by rw [hkA, getD_at hid]
    have hlen2 := f12.len
    obtain ⟨m', F', r, N, c', e, k1, k2, k3, k4, k5, k6, k7, k8, k9, k10, k11⟩ := W69k (z1 := kz l[id]) (o1 := ko l[id]) h1 hal hv hk hwv rfl (fun w' hw' => ih w' (by omega) (by omega)) g hid hw1' rfl (by rw [← hps]; omega) (E0 := E) hEn (by rw [← hps]; omega) (m0 := m2) (F0 := F) hpF (by omega) (l.getD id ⟨0, [], 0⟩).kids.length 0 m2 F [] [] [] (.lst none true .full []) [] (by omega) (by rw [List.append_nil]; exact h2) (by rw [List.append_nil]; exact g) (by rw [List.append_nil, List.append_nil]; exact hE) (by rw [List.append_nil]; exact hpg2) rfl (fun q hq => by simp at hq) (by simp) (by simp) (fun _ => rfl) (by simp) .none (by simp) (Fr.refl _ _) (Gr.refl _ _)
    rw [← hps] at k6 k7
    rw [ex0, Option.bind_some, ex1, Option.bind_some, ifA_f, nil_ptr, Option.bind_some, fa_ptr, Option.bind_some, ldn, Option.bind_some, hnx, Option.bind_some, f1v, Option.bind_some, l2v, Option.bind_some, hlA, Option.bind_some, hkA'] at e0
    refine ⟨m', F', r, N, c', e0.trans e, k1, k2, k3, k4, k5, by omega, by omega, k8, fun e he => by have := k9 e he; omega, Fr.trans (f12.mono (by simp)) k10 fun y hy => .inl hy, fun y hy => ?_⟩
    rcases k11 y hy with h4 | h4
    · exact .inl h4
    · exact .inr (by omega)
theorem A69 (h1 : ∀ x ∈ ar, 1 ≤ x ∧ x ≤ 64) (hal : ar.length ≤ 16) (hv : v < ar.length) (hk : (k : Int) < ar.getD v 0) : ∀ (d w : Nat), v ≤ w + d → At69 s pm zs os ar v k w := by
  intro d
  induction d with
  | zero => intro w hd; exact A69s h1 hal hv hk fun w' _ h => by omega
  | succ d ih => intro w hd; exact A69s h1 hal hv hk fun w' hw' _ => ih w' (by omega)
/-- What Restrict leaves. -/
def Q41 (ar : List Int) (v k : Nat) (l : List ND) (id : Nat) (c : Int) (l' : List ND) : Prop := ∃ (r : List ND) (c0 : Nat), c = c0 ∧ l' = l ++ r ∧ GoodL ar (l ++ r) ∧ Cut ar v k (l ++ r) id c0 ∧ r.length ≤ 2 * prodF (ar.take v) ∧ ((∃ c0, Cut ar v k l id c0) → r = [])
theorem A68 (h1 : ∀ x ∈ ar, 1 ≤ x ∧ x ≤ 64) (hal : ar.length ≤ 16) (hv : v < ar.length) (hk : (k : Int) < ar.getD v 0) {m : Mem} {F : List Nat} {l : List ND} {id : Nat} (h : St8 m s F (IA zs os ar) 4000 l) (g : GoodL ar l) (hid : id < l.length) (hp : prodF (ar.take v) ≤ 300) (hl : l.length + 2 * prodF (ar.take v) ≤ 4000)
    {b1 b2 b3 b4 : Nat} (g1 : m.get b1 = some (.obj true [.ptr s 0])) (g2 : m.get b2 = some (.obj true [.int .i64 id])) (g3 : m.get b3 = some (.obj true [.int .i64 v])) (g4 : m.get b4 = some (.obj true [.int .i64 k])) :
    ∃ m' F' c l', AC cfg 68 [.ptr b1 0, .ptr b2 0, .ptr b3 0, .ptr b4 0] m = some (.int .i64 c, m') ∧ Q41 ar v k l id c l' ∧ St8 m' s F' (IA zs os ar) 4000 l' ∧ Fr m m' F ∧ Gr m F F' := by
  have hub := abv_ub g hid
  have f1 := Fr.app m (some (Ent.mp (.int .i64) [])) []
  obtain ⟨m', F', r, N, c, e, k1, k2, _, _, k5, k6, _, k8, _, k10, k11⟩ := A69 (s := s) (pm := m.length) (zs := zs) (os := os) h1 hal hv hk v 0 (by omega) (m ++ [some (Ent.mp (.int .i64) [])]) F l [] id (h.app f1) g hid (by omega) (by simp) (by simp (disch := (first | assumption | omega | (simp only [List.length_append, List.length_set, List.length_cons, List.length_nil]; first | done | omega))) only [resv1, g_lt, g_eq, g_sne, g_seq]; first | done | rfl) (fun hh => by have := h.lt _ hh; omega) (by rw [List.drop_zero]; exact hl) (by rw [List.drop_zero]; simp only [List.length_nil]; omega)
  rw [List.drop_zero] at k6
  refine ⟨m', F', c, l ++ r, ?_, ⟨r, c, rfl, rfl, k2, k5, by omega, k8⟩, k1, Fr.trans (f1.mono (by simp)) k10 fun y hy => ?_, fun y hy => ?_⟩
  · have e : AC cfg 69 [.ptr s 0, .int .i64 id, .int .i64 v, .int .i64 k, .mref (newAt none m .resv).1] (newAt none m (.mp (.int .i64) [])).2 = _ := e
    rw [T68, ld_box g1, Option.bind_some, ld_box g2, Option.bind_some, ld_box g3, Option.bind_some, ld_box g4, Option.bind_some, e, Option.bind_some]
  · rcases List.mem_cons.1 hy with rfl | hy
    · exact .inr (Nat.le_refl _)
    · exact .inl hy
  · rcases k11 y hy with h4 | h4
    · exact .inl h4
    · simp at h4; exact .inr (by omega)
theorem A41v (h1 : ∀ x ∈ ar, 1 ≤ x ∧ x ≤ 64) (hal : ar.length ≤ 16) (hv : v < ar.length) (hk : (k : Int) < ar.getD v 0) {m : Mem} {F : List Nat} {l : List ND} {id : Nat} (h : St8 m s F (IA zs os ar) 4000 l) (g : GoodL ar l) (hid : id < l.length) (hp : prodF (ar.take v) ≤ 300) (hl : l.length + 2 * prodF (ar.take v) ≤ 4000) :
    ∃ m' F' c l', AC cfg 41 [.ptr s 0, .int .i64 id, .int .i64 v, .int .i64 k] m = some (.tup [.int .i64 c, .int .i64 0], m') ∧ Q41 ar v k l id c l' ∧ St8 m' s F' (IA zs os ar) 4000 l' ∧ Fr m m' F ∧ Gr m F F' := by
  have f4 : Fr m ((((m ++ [some (Ent.obj true [.ptr s 0])]) ++ [some (Ent.obj true [.int .i64 id])]) ++ [some (Ent.obj true [.int .i64 v])]) ++ [some (Ent.obj true [.int .i64 k])]) [] := (((Fr.app m _ _).snoc _).snoc _).snoc _
  have h4 := h.app f4
  have e50 := A50 h4 (by omega)
  have e56 := A56 h4 id
  rw [decide_eq_true (by omega)] at e56
  obtain ⟨m', F', c, l', e52, hQ, k1, k2, k3⟩ := A52x (g := 68) (caps := [.ptr m.length 0, .ptr (m.length + 1) 0, .ptr (m.length + 1 + 1) 0, .ptr (m.length + 1 + 1 + 1) 0]) (Q := Q41 ar v k l id) h4 rfl rfl rfl
    (fun m1 fr => A68 h1 hal hv hk (h4.app fr) g hid hp hl (by rw [fr.get _ (by simp <;> omega) (by simp)]; exact (by simp (disch := (first | assumption | omega | (simp only [List.length_append, List.length_set, List.length_cons, List.length_nil]; first | done | omega))) only [resv1, g_lt, g_eq, g_sne, g_seq]; first | done | rfl)) (by rw [fr.get _ (by simp) (by simp)]; exact (by simp (disch := (first | assumption | omega | (simp only [List.length_append, List.length_set, List.length_cons, List.length_nil]; first | done | omega))) only [resv1, g_lt, g_eq, g_sne, g_seq]; first | done | rfl)) (by rw [fr.get _ (by simp) (by simp)]; exact (by simp (disch := (first | assumption | omega | (simp only [List.length_append, List.length_set, List.length_cons, List.length_nil]; first | done | omega))) only [resv1, g_lt, g_eq, g_sne, g_seq]; first | done | rfl)) (by rw [fr.get _ (by simp) (by simp)]; exact (by simp (disch := (first | assumption | omega | (simp only [List.length_append, List.length_set, List.length_cons, List.length_nil]; first | done | omega))) only [resv1, g_lt, g_eq, g_sne, g_seq]; first | done | rfl)))
  refine ⟨m', F', c, l', ?_, hQ, k1, Fr.trans (f4.mono (by simp)) k2 fun y hy => .inl hy, Gr.trans f4.len (Gr.refl _ _) k3⟩
  have hst := h4
  obtain ⟨p, na, TT, st, hFF⟩ := hst
  have lda := fun (mm : Mem) (hh : mm.get s = some (Ent.obj true [IA zs os ar, na, .mref p, .int .i64 4000])) => (show loadA none mm (.ptr s (0 + 0)) = some (IA zs os ar) by rw [ld_ptr, hh]; rfl)
  have lds := lda _ st.hs
  have hiv : indexAddrA none (IA zs os ar) (.int .i64 v) = some (.vptr [.int .i64 ar[v]]) := idx_IA hv
  rw [getD_el hv] at hk
  rw [T41]
  repeat ((with_reducible (first | apply bs | apply bsy)); (focus (first | (simp (disch := (first | assumption | omega | (simp only [List.length_append, List.length_set, List.length_cons, List.length_nil]; first | done | omega))) only [List.all_cons, List.all_nil, Bool.and_true, Bool.and_self, beq_self_eq_true, resv1, List.length_map, ld_v3, ld_v1, binA_eql, binA_neq, binA_lss, binA_leq, binA_gtr, binA_geq, loadA_one, un_not, ld_ptr, st_ptr, putE1, objE_obj, Option.bind_some, cut1, cut3, cut4, nil_ptr, fa_ptr, g_lt, g_eq, g_sne, g_seq, new_n, box_n, List.getElem?_cons_zero, List.getElem?_cons_succ, ex0, ex1, Sh.size, cells_int, aok_int, cells_bool, aok_bool, cells_str, aok_str, cells_lst, aok_lst, cells_ptr, aok_ptr, cells_arr, aok_arr, cells_fn, aok_fn, cells_mref, aok_mref, cells_nilp, aok_nilp, cells_agg, shOk_n, shOk_s, lenA_lst, List.length_cons, List.length_nil, if_true, putAt, List.take_succ_cons, List.take_zero, List.drop_succ_cons, List.drop_zero, List.cons_append, List.nil_append, List.append_nil, Nat.zero_add, Nat.reduceAdd, Nat.reduceLeDiff, Nat.le_refl, List.drop_nil, List.take_nil, List.length_append, List.length_set, box_p, box_i, e50]; first | done | rfl) | rfl)); try dsimp only)
  rw [ifA_f]
  repeat ((with_reducible (first | apply bs | apply bsy)); (focus (first | (simp (disch := (first | assumption | omega | (simp only [List.length_append, List.length_set, List.length_cons, List.length_nil]; first | done | omega))) only [List.all_cons, List.all_nil, Bool.and_true, Bool.and_self, beq_self_eq_true, resv1, List.length_map, ld_v3, ld_v1, binA_eql, binA_neq, binA_lss, binA_leq, binA_gtr, binA_geq, loadA_one, un_not, ld_ptr, st_ptr, putE1, objE_obj, Option.bind_some, cut1, cut3, cut4, nil_ptr, fa_ptr, g_lt, g_eq, g_sne, g_seq, new_n, box_n, List.getElem?_cons_zero, List.getElem?_cons_succ, ex0, ex1, Sh.size, cells_int, aok_int, cells_bool, aok_bool, cells_str, aok_str, cells_lst, aok_lst, cells_ptr, aok_ptr, cells_arr, aok_arr, cells_fn, aok_fn, cells_mref, aok_mref, cells_nilp, aok_nilp, cells_agg, shOk_n, shOk_s, lenA_lst, List.length_cons, List.length_nil, if_true, putAt, List.take_succ_cons, List.take_zero, List.drop_succ_cons, List.drop_zero, List.cons_append, List.nil_append, List.append_nil, Nat.zero_add, Nat.reduceAdd, Nat.reduceLeDiff, Nat.le_refl, List.drop_nil, List.take_nil, List.length_append, List.length_set, e56]; first | done | rfl) | rfl)); try dsimp only)
  rw [Bool.not_true, ifA_f]
  repeat ((with_reducible (first | apply bs | apply bsy)); (focus (first | (simp (disch := (first | assumption | omega | (simp only [List.length_append, List.length_set, List.length_cons, List.length_nil]; first | done | omega))) only [List.all_cons, List.all_nil, Bool.and_true, Bool.and_self, beq_self_eq_true, resv1, List.length_map, ld_v3, ld_v1, binA_eql, binA_neq, binA_lss, binA_leq, binA_gtr, binA_geq, loadA_one, un_not, ld_ptr, st_ptr, putE1, objE_obj, Option.bind_some, cut1, cut3, cut4, nil_ptr, fa_ptr, g_lt, g_eq, g_sne, g_seq, new_n, box_n, List.getElem?_cons_zero, List.getElem?_cons_succ, ex0, ex1, Sh.size, cells_int, aok_int, cells_bool, aok_bool, cells_str, aok_str, cells_lst, aok_lst, cells_ptr, aok_ptr, cells_arr, aok_arr, cells_fn, aok_fn, cells_mref, aok_mref, cells_nilp, aok_nilp, cells_agg, shOk_n, shOk_s, lenA_lst, List.length_cons, List.length_nil, if_true, putAt, List.take_succ_cons, List.take_zero, List.drop_succ_cons, List.drop_zero, List.cons_append, List.nil_append, List.append_nil, Nat.zero_add, Nat.reduceAdd, Nat.reduceLeDiff, Nat.le_refl, List.drop_nil, List.take_nil, List.length_append, List.length_set, binA_lss]; first | done | rfl) | rfl)); try dsimp only)
  rw [ifA_dec, if_neg (by omega)]
  repeat ((with_reducible (first | apply bs | apply bsy)); (focus (first | (simp (disch := (first | assumption | omega | (simp only [List.length_append, List.length_set, List.length_cons, List.length_nil]; first | done | omega))) only [List.all_cons, List.all_nil, Bool.and_true, Bool.and_self, beq_self_eq_true, resv1, List.length_map, ld_v3, ld_v1, binA_eql, binA_neq, binA_lss, binA_leq, binA_gtr, binA_geq, loadA_one, un_not, ld_ptr, st_ptr, putE1, objE_obj, Option.bind_some, cut1, cut3, cut4, nil_ptr, fa_ptr, g_lt, g_eq, g_sne, g_seq, new_n, box_n, List.getElem?_cons_zero, List.getElem?_cons_succ, ex0, ex1, Sh.size, cells_int, aok_int, cells_bool, aok_bool, cells_str, aok_str, cells_lst, aok_lst, cells_ptr, aok_ptr, cells_arr, aok_arr, cells_fn, aok_fn, cells_mref, aok_mref, cells_nilp, aok_nilp, cells_agg, shOk_n, shOk_s, lenA_lst, List.length_cons, List.length_nil, if_true, putAt, List.take_succ_cons, List.take_zero, List.drop_succ_cons, List.drop_zero, List.cons_append, List.nil_append, List.append_nil, Nat.zero_add, Nat.reduceAdd, Nat.reduceLeDiff, Nat.le_refl, List.drop_nil, List.take_nil, List.length_append, List.length_set, nil_ptr, fa_ptr, lds, len_IA, binA_geq]; first | done | rfl) | rfl)); try dsimp only)
  rw [ifA_dec, if_neg (by omega)]
  repeat ((with_reducible (first | apply bs | apply bsy)); (focus (first | (simp (disch := (first | assumption | omega | (simp only [List.length_append, List.length_set, List.length_cons, List.length_nil]; first | done | omega))) only [List.all_cons, List.all_nil, Bool.and_true, Bool.and_self, beq_self_eq_true, resv1, List.length_map, ld_v3, ld_v1, binA_eql, binA_neq, binA_lss, binA_leq, binA_gtr, binA_geq, loadA_one, un_not, ld_ptr, st_ptr, putE1, objE_obj, Option.bind_some, cut1, cut3, cut4, nil_ptr, fa_ptr, g_lt, g_eq, g_sne, g_seq, new_n, box_n, List.getElem?_cons_zero, List.getElem?_cons_succ, ex0, ex1, Sh.size, cells_int, aok_int, cells_bool, aok_bool, cells_str, aok_str, cells_lst, aok_lst, cells_ptr, aok_ptr, cells_arr, aok_arr, cells_fn, aok_fn, cells_mref, aok_mref, cells_nilp, aok_nilp, cells_agg, shOk_n, shOk_s, lenA_lst, List.length_cons, List.length_nil, if_true, putAt, List.take_succ_cons, List.take_zero, List.drop_succ_cons, List.drop_zero, List.cons_append, List.nil_append, List.append_nil, Nat.zero_add, Nat.reduceAdd, Nat.reduceLeDiff, Nat.le_refl, List.drop_nil, List.take_nil, List.length_append, List.length_set, binA_lss]; first | done | rfl) | rfl)); try dsimp only)
  rw [ifA_dec, if_neg (by omega)]
  repeat ((with_reducible (first | apply bs | apply bsy)); (focus (first | (simp (disch := (first | assumption | omega | (simp only [List.length_append, List.length_set, List.length_cons, List.length_nil]; first | done | omega))) only [List.all_cons, List.all_nil, Bool.and_true, Bool.and_self, beq_self_eq_true, resv1, List.length_map, ld_v3, ld_v1, binA_eql, binA_neq, binA_lss, binA_leq, binA_gtr, binA_geq, loadA_one, un_not, ld_ptr, st_ptr, putE1, objE_obj, Option.bind_some, cut1, cut3, cut4, nil_ptr, fa_ptr, g_lt, g_eq, g_sne, g_seq, new_n, box_n, List.getElem?_cons_zero, List.getElem?_cons_succ, ex0, ex1, Sh.size, cells_int, aok_int, cells_bool, aok_bool, cells_str, aok_str, cells_lst, aok_lst, cells_ptr, aok_ptr, cells_arr, aok_arr, cells_fn, aok_fn, cells_mref, aok_mref, cells_nilp, aok_nilp, cells_agg, shOk_n, shOk_s, lenA_lst, List.length_cons, List.length_nil, if_true, putAt, List.take_succ_cons, List.take_zero, List.drop_succ_cons, List.drop_zero, List.cons_append, List.nil_append, List.append_nil, Nat.zero_add, Nat.reduceAdd, Nat.reduceLeDiff, Nat.le_refl, List.drop_nil, List.take_nil, List.length_append, List.length_set, nil_ptr, fa_ptr, lds, hiv, loadA_one, binA_geq]; first | done | rfl) | rfl)); try dsimp only)
  rw [ifA_dec, if_neg (by omega)]
  repeat ((with_reducible (first | apply bs | apply bsy)); (focus (first | (simp (disch := (first | assumption | omega | (simp only [List.length_append, List.length_set, List.length_cons, List.length_nil]; first | done | omega))) only [List.all_cons, List.all_nil, Bool.and_true, Bool.and_self, beq_self_eq_true, resv1, List.length_map, ld_v3, ld_v1, binA_eql, binA_neq, binA_lss, binA_leq, binA_gtr, binA_geq, loadA_one, un_not, ld_ptr, st_ptr, putE1, objE_obj, Option.bind_some, cut1, cut3, cut4, nil_ptr, fa_ptr, g_lt, g_eq, g_sne, g_seq, new_n, box_n, List.getElem?_cons_zero, List.getElem?_cons_succ, ex0, ex1, Sh.size, cells_int, aok_int, cells_bool, aok_bool, cells_str, aok_str, cells_lst, aok_lst, cells_ptr, aok_ptr, cells_arr, aok_arr, cells_fn, aok_fn, cells_mref, aok_mref, cells_nilp, aok_nilp, cells_agg, shOk_n, shOk_s, lenA_lst, List.length_cons, List.length_nil, if_true, putAt, List.take_succ_cons, List.take_zero, List.drop_succ_cons, List.drop_zero, List.cons_append, List.nil_append, List.append_nil, Nat.zero_add, Nat.reduceAdd, Nat.reduceLeDiff, Nat.le_refl, List.drop_nil, List.take_nil, List.length_append, List.length_set, e52]; first | done | rfl) | rfl)); try dsimp only)
theorem A41x (hal : ar.length ≤ 16) {m : Mem} {F : List Nat} {l : List ND} {id : Nat} (h : St8 m s F (IA zs os ar) 4000 l) (hid : id < l.length) {v k : Int} (hbad : v < 0 ∨ v ≥ ar.length ∨ k < 0 ∨ k ≥ ar.getD v.toNat 0) :
    ∃ m', AC cfg 41 [.ptr s 0, .int .i64 id, .int .i64 v, .int .i64 k] m = some (.tup [.int .i64 0, .int .i64 1], m') ∧ Fr m m' [] := by
  have f4 : Fr m ((((m ++ [some (Ent.obj true [.ptr s 0])]) ++ [some (Ent.obj true [.int .i64 id])]) ++ [some (Ent.obj true [.int .i64 v])]) ++ [some (Ent.obj true [.int .i64 k])]) [] := (((Fr.app m _ _).snoc _).snoc _).snoc _
  have h4 := h.app f4
  have e50 := A50 h4 (by omega)
  have e56 := A56 h4 id
  rw [decide_eq_true (by omega)] at e56
  have hst := h4
  obtain ⟨p, na, TT, st, hFF⟩ := hst
  have lda := fun (mm : Mem) (hh : mm.get s = some (Ent.obj true [IA zs os ar, na, .mref p, .int .i64 4000])) => (show loadA none mm (.ptr s (0 + 0)) = some (IA zs os ar) by rw [ld_ptr, hh]; rfl)
  have lds := lda _ st.hs
  refine ⟨_, ?_, f4⟩
  rw [T41]
  repeat ((with_reducible (first | apply bs | apply bsy)); (focus (first | (simp (disch := (first | assumption | omega | (simp only [List.length_append, List.length_set, List.length_cons, List.length_nil]; first | done | omega))) only [List.all_cons, List.all_nil, Bool.and_true, Bool.and_self, beq_self_eq_true, resv1, List.length_map, ld_v3, ld_v1, binA_eql, binA_neq, binA_lss, binA_leq, binA_gtr, binA_geq, loadA_one, un_not, ld_ptr, st_ptr, putE1, objE_obj, Option.bind_some, cut1, cut3, cut4, nil_ptr, fa_ptr, g_lt, g_eq, g_sne, g_seq, new_n, box_n, List.getElem?_cons_zero, List.getElem?_cons_succ, ex0, ex1, Sh.size, cells_int, aok_int, cells_bool, aok_bool, cells_str, aok_str, cells_lst, aok_lst, cells_ptr, aok_ptr, cells_arr, aok_arr, cells_fn, aok_fn, cells_mref, aok_mref, cells_nilp, aok_nilp, cells_agg, shOk_n, shOk_s, lenA_lst, List.length_cons, List.length_nil, if_true, putAt, List.take_succ_cons, List.take_zero, List.drop_succ_cons, List.drop_zero, List.cons_append, List.nil_append, List.append_nil, Nat.zero_add, Nat.reduceAdd, Nat.reduceLeDiff, Nat.le_refl, List.drop_nil, List.take_nil, List.length_append, List.length_set, box_p, box_i, e50]; first | done | rfl) | rfl)); try dsimp only)
  rw [ifA_f]
  repeat ((with_reducible (first | apply bs | apply bsy)); (focus (first | (simp (disch := (first | assumption | omega | (simp only [List.length_append, List.length_set, List.length_cons, List.length_nil]; first | done | omega))) only [List.all_cons, List.all_nil, Bool.and_true, Bool.and_self, beq_self_eq_true, resv1, List.length_map, ld_v3, ld_v1, binA_eql, binA_neq, binA_lss, binA_leq, binA_gtr, binA_geq, loadA_one, un_not, ld_ptr, st_ptr, putE1, objE_obj, Option.bind_some, cut1, cut3, cut4, nil_ptr, fa_ptr, g_lt, g_eq, g_sne, g_seq, new_n, box_n, List.getElem?_cons_zero, List.getElem?_cons_succ, ex0, ex1, Sh.size, cells_int, aok_int, cells_bool, aok_bool, cells_str, aok_str, cells_lst, aok_lst, cells_ptr, aok_ptr, cells_arr, aok_arr, cells_fn, aok_fn, cells_mref, aok_mref, cells_nilp, aok_nilp, cells_agg, shOk_n, shOk_s, lenA_lst, List.length_cons, List.length_nil, if_true, putAt, List.take_succ_cons, List.take_zero, List.drop_succ_cons, List.drop_zero, List.cons_append, List.nil_append, List.append_nil, Nat.zero_add, Nat.reduceAdd, Nat.reduceLeDiff, Nat.le_refl, List.drop_nil, List.take_nil, List.length_append, List.length_set, e56]; first | done | rfl) | rfl)); try dsimp only)
  rw [Bool.not_true, ifA_f]
  repeat ((with_reducible (first | apply bs | apply bsy)); (focus (first | (simp (disch := (first | assumption | omega | (simp only [List.length_append, List.length_set, List.length_cons, List.length_nil]; first | done | omega))) only [List.all_cons, List.all_nil, Bool.and_true, Bool.and_self, beq_self_eq_true, resv1, List.length_map, ld_v3, ld_v1, binA_eql, binA_neq, binA_lss, binA_leq, binA_gtr, binA_geq, loadA_one, un_not, ld_ptr, st_ptr, putE1, objE_obj, Option.bind_some, cut1, cut3, cut4, nil_ptr, fa_ptr, g_lt, g_eq, g_sne, g_seq, new_n, box_n, List.getElem?_cons_zero, List.getElem?_cons_succ, ex0, ex1, Sh.size, cells_int, aok_int, cells_bool, aok_bool, cells_str, aok_str, cells_lst, aok_lst, cells_ptr, aok_ptr, cells_arr, aok_arr, cells_fn, aok_fn, cells_mref, aok_mref, cells_nilp, aok_nilp, cells_agg, shOk_n, shOk_s, lenA_lst, List.length_cons, List.length_nil, if_true, putAt, List.take_succ_cons, List.take_zero, List.drop_succ_cons, List.drop_zero, List.cons_append, List.nil_append, List.append_nil, Nat.zero_add, Nat.reduceAdd, Nat.reduceLeDiff, Nat.le_refl, List.drop_nil, List.take_nil, List.length_append, List.length_set, binA_lss]; first | done | rfl) | rfl)); try dsimp only)
  rw [ifA_dec]
  by_cases c1 : v < 0
  · rw [if_pos c1]
  rw [if_neg c1]
  repeat ((with_reducible (first | apply bs | apply bsy)); (focus (first | (simp (disch := (first | assumption | omega | (simp only [List.length_append, List.length_set, List.length_cons, List.length_nil]; first | done | omega))) only [List.all_cons, List.all_nil, Bool.and_true, Bool.and_self, beq_self_eq_true, resv1, List.length_map, ld_v3, ld_v1, binA_eql, binA_neq, binA_lss, binA_leq, binA_gtr, binA_geq, loadA_one, un_not, ld_ptr, st_ptr, putE1, objE_obj, Option.bind_some, cut1, cut3, cut4, nil_ptr, fa_ptr, g_lt, g_eq, g_sne, g_seq, new_n, box_n, List.getElem?_cons_zero, List.getElem?_cons_succ, ex0, ex1, Sh.size, cells_int, aok_int, cells_bool, aok_bool, cells_str, aok_str, cells_lst, aok_lst, cells_ptr, aok_ptr, cells_arr, aok_arr, cells_fn, aok_fn, cells_mref, aok_mref, cells_nilp, aok_nilp, cells_agg, shOk_n, shOk_s, lenA_lst, List.length_cons, List.length_nil, if_true, putAt, List.take_succ_cons, List.take_zero, List.drop_succ_cons, List.drop_zero, List.cons_append, List.nil_append, List.append_nil, Nat.zero_add, Nat.reduceAdd, Nat.reduceLeDiff, Nat.le_refl, List.drop_nil, List.take_nil, List.length_append, List.length_set, nil_ptr, fa_ptr, lds, len_IA, binA_geq]; first | done | rfl) | rfl)); try dsimp only)
  rw [ifA_dec]
  by_cases c2 : v ≥ ar.length
  · rw [if_pos c2]
  rw [if_neg c2]
  repeat ((with_reducible (first | apply bs | apply bsy)); (focus (first | (simp (disch := (first | assumption | omega | (simp only [List.length_append, List.length_set, List.length_cons, List.length_nil]; first | done | omega))) only [List.all_cons, List.all_nil, Bool.and_true, Bool.and_self, beq_self_eq_true, resv1, List.length_map, ld_v3, ld_v1, binA_eql, binA_neq, binA_lss, binA_leq, binA_gtr, binA_geq, loadA_one, un_not, ld_ptr, st_ptr, putE1, objE_obj, Option.bind_some, cut1, cut3, cut4, nil_ptr, fa_ptr, g_lt, g_eq, g_sne, g_seq, new_n, box_n, List.getElem?_cons_zero, List.getElem?_cons_succ, ex0, ex1, Sh.size, cells_int, aok_int, cells_bool, aok_bool, cells_str, aok_str, cells_lst, aok_lst, cells_ptr, aok_ptr, cells_arr, aok_arr, cells_fn, aok_fn, cells_mref, aok_mref, cells_nilp, aok_nilp, cells_agg, shOk_n, shOk_s, lenA_lst, List.length_cons, List.length_nil, if_true, putAt, List.take_succ_cons, List.take_zero, List.drop_succ_cons, List.drop_zero, List.cons_append, List.nil_append, List.append_nil, Nat.zero_add, Nat.reduceAdd, Nat.reduceLeDiff, Nat.le_refl, List.drop_nil, List.take_nil, List.length_append, List.length_set, binA_lss]; first | done | rfl) | rfl)); try dsimp only)
  rw [ifA_dec]
  by_cases c3 : k < 0
  · rw [if_pos c3]
  rw [if_neg c3]
  obtain ⟨w, rfl⟩ := Int.eq_ofNat_of_zero_le (by omega : 0 ≤ v)
  have hw : w < ar.length := by omega
  have hiv : indexAddrA none (IA zs os ar) (.int .i64 w) = some (.vptr [.int .i64 ar[w]]) := idx_IA hw
  have hg : ar.getD w 0 = ar[w] := getD_el hw
  rw [Int.toNat_natCast, hg] at hbad
  repeat ((with_reducible (first | apply bs | apply bsy)); (focus (first | (simp (disch := (first | assumption | omega | (simp only [List.length_append, List.length_set, List.length_cons, List.length_nil]; first | done | omega))) only [List.all_cons, List.all_nil, Bool.and_true, Bool.and_self, beq_self_eq_true, resv1, List.length_map, ld_v3, ld_v1, binA_eql, binA_neq, binA_lss, binA_leq, binA_gtr, binA_geq, loadA_one, un_not, ld_ptr, st_ptr, putE1, objE_obj, Option.bind_some, cut1, cut3, cut4, nil_ptr, fa_ptr, g_lt, g_eq, g_sne, g_seq, new_n, box_n, List.getElem?_cons_zero, List.getElem?_cons_succ, ex0, ex1, Sh.size, cells_int, aok_int, cells_bool, aok_bool, cells_str, aok_str, cells_lst, aok_lst, cells_ptr, aok_ptr, cells_arr, aok_arr, cells_fn, aok_fn, cells_mref, aok_mref, cells_nilp, aok_nilp, cells_agg, shOk_n, shOk_s, lenA_lst, List.length_cons, List.length_nil, if_true, putAt, List.take_succ_cons, List.take_zero, List.drop_succ_cons, List.drop_zero, List.cons_append, List.nil_append, List.append_nil, Nat.zero_add, Nat.reduceAdd, Nat.reduceLeDiff, Nat.le_refl, List.drop_nil, List.take_nil, List.length_append, List.length_set, nil_ptr, fa_ptr, lds, hiv, loadA_one, binA_geq]; first | done | rfl) | rfl)); try dsimp only)
  rw [ifA_dec, if_pos (by omega)]
/-! ### The law -/
theorem W8 {z zt : Bool} {o ot : Own} {z35 : Bool} {o35 : Own} {t : List Int} {css : List (List Int)} {l1 : List ND} {id v : Nat} (h1 : ∀ x ∈ ar, 1 ≤ x ∧ x ≤ 64) (hal : ar.length ≤ 16) (hp : prodF ar ≤ 300) (hv : v < ar.length) (ht : t.length = prodF ar) (hcl : css.length = prodF ar) (hcs : ∀ k (h : k < css.length), Asn ar k css[k]) (g1 : GoodL ar l1) (tab : TabV ar l1 id 0 t) (hl1 : l1.length ≤ 600) : ∀ (j i : Nat), i + j = css.length → ∀ (m : Mem) (F : List Nat) (R : List ND) (D : List Nat), St8 m s F (IA zs os ar) 4000 (l1 ++ R) → GoodL ar (l1 ++ R) → D.Nodup → (∀ d ∈ D, (d : Int) < ar.getD v 0) → (∀ d ∈ D, ∃ c, Cut ar v d (l1 ++ R) id c) → R.length ≤ D.length * (2 * prodF (ar.take v)) →
    ∃ m', L8_14 (IA z o ar) (.int .i64 v) (IA zt ot t) (.ptr s 0) (.int .i64 id) (.lst none z35 o35 (css.map (IA false .no))) (.int .i64 css.length) (.int .i64 i) m (K8_14 (finK cfg.P f8.results.toList)) = some (.bool true, m')
  | 0, i, h, m, F, R, D, hst, g, hD, hDb, hDc, hR => by
    refine ⟨m, ?_⟩
    rw [L8_14_eq, n_lss, Option.bind_some, ifA_dec, if_neg (by omega), K8_14_x0, pc13, Option.bind_some]
  | j + 1, i, h, m, F, R, D, hst, g, hD, hDb, hDc, hR => by
    have h1' : ∀ x ∈ ar, 1 ≤ x := fun x hx => (h1 x hx).1
    have hi : i < css.length := by omega
    have A := hcs i hi
    have hvc : v < css[i].length := by rw [A.len]; exact hv
    have hbd := A.bd v hv
    obtain ⟨d, hd⟩ := Int.eq_ofNat_of_zero_le (by rw [getD_el hvc] at hbd; omega : 0 ≤ css[i][v])
    have hda : (d : Int) < ar.getD v 0 := by rw [getD_el hvc] at hbd; omega
    have hav := h1 _ (List.getElem_mem hv)
    have hget := getD_el hv
    have hidl : id < (l1 ++ R).length := by have := tab.lt; rw [List.length_append]; omega
    have hpp : prodF (ar.take v) * prodF (ar.drop v) = prodF ar := by rw [← prodF_app, List.take_append_drop]
    have hpd : prodF (ar.drop v) = (ar.getD v 0).toNat * prodF (ar.drop (v + 1)) := prod_step hv
    have hP1 := pos_drop h1' (v + 1)
    have hPv : (ar.getD v 0).toNat ≤ prodF (ar.drop v) := by rw [hpd]; exact Nat.le_mul_of_pos_right _ hP1
    have hP0 : 1 ≤ prodF (ar.take v) := prod_pos fun x hx => h1' x (List.take_subset _ _ hx)
    have hDl : D.length ≤ (ar.getD v 0).toNat := nodup_lt _ _ hD fun x hx => by have := hDb x hx; omega
    have hDP : D.length * prodF (ar.take v) ≤ prodF ar := by
      rw [← hpp, Nat.mul_comm (prodF (ar.take v))]
      exact Nat.mul_le_mul_right _ (Nat.le_trans hDl hPv)
    have hDP2 : D.length * (2 * prodF (ar.take v)) = 2 * (D.length * prodF (ar.take v)) := by rw [Nat.mul_left_comm]
    have hPt : prodF (ar.take v) ≤ prodF ar := by
      rw [← hpp]; exact Nat.le_mul_of_pos_right _ (by omega)
    have hll : (l1 ++ R).length + 2 * prodF (ar.take v) ≤ 4000 := by rw [List.length_append]; omega
    obtain ⟨m2, F2, c, l2, e41, ⟨r, c0, rfl, rfl, g2, hcut, hrl, hr0⟩, st2, f2, gr2⟩ := A41v h1 hal hv hda hst g hidl (by omega) hll
    have hsem := hcut.sem g2 h1 hal hv hda (by rw [List.length_append]; omega)
    have e36 := A36 (z := false) (o := .no) st2 g2 (by omega) hal hsem.1 A.len A.bd
    have hy := A.asg
    have hupd : upd (asgOf css[i]) v d = asgOf css[i] := by
      funext w
      unfold upd
      split
      · rename_i e
        subst e
        unfold asgOf
        rw [getD_el hvc, hd, Int.toNat_natCast]
      · rfl
    have hS : S (l1 ++ R ++ r) (asgOf css[i]) c0 = t.getD (idxF ar 0 (asgOf css[i])) 0 := by
      rw [hsem.2.2 _ hy, hupd, List.append_assoc, S_app g1 _ hy _ tab.lt, tab.val _ hy, List.drop_zero]
    rw [hS] at e36
    have hix : idxF ar 0 (asgOf css[i]) < t.length := by rw [A.idx]; omega
    have hit : indexAddrA none (IA zt ot t) (.int .i64 (idxF ar 0 (asgOf css[i]) : Nat)) = some (.vptr [.int .i64 (t.getD (idxF ar 0 (asgOf css[i])) 0)]) := by
      rw [idx_IA hix, getD_el hix]
    have hir : indexAddrA none (.lst none z35 o35 (css.map (IA false .no))) (.int .i64 i) = some (.vptr [IA false .no css[i]]) := by
      simp [indexAddrA, hi, AV.cells, IA]
    have hiv : indexAddrA none (IA false .no css[i]) (.int .i64 v) = some (.vptr [.int .i64 d]) := by rw [idx_IA hvc, hd]
    have l1v : ∀ (mm : Mem) (x : AV), loadA none mm (.vptr [x]) = some x := fun _ _ => rfl
    have p43 := pc43 z false o .no h1 hal hp A.len A.bd
    have hdc : ∀ e ∈ D, ∃ c, Cut ar v e (l1 ++ (R ++ r)) id c := fun e he => by
      obtain ⟨c, hc⟩ := hDc e he
      exact ⟨c, by rw [← List.append_assoc]; exact hc.app r⟩
    have key : ∃ m', L8_14 (IA z o ar) (.int .i64 v) (IA zt ot t) (.ptr s 0) (.int .i64 id) (.lst none z35 o35 (css.map (IA false .no))) (.int .i64 css.length) (.int .i64 (i + 1 : Nat)) m2 (K8_14 (finK cfg.P f8.results.toList)) = some (.bool true, m') := by
      by_cases hmem : d ∈ D
      · have hr := hr0 (hDc d hmem)
        subst hr
        exact W8 h1 hal hp hv ht hcl hcs g1 tab hl1 j (i + 1) (by omega) m2 F2 R D (by rw [List.append_nil] at st2; exact st2) g hD hDb hDc hR
      · refine W8 h1 hal hp hv ht hcl hcs g1 tab hl1 j (i + 1) (by omega) m2 F2 (R ++ r) (d :: D) (by rw [← List.append_assoc]; exact st2) (by rw [← List.append_assoc]; exact g2) (List.nodup_cons.2 ⟨hmem, hD⟩) (fun e he => ?_) (fun e he => ?_) ?_
        · rcases List.mem_cons.1 he with rfl | he
          · exact hda
          · exact hDb e he
        · rcases List.mem_cons.1 he with rfl | he
          · exact ⟨c0, by rw [← List.append_assoc]; exact hcut⟩
          · exact hdc e he
        · rw [List.length_append, List.length_cons, Nat.add_mul, Nat.one_mul]; omega
    obtain ⟨m', e⟩ := key
    refine ⟨m', ?_⟩
    rw [L8_14_eq, n_lss, Option.bind_some, ifA_dec, if_pos hi, hir, Option.bind_some, l1v, Option.bind_some, hiv, Option.bind_some, loadA_one, Option.bind_some, e41, Option.bind_some, ex0, Option.bind_some, ex1, Option.bind_some, e36, Option.bind_some, ex0, Option.bind_some, ex1, Option.bind_some, binA_neq, Option.bind_some, ifA_dec, if_neg (by omega), p43, Option.bind_some, hit, Option.bind_some, loadA_one, Option.bind_some, binA_neq, Option.bind_some, ifA_dec, if_neg (by omega), i_add1 (by omega), Option.bind_some]
    exact e
theorem DiagramRestricts_law (z zl : Bool) (ar l : List Int) (v arm : Int) : ∃ m', AC cfg 8 [IA z .no ar, IA zl .no l, .int .i64 v, .int .i64 arm] [] = some (.bool true, m') := by
  obtain ⟨o', r, e11, hg, hr17, ho'⟩ := V11 z .no ar
  have p11 : ∀ m, pcall (AP cfg) none m 11 [IA z .no ar] = some (IA false o' r, m) := fun m => by
    rw [pcall1 (fz_IA z .no ar), show (Own.no).fr = Own.no from rfl, e11]; rfl
  rw [T8, p11, Option.bind_some, pc12, Option.bind_some, binA_neq, Option.bind_some, ifA_dec]
  by_cases he : armsE r = 0
  · rw [if_neg (by simpa using he)]
    obtain ⟨h1, h2⟩ := armsE_ok he
    obtain ⟨hN, hN2⟩ := few_places hg he
    have h2' : ∀ x ∈ r, 1 ≤ x := fun x hx => (h2 x hx).1
    obtain ⟨zt, ot, t, e28, _, htl, htb⟩ := pc28 false zl o' .no r l h1 h2 hN hN2 []
    obtain ⟨m1, s, F, zs, os, l1, id1, e29, st1, g1, tab1, hl1, f1, _⟩ := A29 (za := false) (z := zt) (oa := o') (o := ot) (ar := r) (t := t) [] (fun h => by cases h) he hN2 htl htb
    rw [e28, Option.bind_some, e29, Option.bind_some, show extractA (.tup [.ptr s 0, .int .i64 (id1 : Nat), .bool true]) 0 = some (.ptr s 0) from rfl, Option.bind_some, show extractA (.tup [.ptr s 0, .int .i64 (id1 : Nat), .bool true]) 1 = some (.int .i64 (id1 : Nat)) from rfl, Option.bind_some, show extractA (.tup [.ptr s 0, .int .i64 (id1 : Nat), .bool true]) 2 = some (.bool true) from rfl, Option.bind_some, un_not, Option.bind_some, Bool.not_true, ifA_f]
    by_cases hbad : v < 0 ∨ v ≥ r.length ∨ arm < 0 ∨ arm ≥ r.getD v.toNat 0
    · obtain ⟨m2, e41, f2⟩ := A41x h1 st1 tab1.lt hbad
      rw [e41, Option.bind_some, ex0, Option.bind_some, ex1, Option.bind_some, binA_lss, Option.bind_some, ifA_dec]
      have e11 : binA .other .eql (.int .i64 1) (.int .i64 1) = some (.bool true) := rfl
      by_cases c1 : v < 0
      · rw [if_pos c1, e11, Option.bind_some, ifA_t, pc13, Option.bind_some]; exact ⟨_, rfl⟩
      rw [if_neg c1, len_IA, Option.bind_some, binA_geq, Option.bind_some, ifA_dec]
      by_cases c2 : v ≥ r.length
      · rw [if_pos c2, e11, Option.bind_some, ifA_t, pc13, Option.bind_some]; exact ⟨_, rfl⟩
      rw [if_neg c2, binA_lss, Option.bind_some, ifA_dec]
      by_cases c3 : arm < 0
      · rw [if_pos c3, e11, Option.bind_some, ifA_t, pc13, Option.bind_some]; exact ⟨_, rfl⟩
      obtain ⟨w, rfl⟩ := Int.eq_ofNat_of_zero_le (by omega : 0 ≤ v)
      have hw : w < r.length := by omega
      rw [Int.toNat_natCast, getD_el hw] at hbad
      rw [if_neg c3, idx_IA hw, Option.bind_some, loadA_one, Option.bind_some, binA_geq, Option.bind_some, ifA_dec, if_pos (by omega), e11, Option.bind_some, ifA_t, pc13, Option.bind_some]
      exact ⟨_, rfl⟩
    · obtain ⟨w, rfl⟩ := Int.eq_ofNat_of_zero_le (by omega : 0 ≤ v)
      obtain ⟨k, rfl⟩ := Int.eq_ofNat_of_zero_le (by omega : 0 ≤ arm)
      rw [Int.toNat_natCast] at hbad
      have hw : w < r.length := by omega
      have hk : (k : Int) < r.getD w 0 := by omega
      have hpp : prodF (r.take w) * prodF (r.drop w) = prodF r := by rw [← prodF_app, List.take_append_drop]
      have hPt : prodF (r.take w) ≤ prodF r := by
        rw [← hpp]; exact Nat.le_mul_of_pos_right _ (pos_drop h2' w)
      obtain ⟨m2, F2, c, l2, e41, ⟨R, c0, rfl, rfl, g2, hcut, hrl, hr0⟩, st2, f2, gr2⟩ := A41v h2 h1 hw hk st1 g1 tab1.lt (by omega) (by omega)
      have hlR : (l1 ++ R).length ≤ 1200 := by rw [List.length_append]; omega
      have hsem := hcut.sem g2 h2 h1 hw hk (by omega)
      obtain ⟨ou, u, e42, hul, huv⟩ := V42 false zt o' ot.fr h2 h1 hN2 hw hk htl
      have tabu : TabV r (l1 ++ R) c0 0 u := by
        refine ⟨hul, hsem.1, fun hh => ?_, fun y hy => ?_⟩
        · have := abv_ub g2 hsem.1
          rw [abvD_at hsem.1] at this
          exact this.1
        · rw [hsem.2.2 y hy, S_app g1 _ (hy.upd hk) _ tab1.lt, tab1.val _ (hy.upd hk), List.drop_zero]
          exact (huv y hy).symm
      obtain ⟨m3, e34, f3⟩ := A34 st2 g2 h2 (by omega) (by omega) h1 hN2 tabu false false o' ou
      have st3 := st2.app f3
      obtain ⟨z35, o35, css, e35, hcl, hcs⟩ := pc35 false o' r h2 h1 hN2 m3
      have hDk : ∀ d ∈ [k], (d : Int) < r.getD w 0 := fun d hd => by
        have : d = k := by simpa using hd
        rw [this]; exact hk
      have hDc : ∀ d ∈ [k], ∃ c, Cut r w d (l1 ++ R) id1 c := fun d hd => by
        have : d = k := by simpa using hd
        rw [this]; exact ⟨c0, hcut⟩
      obtain ⟨m4, e8⟩ := W8 (z := false) (zt := zt) (o := o') (ot := ot) (z35 := z35) (o35 := o35) h2 h1 hN2 hw htl hcl hcs g1 tab1 hl1 css.length 0 (by omega) m3 F2 R [k] st3 g2 (by simp) hDk hDc (by simp only [List.length_cons, List.length_nil]; omega)
      have p42 : ∀ m, pcall (AP cfg) none m 42 [IA false o' r, IA zt ot t, .int .i64 w, .int .i64 k] = some (IA false ou u, m) := fun m => by
        have ho : o'.fr = o' := by rcases ho' with rfl | rfl <;> rfl
        rw [pcall4 (fz_IA false o' r) (fz_IA zt ot t) (fz_int _ _) (fz_int _ _), ho, e42]; rfl
      have hlen35 : lenA false (.lst none z35 o35 (css.map (IA false .no))) = some (.int .i64 css.length) := by rw [lenA_lst, List.length_map]
      have hwr := getD_el hw
      rw [e41, Option.bind_some, ex0, Option.bind_some, ex1, Option.bind_some, binA_lss, Option.bind_some, ifA_dec, if_neg (by omega), len_IA, Option.bind_some, binA_geq, Option.bind_some, ifA_dec, if_neg (by omega), binA_lss, Option.bind_some, ifA_dec, if_neg (by omega), idx_IA hw, Option.bind_some, loadA_one, Option.bind_some, binA_geq, Option.bind_some, ifA_dec, if_neg (by omega), binA_neq, Option.bind_some, ifA_dec, if_neg (by omega), p42, Option.bind_some, e34, Option.bind_some, un_not, Option.bind_some, Bool.not_true, ifA_f, e35, Option.bind_some, hlen35, Option.bind_some]
      exact ⟨m4, e8⟩
  · rw [if_pos he, pc13, Option.bind_some]
    exact ⟨_, rfl⟩
end
end Go.Ab

/- What the interpreter does, function by function. -/
set_option maxRecDepth 100000
set_option linter.unusedVariables false
namespace Go.Ab
open Go.Proofs.Tryd
/-! ### sortilege/sortilegelaw23.DiagramSteps -/
def O3_10 (x5 x7 : AV) (m : Mem) : St := ⟨[.any, .any, .any, .any, .any, x5, .any, x7, .any, .any, .any, .any, .any, .any, .any, .any, .any, .any, .any, .any, .any, .any, .any, .any, .any, .any, .any, .any, .any, .any, .any, .any, .any, .any, .any, .any, .any, .any, .any, .any, .any, .any, .any, .any, .any, .any, .any, .any, .any, .any, .any, .any, .any, .any, .any, .any, .any, .any, .any, .any, .any, .any, .any, .any, .any, .any, .any, .any, .any, .any, .any, .any, .any, .any, .any, .any, .any, .any, .any, .any, .any, .any, .any, .any, .any, .any, .any, .any, .any, .any, .any, .any, .any, .any, .any, .any, .any, .any, .any, .any, .any, .any, .any, .any, .any, .any, .any, .any, .any, .any, .any, .any, .any, .any, .any, .any, .any, .any, .any, .any, .any, .any, .any, .any, .any, .any, .any, .any, .any, .any, .any, .any, .any, .any, .any, .any, .any, .any, .any, .any, .any, .any, .any, .any, .any, .any, .any, .any, .any, .any, .any, .any, .any, .any, .any, .any, .any, .any, .any, .any, .any, .any, .any, .any, .any, .any, .any, .any, .any, .any, .any, .any], m⟩
def R3_10 (x4 : AV) (m : Mem) : St := ⟨[.any, .any, .any, .any, x4, .any, .any, .any, .any, .any, .any, .any, .any, .any, .any, .any, .any, .any, .any, .any, .any, .any, .any, .any, .any, .any, .any, .any, .any, .any, .any, .any, .any, .any, .any, .any, .any, .any, .any, .any, .any, .any, .any, .any, .any, .any, .any, .any, .any, .any, .any, .any, .any, .any, .any, .any, .any, .any, .any, .any, .any, .any, .any, .any, .any, .any, .any, .any, .any, .any, .any, .any, .any, .any, .any, .any, .any, .any, .any, .any, .any, .any, .any, .any, .any, .any, .any, .any, .any, .any, .any, .any, .any, .any, .any, .any, .any, .any, .any, .any, .any, .any, .any, .any, .any, .any, .any, .any, .any, .any, .any, .any, .any, .any, .any, .any, .any, .any, .any, .any, .any, .any, .any, .any, .any, .any, .any, .any, .any, .any, .any, .any, .any, .any, .any, .any, .any, .any, .any, .any, .any, .any, .any, .any, .any, .any, .any, .any, .any, .any, .any, .any, .any, .any, .any, .any, .any, .any, .any, .any, .any, .any, .any, .any, .any, .any, .any, .any, .any, .any, .any, .any], m⟩
noncomputable def L3_10 (x0 x5 x7 x41 x42 x43 : AV) (m : Mem) (K : Ex → St → Option (AV × Mem)) : Option (AV × Mem) := loopW (execW cfg 3 (AP cfg) (AC cfg) (c1 (c1 (c2 (c1 (c2 (c2 (c2 (c2 (c2 (c2 (c2 (bodyOf f3))))))))))))) (cfg.mask 3 (some 10)) ⟨[x0, .any, .any, .any, .any, x5, .any, x7, .any, .any, .any, .any, .any, .any, .any, .any, .any, .any, .any, .any, .any, .any, .any, .any, .any, .any, .any, .any, .any, .any, .any, .any, .any, .any, .any, .any, .any, .any, .any, .any, .any, x41, x42, x43, .any, .any, .any, .any, .any, .any, .any, .any, .any, .any, .any, .any, .any, .any, .any, .any, .any, .any, .any, .any, .any, .any, .any, .any, .any, .any, .any, .any, .any, .any, .any, .any, .any, .any, .any, .any, .any, .any, .any, .any, .any, .any, .any, .any, .any, .any, .any, .any, .any, .any, .any, .any, .any, .any, .any, .any, .any, .any, .any, .any, .any, .any, .any, .any, .any, .any, .any, .any, .any, .any, .any, .any, .any, .any, .any, .any, .any, .any, .any, .any, .any, .any, .any, .any, .any, .any, .any, .any, .any, .any, .any, .any, .any, .any, .any, .any, .any, .any, .any, .any, .any, .any, .any, .any, .any, .any, .any, .any, .any, .any, .any, .any, .any, .any, .any, .any, .any, .any, .any, .any, .any, .any, .any, .any, .any, .any, .any, .any], m⟩ K
noncomputable abbrev K3_10_0 (K : Ex → St → Option (AV × Mem)) : Ex → St → Option (AV × Mem) := seqK (fun st => execW cfg 3 (AP cfg) (AC cfg) (c2 (c2 (c2 (c2 (c2 (c2 (c2 (c2 (bodyOf f3))))))))) st K) K
noncomputable abbrev K3_10_1 (K : Ex → St → Option (AV × Mem)) : Ex → St → Option (AV × Mem) := blockK 0 (K3_10_0 K)
noncomputable abbrev K3_10 (K : Ex → St → Option (AV × Mem)) : Ex → St → Option (AV × Mem) := (K3_10_1 K)
theorem T3 (a0 a1 : AV) (m : Mem) : AC cfg 3 [a0, a1] m =
  (pcall (AP cfg) none m 11 [a0]).bind fun r1 =>
  (lenA false a1).bind fun v2 =>
  (maxA false v2 (.int .i64 60)).bind fun v3 =>
  (sliceT (some 3) a1 none (some v3) none).bind fun v4 =>
  (pcall (AP cfg) none r1.2 12 [r1.1]).bind fun r5 =>
  (binA .other .neq r5.1 (.int .i64 0)).bind fun v6 =>
  ifA v6 (
  (pcall (AP cfg) none r5.2 13 []).bind fun r7 =>
  some (r7.1, r7.2)) (
  (AC cfg 14 [r1.1] r5.2).bind fun r8 =>
  (extractA r8.1 0).bind fun v9 =>
  (extractA r8.1 1).bind fun v10 =>
  (binA .other .neq v10 (.int .i64 0)).bind fun v11 =>
  ifA v11 (
  some ((.bool false), r8.2)) (
  (lenA false v4).bind fun v12 =>
  L3_10 r1.1 v9 (.lst none true .full []) v4 v12 (.int .i64 0) r8.2 (K3_10 (finK cfg.P f3.results.toList)))) :=
(AC_eq cfg 3 [a0, a1] m (fn := f3) (c := bodyOf f3) at3 rfl).trans (by kernel_rfl)
theorem L3_10_eq (x0 x5 x7 x41 x42 x43 : AV) (m : Mem) (K : Ex → St → Option (AV × Mem)) : L3_10 x0 x5 x7 x41 x42 x43 m K =
  (binA .other .lss x43 x42).bind fun v1 =>
  ifA v1 (
  (indexAddrA (some 3) x41 x43).bind fun v2 =>
  (loadA (some 3) m v2).bind fun v3 =>
  (storeA (some 3) (newAt none m (.obj true [(.int .i64 0), (.int .i64 0), (.lst none true .full [])])).2 (.ptr (newAt none m .resv).1 0) v3).bind fun m4 =>
  (fieldAddrA 0 (.ptr (newAt none m .resv).1 0)).bind fun v5 =>
  (loadA none m4 v5).bind fun v6 =>
  (binA .other .rem v6 (.int .i64 2)).bind fun v7 =>
  (binA .other .eql v7 (.int .i64 0)).bind fun v8 =>
  ifA v8 (
  (fieldAddrA 1 (.ptr (newAt none m .resv).1 0)).bind fun v9 =>
  (loadA none m4 v9).bind fun v10 =>
  (AC cfg 15 [x5, v10] m4).bind fun r11 =>
  (extractA r11.1 0).bind fun v12 =>
  (extractA r11.1 1).bind fun v13 =>
  (fieldAddrA 1 (.ptr (newAt none m .resv).1 0)).bind fun v14 =>
  (loadA none r11.2 v14).bind fun v15 =>
  (binA .other .geq v15 (.int .i64 0)).bind fun v16 =>
  ifA v16 (
  (fieldAddrA 1 (.ptr (newAt none m .resv).1 0)).bind fun v17 =>
  (loadA none r11.2 v17).bind fun v18 =>
  (binA .other .leq v18 (.int .i64 2147483647)).bind fun v19 =>
  ifA v19 (
  (fieldAddrA 1 (.ptr (newAt none m .resv).1 0)).bind fun v20 =>
  (loadA none r11.2 v20).bind fun v21 =>
  (buildA (.agg [(.int .i64 0), (.lst none true .full []), (.int .i64 0)]) [(0, none, (.int .i64 (-1))), (2, none, v21)]).bind fun v22 =>
  (AC cfg 16 [x7, v22] r11.2).bind fun r23 =>
  (extractA r23.1 0).bind fun v24 =>
  (extractA r23.1 1).bind fun v25 =>
  (binA .other .neq v13 (.int .i64 0)).bind fun v26 =>
  ifA v26 (
  K .ret (R3_10 (.bool false) r23.2)) (
  (binA .other .neq v12 v25).bind fun v27 =>
  ifA v27 (
  K .ret (R3_10 (.bool false) r23.2)) (
  (AC cfg 20 [x5] r23.2).bind fun r28 =>
  (lenA false v24).bind fun v29 =>
  (binA .other .neq r28.1 v29).bind fun v30 =>
  ifA v30 (
  K .ret (R3_10 (.bool false) r28.2)) (
  (binA .other .add x43 (.int .i64 1)).bind fun v31 =>
  L3_10 x0 x5 v24 x41 x42 v31 r28.2 K)))) (
  (binA .other .neq v13 (.int .i64 1)).bind fun v32 =>
  ifA v32 (
  K .ret (R3_10 (.bool false) r11.2)) (
  (binA .other .neq v12 (.int .i64 0)).bind fun v33 =>
  ifA v33 (
  K .ret (R3_10 (.bool false) r11.2)) (
  (AC cfg 20 [x5] r11.2).bind fun r34 =>
  (lenA false x7).bind fun v35 =>
  (binA .other .neq r34.1 v35).bind fun v36 =>
  ifA v36 (
  K .ret (R3_10 (.bool false) r34.2)) (
  (binA .other .add x43 (.int .i64 1)).bind fun v37 =>
  L3_10 x0 x5 x7 x41 x42 v37 r34.2 K))))) (
  (binA .other .neq v13 (.int .i64 1)).bind fun v38 =>
  ifA v38 (
  K .ret (R3_10 (.bool false) r11.2)) (
  (binA .other .neq v12 (.int .i64 0)).bind fun v39 =>
  ifA v39 (
  K .ret (R3_10 (.bool false) r11.2)) (
  (AC cfg 20 [x5] r11.2).bind fun r40 =>
  (lenA false x7).bind fun v41 =>
  (binA .other .neq r40.1 v41).bind fun v42 =>
  ifA v42 (
  K .ret (R3_10 (.bool false) r40.2)) (
  (binA .other .add x43 (.int .i64 1)).bind fun v43 =>
  L3_10 x0 x5 x7 x41 x42 v43 r40.2 K))))) (
  (fieldAddrA 2 (.ptr (newAt none m .resv).1 0)).bind fun v44 =>
  (loadA none m4 v44).bind fun v45 =>
  (fieldAddrA 2 (.ptr (newAt none m .resv).1 0)).bind fun v46 =>
  (loadA none m4 v46).bind fun v47 =>
  (lenA false v47).bind fun v48 =>
  (maxA false v48 (.int .i64 70)).bind fun v49 =>
  (sliceT none v45 none (some v49) none).bind fun v50 =>
  (fieldAddrA 1 (.ptr (newAt none m .resv).1 0)).bind fun v51 =>
  (loadA none m4 v51).bind fun v52 =>
  (AC cfg 17 [x5, v52, v50] m4).bind fun r53 =>
  (extractA r53.1 0).bind fun v54 =>
  (extractA r53.1 1).bind fun v55 =>
  (fieldAddrA 1 (.ptr (newAt none m .resv).1 0)).bind fun v56 =>
  (loadA none r53.2 v56).bind fun v57 =>
  (pcall (AP cfg) none r53.2 18 [x0, x7, v57, v50]).bind fun r58 =>
  ifA r58.1 (
  (pcall (AP cfg) none r58.2 19 [v50]).bind fun r59 =>
  ifA r59.1 (
  (indexAddrA none v50 (.int .i64 0)).bind fun v60 =>
  (loadA none r59.2 v60).bind fun v61 =>
  (binA .other .neq v55 (.int .i64 0)).bind fun v62 =>
  ifA v62 (
  K .ret (R3_10 (.bool false) r59.2)) (
  (binA .other .neq v54 v61).bind fun v63 =>
  ifA v63 (
  K .ret (R3_10 (.bool false) r59.2)) (
  (AC cfg 20 [x5] r59.2).bind fun r64 =>
  (lenA false x7).bind fun v65 =>
  (binA .other .neq r64.1 v65).bind fun v66 =>
  ifA v66 (
  K .ret (R3_10 (.bool false) r64.2)) (
  (binA .other .add x43 (.int .i64 1)).bind fun v67 =>
  L3_10 x0 x5 x7 x41 x42 v67 r64.2 K)))) (
  (fieldAddrA 1 (.ptr (newAt none m .resv).1 0)).bind fun v68 =>
  (loadA none r59.2 v68).bind fun v69 =>
  (buildSliceA none []).bind fun v70 =>
  (appA none false 3 none 8 r59.2 v70 v50).bind fun r71 =>
  ifP ((loadA none r71.2 v68).bind (fun v => some (v, r71.2)) = some (v69, r71.2)) (
  (buildA (.agg [(.int .i64 0), (.lst none true .full []), (.int .i64 0)]) [(0, none, v69), (1, none, r71.1)]).bind fun v72 =>
  (AC cfg 16 [x7, v72] r71.2).bind fun r73 =>
  (extractA r73.1 0).bind fun v74 =>
  (extractA r73.1 1).bind fun v75 =>
  (binA .other .neq v55 (.int .i64 0)).bind fun v76 =>
  ifA v76 (
  K .ret (R3_10 (.bool false) r73.2)) (
  (binA .other .neq v54 v75).bind fun v77 =>
  ifA v77 (
  K .ret (R3_10 (.bool false) r73.2)) (
  (AC cfg 20 [x5] r73.2).bind fun r78 =>
  (lenA false v74).bind fun v79 =>
  (binA .other .neq r78.1 v79).bind fun v80 =>
  ifA v80 (
  K .ret (R3_10 (.bool false) r78.2)) (
  (binA .other .add x43 (.int .i64 1)).bind fun v81 =>
  L3_10 x0 x5 v74 x41 x42 v81 r78.2 K)))))) (
  (binA .other .neq v55 (.int .i64 1)).bind fun v82 =>
  ifA v82 (
  K .ret (R3_10 (.bool false) r58.2)) (
  (binA .other .neq v54 (.int .i64 0)).bind fun v83 =>
  ifA v83 (
  K .ret (R3_10 (.bool false) r58.2)) (
  (AC cfg 20 [x5] r58.2).bind fun r84 =>
  (lenA false x7).bind fun v85 =>
  (binA .other .neq r84.1 v85).bind fun v86 =>
  ifA v86 (
  K .ret (R3_10 (.bool false) r84.2)) (
  (binA .other .add x43 (.int .i64 1)).bind fun v87 =>
  L3_10 x0 x5 x7 x41 x42 v87 r84.2 K)))))) (
  K (.exit 0) (O3_10 x5 x7 m)) :=
(loopW_eq (execW_lin _) _ _ _).trans (by kernel_rfl)
end Go.Ab

/- DiagramSteps in values. -/
set_option linter.unusedVariables false
set_option linter.unusedSimpArgs false
set_option linter.unusedSectionVars false
set_option maxRecDepth 100000
namespace Go.Ab
open Go.Proofs Go.Proofs.Tryd

structure SP where
  kind : Int
  a : Int
  kz : Bool
  kids : List Int
def SP.av (x : SP) : AV := .agg [.int .i64 x.kind, .int .i64 x.a, IA x.kz .no x.kids]
abbrev SL (z : Bool) (o : Own) (l : List SP) : AV := .lst (some 3) z o (l.map SP.av)
theorem idx_SL {z : Bool} {o : Own} {l : List SP} {i : Nat} (hi : i < l.length) : indexAddrA (some 3) (SL z o l) (.int .i64 i) = some (.vptr [.int .i64 l[i].kind, .int .i64 l[i].a, IA l[i].kz .no l[i].kids]) := by
  simp [indexAddrA, hi]; rfl
theorem st_new3 {m : Mem} {a b c a' b' c' : AV} (hs : shOk (some 3) (.agg [a', b', c']) = true) : storeA (some 3) (m ++ [some (Ent.obj true [a, b, c])]) (.ptr m.length 0) (.agg [a', b', c']) = some (m ++ [some (Ent.obj true [a', b', c'])]) := by
  rw [st_ptr, g_eq rfl, objE_obj, Option.bind_some]
  simp [putE1, Sh.size, hs, putAt, AV.cells]
theorem rem2 (tk : TK) (a : Int) : binA tk .rem (.int .i64 a) (.int .i64 2) = some (.int .i64 (a.tmod 2)) := by cases tk <;> rfl
/-- The store and the law's own row hold the same nodes. -/
structure Inv3 (m : Mem) (s : Nat) (F : List Nat) (arms : AV) (l : List ND) (x : AV) (T : List Nat) : Prop where
  st : St8 m s F arms 4000 l
  nr : NR 39 m x l T
  dj : ∀ k ∈ F, k ∉ T
  kn : kidsNe l
theorem St8.ok {m : Mem} {s : Nat} {F : List Nat} {arms : AV} {most : Int} {l : List ND} (h : St8 m s F arms most l) : ∀ x ∈ l, x.ok := by
  obtain ⟨p, na, T, h, _⟩ := h
  exact h.ok
theorem Inv3.app {m m' : Mem} {s : Nat} {F : List Nat} {arms : AV} {l : List ND} {x : AV} {T : List Nat} (h : Inv3 m s F arms l x T) (f : Fr m m' []) : Inv3 m' s F arms l x T :=
  ⟨h.st.app f, nr_move h.nr fun k hk => f.get k (nr_lt h.nr k hk) (by simp), h.dj, h.kn⟩
/-- Behind a call on the store. -/
theorem nr_after {m m' : Mem} {s : Nat} {F F' : List Nat} {arms : AV} {l : List ND} {x : AV} {T : List Nat} (h : Inv3 m s F arms l x T) (f : Fr m m' F) (g : Gr m F F') : NR 39 m' x l T ∧ ∀ k ∈ F', k ∉ T :=
  ⟨nr_move h.nr fun k hk => f.get k (nr_lt h.nr k hk) (fun hF => h.dj k hF hk), fun k hk hT => by
    rcases g k hk with h1 | h1
    · exact h.dj k h1 hT
    · have := nr_lt h.nr k hT; omega⟩
theorem kidsNe_ins {l : List ND} (h : kidsNe l) {n : ND} (hn : ¬ n.var < 0 → n.kids ≠ []) : kidsNe (ins l n) := by
  unfold ins
  split
  · exact h
  · intro x hx
    rcases List.mem_append.1 hx with hx | hx
    · exact h x hx
    · obtain rfl : x = n := by simpa using hx
      exact hn
theorem ins_len (l : List ND) (n : ND) : (ins l n).length ≤ l.length + 1 := by unfold ins; split <;> simp
/-- The law's own row follows. -/
theorem both_put {m m2 : Mem} {s : Nat} {F F2 : List Nat} {arms : AV} {l : List ND} {x : AV} {T : List Nat} (h : Inv3 m s F arms l x T) {n : ND} (hn : n.ok) (hne : ¬ n.var < 0 → n.kids ≠ []) {z : Bool} {o : Own} (hk : stripA (.lst none z o (n.kids.map (AV.int .i64))) = kidsA n) (hl : l.length ≤ 1000)
    (k1 : St8 m2 s F2 arms 4000 (ins l n)) (f : Fr m m2 F) (g : Gr m F F2) :
    ∃ m3 x3 T3, AC cfg 16 [x, .agg [.int .i64 n.var, .lst none z o (n.kids.map (AV.int .i64)), .int .i64 n.leaf]] m2 = some (.tup [x3, .int .i64 (l.idxOf n : Nat)], m3) ∧ Inv3 m3 s F2 arms (ins l n) x3 T3 ∧ Fr m2 m3 T := by
  obtain ⟨n1, n2⟩ := nr_after h f g
  obtain ⟨m3, x3, T3, e, a1, a2, a3⟩ := A16 n1 h.st.ok hn hk (by omega)
  refine ⟨m3, x3, T3, e, ⟨k1.fr a2 n2, a1, fun k hk hT => ?_, kidsNe_ins h.kn hne⟩, a2⟩
  rcases a3 k hT with h1 | h1
  · exact n2 k hk h1
  · have := k1.lt k hk; omega
theorem W3 {z zs zl : Bool} {o os ol : Own} {ar : List Int} {s : Nat} (har : armsE ar = 0) (sts : List SP) (hz : ∀ x ∈ sts, x.kz = true → x.kids = []) (hlen : sts.length ≤ 60) (fin : ∀ m F x l T, Inv3 m s F (IA zs os ar) l x T → l.length ≤ 60 → ∃ m', K3_10 (finK cfg.P f3.results.toList) (.exit 0) (O3_10 (.ptr s 0) x m) = some (.bool true, m')) :
    ∀ (j i : Nat) (m : Mem) (F : List Nat) (l : List ND) (x : AV) (T : List Nat), i + j = sts.length → Inv3 m s F (IA zs os ar) l x T → l.length ≤ i →
      ∃ m', L3_10 (IA z o ar) (.ptr s 0) x (SL zl ol sts) (.int .i64 sts.length) (.int .i64 i) m (K3_10 (finK cfg.P f3.results.toList)) = some (.bool true, m') := by
  obtain ⟨har1, har2⟩ := armsE_ok har
  intro j
  induction j with
  | zero =>
    intro i m F l x T hi h hl
    rw [L3_10_eq, n_lss, Option.bind_some, ifA_dec, if_neg (by omega)]
    exact fin m F x l T h (by omega)
  | succ j ih =>
    intro i m F l x T hi h hl
    have hil : i < sts.length := by omega
    have hix := idx_SL (z := zl) (o := ol) hil
    have hzi := hz _ (List.getElem_mem hil)
    generalize sts[i] = sp at hix hzi
    obtain ⟨kind, a, kz, kids⟩ := sp
    simp only at hix hzi
    have sn := st_new3 (m := m) (a := .int .i64 0) (b := .int .i64 0) (c := .lst none true .full []) (a' := .int .i64 kind) (b' := .int .i64 a) (c' := IA kz .no kids) rfl
    have h4 := h.app (Fr.app m (some (Ent.obj true [.int .i64 kind, .int .i64 a, IA kz .no kids])) [])
    generalize hm4 : m ++ [some (Ent.obj true [.int .i64 kind, .int .i64 a, IA kz .no kids])] = m4 at sn h4
    have g4 : m4.get m.length = some (Ent.obj true [.int .i64 kind, .int .i64 a, IA kz .no kids]) := by rw [← hm4]; exact (by simp (disch := (first | assumption | omega | (simp only [List.length_append, List.length_set, List.length_cons, List.length_nil]; first | done | omega))) only [resv1, g_lt, g_eq, g_sne, g_seq]; first | done | rfl)
    have l4 : m4.length = m.length + 1 := by rw [← hm4]; simp
    have notF : m.length ∉ F := fun hx => by have := h.st.lt _ hx; omega
    rw [L3_10_eq, n_lss, Option.bind_some, ifA_dec, if_pos hil]
    repeat ((with_reducible (first | apply bs | apply bsy)); (focus (first | (simp (disch := (first | assumption | omega | (simp only [List.length_append, List.length_set, List.length_cons, List.length_nil]; first | done | omega))) only [List.all_cons, List.all_nil, Bool.and_true, Bool.and_self, beq_self_eq_true, resv1, List.length_map, ld_v3, ld_v1, binA_eql, binA_neq, binA_lss, binA_leq, binA_gtr, binA_geq, loadA_one, un_not, ld_ptr, st_ptr, putE1, objE_obj, Option.bind_some, cut1, cut3, cut4, nil_ptr, fa_ptr, g_lt, g_eq, g_sne, g_seq, new_n, box_n, List.getElem?_cons_zero, List.getElem?_cons_succ, ex0, ex1, Sh.size, cells_int, aok_int, cells_bool, aok_bool, cells_str, aok_str, cells_lst, aok_lst, cells_ptr, aok_ptr, cells_arr, aok_arr, cells_fn, aok_fn, cells_mref, aok_mref, cells_nilp, aok_nilp, cells_agg, shOk_n, shOk_s, lenA_lst, List.length_cons, List.length_nil, if_true, putAt, List.take_succ_cons, List.take_zero, List.drop_succ_cons, List.drop_zero, List.cons_append, List.nil_append, List.append_nil, Nat.zero_add, Nat.reduceAdd, Nat.reduceLeDiff, Nat.le_refl, List.drop_nil, List.take_nil, List.length_append, List.length_set, hix, sn, g4, rem2]; first | done | rfl) | rfl)); try dsimp only)
    rw [ifA_dec]
    by_cases hk : kind.tmod 2 = 0
    · rw [if_pos hk]
      obtain ⟨m2, F2, e15, k1, k2, k3⟩ := A15 h4.st a (by omega) (by omega)
      have g2 : m2.get m.length = some (Ent.obj true [.int .i64 kind, .int .i64 a, IA kz .no kids]) := (k2.get _ (by omega) notF).trans g4
      by_cases ha : 0 ≤ a ∧ a ≤ 2147483647
      · rw [leafR, if_pos ha] at e15 k1
        dsimp only at e15 k1
        obtain ⟨m3, x3, T3, e16, k4, k5⟩ := both_put h4 (leafN_ok ha) (fun hv => absurd (show (-1 : Int) < 0 by decide) hv) (z := true) (o := .full) rfl (by omega) k1 k2 k3
        have e16 : AC cfg 16 [x, .agg [.int .i64 (-1), .lst none true .full [], .int .i64 a]] m2 = _ := e16
        have e20 := A20 k4.st (by omega)
        have hb : buildA (.agg [(.int .i64 0), (.lst none true .full []), (.int .i64 0)]) [(0, none, (.int .i64 (-1))), (2, none, .int .i64 a)] = some (.agg [.int .i64 (-1), .lst none true .full [], .int .i64 a]) := rfl
        repeat ((with_reducible (first | apply bs | apply bsy)); (focus (first | (simp (disch := (first | assumption | omega | (simp only [List.length_append, List.length_set, List.length_cons, List.length_nil]; first | done | omega))) only [List.all_cons, List.all_nil, Bool.and_true, Bool.and_self, beq_self_eq_true, resv1, List.length_map, ld_v3, ld_v1, binA_eql, binA_neq, binA_lss, binA_leq, binA_gtr, binA_geq, loadA_one, un_not, ld_ptr, st_ptr, putE1, objE_obj, Option.bind_some, cut1, cut3, cut4, nil_ptr, fa_ptr, g_lt, g_eq, g_sne, g_seq, new_n, box_n, List.getElem?_cons_zero, List.getElem?_cons_succ, ex0, ex1, Sh.size, cells_int, aok_int, cells_bool, aok_bool, cells_str, aok_str, cells_lst, aok_lst, cells_ptr, aok_ptr, cells_arr, aok_arr, cells_fn, aok_fn, cells_mref, aok_mref, cells_nilp, aok_nilp, cells_agg, shOk_n, shOk_s, lenA_lst, List.length_cons, List.length_nil, if_true, putAt, List.take_succ_cons, List.take_zero, List.drop_succ_cons, List.drop_zero, List.cons_append, List.nil_append, List.append_nil, Nat.zero_add, Nat.reduceAdd, Nat.reduceLeDiff, Nat.le_refl, List.drop_nil, List.take_nil, List.length_append, List.length_set, g4, e15, g2]; first | done | rfl) | rfl)); try dsimp only)
        rw [ifA_dec, if_pos ha.1]
        repeat ((with_reducible (first | apply bs | apply bsy)); (focus (first | (simp (disch := (first | assumption | omega | (simp only [List.length_append, List.length_set, List.length_cons, List.length_nil]; first | done | omega))) only [List.all_cons, List.all_nil, Bool.and_true, Bool.and_self, beq_self_eq_true, resv1, List.length_map, ld_v3, ld_v1, binA_eql, binA_neq, binA_lss, binA_leq, binA_gtr, binA_geq, loadA_one, un_not, ld_ptr, st_ptr, putE1, objE_obj, Option.bind_some, cut1, cut3, cut4, nil_ptr, fa_ptr, g_lt, g_eq, g_sne, g_seq, new_n, box_n, List.getElem?_cons_zero, List.getElem?_cons_succ, ex0, ex1, Sh.size, cells_int, aok_int, cells_bool, aok_bool, cells_str, aok_str, cells_lst, aok_lst, cells_ptr, aok_ptr, cells_arr, aok_arr, cells_fn, aok_fn, cells_mref, aok_mref, cells_nilp, aok_nilp, cells_agg, shOk_n, shOk_s, lenA_lst, List.length_cons, List.length_nil, if_true, putAt, List.take_succ_cons, List.take_zero, List.drop_succ_cons, List.drop_zero, List.cons_append, List.nil_append, List.append_nil, Nat.zero_add, Nat.reduceAdd, Nat.reduceLeDiff, Nat.le_refl, List.drop_nil, List.take_nil, List.length_append, List.length_set, g2]; first | done | rfl) | rfl)); try dsimp only)
        rw [ifA_dec, if_pos ha.2]
        repeat ((with_reducible (first | apply bs | apply bsy)); (focus (first | (simp (disch := (first | assumption | omega | (simp only [List.length_append, List.length_set, List.length_cons, List.length_nil]; first | done | omega))) only [List.all_cons, List.all_nil, Bool.and_true, Bool.and_self, beq_self_eq_true, resv1, List.length_map, ld_v3, ld_v1, binA_eql, binA_neq, binA_lss, binA_leq, binA_gtr, binA_geq, loadA_one, un_not, ld_ptr, st_ptr, putE1, objE_obj, Option.bind_some, cut1, cut3, cut4, nil_ptr, fa_ptr, g_lt, g_eq, g_sne, g_seq, new_n, box_n, List.getElem?_cons_zero, List.getElem?_cons_succ, ex0, ex1, Sh.size, cells_int, aok_int, cells_bool, aok_bool, cells_str, aok_str, cells_lst, aok_lst, cells_ptr, aok_ptr, cells_arr, aok_arr, cells_fn, aok_fn, cells_mref, aok_mref, cells_nilp, aok_nilp, cells_agg, shOk_n, shOk_s, lenA_lst, List.length_cons, List.length_nil, if_true, putAt, List.take_succ_cons, List.take_zero, List.drop_succ_cons, List.drop_zero, List.cons_append, List.nil_append, List.append_nil, Nat.zero_add, Nat.reduceAdd, Nat.reduceLeDiff, Nat.le_refl, List.drop_nil, List.take_nil, List.length_append, List.length_set, g2, hb, e16]; first | done | rfl) | rfl)); try dsimp only)
        rw [ifA_dec, if_neg (by simp)]
        repeat ((with_reducible (first | apply bs | apply bsy)); (focus (first | (simp (disch := (first | assumption | omega | (simp only [List.length_append, List.length_set, List.length_cons, List.length_nil]; first | done | omega))) only [List.all_cons, List.all_nil, Bool.and_true, Bool.and_self, beq_self_eq_true, resv1, List.length_map, ld_v3, ld_v1, binA_eql, binA_neq, binA_lss, binA_leq, binA_gtr, binA_geq, loadA_one, un_not, ld_ptr, st_ptr, putE1, objE_obj, Option.bind_some, cut1, cut3, cut4, nil_ptr, fa_ptr, g_lt, g_eq, g_sne, g_seq, new_n, box_n, List.getElem?_cons_zero, List.getElem?_cons_succ, ex0, ex1, Sh.size, cells_int, aok_int, cells_bool, aok_bool, cells_str, aok_str, cells_lst, aok_lst, cells_ptr, aok_ptr, cells_arr, aok_arr, cells_fn, aok_fn, cells_mref, aok_mref, cells_nilp, aok_nilp, cells_agg, shOk_n, shOk_s, lenA_lst, List.length_cons, List.length_nil, if_true, putAt, List.take_succ_cons, List.take_zero, List.drop_succ_cons, List.drop_zero, List.cons_append, List.nil_append, List.append_nil, Nat.zero_add, Nat.reduceAdd, Nat.reduceLeDiff, Nat.le_refl, List.drop_nil, List.take_nil, List.length_append, List.length_set]; first | done | rfl) | rfl)); try dsimp only)
        rw [ifA_dec, if_neg (by simp)]
        repeat ((with_reducible (first | apply bs | apply bsy)); (focus (first | (simp (disch := (first | assumption | omega | (simp only [List.length_append, List.length_set, List.length_cons, List.length_nil]; first | done | omega))) only [List.all_cons, List.all_nil, Bool.and_true, Bool.and_self, beq_self_eq_true, resv1, List.length_map, ld_v3, ld_v1, binA_eql, binA_neq, binA_lss, binA_leq, binA_gtr, binA_geq, loadA_one, un_not, ld_ptr, st_ptr, putE1, objE_obj, Option.bind_some, cut1, cut3, cut4, nil_ptr, fa_ptr, g_lt, g_eq, g_sne, g_seq, new_n, box_n, List.getElem?_cons_zero, List.getElem?_cons_succ, ex0, ex1, Sh.size, cells_int, aok_int, cells_bool, aok_bool, cells_str, aok_str, cells_lst, aok_lst, cells_ptr, aok_ptr, cells_arr, aok_arr, cells_fn, aok_fn, cells_mref, aok_mref, cells_nilp, aok_nilp, cells_agg, shOk_n, shOk_s, lenA_lst, List.length_cons, List.length_nil, if_true, putAt, List.take_succ_cons, List.take_zero, List.drop_succ_cons, List.drop_zero, List.cons_append, List.nil_append, List.append_nil, Nat.zero_add, Nat.reduceAdd, Nat.reduceLeDiff, Nat.le_refl, List.drop_nil, List.take_nil, List.length_append, List.length_set, e20, nr_len k4.nr]; first | done | rfl) | rfl)); try dsimp only)
        rw [ifA_dec, if_neg (by simp), i_add1 (by omega), Option.bind_some]
        exact ih (i + 1) m3 F2 _ x3 T3 (by omega) k4 (by have := ins_len l (leafN a); omega)
      · rw [leafR, if_neg ha] at e15 k1
        dsimp only at e15 k1
        obtain ⟨n1, n2⟩ := nr_after h4 k2 k3
        have e20 := A20 k1 (by omega)
        have nxt := ih (i + 1) m2 F2 l x T (by omega) ⟨k1, n1, n2, h.kn⟩ (by omega)
        have ln := nr_len n1
        repeat ((with_reducible (first | apply bs | apply bsy)); (focus (first | (simp (disch := (first | assumption | omega | (simp only [List.length_append, List.length_set, List.length_cons, List.length_nil]; first | done | omega))) only [List.all_cons, List.all_nil, Bool.and_true, Bool.and_self, beq_self_eq_true, resv1, List.length_map, ld_v3, ld_v1, binA_eql, binA_neq, binA_lss, binA_leq, binA_gtr, binA_geq, loadA_one, un_not, ld_ptr, st_ptr, putE1, objE_obj, Option.bind_some, cut1, cut3, cut4, nil_ptr, fa_ptr, g_lt, g_eq, g_sne, g_seq, new_n, box_n, List.getElem?_cons_zero, List.getElem?_cons_succ, ex0, ex1, Sh.size, cells_int, aok_int, cells_bool, aok_bool, cells_str, aok_str, cells_lst, aok_lst, cells_ptr, aok_ptr, cells_arr, aok_arr, cells_fn, aok_fn, cells_mref, aok_mref, cells_nilp, aok_nilp, cells_agg, shOk_n, shOk_s, lenA_lst, List.length_cons, List.length_nil, if_true, putAt, List.take_succ_cons, List.take_zero, List.drop_succ_cons, List.drop_zero, List.cons_append, List.nil_append, List.append_nil, Nat.zero_add, Nat.reduceAdd, Nat.reduceLeDiff, Nat.le_refl, List.drop_nil, List.take_nil, List.length_append, List.length_set, g4, e15, g2]; first | done | rfl) | rfl)); try dsimp only)
        rw [ifA_dec]
        by_cases ha0 : a ≥ 0
        · rw [if_pos ha0]
          repeat ((with_reducible (first | apply bs | apply bsy)); (focus (first | (simp (disch := (first | assumption | omega | (simp only [List.length_append, List.length_set, List.length_cons, List.length_nil]; first | done | omega))) only [List.all_cons, List.all_nil, Bool.and_true, Bool.and_self, beq_self_eq_true, resv1, List.length_map, ld_v3, ld_v1, binA_eql, binA_neq, binA_lss, binA_leq, binA_gtr, binA_geq, loadA_one, un_not, ld_ptr, st_ptr, putE1, objE_obj, Option.bind_some, cut1, cut3, cut4, nil_ptr, fa_ptr, g_lt, g_eq, g_sne, g_seq, new_n, box_n, List.getElem?_cons_zero, List.getElem?_cons_succ, ex0, ex1, Sh.size, cells_int, aok_int, cells_bool, aok_bool, cells_str, aok_str, cells_lst, aok_lst, cells_ptr, aok_ptr, cells_arr, aok_arr, cells_fn, aok_fn, cells_mref, aok_mref, cells_nilp, aok_nilp, cells_agg, shOk_n, shOk_s, lenA_lst, List.length_cons, List.length_nil, if_true, putAt, List.take_succ_cons, List.take_zero, List.drop_succ_cons, List.drop_zero, List.cons_append, List.nil_append, List.append_nil, Nat.zero_add, Nat.reduceAdd, Nat.reduceLeDiff, Nat.le_refl, List.drop_nil, List.take_nil, List.length_append, List.length_set, g2]; first | done | rfl) | rfl)); try dsimp only)
          rw [ifA_dec, if_neg (by omega)]
          repeat ((with_reducible (first | apply bs | apply bsy)); (focus (first | (simp (disch := (first | assumption | omega | (simp only [List.length_append, List.length_set, List.length_cons, List.length_nil]; first | done | omega))) only [List.all_cons, List.all_nil, Bool.and_true, Bool.and_self, beq_self_eq_true, resv1, List.length_map, ld_v3, ld_v1, binA_eql, binA_neq, binA_lss, binA_leq, binA_gtr, binA_geq, loadA_one, un_not, ld_ptr, st_ptr, putE1, objE_obj, Option.bind_some, cut1, cut3, cut4, nil_ptr, fa_ptr, g_lt, g_eq, g_sne, g_seq, new_n, box_n, List.getElem?_cons_zero, List.getElem?_cons_succ, ex0, ex1, Sh.size, cells_int, aok_int, cells_bool, aok_bool, cells_str, aok_str, cells_lst, aok_lst, cells_ptr, aok_ptr, cells_arr, aok_arr, cells_fn, aok_fn, cells_mref, aok_mref, cells_nilp, aok_nilp, cells_agg, shOk_n, shOk_s, lenA_lst, List.length_cons, List.length_nil, if_true, putAt, List.take_succ_cons, List.take_zero, List.drop_succ_cons, List.drop_zero, List.cons_append, List.nil_append, List.append_nil, Nat.zero_add, Nat.reduceAdd, Nat.reduceLeDiff, Nat.le_refl, List.drop_nil, List.take_nil, List.length_append, List.length_set]; first | done | rfl) | rfl)); try dsimp only)
          rw [ifA_dec, if_neg (by simp)]
          repeat ((with_reducible (first | apply bs | apply bsy)); (focus (first | (simp (disch := (first | assumption | omega | (simp only [List.length_append, List.length_set, List.length_cons, List.length_nil]; first | done | omega))) only [List.all_cons, List.all_nil, Bool.and_true, Bool.and_self, beq_self_eq_true, resv1, List.length_map, ld_v3, ld_v1, binA_eql, binA_neq, binA_lss, binA_leq, binA_gtr, binA_geq, loadA_one, un_not, ld_ptr, st_ptr, putE1, objE_obj, Option.bind_some, cut1, cut3, cut4, nil_ptr, fa_ptr, g_lt, g_eq, g_sne, g_seq, new_n, box_n, List.getElem?_cons_zero, List.getElem?_cons_succ, ex0, ex1, Sh.size, cells_int, aok_int, cells_bool, aok_bool, cells_str, aok_str, cells_lst, aok_lst, cells_ptr, aok_ptr, cells_arr, aok_arr, cells_fn, aok_fn, cells_mref, aok_mref, cells_nilp, aok_nilp, cells_agg, shOk_n, shOk_s, lenA_lst, List.length_cons, List.length_nil, if_true, putAt, List.take_succ_cons, List.take_zero, List.drop_succ_cons, List.drop_zero, List.cons_append, List.nil_append, List.append_nil, Nat.zero_add, Nat.reduceAdd, Nat.reduceLeDiff, Nat.le_refl, List.drop_nil, List.take_nil, List.length_append, List.length_set]; first | done | rfl) | rfl)); try dsimp only)
          rw [ifA_dec, if_neg (by simp)]
          repeat ((with_reducible (first | apply bs | apply bsy)); (focus (first | (simp (disch := (first | assumption | omega | (simp only [List.length_append, List.length_set, List.length_cons, List.length_nil]; first | done | omega))) only [List.all_cons, List.all_nil, Bool.and_true, Bool.and_self, beq_self_eq_true, resv1, List.length_map, ld_v3, ld_v1, binA_eql, binA_neq, binA_lss, binA_leq, binA_gtr, binA_geq, loadA_one, un_not, ld_ptr, st_ptr, putE1, objE_obj, Option.bind_some, cut1, cut3, cut4, nil_ptr, fa_ptr, g_lt, g_eq, g_sne, g_seq, new_n, box_n, List.getElem?_cons_zero, List.getElem?_cons_succ, ex0, ex1, Sh.size, cells_int, aok_int, cells_bool, aok_bool, cells_str, aok_str, cells_lst, aok_lst, cells_ptr, aok_ptr, cells_arr, aok_arr, cells_fn, aok_fn, cells_mref, aok_mref, cells_nilp, aok_nilp, cells_agg, shOk_n, shOk_s, lenA_lst, List.length_cons, List.length_nil, if_true, putAt, List.take_succ_cons, List.take_zero, List.drop_succ_cons, List.drop_zero, List.cons_append, List.nil_append, List.append_nil, Nat.zero_add, Nat.reduceAdd, Nat.reduceLeDiff, Nat.le_refl, List.drop_nil, List.take_nil, List.length_append, List.length_set, e20, ln]; first | done | rfl) | rfl)); try dsimp only)
          rw [ifA_dec, if_neg (by simp), i_add1 (by omega), Option.bind_some]
          exact nxt
        · rw [if_neg ha0]
          repeat ((with_reducible (first | apply bs | apply bsy)); (focus (first | (simp (disch := (first | assumption | omega | (simp only [List.length_append, List.length_set, List.length_cons, List.length_nil]; first | done | omega))) only [List.all_cons, List.all_nil, Bool.and_true, Bool.and_self, beq_self_eq_true, resv1, List.length_map, ld_v3, ld_v1, binA_eql, binA_neq, binA_lss, binA_leq, binA_gtr, binA_geq, loadA_one, un_not, ld_ptr, st_ptr, putE1, objE_obj, Option.bind_some, cut1, cut3, cut4, nil_ptr, fa_ptr, g_lt, g_eq, g_sne, g_seq, new_n, box_n, List.getElem?_cons_zero, List.getElem?_cons_succ, ex0, ex1, Sh.size, cells_int, aok_int, cells_bool, aok_bool, cells_str, aok_str, cells_lst, aok_lst, cells_ptr, aok_ptr, cells_arr, aok_arr, cells_fn, aok_fn, cells_mref, aok_mref, cells_nilp, aok_nilp, cells_agg, shOk_n, shOk_s, lenA_lst, List.length_cons, List.length_nil, if_true, putAt, List.take_succ_cons, List.take_zero, List.drop_succ_cons, List.drop_zero, List.cons_append, List.nil_append, List.append_nil, Nat.zero_add, Nat.reduceAdd, Nat.reduceLeDiff, Nat.le_refl, List.drop_nil, List.take_nil, List.length_append, List.length_set]; first | done | rfl) | rfl)); try dsimp only)
          rw [ifA_dec, if_neg (by simp)]
          repeat ((with_reducible (first | apply bs | apply bsy)); (focus (first | (simp (disch := (first | assumption | omega | (simp only [List.length_append, List.length_set, List.length_cons, List.length_nil]; first | done | omega))) only [List.all_cons, List.all_nil, Bool.and_true, Bool.and_self, beq_self_eq_true, resv1, List.length_map, ld_v3, ld_v1, binA_eql, binA_neq, binA_lss, binA_leq, binA_gtr, binA_geq, loadA_one, un_not, ld_ptr, st_ptr, putE1, objE_obj, Option.bind_some, cut1, cut3, cut4, nil_ptr, fa_ptr, g_lt, g_eq, g_sne, g_seq, new_n, box_n, List.getElem?_cons_zero, List.getElem?_cons_succ, ex0, ex1, Sh.size, cells_int, aok_int, cells_bool, aok_bool, cells_str, aok_str, cells_lst, aok_lst, cells_ptr, aok_ptr, cells_arr, aok_arr, cells_fn, aok_fn, cells_mref, aok_mref, cells_nilp, aok_nilp, cells_agg, shOk_n, shOk_s, lenA_lst, List.length_cons, List.length_nil, if_true, putAt, List.take_succ_cons, List.take_zero, List.drop_succ_cons, List.drop_zero, List.cons_append, List.nil_append, List.append_nil, Nat.zero_add, Nat.reduceAdd, Nat.reduceLeDiff, Nat.le_refl, List.drop_nil, List.take_nil, List.length_append, List.length_set]; first | done | rfl) | rfl)); try dsimp only)
          rw [ifA_dec, if_neg (by simp)]
          repeat ((with_reducible (first | apply bs | apply bsy)); (focus (first | (simp (disch := (first | assumption | omega | (simp only [List.length_append, List.length_set, List.length_cons, List.length_nil]; first | done | omega))) only [List.all_cons, List.all_nil, Bool.and_true, Bool.and_self, beq_self_eq_true, resv1, List.length_map, ld_v3, ld_v1, binA_eql, binA_neq, binA_lss, binA_leq, binA_gtr, binA_geq, loadA_one, un_not, ld_ptr, st_ptr, putE1, objE_obj, Option.bind_some, cut1, cut3, cut4, nil_ptr, fa_ptr, g_lt, g_eq, g_sne, g_seq, new_n, box_n, List.getElem?_cons_zero, List.getElem?_cons_succ, ex0, ex1, Sh.size, cells_int, aok_int, cells_bool, aok_bool, cells_str, aok_str, cells_lst, aok_lst, cells_ptr, aok_ptr, cells_arr, aok_arr, cells_fn, aok_fn, cells_mref, aok_mref, cells_nilp, aok_nilp, cells_agg, shOk_n, shOk_s, lenA_lst, List.length_cons, List.length_nil, if_true, putAt, List.take_succ_cons, List.take_zero, List.drop_succ_cons, List.drop_zero, List.cons_append, List.nil_append, List.append_nil, Nat.zero_add, Nat.reduceAdd, Nat.reduceLeDiff, Nat.le_refl, List.drop_nil, List.take_nil, List.length_append, List.length_set, e20, ln]; first | done | rfl) | rfl)); try dsimp only)
          rw [ifA_dec, if_neg (by simp), i_add1 (by omega), Option.bind_some]
          exact nxt
    · rw [if_neg hk]
      have hmin : maxA false (.int .i64 kids.length) (.int .i64 70) = some (.int .i64 (min kids.length 70 : Nat)) := by
        simp only [maxA, if_true, Bool.false_eq_true, if_false]
        congr 2
        split <;> omega
      have hsl := slice_IA kz .no kids .i64 (min kids.length 70) (by omega)
      have hkz : kz = true → kids.take (min kids.length 70) = [] := fun h => by rw [hzi h]; rfl
      have hkl : (kids.take (min kids.length 70)).length ≤ 70 := by rw [List.length_take]; omega
      generalize kids.take (min kids.length 70) = ks at hsl hkz hkl
      obtain ⟨m2, F2, e17, k1, k2, k3⟩ := A17 (kz := kz) (ko := .no) (ks := ks) h4.st a hkz har2 har1 (by omega) (by omega) (by omega)
      have g2 : m2.get m.length = some (Ent.obj true [.int .i64 kind, .int .i64 a, IA kz .no kids]) := (k2.get _ (by omega) notF).trans g4
      obtain ⟨x1, hx0, hx1, hx2⟩ := nr_fz h.nr
      have e18 := fun m => pc18 z kz o .no ar l x x1 hx0 hx1 hx2 a ks h.st.ok ⟨by omega, by omega⟩ none m
      repeat ((with_reducible (first | apply bs | apply bsy)); (focus (first | (simp (disch := (first | assumption | omega | (simp only [List.length_append, List.length_set, List.length_cons, List.length_nil]; first | done | omega))) only [List.all_cons, List.all_nil, Bool.and_true, Bool.and_self, beq_self_eq_true, resv1, List.length_map, ld_v3, ld_v1, binA_eql, binA_neq, binA_lss, binA_leq, binA_gtr, binA_geq, loadA_one, un_not, ld_ptr, st_ptr, putE1, objE_obj, Option.bind_some, cut1, cut3, cut4, nil_ptr, fa_ptr, g_lt, g_eq, g_sne, g_seq, new_n, box_n, List.getElem?_cons_zero, List.getElem?_cons_succ, ex0, ex1, Sh.size, cells_int, aok_int, cells_bool, aok_bool, cells_str, aok_str, cells_lst, aok_lst, cells_ptr, aok_ptr, cells_arr, aok_arr, cells_fn, aok_fn, cells_mref, aok_mref, cells_nilp, aok_nilp, cells_agg, shOk_n, shOk_s, lenA_lst, List.length_cons, List.length_nil, if_true, putAt, List.take_succ_cons, List.take_zero, List.drop_succ_cons, List.drop_zero, List.cons_append, List.nil_append, List.append_nil, Nat.zero_add, Nat.reduceAdd, Nat.reduceLeDiff, Nat.le_refl, List.drop_nil, List.take_nil, List.length_append, List.length_set, g4, hmin, hsl, e17, g2, e18]; first | done | rfl) | rfl)); try dsimp only)
      rw [makeR_eq] at k1 ⊢
      by_cases hm : mayB ar l a ks = true
      · rw [if_pos hm] at k1 ⊢
        dsimp only at k1 ⊢
        have hm' := hm
        unfold mayB at hm
        simp only [Bool.and_eq_true, decide_eq_true_eq] at hm
        obtain ⟨⟨ha0, ha1, hal⟩, hall⟩ := hm
        obtain ⟨t, rfl⟩ := Int.eq_ofNat_of_zero_le ha0
        have ht : t < ar.length := by omega
        have hai : ar.getD ((t : Int).toNat) 0 = ar[t] := by rw [Int.toNat_natCast, List.getD_eq_getElem?_getD, List.getElem?_eq_getElem ht, Option.getD_some]
        have hab := har2 ar[t] (List.getElem_mem ht)
        rw [hai] at hal
        have hne : ks ≠ [] := fun e => by rw [e] at hal; simp at hal; omega
        have hkf : kz = false := by cases kz with
          | false => rfl
          | true => exact absurd (hkz rfl) hne
        have e19 := fun m => pc19 kz .no ks hne (by omega) m
        rw [hm', ifA_t]
        repeat ((with_reducible (first | apply bs | apply bsy)); (focus (first | (simp (disch := (first | assumption | omega | (simp only [List.length_append, List.length_set, List.length_cons, List.length_nil]; first | done | omega))) only [List.all_cons, List.all_nil, Bool.and_true, Bool.and_self, beq_self_eq_true, resv1, List.length_map, ld_v3, ld_v1, binA_eql, binA_neq, binA_lss, binA_leq, binA_gtr, binA_geq, loadA_one, un_not, ld_ptr, st_ptr, putE1, objE_obj, Option.bind_some, cut1, cut3, cut4, nil_ptr, fa_ptr, g_lt, g_eq, g_sne, g_seq, new_n, box_n, List.getElem?_cons_zero, List.getElem?_cons_succ, ex0, ex1, Sh.size, cells_int, aok_int, cells_bool, aok_bool, cells_str, aok_str, cells_lst, aok_lst, cells_ptr, aok_ptr, cells_arr, aok_arr, cells_fn, aok_fn, cells_mref, aok_mref, cells_nilp, aok_nilp, cells_agg, shOk_n, shOk_s, lenA_lst, List.length_cons, List.length_nil, if_true, putAt, List.take_succ_cons, List.take_zero, List.drop_succ_cons, List.drop_zero, List.cons_append, List.nil_append, List.append_nil, Nat.zero_add, Nat.reduceAdd, Nat.reduceLeDiff, Nat.le_refl, List.drop_nil, List.take_nil, List.length_append, List.length_set, e19]; first | done | rfl) | rfl)); try dsimp only)
        obtain ⟨k0, kt, rfl⟩ := List.exists_cons_of_ne_nil hne
        rw [List.headD_cons]
        rw [nodeR_cons] at k1 ⊢
        have i0 := idx_IA0 (z := kz) (o := .no) (k := .i64) (ns := k0 :: kt) (by simp)
        by_cases hq : ((k0 :: kt).all fun k => k == k0) = true
        · rw [if_pos hq] at k1 ⊢
          dsimp only at k1 ⊢
          obtain ⟨n1, n2⟩ := nr_after h4 k2 k3
          have e20 := A20 k1 (by omega)
          have ln := nr_len n1
          rw [hq, ifA_t]
          repeat ((with_reducible (first | apply bs | apply bsy)); (focus (first | (simp (disch := (first | assumption | omega | (simp only [List.length_append, List.length_set, List.length_cons, List.length_nil]; first | done | omega))) only [List.all_cons, List.all_nil, Bool.and_true, Bool.and_self, beq_self_eq_true, resv1, List.length_map, ld_v3, ld_v1, binA_eql, binA_neq, binA_lss, binA_leq, binA_gtr, binA_geq, loadA_one, un_not, ld_ptr, st_ptr, putE1, objE_obj, Option.bind_some, cut1, cut3, cut4, nil_ptr, fa_ptr, g_lt, g_eq, g_sne, g_seq, new_n, box_n, List.getElem?_cons_zero, List.getElem?_cons_succ, ex0, ex1, Sh.size, cells_int, aok_int, cells_bool, aok_bool, cells_str, aok_str, cells_lst, aok_lst, cells_ptr, aok_ptr, cells_arr, aok_arr, cells_fn, aok_fn, cells_mref, aok_mref, cells_nilp, aok_nilp, cells_agg, shOk_n, shOk_s, lenA_lst, List.length_cons, List.length_nil, if_true, putAt, List.take_succ_cons, List.take_zero, List.drop_succ_cons, List.drop_zero, List.cons_append, List.nil_append, List.append_nil, Nat.zero_add, Nat.reduceAdd, Nat.reduceLeDiff, Nat.le_refl, List.drop_nil, List.take_nil, List.length_append, List.length_set, i0]; first | done | rfl) | rfl)); try dsimp only)
          rw [ifA_dec, if_neg (by simp)]
          repeat ((with_reducible (first | apply bs | apply bsy)); (focus (first | (simp (disch := (first | assumption | omega | (simp only [List.length_append, List.length_set, List.length_cons, List.length_nil]; first | done | omega))) only [List.all_cons, List.all_nil, Bool.and_true, Bool.and_self, beq_self_eq_true, resv1, List.length_map, ld_v3, ld_v1, binA_eql, binA_neq, binA_lss, binA_leq, binA_gtr, binA_geq, loadA_one, un_not, ld_ptr, st_ptr, putE1, objE_obj, Option.bind_some, cut1, cut3, cut4, nil_ptr, fa_ptr, g_lt, g_eq, g_sne, g_seq, new_n, box_n, List.getElem?_cons_zero, List.getElem?_cons_succ, ex0, ex1, Sh.size, cells_int, aok_int, cells_bool, aok_bool, cells_str, aok_str, cells_lst, aok_lst, cells_ptr, aok_ptr, cells_arr, aok_arr, cells_fn, aok_fn, cells_mref, aok_mref, cells_nilp, aok_nilp, cells_agg, shOk_n, shOk_s, lenA_lst, List.length_cons, List.length_nil, if_true, putAt, List.take_succ_cons, List.take_zero, List.drop_succ_cons, List.drop_zero, List.cons_append, List.nil_append, List.append_nil, Nat.zero_add, Nat.reduceAdd, Nat.reduceLeDiff, Nat.le_refl, List.drop_nil, List.take_nil, List.length_append, List.length_set]; first | done | rfl) | rfl)); try dsimp only)
          rw [ifA_dec, if_neg (by simp)]
          repeat ((with_reducible (first | apply bs | apply bsy)); (focus (first | (simp (disch := (first | assumption | omega | (simp only [List.length_append, List.length_set, List.length_cons, List.length_nil]; first | done | omega))) only [List.all_cons, List.all_nil, Bool.and_true, Bool.and_self, beq_self_eq_true, resv1, List.length_map, ld_v3, ld_v1, binA_eql, binA_neq, binA_lss, binA_leq, binA_gtr, binA_geq, loadA_one, un_not, ld_ptr, st_ptr, putE1, objE_obj, Option.bind_some, cut1, cut3, cut4, nil_ptr, fa_ptr, g_lt, g_eq, g_sne, g_seq, new_n, box_n, List.getElem?_cons_zero, List.getElem?_cons_succ, ex0, ex1, Sh.size, cells_int, aok_int, cells_bool, aok_bool, cells_str, aok_str, cells_lst, aok_lst, cells_ptr, aok_ptr, cells_arr, aok_arr, cells_fn, aok_fn, cells_mref, aok_mref, cells_nilp, aok_nilp, cells_agg, shOk_n, shOk_s, lenA_lst, List.length_cons, List.length_nil, if_true, putAt, List.take_succ_cons, List.take_zero, List.drop_succ_cons, List.drop_zero, List.cons_append, List.nil_append, List.append_nil, Nat.zero_add, Nat.reduceAdd, Nat.reduceLeDiff, Nat.le_refl, List.drop_nil, List.take_nil, List.length_append, List.length_set, e20, ln]; first | done | rfl) | rfl)); try dsimp only)
          rw [ifA_dec, if_neg (by simp), i_add1 (by omega), Option.bind_some]
          exact ih (i + 1) m2 F2 l x T (by omega) ⟨k1, n1, n2, h.kn⟩ (by omega)
        · rw [if_neg hq] at k1 ⊢
          dsimp only at k1 ⊢
          have hq' : ((k0 :: kt).all fun k => k == k0) = false := by simpa using hq
          rw [hq', ifA_f]
          obtain ⟨o', m3, ea, f3, ho⟩ := app_ints m2 kz .no (k0 :: kt) (by omega)
          have ho : o' = .tok m2.length 3 := ho.resolve_left (fun h => by cases h.2)
          have g3 : m3.get m.length = some (Ent.obj true [.int .i64 kind, .int .i64 t, IA kz .no kids]) := (f3.get _ (get_lt g2) (by simp)).trans g2
          have hn : (nodeN t (k0 :: kt)).ok := by
            refine .inr ⟨by simp only [nodeN]; omega, by simp only [nodeN]; omega, rfl, fun k hk' => ?_, by simp only [nodeN]; omega⟩
            have := List.all_eq_true.1 hall k hk'
            unfold kidOk at this
            simp only [Bool.and_eq_true, decide_eq_true_eq] at this
            omega
          have hv : ¬ (nodeN t (k0 :: kt)).var < 0 := by simp only [nodeN]; omega
          have hstr : stripA (.lst none false o' (((nodeN t (k0 :: kt)).kids).map (AV.int .i64))) = kidsA (nodeN t (k0 :: kt)) := by
            unfold kidsA
            rw [if_neg hv, ho]; rfl
          obtain ⟨m5, x5, T5, e16, k4, k5⟩ := both_put h4 hn (fun _ => by simp [nodeN]) hstr (by omega) (k1.app f3) (Fr.trans k2 f3 fun _ h => by cases h) k3
          have e16 : AC cfg 16 [x, .agg [.int .i64 t, IA false o' (k0 :: kt), .int .i64 0]] m3 = _ := e16
          have e20 := A20 k4.st (by omega)
          have hb : buildA (.agg [(.int .i64 0), (.lst none true .full []), (.int .i64 0)]) [(0, none, .int .i64 t), (1, none, IA false o' (k0 :: kt))] = some (.agg [.int .i64 t, IA false o' (k0 :: kt), .int .i64 0]) := rfl
          have hbs0 : buildSliceA none [] = some (.lst none false .full []) := rfl
          repeat ((with_reducible (first | apply bs | apply bsy)); (focus (first | (simp (disch := (first | assumption | omega | (simp only [List.length_append, List.length_set, List.length_cons, List.length_nil]; first | done | omega))) only [List.all_cons, List.all_nil, Bool.and_true, Bool.and_self, beq_self_eq_true, resv1, List.length_map, ld_v3, ld_v1, binA_eql, binA_neq, binA_lss, binA_leq, binA_gtr, binA_geq, loadA_one, un_not, ld_ptr, st_ptr, putE1, objE_obj, Option.bind_some, cut1, cut3, cut4, nil_ptr, fa_ptr, g_lt, g_eq, g_sne, g_seq, new_n, box_n, List.getElem?_cons_zero, List.getElem?_cons_succ, ex0, ex1, Sh.size, cells_int, aok_int, cells_bool, aok_bool, cells_str, aok_str, cells_lst, aok_lst, cells_ptr, aok_ptr, cells_arr, aok_arr, cells_fn, aok_fn, cells_mref, aok_mref, cells_nilp, aok_nilp, cells_agg, shOk_n, shOk_s, lenA_lst, List.length_cons, List.length_nil, if_true, putAt, List.take_succ_cons, List.take_zero, List.drop_succ_cons, List.drop_zero, List.cons_append, List.nil_append, List.append_nil, Nat.zero_add, Nat.reduceAdd, Nat.reduceLeDiff, Nat.le_refl, List.drop_nil, List.take_nil, List.length_append, List.length_set, g2, hbs0, ea]; first | done | rfl) | rfl)); try dsimp only)
          rw [ifP_pos (by simp only [new_n, ld_ptr, g3, objE_obj, Option.bind_some]; rfl)]
          repeat ((with_reducible (first | apply bs | apply bsy)); (focus (first | (simp (disch := (first | assumption | omega | (simp only [List.length_append, List.length_set, List.length_cons, List.length_nil]; first | done | omega))) only [List.all_cons, List.all_nil, Bool.and_true, Bool.and_self, beq_self_eq_true, resv1, List.length_map, ld_v3, ld_v1, binA_eql, binA_neq, binA_lss, binA_leq, binA_gtr, binA_geq, loadA_one, un_not, ld_ptr, st_ptr, putE1, objE_obj, Option.bind_some, cut1, cut3, cut4, nil_ptr, fa_ptr, g_lt, g_eq, g_sne, g_seq, new_n, box_n, List.getElem?_cons_zero, List.getElem?_cons_succ, ex0, ex1, Sh.size, cells_int, aok_int, cells_bool, aok_bool, cells_str, aok_str, cells_lst, aok_lst, cells_ptr, aok_ptr, cells_arr, aok_arr, cells_fn, aok_fn, cells_mref, aok_mref, cells_nilp, aok_nilp, cells_agg, shOk_n, shOk_s, lenA_lst, List.length_cons, List.length_nil, if_true, putAt, List.take_succ_cons, List.take_zero, List.drop_succ_cons, List.drop_zero, List.cons_append, List.nil_append, List.append_nil, Nat.zero_add, Nat.reduceAdd, Nat.reduceLeDiff, Nat.le_refl, List.drop_nil, List.take_nil, List.length_append, List.length_set, hb, e16]; first | done | rfl) | rfl)); try dsimp only)
          rw [ifA_dec, if_neg (by simp)]
          repeat ((with_reducible (first | apply bs | apply bsy)); (focus (first | (simp (disch := (first | assumption | omega | (simp only [List.length_append, List.length_set, List.length_cons, List.length_nil]; first | done | omega))) only [List.all_cons, List.all_nil, Bool.and_true, Bool.and_self, beq_self_eq_true, resv1, List.length_map, ld_v3, ld_v1, binA_eql, binA_neq, binA_lss, binA_leq, binA_gtr, binA_geq, loadA_one, un_not, ld_ptr, st_ptr, putE1, objE_obj, Option.bind_some, cut1, cut3, cut4, nil_ptr, fa_ptr, g_lt, g_eq, g_sne, g_seq, new_n, box_n, List.getElem?_cons_zero, List.getElem?_cons_succ, ex0, ex1, Sh.size, cells_int, aok_int, cells_bool, aok_bool, cells_str, aok_str, cells_lst, aok_lst, cells_ptr, aok_ptr, cells_arr, aok_arr, cells_fn, aok_fn, cells_mref, aok_mref, cells_nilp, aok_nilp, cells_agg, shOk_n, shOk_s, lenA_lst, List.length_cons, List.length_nil, if_true, putAt, List.take_succ_cons, List.take_zero, List.drop_succ_cons, List.drop_zero, List.cons_append, List.nil_append, List.append_nil, Nat.zero_add, Nat.reduceAdd, Nat.reduceLeDiff, Nat.le_refl, List.drop_nil, List.take_nil, List.length_append, List.length_set]; first | done | rfl) | rfl)); try dsimp only)
          rw [ifA_dec, if_neg (by simp)]
          repeat ((with_reducible (first | apply bs | apply bsy)); (focus (first | (simp (disch := (first | assumption | omega | (simp only [List.length_append, List.length_set, List.length_cons, List.length_nil]; first | done | omega))) only [List.all_cons, List.all_nil, Bool.and_true, Bool.and_self, beq_self_eq_true, resv1, List.length_map, ld_v3, ld_v1, binA_eql, binA_neq, binA_lss, binA_leq, binA_gtr, binA_geq, loadA_one, un_not, ld_ptr, st_ptr, putE1, objE_obj, Option.bind_some, cut1, cut3, cut4, nil_ptr, fa_ptr, g_lt, g_eq, g_sne, g_seq, new_n, box_n, List.getElem?_cons_zero, List.getElem?_cons_succ, ex0, ex1, Sh.size, cells_int, aok_int, cells_bool, aok_bool, cells_str, aok_str, cells_lst, aok_lst, cells_ptr, aok_ptr, cells_arr, aok_arr, cells_fn, aok_fn, cells_mref, aok_mref, cells_nilp, aok_nilp, cells_agg, shOk_n, shOk_s, lenA_lst, List.length_cons, List.length_nil, if_true, putAt, List.take_succ_cons, List.take_zero, List.drop_succ_cons, List.drop_zero, List.cons_append, List.nil_append, List.append_nil, Nat.zero_add, Nat.reduceAdd, Nat.reduceLeDiff, Nat.le_refl, List.drop_nil, List.take_nil, List.length_append, List.length_set, e20, nr_len k4.nr]; first | done | rfl) | rfl)); try dsimp only)
          rw [ifA_dec, if_neg (by simp), i_add1 (by omega), Option.bind_some]
          exact ih (i + 1) m5 F2 _ x5 T5 (by omega) k4 (by have := ins_len l (nodeN t (k0 :: kt)); omega)
      · rw [if_neg hm] at k1 ⊢
        dsimp only at k1 ⊢
        have hm' : mayB ar l a ks = false := by simpa using hm
        obtain ⟨n1, n2⟩ := nr_after h4 k2 k3
        have e20 := A20 k1 (by omega)
        have ln := nr_len n1
        rw [hm', ifA_f]
        repeat ((with_reducible (first | apply bs | apply bsy)); (focus (first | (simp (disch := (first | assumption | omega | (simp only [List.length_append, List.length_set, List.length_cons, List.length_nil]; first | done | omega))) only [List.all_cons, List.all_nil, Bool.and_true, Bool.and_self, beq_self_eq_true, resv1, List.length_map, ld_v3, ld_v1, binA_eql, binA_neq, binA_lss, binA_leq, binA_gtr, binA_geq, loadA_one, un_not, ld_ptr, st_ptr, putE1, objE_obj, Option.bind_some, cut1, cut3, cut4, nil_ptr, fa_ptr, g_lt, g_eq, g_sne, g_seq, new_n, box_n, List.getElem?_cons_zero, List.getElem?_cons_succ, ex0, ex1, Sh.size, cells_int, aok_int, cells_bool, aok_bool, cells_str, aok_str, cells_lst, aok_lst, cells_ptr, aok_ptr, cells_arr, aok_arr, cells_fn, aok_fn, cells_mref, aok_mref, cells_nilp, aok_nilp, cells_agg, shOk_n, shOk_s, lenA_lst, List.length_cons, List.length_nil, if_true, putAt, List.take_succ_cons, List.take_zero, List.drop_succ_cons, List.drop_zero, List.cons_append, List.nil_append, List.append_nil, Nat.zero_add, Nat.reduceAdd, Nat.reduceLeDiff, Nat.le_refl, List.drop_nil, List.take_nil, List.length_append, List.length_set]; first | done | rfl) | rfl)); try dsimp only)
        rw [ifA_dec, if_neg (by simp)]
        repeat ((with_reducible (first | apply bs | apply bsy)); (focus (first | (simp (disch := (first | assumption | omega | (simp only [List.length_append, List.length_set, List.length_cons, List.length_nil]; first | done | omega))) only [List.all_cons, List.all_nil, Bool.and_true, Bool.and_self, beq_self_eq_true, resv1, List.length_map, ld_v3, ld_v1, binA_eql, binA_neq, binA_lss, binA_leq, binA_gtr, binA_geq, loadA_one, un_not, ld_ptr, st_ptr, putE1, objE_obj, Option.bind_some, cut1, cut3, cut4, nil_ptr, fa_ptr, g_lt, g_eq, g_sne, g_seq, new_n, box_n, List.getElem?_cons_zero, List.getElem?_cons_succ, ex0, ex1, Sh.size, cells_int, aok_int, cells_bool, aok_bool, cells_str, aok_str, cells_lst, aok_lst, cells_ptr, aok_ptr, cells_arr, aok_arr, cells_fn, aok_fn, cells_mref, aok_mref, cells_nilp, aok_nilp, cells_agg, shOk_n, shOk_s, lenA_lst, List.length_cons, List.length_nil, if_true, putAt, List.take_succ_cons, List.take_zero, List.drop_succ_cons, List.drop_zero, List.cons_append, List.nil_append, List.append_nil, Nat.zero_add, Nat.reduceAdd, Nat.reduceLeDiff, Nat.le_refl, List.drop_nil, List.take_nil, List.length_append, List.length_set]; first | done | rfl) | rfl)); try dsimp only)
        rw [ifA_dec, if_neg (by simp)]
        repeat ((with_reducible (first | apply bs | apply bsy)); (focus (first | (simp (disch := (first | assumption | omega | (simp only [List.length_append, List.length_set, List.length_cons, List.length_nil]; first | done | omega))) only [List.all_cons, List.all_nil, Bool.and_true, Bool.and_self, beq_self_eq_true, resv1, List.length_map, ld_v3, ld_v1, binA_eql, binA_neq, binA_lss, binA_leq, binA_gtr, binA_geq, loadA_one, un_not, ld_ptr, st_ptr, putE1, objE_obj, Option.bind_some, cut1, cut3, cut4, nil_ptr, fa_ptr, g_lt, g_eq, g_sne, g_seq, new_n, box_n, List.getElem?_cons_zero, List.getElem?_cons_succ, ex0, ex1, Sh.size, cells_int, aok_int, cells_bool, aok_bool, cells_str, aok_str, cells_lst, aok_lst, cells_ptr, aok_ptr, cells_arr, aok_arr, cells_fn, aok_fn, cells_mref, aok_mref, cells_nilp, aok_nilp, cells_agg, shOk_n, shOk_s, lenA_lst, List.length_cons, List.length_nil, if_true, putAt, List.take_succ_cons, List.take_zero, List.drop_succ_cons, List.drop_zero, List.cons_append, List.nil_append, List.append_nil, Nat.zero_add, Nat.reduceAdd, Nat.reduceLeDiff, Nat.le_refl, List.drop_nil, List.take_nil, List.length_append, List.length_set, e20, ln]; first | done | rfl) | rfl)); try dsimp only)
        rw [ifA_dec, if_neg (by simp), i_add1 (by omega), Option.bind_some]
        exact ih (i + 1) m2 F2 l x T (by omega) ⟨k1, n1, n2, h.kn⟩ (by omega)
end Go.Ab

/- The deferred closures of the diagram seat: where nothing has panicked they do nothing. -/
set_option linter.unusedVariables false
set_option linter.unusedSimpArgs false
set_option linter.unusedSectionVars false
namespace Go.Ab
open Go.Proofs Go.RowKit

theorem idle72 (caps : Array Value) (w : World) : CallsD Tryd.prog 72 caps .returning w fun e u w' => (∃ v, e = .returned v) ∧ u = .returning ∧ w' = w := by
  refine callsD_of_wpS Tryd.func72 rfl fun c₀ cs hu => ?_
  have hs : 45 ≤ (caps ++ Array.replicate (Tryd.f72.ntmps - caps.size) undef).size := by
    rw [Tryd.ntmps72, Array.size_append, Array.size_replicate]; omega
  generalize caps ++ Array.replicate (Tryd.f72.ntmps - caps.size) undef = T at hs
  apply wpS_seq
  apply wpS_region
  simp [wpOpsS, go_sem, recoverD, hu, Exit.thenS, Act.put, Act.eval, show 9 < T.size by omega, show 4 < T.size by omega]
  apply wpS_seq
  apply wpS_seq
  apply wpS_region
  simp [wpOpsS, go_sem, recoverD, hu, Exit.thenS, Act.put, Act.eval, show 9 < T.size by omega, show 4 < T.size by omega, show 10 < T.size by omega, show 11 < T.size by omega]
  refine wpS_cond (t := true) (by simp [Act.eval, show 11 < T.size by omega]) ?_
  simp only [if_true]
  refine wpS_of_wp (wp_ret ?_)
  cases c₀
  simp_all [bodyPostS, results, Tryd.results72, Exit.thenS]
theorem idle84 (caps : Array Value) (w : World) : CallsD Tryd.prog 84 caps .returning w fun e u w' => (∃ v, e = .returned v) ∧ u = .returning ∧ w' = w := by
  refine callsD_of_wpS Tryd.func84 rfl fun c₀ cs hu => ?_
  have hs : 3 ≤ (caps ++ Array.replicate (Tryd.f84.ntmps - caps.size) undef).size := by
    rw [Tryd.ntmps84, Array.size_append, Array.size_replicate]; omega
  generalize caps ++ Array.replicate (Tryd.f84.ntmps - caps.size) undef = T at hs
  apply wpS_seq
  apply wpS_region
  simp [wpOpsS, go_sem, recoverD, hu, Exit.thenS, Act.put, Act.eval, show 1 < T.size by omega, show 2 < T.size by omega]
  refine wpS_cond (t := false) (by simp [Act.eval, show 2 < T.size by omega]) ?_
  simp only [Bool.false_eq_true, if_false]
  refine wpS_of_wp (wp_skip ?_)
  cases c₀
  simp_all [bodyPostS, results, Tryd.results84]
theorem benD_of {g : Nat} {fn : Func} (hfn : Tryd.prog.funcs[g]? = some fn) (hname : (fn.name == "runtime.NumGoroutine") = false) (hbody : fn.body.isSome) (caps : Array Value)
    (h : ∀ w, CallsD Tryd.prog g caps .returning w fun e u w' => (∃ v, e = .returned v) ∧ u = .returning ∧ w' = w) : BenD Tryd.prog { target := .fn (.func g) caps, args := #[] } := by
  refine ⟨.func g, caps, g, caps, rfl, fun w => ⟨?_, h w⟩⟩
  have hb : fn.body.isNone = false := by cases hb : fn.body <;> simp_all
  simp only [invoke, callFunc, hfn, hname, hb, Sem.run_bind, Sem.run_pure, run_program, Result.andThen_ok, Bool.false_eq_true, if_false, Array.empty_append]
theorem ben72 (caps : Array Value) : BenD Tryd.prog { target := .fn (.func 72) caps, args := #[] } := benD_of Tryd.func72 (by kernel_rfl) (by kernel_rfl) caps (idle72 caps)
theorem ben84 (caps : Array Value) : BenD Tryd.prog { target := .fn (.func 84) caps, args := #[] } := benD_of Tryd.func84 (by kernel_rfl) (by kernel_rfl) caps (idle84 caps)
end Go.Ab

/- Data that can be read, as values of the interpreter: any type of whole numbers, truth values, texts, rows of these, and flat structs. -/
set_option linter.unusedVariables false
set_option linter.unusedSimpArgs false
set_option maxRecDepth 100000
set_option linter.unusedSectionVars false
namespace Go.Ab
open Go.RowKit

def gN : G := ⟨fun _ _ => False, fun _ => False, fun _ => none, fun _ _ => none⟩
def atomT (P : Program) (t : Nat) : Bool := match P.underlying t with
  | some (.int _) | some .bool | some .string | some (.slice _) => true
  | _ => false
def shE (P : Program) (t : Nat) : Sh := match P.underlying t with
  | some (.struct fs) => some fs.size
  | _ => none
/-- What stands in a variable of a type, by depth. -/
def Reads (P : Program) : Nat → Nat → AV → Prop
  | 0, _, _ => False
  | n + 1, t, v => match P.underlying t with
    | some (.int k) => ∃ i, v = .int k i ∧ (Lit.int k i).wf = true
    | some .bool => ∃ b, v = .bool b
    | some .string => ∃ s, v = .str s ∧ s.size ≤ maxLen
    | some (.slice e) => ∃ z es, v = .lst (shE P e) z .no es ∧ (z = true → es = []) ∧ ∀ x ∈ es, Reads P n e x
    | some (.struct fs) => ∃ cs, v = .agg cs ∧ cs.length = fs.size ∧ ∀ i f, fs[i]? = some f → Reads P n f.type (cs.getD i .any)
    | _ => False
def fieldsOk (P : Program) (ok : Nat → Bool) : Nat → List Field → Bool
  | _, [] => true
  | i, f :: l => f.offset == i && P.cellsOf f.type == 1 && atomT P f.type && ok f.type && fieldsOk P ok (i + 1) l
def tyOk (P : Program) : Nat → Nat → Bool
  | 0, _ => false
  | n + 1, t => match P.underlying t with
    | some (.int _) | some .bool | some .string => P.cellsOf t == 1
    | some (.slice e) => P.cellsOf t == 1 && tyOk P n e
    | some (.struct fs) => P.cellsOf t == fs.size && decide (0 < fs.size) && fieldsOk P (tyOk P n) 0 fs.toList
    | _ => false
theorem fieldsOk_get {P : Program} {ok : Nat → Bool} : ∀ {l : List Field} {i0 : Nat}, fieldsOk P ok i0 l = true → ∀ i f, l[i]? = some f → f.offset = i0 + i ∧ P.cellsOf f.type = 1 ∧ atomT P f.type = true ∧ ok f.type = true
  | [], i0, h, i, f, hf => by simp at hf
  | g :: l, i0, h, i, f, hf => by
    simp only [fieldsOk, Bool.and_eq_true, beq_iff_eq] at h
    obtain ⟨⟨⟨⟨h1, h2⟩, h3⟩, h4⟩, h5⟩ := h
    cases i with
    | zero =>
      simp at hf; subst hf
      exact ⟨h1, h2, h3, h4⟩
    | succ i =>
      simp at hf
      obtain ⟨a, b⟩ := fieldsOk_get h5 i f hf
      exact ⟨by omega, b⟩
theorem flatS {s : Nat} (hs : 0 < s) : ∀ {es : List AV}, (∀ e ∈ es, e.cells.length = s) → (flat es).length = es.length * s ∧ ∀ j, j < es.length * s → (flat es).getD j .any = (es.getD (j / s) .any).cells.getD (j % s) .any
  | [], h => ⟨by simp [flat], fun j hj => by simp at hj⟩
  | e :: es, h => by
    have h0 := h e List.mem_cons_self
    obtain ⟨h1, h2⟩ := flatS hs (fun x hx => h x (List.mem_cons_of_mem _ hx))
    have e1 : flat (e :: es) = e.cells ++ flat es := rfl
    have e2 : (e :: es).length * s = es.length * s + s := by rw [List.length_cons, Nat.add_mul, Nat.one_mul]
    refine ⟨by rw [e1, List.length_append, h0, h1, e2]; omega, fun j hj => ?_⟩
    rw [e1, List.getD_eq_getElem?_getD]
    by_cases hj2 : j < s
    · rw [List.getElem?_append_left (by omega), Nat.div_eq_of_lt hj2, Nat.mod_eq_of_lt hj2]
      show _ = e.cells.getD j .any
      rw [List.getD_eq_getElem?_getD]
    · rw [List.getElem?_append_right (by omega), h0, ← List.getD_eq_getElem?_getD, h2 (j - s) (by omega)]
      have e3 : j / s = (j - s) / s + 1 := by
        have := Nat.div_eq_sub_div hs (by omega : s ≤ j)
        omega
      have e4 : j % s = (j - s) % s := Nat.mod_eq_sub_mod (by omega)
      rw [e3, e4, List.getD_cons_succ]
theorem reads_ok {P : Program} : ∀ (n t : Nat) (v : AV), tyOk P n t = true → Reads P n t v → shOk (shE P t) v = true ∧ pl v = true ∧ v.cells.length = P.cellsOf t ∧ 0 < P.cellsOf t ∧ (shE P t).size = P.cellsOf t ∧ (atomT P t = true → atomOk v = true)
  | 0, t, v, ht, _ => by simp [tyOk] at ht
  | n + 1, t, v, ht, h => by
    unfold Reads at h
    unfold tyOk at ht
    unfold shE atomT
    cases hu : P.underlying t with
    | none => rw [hu] at h; exact h.elim
    | some ty =>
      rw [hu] at h ht
      cases ty with
      | int k =>
        obtain ⟨i, rfl, _⟩ := h
        have hc : P.cellsOf t = 1 := by simpa using ht
        exact ⟨rfl, rfl, hc.symm, by omega, hc.symm, fun _ => rfl⟩
      | bool =>
        obtain ⟨i, rfl⟩ := h
        have hc : P.cellsOf t = 1 := by simpa using ht
        exact ⟨rfl, rfl, hc.symm, by omega, hc.symm, fun _ => rfl⟩
      | string =>
        obtain ⟨i, rfl, _⟩ := h
        have hc : P.cellsOf t = 1 := by simpa using ht
        exact ⟨rfl, rfl, hc.symm, by omega, hc.symm, fun _ => rfl⟩
      | slice e =>
        obtain ⟨z, es, rfl, _⟩ := h
        have hc : P.cellsOf t = 1 := by
          simp only [Bool.and_eq_true, beq_iff_eq] at ht
          exact ht.1
        exact ⟨rfl, rfl, hc.symm, by omega, hc.symm, fun _ => rfl⟩
      | struct fs =>
        obtain ⟨cs, rfl, hl, hf⟩ := h
        simp only [Bool.and_eq_true, beq_iff_eq, decide_eq_true_eq] at ht
        obtain ⟨⟨h1, h2⟩, h3⟩ := ht
        have hall : ∀ c ∈ cs, atomOk c = true ∧ pl c = true := by
          intro c hc
          obtain ⟨i, hi, rfl⟩ := List.mem_iff_getElem.1 hc
          have hfi : fs[i]? = some (fs[i]'(by omega)) := Array.getElem?_eq_getElem (by omega)
          obtain ⟨_, b, c2, d⟩ := fieldsOk_get h3 i _ (by rw [Array.getElem?_toList]; exact hfi)
          have r := hf i _ hfi
          rw [List.getD_eq_getElem?_getD, List.getElem?_eq_getElem hi] at r
          have := reads_ok n _ _ d r
          exact ⟨this.2.2.2.2.2 c2, this.2.1⟩
        have hpl : ∀ l : List AV, (∀ c ∈ l, pl c = true) → plL l = true := by
          intro l
          induction l with
          | nil => intro _; rfl
          | cons a l ih =>
            intro h
            show (pl a && plL l) = true
            rw [h a List.mem_cons_self, ih (fun c hc => h c (List.mem_cons_of_mem _ hc))]; rfl
        refine ⟨?_, hpl cs (fun c hc => (hall c hc).2), by show cs.length = _; omega, by omega, h1.symm, fun h => by cases h⟩
        show (cs.length == fs.size && cs.all atomOk) = true
        rw [Bool.and_eq_true]
        exact ⟨by simp [hl], List.all_eq_true.2 fun c hc => (hall c hc).1⟩
      | _ => exact h.elim
section
variable {P : Program} {H : Type} {enc : TypeId × Value → H} {W : World}
theorem rd_cells {w : World} {a : Addr} {n : Nat} {cs : List Value} (h : w.cells? 0 a n = some cs) : cs.length = n ∧ ∀ j, j < n → w.cell? (a.add j) = cs[j]? := by
  unfold World.cells? at h
  rw [if_pos (Nat.zero_le _)] at h
  refine ⟨by simpa using mapM_some_length h, fun j hj => mapM_some_get h j j (by simp [hj])⟩
theorem rd_add {a : Addr} (h : a.spot = none) (j : Nat) : a.add j = ⟨a.block, a.off + j, none⟩ := by
  obtain ⟨b, o, s⟩ := a
  subst h
  exact Addr_add b o j
/-- Whatever can be read is a value of the interpreter. -/
theorem reads : ∀ (n t : Nat), tyOk P n t = true → ∀ {fuel : Nat} {cs : List Value} {x : DataW H × List MemPlace}, DataW.trod enc P W 0 (fun _ => true) true fuel t cs = some x → ∃ v : AV, Reads P n t v ∧ cs.length = P.cellsOf t ∧ ∀ j, j < P.cellsOf t → V W gN (v.cells.getD j .any) (cs.getD j undef)
  | 0, t, ht, _, _, _, _ => by simp [tyOk] at ht
  | n + 1, t, ht, fuel, cs, x, h => by
    have ht0 := ht
    unfold tyOk at ht
    unfold Reads
    cases hu : P.underlying t with
    | none => rw [hu] at ht; cases ht
    | some ty =>
      rw [hu] at ht
      cases ty with
      | int k =>
        have hc : P.cellsOf t = 1 := by simpa using ht
        obtain ⟨i, rfl, _, hw⟩ := DataW.trod_int hu h
        refine ⟨.int k i, ⟨i, rfl, hw⟩, hc.symm, fun j hj => ?_⟩
        obtain rfl : j = 0 := by omega
        exact .int _ _
      | bool =>
        have hc : P.cellsOf t = 1 := by simpa using ht
        obtain ⟨i, rfl, _⟩ := DataW.trod_bool hu h
        refine ⟨.bool i, ⟨i, rfl⟩, hc.symm, fun j hj => ?_⟩
        obtain rfl : j = 0 := by omega
        exact .bool _
      | string =>
        have hc : P.cellsOf t = 1 := by simpa using ht
        obtain ⟨i, rfl, _, hw⟩ := DataW.trod_string hu h
        refine ⟨.str i, ⟨i, rfl, hw⟩, hc.symm, fun j hj => ?_⟩
        obtain rfl : j = 0 := by omega
        exact .str _
      | slice e =>
        simp only [Bool.and_eq_true, beq_iff_eq] at ht
        obtain ⟨hc, hte⟩ := ht
        rcases DataW.trod_slice hu h with ⟨rfl, _⟩ | ⟨a, len, cap, elems, rest, m, _, rfl, _, _, hl, hm, he, hel, hre, _⟩
        · refine ⟨.lst (shE P e) true .no [], ⟨true, [], rfl, fun _ => rfl, fun x hx => by cases hx⟩, hc.symm, fun j hj => ?_⟩
          obtain rfl : j = 0 := by omega
          exact .nils _ .no (.inr rfl)
        · obtain ⟨hrl, hre⟩ := hre rfl
          have raw : ∀ i, i < cap → ∃ y, (W.cells? 0 (a.add (i * P.cellsOf e)) (P.cellsOf e)).bind (DataW.trod enc P W 0 (fun _ => true) true m e) = some y := by
            intro i hi
            by_cases hi2 : i < len
            · have h1 := hel i hi2
              rw [List.getElem?_eq_getElem (by omega)] at h1
              exact ⟨_, h1⟩
            · have h1 := hre (i - len) (by omega)
              rw [List.getElem?_eq_getElem (by omega), show len + (i - len) = i by omega] at h1
              exact ⟨_, h1⟩
          have at1 : ∀ i, i < cap → (i = 0 ∨ a.spot = none) → a.spot = none ∧ ∃ v : AV, Reads P n e v ∧ ∀ j, j < P.cellsOf e → ∃ u, W.cell? ⟨a.block, a.off + (i * P.cellsOf e + j), none⟩ = some u ∧ V W gN (v.cells.getD j .any) u := by
            intro i hi hs0
            obtain ⟨y, hy⟩ := raw i hi
            obtain ⟨cs, h1, h2⟩ := Option.bind_eq_some_iff.1 hy
            obtain ⟨v, hv, hlen, hV⟩ := reads n e hte h2
            have hpos := (reads_ok n e v hte hv).2.2.2.1
            have h3 := (rd_cells h1).2
            have hs : a.spot = none := by
              rcases hs0 with rfl | hs0
              · rw [Nat.zero_mul] at h3
                have h4 := h3 0 hpos
                rw [List.getElem?_eq_getElem (by omega)] at h4
                exact World.cell?_spot h4
              · exact hs0
            refine ⟨hs, v, hv, fun j hj => ?_⟩
            have h4 := h3 j hj
            rw [rd_add hs, Addr_add, Nat.add_assoc, List.getElem?_eq_getElem (by omega)] at h4
            refine ⟨_, h4, ?_⟩
            have := hV j hj
            rwa [List.getD_eq_getElem?_getD (l := cs), List.getElem?_eq_getElem (by omega)] at this
          have hsp : cap = 0 ∨ a.spot = none := by
            by_cases h0 : cap = 0
            · exact .inl h0
            · exact .inr (at1 0 (by omega) (.inl rfl)).1
          have cell : ∀ i, ∃ v : AV, i < cap → Reads P n e v ∧ ∀ j, j < P.cellsOf e → ∃ u, W.cell? ⟨a.block, a.off + (i * P.cellsOf e + j), none⟩ = some u ∧ V W gN (v.cells.getD j .any) u := by
            intro i
            by_cases hi : i < cap
            · obtain ⟨v, hv⟩ := (at1 i hi (.inr (hsp.resolve_left (by omega)))).2
              exact ⟨v, fun _ => hv⟩
            · exact ⟨.any, fun h => absurd h hi⟩
          obtain ⟨f, hf⟩ := Classical.axiomOfChoice cell
          have hlen : ((List.range len).map f).length = len := by simp
          have hmem : ∀ v ∈ (List.range len).map f, Reads P n e v := by
            intro v hv
            obtain ⟨i, hi, rfl⟩ := List.mem_map.1 hv
            exact (hf i (by have := List.mem_range.1 hi; omega)).1
          have hok := fun v hv => reads_ok n e v hte (hmem v hv)
          by_cases hl0 : len = 0
          · subst hl0
            refine ⟨.lst (shE P e) false .no [], ⟨false, [], rfl, (fun h => by cases h), fun x hx => by cases hx⟩, hc.symm, fun j hj => ?_⟩
            obtain rfl : j = 0 := by omega
            exact V.lst (w := W) (g := gN) (shE P e) .no [] a cap (fun _ => undef) hsp (Nat.zero_le _) hm (fun e he => by cases he) (fun j hj => by simp [flat] at hj) (fun j hj => by simp [flat] at hj) trivial
          · have hs0 : 0 < P.cellsOf e := (hok (f 0) (List.mem_map.2 ⟨0, List.mem_range.2 (by omega), rfl⟩)).2.2.2.1
            obtain ⟨fl1, fl2⟩ := flatS hs0 (fun v hv => (hok v hv).2.2.1)
            rw [hlen] at fl1 fl2
            have hcl : ∀ j, j < len * P.cellsOf e → ∃ u, W.cell? ⟨a.block, a.off + j, none⟩ = some u ∧ V W gN ((flat ((List.range len).map f)).getD j .any) u := by
              intro j hj
              have hd : j / P.cellsOf e < len := Nat.div_lt_of_lt_mul (by rw [Nat.mul_comm]; exact hj)
              have h1 := (hf (j / P.cellsOf e) (by omega)).2 (j % P.cellsOf e) (Nat.mod_lt _ hs0)
              have e1 : j / P.cellsOf e * P.cellsOf e + j % P.cellsOf e = j := Nat.div_add_mod' j _
              rw [e1] at h1
              rw [fl2 j hj, List.getD_eq_getElem?_getD (l := (List.range len).map f), List.getElem?_map, List.getElem?_range hd]
              exact h1
            have hus : ∀ j, ∃ u, j < len * P.cellsOf e → W.cell? ⟨a.block, a.off + j, none⟩ = some u ∧ V W gN ((flat ((List.range len).map f)).getD j .any) u := by
              intro j
              by_cases hj : j < len * P.cellsOf e
              · obtain ⟨u, hu⟩ := hcl j hj
                exact ⟨u, fun _ => hu⟩
              · exact ⟨undef, fun h => absurd h hj⟩
            obtain ⟨us, hus⟩ := Classical.axiomOfChoice hus
            refine ⟨.lst (shE P e) false .no ((List.range len).map f), ⟨false, _, rfl, (fun h => by cases h), hmem⟩, hc.symm, fun j hj => ?_⟩
            obtain rfl : j = 0 := by omega
            have hV := V.lst (w := W) (g := gN) (shE P e) .no ((List.range len).map f) a cap us hsp (by rw [hlen]; exact hl) hm
              (fun v hv => ⟨(hok v hv).1, (hok v hv).2.1⟩)
              (fun j hj => by
                rw [fl1] at hj
                exact ⟨(hus j hj).1, fun h => h, fun h => h⟩)
              (fun j hj => by
                rw [fl1] at hj
                exact (hus j hj).2) trivial
            rw [hlen] at hV
            exact hV
      | struct fs =>
        simp only [Bool.and_eq_true, beq_iff_eq, decide_eq_true_eq] at ht
        obtain ⟨⟨h1, h2⟩, h3⟩ := ht
        obtain ⟨xs, m, _, _, hcl, hxl, hf⟩ := DataW.trod_struct hu h
        have fld : ∀ i, ∃ v : AV, i < fs.size → ∀ f, fs[i]? = some f → Reads P n f.type v ∧ V W gN v (cs.getD i undef) := by
          intro i
          by_cases hi : i < fs.size
          · have hfi : fs[i]? = some fs[i] := Array.getElem?_eq_getElem hi
            obtain ⟨o, c, a, k⟩ := fieldsOk_get h3 i fs[i] (by rw [Array.getElem?_toList]; exact hfi)
            have hx := hf i fs[i] hfi
            rw [List.getElem?_eq_getElem (by omega)] at hx
            obtain ⟨v, hv, hlen, hV⟩ := reads n _ k hx
            refine ⟨v, fun _ f hf => ?_⟩
            rw [hfi] at hf
            obtain rfl := Option.some.inj hf
            refine ⟨hv, ?_⟩
            have h0 := hV 0 (by omega)
            have hat := (reads_ok n _ v k hv).2.2.2.2.2 a
            have hcells : v.cells = [v] := by
              cases v <;> first | rfl | (simp [atomOk] at hat)
            rw [hcells, o, Nat.zero_add, c] at h0
            have e0 : ((cs.drop i).take 1).getD 0 undef = cs.getD i undef := by
              rw [List.getD_eq_getElem?_getD, List.getD_eq_getElem?_getD, List.getElem?_take_of_lt (by omega), List.getElem?_drop]; rfl
            rw [e0] at h0
            exact h0
          · exact ⟨.any, fun h => absurd h hi⟩
        obtain ⟨F, hF⟩ := Classical.axiomOfChoice fld
        have hg : ∀ i, i < fs.size → ((List.range fs.size).map F).getD i .any = F i := by
          intro i hi
          rw [List.getD_eq_getElem?_getD, List.getElem?_map, List.getElem?_range hi]; rfl
        refine ⟨.agg ((List.range fs.size).map F), ⟨_, rfl, by simp, fun i f hf => ?_⟩, hcl, fun j hj => ?_⟩
        · have hi : i < fs.size := (Array.getElem?_eq_some_iff.1 hf).1
          rw [hg i hi]
          exact (hF i hi f hf).1
        · rw [h1] at hj
          show V W gN (((List.range fs.size).map F).getD j .any) _
          rw [hg j hj]
          exact (hF j hj fs[j] (Array.getElem?_eq_getElem hj)).2
      | _ => cases ht
theorem read_slice {n t e : Nat} (ht : tyOk P n t = true) {v : Value} {d : DataW H} {ps : List MemPlace} (hu : P.underlying t = some (.slice e)) (hv : ∃ a len cap, v = .slice a len cap) (h : DataW.Trod enc P W 0 (fun _ => true) true t v d ps) : ∃ y : AV, V W gN y v ∧ Reads P n t y := by
  obtain ⟨a, len, cap, rfl⟩ := hv
  obtain ⟨fuel, h⟩ := h
  have h : DataW.trod enc P W 0 (fun _ => true) true fuel t [.slice a len cap] = some (d, ps) := h
  obtain ⟨y, hy, hl, hV⟩ := reads n t ht h
  obtain ⟨_, _, h3, _, _, h6⟩ := reads_ok n t y ht hy
  have hat : atomT P t = true := by unfold atomT; rw [hu]
  have hc : y.cells = [y] := by
    have := h6 hat
    cases y <;> first | rfl | (simp [atomOk] at this)
  have := hV 0 (by rw [← hl]; exact Nat.zero_lt_one)
  rw [hc] at this
  exact ⟨y, this, hy⟩
end
end Go.Ab

/- What the rows of the diagram seat share: the settings are sound; the table of powers; arguments read as data. -/
set_option linter.unusedVariables false
set_option linter.unusedSimpArgs false
set_option maxRecDepth 100000
namespace Go.Ab
open Go.Proofs Go.Proofs.Tryd Go.RowKit

theorem get_nil (nm : Nat) : Mem.get ([] : Mem) nm = none := by simp [Mem.get]
theorem memR0 {w : World} (h : Yd.tab w) : MemR w.heap.size w gN [] where
  obj nm bx cs h := by rw [get_nil] at h; cases h
  tok nm n sz h := by rw [get_nil] at h; cases h
  resv nm h := ⟨rfl, fun _ => rfl⟩
  fresh nm h := ⟨rfl, fun _ => rfl⟩
  inj nm nm' b h := by unfold blk at h; rw [get_nil] at h; cases h
  wrLt b off h := h.elim
  inv w' k := Yd.tab_below (Yd.tab_lt h) h k
  boxLt b h := h.elim
  mp nm kk es h := by rw [get_nil] at h; cases h
theorem cfgOk : CfgOk cfg where
  ben g h caps := by
    have h : tokGet benOf g = true := h
    unfold benOf at h
    simp only [tokGet] at h
    split at h
    · rename_i e; obtain rfl : 72 = g := Nat.eq_of_beq_eq_true e; exact ben72 caps
    · split at h
      · rename_i e; obtain rfl : 84 = g := Nat.eq_of_beq_eq_true e; exact ben84 caps
      · cases h
  name g fn h := by
    have hall : (Tryd.prog.funcs.toList.all fun fn => !(fn.name == "runtime.NumGoroutine")) = true := by kernel_rfl
    have hm : fn ∈ Tryd.prog.funcs.toList := by
      rw [Array.mem_toList_iff]
      exact Array.mem_of_getElem? h
    have := List.all_eq_true.1 hall fn hm
    simpa using this
  lib g h hh := by
    have hh : (match Nat.beq g 73 with | true => some nameA | false => none) = some h := hh
    split at hh
    · rename_i e
      obtain rfl : g = 73 := Nat.eq_of_beq_eq_true e
      obtain rfl := Option.some.inj hh
      exact ⟨⟨f73, at73, by kernel_rfl⟩, fun vs v hv m => name_ok vs v hv m⟩
    · cases hh
/-- A law that answers true in values answers true on the machine, and turns nothing that was there. -/
theorem law_calls {f : Nat} {args : List AV} {vs : Array Value} {W : World} (ht : Yd.tab W) (h : ∃ m', AC cfg f args [] = some (.bool true, m')) (hl : args.length = vs.size) (hv : ∀ j, j < args.length → V W gN (args.getD j .any) (vs.getD j undef)) :
    Calls Tryd.prog f vs W fun e W' => e = .returned (.bool true) ∧ Below W.heap.size W W' := by
  obtain ⟨m', hm'⟩ := h
  refine ((AC_sound cfgOk f args [] _ _ hm').1 W.heap.size W gN vs (memR0 ht) (Nat.le_refl _) hl hv).mono ?_
  rintro e W' ⟨v', g', rfl, hs, _, hv'⟩
  cases hv'
  exact ⟨rfl, hs.below⟩
/-! ### The table of powers -/
abbrev laidOf : List (String × DataW Unit) := YtpkhogofbdlfeaaDoor.Rows.diagramStepsRow.laid
theorem tab_of_laid {W : World} (h : laidMetH Tryd.prog laidOf W) : Yd.tab W := by
  rw [MakeChecks.laidMetH_plain _ _ _ (by kernel_rfl)] at h
  obtain ⟨ps, ⟨g1, t1, cs1, fuel1, p1, q1, _, _, _, _, ⟨g2, t2, cs2, fuel2, p2, q2, _, _, _, _, ⟨g, t, cs, fuel, p, q, hg, ht, hv, hd, _, _⟩, _⟩, _⟩, _⟩ := h
  obtain rfl := Option.some.inj (Yd.globalPow.symm.trans hg)
  obtain rfl := Option.some.inj ((show (Tryd.prog.globals[0]?).map (·.type) = some 134 by kernel_rfl).symm.trans ht)
  unfold Yd.tab Lib.TabIs
  rw [hv]
  have := Lib.cells_of_tab (zs := Lib.pow10Tab) (k := .u64) Tryd.underlying134 Tryd.underlying128 (by kernel_rfl) (by kernel_rfl) hd
  rw [← this]
/-! ### Types, readers -/
theorem u3 : Tryd.prog.underlying 3 = some (.int .i64) := by kernel_rfl
theorem u4 : Tryd.prog.underlying 4 = some .bool := by kernel_rfl
theorem u22 : Tryd.prog.underlying 22 = some (.slice 3) := by kernel_rfl
noncomputable def fieldsOf (t : Nat) : Array Field := match Tryd.prog.underlying t with
  | some (.struct fs) => fs
  | _ => #[]
theorem s3 : shE Tryd.prog 3 = none := by unfold shE; rw [u3]
theorem sz {t : Nat} {l : List Nat} (h : (fieldsOf t).toList.map (fun f => f.type) = l) : (fieldsOf t).size = l.length := by
  rw [← h, List.length_map, Array.length_toList]
theorem rd_slice {n t e : Nat} {v : AV} (ht : Tryd.prog.underlying t = some (.slice e)) (h : Reads Tryd.prog (n + 1) t v) : ∃ z es, v = .lst (shE Tryd.prog e) z .no es ∧ (z = true → es = []) ∧ ∀ x ∈ es, Reads Tryd.prog n e x := by
  unfold Reads at h
  rw [ht] at h
  exact h
theorem rd_int {n : Nat} {v : AV} (h : Reads Tryd.prog (n + 1) 3 v) : ∃ i, v = .int .i64 i ∧ Yd.i64 i := by
  unfold Reads at h
  rw [u3] at h
  obtain ⟨i, h1, hw⟩ := h
  refine ⟨i, h1, ?_⟩
  simp only [Lit.wf, Bool.and_eq_true, decide_eq_true_eq] at hw
  exact hw
theorem list_map' {α : Type} {f : α → AV} {Q : α → Prop} : ∀ {es : List AV}, (∀ x ∈ es, ∃ a, x = f a ∧ Q a) → ∃ l : List α, es = l.map f ∧ ∀ a ∈ l, Q a
  | [], _ => ⟨[], rfl, by simp⟩
  | x :: es, h => by
    obtain ⟨a, rfl, ha⟩ := h x List.mem_cons_self
    obtain ⟨l, rfl, hl⟩ := list_map' (f := f) (Q := Q) fun y hy => h y (List.mem_cons_of_mem _ hy)
    exact ⟨a :: l, rfl, fun b hb => by
      rcases List.mem_cons.1 hb with rfl | hb
      · exact ha
      · exact hl b hb⟩
theorem rd_ints {n : Nat} {v : AV} (h : Reads Tryd.prog (n + 2) 22 v) : ∃ z ns, v = IA z .no ns ∧ (z = true → ns = []) ∧ ∀ k ∈ ns, Yd.i64 k := by
  obtain ⟨z, es, rfl, hz, he⟩ := rd_slice u22 h
  obtain ⟨ns, rfl, hd⟩ := list_map' (f := AV.int .i64) (Q := Yd.i64) (fun x hx => rd_int (he x hx))
  exact ⟨z, ns, by rw [s3], fun h => List.map_eq_nil_iff.1 (hz h), hd⟩
theorem ok22 : tyOk Tryd.prog 2 22 = true := by kernel_rfl
section
variable {H : Type} {enc : TypeId × Value → H} {W : World}
theorem ints_read {v : Value} {d : DataW H} {ps : List MemPlace} (hv : ∃ a len cap, v = .slice a len cap) (h : DataW.Trod enc Tryd.prog W 0 (fun _ => true) true 22 v d ps) : ∃ z ns, V W gN (IA z .no ns) v ∧ (z = true → ns = []) ∧ ∀ k ∈ ns, Yd.i64 k := by
  obtain ⟨y, hy, hr⟩ := read_slice ok22 u22 hv h
  obtain ⟨z, ns, rfl, hc⟩ := rd_ints hr
  exact ⟨z, ns, hy, hc⟩
end
end Go.Ab
